import Derived.Test.YtdnohhlgaaihmaaMd19
import Derived.Test.YtdnohhlgaaihmaaMd15

/- law16: rising. -/
namespace Go.Proofs.Ytdnohhlgaaihmaa
open Go.RowKit

/-- Pairs that are told, in memory that is new. -/
structure PTol (w0 w : World) (ov : Value) (out : List PrV) : Prop where
  row : Ow w 40 2 ov out.length (out.flatMap PrV.cells)
  good : ∀ y ∈ out, y.Good w
  new : ∀ k, (ov.ownBlock = some k ∨ ∃ y ∈ out, y.K.ownBlock = some k ∨ y.V.ownBlock = some k) → w0.heap.size ≤ k ∧ k < w.heap.size
theorem PTol.kept0 {w0 w w1 : World} {ov : Value} {out : List PrV} (h : PTol w0 w ov out) (f : Fr no w w1) : PTol w0 w1 ov out :=
  ⟨h.row.kept0 f, fun y hy => (h.good y hy).kept0 f, fun k hk => ⟨(h.new k hk).1, Nat.lt_of_lt_of_le (h.new k hk).2 f.size⟩⟩
theorem PTol.pairs {w0 w : World} {ov : Value} {out : List PrV} (h : PTol w0 w ov out) (hn : out.length ≤ 1000000) : Pairs w ov out := ⟨h.row.sl, h.good, hn⟩

/-- What rising tells: the last of each key, in order. -/
def riseL (L : List SpV) : List PrV := seenL (chgL L) []

set_option maxRecDepth 100000 in
set_option maxHeartbeats 4000000 in
theorem rising_any (w : World) (X : Value) (ps : List PrV) (hx : Pairs w X ps) (hps : ps.length ≤ 100000) :
    Calls Try.prog 15 #[X] w fun e w' => ∃ ov L, e = .returned ov ∧ PTol w w' ov (riseL L) ∧ L.length = ps.length ∧ (∀ x ∈ L, x.o = false) ∧ Fr no w w' := by
  obtain ⟨XA, Xc, rfl, _, _⟩ := hx.sl.form
  have HX := Lib.hid hx; clear hx
  go_enter Try.func15, Try.ntmps15
  go_wp2
  have hal := (Fr.refl no w).alloc (.cells #[.slice none 0 0] 32)
  have hN := heap_alloc_new w (.cells #[.slice none 0 0] 32)
  generalize hg : w.heap.size = g at hN ⊢
  generalize w.alloc (.cells #[.slice none 0 0] 32) = w1 at hal hN ⊢
  have hgw := Nat.le_of_eq hg
  have HG := Lib.hid hgw; have F1 := Lib.hid hal; have HN := Lib.hid hN; clear hal hN hg hgw
  go_loopw [4] (fun i wr => ∃ (j : Nat) (sv : Value) (L : List SpV), j ≤ ps.length ∧ i = .int .i64 j ∧ Rf wr g sv L ∧ L.length = j ∧ (∀ x ∈ L, x.o = false) ∧ (∀ k, SeF g sv L k → w.heap.size ≤ k) ∧ Fr no w wr) (fun i _ => ps.length - (intOf i).toNat)
  case atStart =>
    refine ⟨0, .slice none 0 0, [], Nat.zero_le _, rfl, ⟨HN.out, ow_nil _ _ _, (fun _ h => nomatch h), by simp [Value.ownBlock], (fun _ h => nomatch h)⟩, rfl, (fun _ h => nomatch h), fun k hk => ?_, F1.out⟩
    rcases hk with rfl | hk | ⟨_, h, _⟩
    · exact HG.out
    · simp [Value.ownBlock] at hk
    · cases h
  case round =>
    obtain ⟨j, sv, L, hj, rfl, hrf, hLj, hLo, hnew, hf⟩ := hrel
    have HR := Lib.hid hrf; have HLO := Lib.hid hLo; have HNEW := Lib.hid hnew; have HF := Lib.hid hf; have HLJ := Lib.hid hLj
    have hl5 : L.length ≤ 100000 := by omega
    clear hrf hLo hnew hf hLj
    by_cases hlt : j < ps.length
    · obtain ⟨pb, po, KA, kc, VA, vc, hXA, -, p0, p1, hgd, -, -⟩ := (HX.out.kept0 HF.out).at j hlt
      have KG := Lib.hid hgd
      have hp := World.block_lt_of_cell? _ _ p0
      subst hXA
      clear hgd
      go_wp2_with fail
      refine wp_region_ord (List.range 12) (fun i => [Kd.p, Kd.p, Kd.p, Kd.p, Kd.p, Kd.l, Kd.p, Kd.p, Kd.p, Kd.p, Kd.l, Kd.e].getD i .e) (by kernel_rfl) (by kernel_rfl) ?_
      iterate 11
        first | refine wpX_pu rfl rfl rfl (by first | exact pu_move rfl | exact pu_assign rfl | exact pu_nilCheck rfl rfl | exact pu_binInt rfl rfl rfl | exact pu_conv rfl rfl (by kernel_rfl) | exact pu_fld rfl (by kernel_rfl) | exact pu_ix rfl rfl rfl (by kernel_rfl) | exact pu_unOp rfl | exact pu_binStr rfl rfl rfl | exact pu_len rfl rfl | exact pu_lens rfl rfl | exact pu_pick rfl | exact pu_slice rfl rfl) (fun K hK => ?_) | refine wpX_rd rfl rfl rfl (rd_load rfl) (fun K hK => ?_) | refine wpX_gr rfl rfl rfl (by first | exact gr_buildSlice rfl | exact gr_box rfl | exact gr_alloc rfl) (fun K hK => ?_) | refine wpX_ex rfl rfl rfl (fun K hK => ?_)
        try go_wp2
      refine wpX_ex rfl rfl rfl (fun K hK => ?_)
      go_wp2_with fail
      refine (rput_any _ g sv _ _ L ps[j].k ps[j].v (HR.out.kept0 (by (repeat first | exact Fr.refl _ _ | exact Fr.drewN _ _ _ | apply Fr.drew | apply Fr.alloc | apply Fr.setAt | apply Fr.moreN))) (KG.out.K.kept0 (by (repeat first | exact Fr.refl _ _ | exact Fr.drewN _ _ _ | apply Fr.drew | apply Fr.alloc | apply Fr.setAt | apply Fr.moreN))) (KG.out.V.kept0 (by (repeat first | exact Fr.refl _ _ | exact Fr.drewN _ _ _ | apply Fr.drew | apply Fr.alloc | apply Fr.setAt | apply Fr.moreN))) KG.out.lk KG.out.lv hl5).mono ?_
      rintro e w5 ⟨rfl, sv', F, T, h1, h2, h3⟩
      have hf5 : Fr no w w5 := (Fr.drew HF.out).trans h2 (fun k hk e => by
        have := HNEW.out k (by rcases e with e | e; exact .inl e; exact .inr (.inl e)); omega)
      have hn5 : ∀ k, SeF g sv' (L ++ [⟨F, T, ps[j].k, ps[j].v, false⟩]) k → w.heap.size ≤ k := fun k hk => by
        rcases h3 k hk with e | ⟨e, _⟩
        · exact HNEW.out k e
        · have := HF.out.size; have h4 : wr.drew.heap.size = wr.heap.size := rfl; omega
      have H1 := Lib.hid h1; have HF5 := Lib.hid hf5; have HN5 := Lib.hid hn5; clear h1 h2 h3 hf5 hn5
      go_wp2_with fail
      refine wpX_done ?_
      go_wp2
      go_roundw
      case rel =>
        refine ⟨j + 1, sv', L ++ [⟨F, T, ps[j].k, ps[j].v, false⟩], hlt, by go_num, H1.out, by rw [List.length_append, HLJ.out]; rfl, fun x hx => ?_, HN5.out, HF5.out⟩
        rcases List.mem_append.1 hx with hx | hx
        · exact HLO.out x hx
        · cases List.mem_singleton.1 hx; rfl
      case measure => simp [intOf]; omega
    · obtain rfl : j = ps.length := by omega
      go_wp2_with fail
      refine (seen_any wr g sv (.slice none 0 0) L [] HR.out hl5 ⟨⟨rfl, .inl ⟨none, rfl, rfl⟩⟩, (fun _ h => nomatch h), Nat.zero_le _⟩ (Nat.zero_le _)).mono ?_
      rintro e w5 ⟨ov, rfl, h1, h2, h3⟩
      have hbl : ∀ y ∈ riseL L, ∀ k, y.K.ownBlock = some k ∨ y.V.ownBlock = some k → w.heap.size ≤ k ∧ k < wr.heap.size := fun y hy k hk => by
        rcases seenL_mem _ _ _ hy with h | ⟨x, hx, rfl⟩
        · cases h
        · have hx := mem_chg _ _ hx
          exact ⟨HNEW.out k (.inr (.inr ⟨x, hx, hk⟩)), (HR.out.apart x hx k hk).2.2⟩
      have hgo : ∀ y ∈ riseL L, y.Good wr := fun y hy => by
        rcases seenL_mem _ _ _ hy with h | ⟨x, hx, rfl⟩
        · cases h
        · have hx := HR.out.good x (mem_chg _ _ hx)
          exact ⟨hx.F, hx.T, hx.lf, hx.lt⟩
      have hpt : PTol w w5 ov (riseL L) := ⟨h1, fun y hy => (hgo y hy).kept0 h3, fun k hk => by
        rcases hk with hk | ⟨y, hy, hk⟩
        · have := h2 k hk; have := h1.lt k hk; have := HF.out.size; omega
        · have := hbl y hy k hk; have := h3.size; omega⟩
      have HPT := Lib.hid hpt; have HF5 := Lib.hid (HF.out.trans h3 (fun _ _ h => h)); clear h1 h2 h3 hbl hgo hpt
      go_wp2
      go_ret
      exact ⟨_, L, rfl, HPT.out, HLJ.out, HLO.out, HF5.out⟩
end Go.Proofs.Ytdnohhlgaaihmaa

/- What is seen through a buffer: how many questions it takes. Plain. -/
namespace Go.Proofs.Ytdnohhlgaaihmaa
open Go.RowKit

theorem thr_succ (l : List SpV) (c : Option (List UInt8 × List UInt8)) (ah : List UInt8 → List UInt8 → Bool) (ask : List UInt8 → Bool → Option (List UInt8 × List UInt8)) (n : Nat) (f : List UInt8) (i : Bool) {kv : List UInt8 × List UInt8} (ha : ask f i = some kv) :
    thr l c ah ask (n + 1) f i = if c.elim false (fun ck => !ah kv.1 ck.1) then (n, some c) else if saidK l kv.1 then thr l c ah ask n kv.1 false else (n, some (some kv)) := by
  cases c <;> simp [thr, ha]

/-- What is asked is asked whatever number of questions is left. -/
theorem thr_ask (l : List SpV) (c : Option (List UInt8 × List UInt8)) (ah : List UInt8 → List UInt8 → Bool) (ask : List UInt8 → Bool → Option (List UInt8 × List UInt8)) : ∀ (N : Nat) (f : List UInt8) (i : Bool), (thr l c ah ask N f i).2 ≠ none →
    (thr l c ah ask N f i).1 < N ∧ (∀ n, n < N - (thr l c ah ask N f i).1 → thr l c ah ask n f i = (0, none)) ∧ ∀ n, N - (thr l c ah ask N f i).1 ≤ n → thr l c ah ask n f i = (n - (N - (thr l c ah ask N f i).1), (thr l c ah ask N f i).2)
  | 0, f, i, h => absurd rfl h
  | N + 1, f, i, h => by
    have one : ∀ x, thr l c ah ask (N + 1) f i = (N, some x) → (∀ n, thr l c ah ask (n + 1) f i = (n, some x)) → (thr l c ah ask (N + 1) f i).1 < N + 1 ∧ (∀ n, n < N + 1 - (thr l c ah ask (N + 1) f i).1 → thr l c ah ask n f i = (0, none)) ∧ ∀ n, N + 1 - (thr l c ah ask (N + 1) f i).1 ≤ n → thr l c ah ask n f i = (n - (N + 1 - (thr l c ah ask (N + 1) f i).1), (thr l c ah ask (N + 1) f i).2) := by
      intro x h1 h2
      rw [h1]
      refine ⟨Nat.lt_succ_self _, fun n hn => ?_, fun n hn => ?_⟩
      · obtain rfl : n = 0 := by simp only [] at hn; omega
        rfl
      · simp only [] at hn ⊢
        obtain ⟨m, rfl⟩ : ∃ m, n = m + 1 := ⟨n - 1, by omega⟩
        rw [h2 m, show m + 1 - (N + 1 - N) = m by omega]
    rcases ha : ask f i with _ | kv
    · exact one c (by simp [thr, ha]) (fun n => by simp [thr, ha])
    · by_cases hc : c.elim false (fun ck => !ah kv.1 ck.1) = true
      · exact one c (by rw [thr_succ _ _ _ _ _ _ _ ha, if_pos hc]) (fun n => by rw [thr_succ _ _ _ _ _ _ _ ha, if_pos hc])
      · by_cases hs : saidK l kv.1 = true
        · have hstep : ∀ n, thr l c ah ask (n + 1) f i = thr l c ah ask n kv.1 false := fun n => by rw [thr_succ _ _ _ _ _ _ _ ha, if_neg hc, if_pos hs]
          rw [hstep N] at h ⊢
          obtain ⟨h1, h2, h3⟩ := thr_ask l c ah ask N kv.1 false h
          refine ⟨by omega, fun n hn => ?_, fun n hn => ?_⟩
          · rcases n with _ | n
            · rfl
            · rw [hstep n]; exact h2 n (by omega)
          · obtain ⟨m, rfl⟩ : ∃ m, n = m + 1 := ⟨n - 1, by omega⟩
            rw [hstep m, h3 m (by omega)]
            rw [show m + 1 - (N + 1 - (thr l c ah ask N kv.1 false).1) = m - (N - (thr l c ah ask N kv.1 false).1) by omega]
        · exact one (some kv) (by rw [thr_succ _ _ _ _ _ _ _ ha, if_neg hc, if_neg hs]) (fun n => by rw [thr_succ _ _ _ _ _ _ _ ha, if_neg hc, if_neg hs])

theorem thr_some (l : List SpV) (c : Option (List UInt8 × List UInt8)) (ah : List UInt8 → List UInt8 → Bool) (ask : List UInt8 → Bool → Option (List UInt8 × List UInt8)) (m : List UInt8 → Nat) (hm : ∀ f kv, ask f false = some kv → m kv.1 < m f) :
    ∀ (N : Nat) (f : List UInt8), m f < N → (thr l c ah ask N f false).2 ≠ none
  | 0, f, h => absurd h (Nat.not_lt_zero _)
  | N + 1, f, h => by
    rcases ha : ask f false with _ | kv
    · simp [thr, ha]
    · have ih := thr_some l c ah ask m hm N kv.1 (by have := hm f kv ha; omega)
      rw [thr_succ _ _ _ _ _ _ _ ha]
      split
      · simp
      · split
        · exact ih
        · simp
theorem thr_some' (l : List SpV) (c : Option (List UInt8 × List UInt8)) (ah : List UInt8 → List UInt8 → Bool) (ask : List UInt8 → Bool → Option (List UInt8 × List UInt8)) (m : List UInt8 → Nat) (hm : ∀ f kv, ask f false = some kv → m kv.1 < m f) (N : Nat) (hN : ∀ k, m k < N) (f : List UInt8) (i : Bool) :
    (thr l c ah ask (N + 1) f i).2 ≠ none := by
  rcases ha : ask f i with _ | kv
  · simp [thr, ha]
  · have ih := thr_some l c ah ask m hm N kv.1 (hN _)
    rw [thr_succ _ _ _ _ _ _ _ ha]
    split
    · simp
    · split
      · exact ih
      · simp

theorem count_lt {α : Type} (p q : α → Bool) (l : List α) (h : ∀ y ∈ l, p y = true → q y = true) (z : α) (hz : z ∈ l) (hp : p z = false) (hq : q z = true) : l.countP p < l.countP q := by
  induction l with
  | nil => cases hz
  | cons a l ih =>
    have hle : ∀ l : List α, (∀ y ∈ l, p y = true → q y = true) → l.countP p ≤ l.countP q := fun l h => List.countP_mono_left h
    rcases List.mem_cons.1 hz with rfl | hz
    · rw [List.countP_cons, List.countP_cons, hp, hq]
      have := hle l (fun y hy => h y (List.mem_cons_of_mem _ hy))
      simp; omega
    · have := ih (fun y hy => h y (List.mem_cons_of_mem _ hy)) hz
      rw [List.countP_cons, List.countP_cons]
      have h1 := h a (List.mem_cons_self ..)
      split
      · rename_i hpa; rw [if_pos (h1 hpa)]; omega
      · split <;> omega

theorem askN_less (bl : List PrV) (f : List UInt8) (kv : List UInt8 × List UInt8) (h : askN bl f false = some kv) : (bl.countP fun y => decide (0 < cb y.k kv.1)) < bl.countP fun y => decide (0 < cb y.k f) := by
  unfold askN at h
  obtain ⟨z, hz, rfl⟩ := Option.map_eq_some_iff.1 h
  have hm := List.mem_of_find?_eq_some hz
  have ha := List.find?_some hz
  have hf : 0 < cb z.k f := by unfold abv at ha; simpa using ha
  refine count_lt _ _ _ (fun y _ hy => ?_) z hm (by simp [cb_self]) (by simpa using hf)
  have h1 : 0 < cb y.k z.k := by simpa using hy
  have h2 := cb_swap y.k z.k; have h3 := cb_swap z.k f; have h5 := cb_swap y.k f
  have h4 := (cb_trans (a := f) (b := z.k) (c := y.k) (by omega) (by omega)).2 (.inl (by omega))
  simp; omega
theorem askP_less (bl : List PrV) (f : List UInt8) (kv : List UInt8 × List UInt8) (h : askP bl f false = some kv) : (bl.countP fun y => decide (cb y.k kv.1 < 0)) < bl.countP fun y => decide (cb y.k f < 0) := by
  unfold askP at h
  obtain ⟨z, hz, rfl⟩ := Option.map_eq_some_iff.1 h
  have hm := List.mem_reverse.1 (List.mem_of_find?_eq_some hz)
  have ha := List.find?_some hz
  have hf : cb z.k f < 0 := by unfold bel at ha; simpa using ha
  refine count_lt _ _ _ (fun y _ hy => ?_) z hm (by simp [cb_self]) (by simpa using hf)
  have h1 : cb y.k z.k < 0 := by simpa using hy
  have h4 := (cb_trans (a := y.k) (b := z.k) (c := f) (by omega) (by omega)).2 (.inl (by omega))
  simpa using h4

theorem seeN_some (l : List SpV) (bl : List PrV) (N : Nat) (hN : bl.length + 2 ≤ N) (f : List UInt8) (i : Bool) : (seeN l bl N f i).2 ≠ none := by
  obtain ⟨M, rfl⟩ : ∃ M, N = M + 1 := ⟨N - 1, by omega⟩
  exact thr_some' _ _ _ _ (fun k => bl.countP fun y => decide (0 < cb y.k k)) (fun f kv h => askN_less bl f kv h) M (fun k => by have := List.countP_le_length (p := fun y : PrV => decide (0 < cb y.k k)) (l := bl); omega) f i
theorem seeP_some (l : List SpV) (bl : List PrV) (N : Nat) (hN : bl.length + 2 ≤ N) (f : List UInt8) (i : Bool) : (seeP l bl N f i).2 ≠ none := by
  obtain ⟨M, rfl⟩ : ∃ M, N = M + 1 := ⟨N - 1, by omega⟩
  exact thr_some' _ _ _ _ (fun k => bl.countP fun y => decide (cb y.k k < 0)) (fun f kv h => askP_less bl f kv h) M (fun k => by have := List.countP_le_length (p := fun y : PrV => decide (cb y.k k < 0)) (l := bl); omega) f i
end Go.Proofs.Ytdnohhlgaaihmaa
