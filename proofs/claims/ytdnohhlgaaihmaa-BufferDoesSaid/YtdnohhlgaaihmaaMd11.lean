import Derived.Test.YtdnohhlgaaihmaaMd10

/- law16: the first pair behind a place; what a buffer asks. -/
namespace Go.Proofs.Ytdnohhlgaaihmaa
open Go.RowKit

/-- Two cells of a block set. -/
def set2 (w : World) (g : Nat) (a b : Value) : World := (w.setCell ⟨g, 0, none⟩ a).setCell ⟨g, 1, none⟩ b
theorem set2_fr (w : World) (g : Nat) (a b : Value) : Fr (fun k => k = g) w (set2 w g a b) :=
  Fr.setCell (Fr.setCell (Fr.refl (fun k => k = g) w) ⟨g, 0, none⟩ a (fun _ => rfl)) ⟨g, 1, none⟩ b (fun _ => rfl)
theorem set2_row {w : World} {g : Nat} {a b x y : Value} {T : TypeId} (h : w.heap[g]? = some (.cells #[x, y] T (0, 0))) : (set2 w g a b).heap[g]? = some (.cells #[a, b] T (0, 0)) :=
  hp_same (hp_same h 0 a) 1 b

theorem results_cell_row3 {P : Program} {fn : Func} {p u v : Tmp} {ty : TypeId} (h : fn.results = #[.cell p ty, .tmp u, .tmp v]) (tmps : Array Value) (w : World) (g : Nat) (t : TypeId) (cs : Array Value) (fr : Nat × Nat) (d : TypeDesc)
    (hp : tmps.getD p undef = .pointer (some ⟨g, 0, none⟩)) (hg : w.heap[g]? = some (.cells cs t fr))
    (hu : P.underlying ty = some d) (hd : (match d with | .struct _ | .array _ _ => true | _ => false) = true) (hi : (P.info? ty).map (·.size) = some cs.size) :
    (results fn tmps).run P w = .ok (.tuple #[.agg cs, tmps.getD u undef, tmps.getD v undef]) w := by
  have hp' : tmps[p]?.getD undef = .pointer (some ⟨g, 0, none⟩) := by simpa using hp
  simp [results, h, hp', asAddr, Result.andThen, run_loadVar_row w g t ty cs fr d hg hu hd hi]

/-- A pair, or none. -/
def pairE : Option PrV → Value
  | some y => .tuple #[.agg #[y.K, y.V], .bool true]
  | none => .tuple #[.agg #[.slice none 0 0, .slice none 0 0], .bool false]

theorem find_first {α : Type} (p : α → Bool) (l : List α) (j : Nat) (hj : j < l.length) (h : p l[j] = true) (hno : ∀ m (h : m < l.length), m < j → p l[m] = false) : l.find? p = some l[j] := by
  induction l generalizing j with
  | nil => simp at hj
  | cons a l ih =>
    cases j with
    | zero => simp only [List.getElem_cons_zero] at h ⊢; rw [List.find?_cons_of_pos h]
    | succ j =>
      have h0 := hno 0 (by simp) (by omega)
      simp only [List.getElem_cons_zero] at h0
      rw [List.find?_cons_of_neg (by simp [h0])]
      exact ih j (by simpa using hj) h (fun m hm h2 => hno (m + 1) (Nat.succ_lt_succ hm) (by omega))
theorem find_last {α : Type} (p : α → Bool) (l : List α) (j : Nat) (hj : j < l.length) (h : p l[j] = true) (hno : ∀ m (h : m < l.length), j < m → p l[m] = false) : l.reverse.find? p = some l[j] := by
  have e := find_first p l.reverse (l.length - 1 - j) (by simp; omega) (by rw [List.getElem_reverse]; simp only [show l.length - 1 - (l.length - 1 - j) = j by omega]; exact h) (fun m hm h2 => by
    rw [List.getElem_reverse]
    exact hno _ (by simp at hm; omega) (by simp at hm; omega))
  rw [e, List.getElem_reverse]
  simp only [show l.length - 1 - (l.length - 1 - j) = j by omega]

set_option maxRecDepth 100000 in
set_option maxHeartbeats 4000000 in
theorem after_any (w : World) (X F : Value) (l : List PrV) (f : List UInt8) (b : Bool) (hx : Pairs w X l) (hF : Sl w 1 F f.length (bvs f)) :
    Calls Try.prog 63 #[X, F, .bool b] w fun e w' => e = .returned (pairE ((l.find? fun y => abv y.k f b))) ∧ Fr no w w' := by
  obtain ⟨A, c, rfl, hc1, _⟩ := hx.sl.form
  have hn := hx.n
  have HX := Lib.hid hx; have HF := Lib.hid hF; clear hx hF
  go_enter Try.func63, Try.ntmps63
  go_wp2_with fail
  have hN := heap_alloc_new w (.cells #[.slice none 0 0, .slice none 0 0] 40)
  have hf := (Fr.refl no w).alloc (.cells #[.slice none 0 0, .slice none 0 0] 40)
  generalize hg : w.heap.size = g at hN ⊢
  generalize w.alloc (.cells #[.slice none 0 0, .slice none 0 0] 40) = w1 at hN hf ⊢
  have hg2 := Nat.le_of_eq hg
  have HG := Lib.hid hg2; have HN := Lib.hid hN; have F1 := Lib.hid hf; clear hN hf hg hg2
  go_loopw [8] (fun i wr => ∃ j : Nat, j ≤ l.length ∧ i = .int .i64 j ∧ Fr no w wr ∧ wr.heap[g]? = some (.cells #[.slice none 0 0, .slice none 0 0] 40 (0, 0)) ∧ ∀ m (h : m < l.length), m < j → abv l[m].k f b = false) (fun i _ => l.length - (intOf i).toNat)
  case atStart => exact ⟨0, Nat.zero_le _, rfl, F1.out, HN.out, fun m h h0 => by omega⟩
  case round =>
    obtain ⟨j, hj, rfl, hf, hr, hno⟩ := hrel
    have HFr := Lib.hid hf; have HR := Lib.hid hr; have HNO := Lib.hid hno; clear hf hr hno
    by_cases hlt : j < l.length
    · cases hcc : abv l[j].k f b with
      | true =>
        have HC := Lib.hid hcc
        obtain ⟨bb, o, KA, kc, VA, vc, rfl, _, q0, q1, hgo, hkk, hvv⟩ := (HX.out.kept0 HFr.out).at j hlt
        have HGO := Lib.hid hgo; have HKV := Lib.hid (And.intro hkk hvv); clear hgo hkk hvv
        have he : (l.find? fun y => abv y.k f b) = some l[j] := find_first (fun y => abv y.k f b) l j hlt hcc HNO.out
        have HE := Lib.hid he; clear he
        obtain ⟨c0, c1, hz, hlt2⟩ := two_cells HR.out
        go_wp2_with fail
        refine (above_any wr _ F l[j].k f b HGO.out.K (HF.out.kept0 HFr.out)).mono ?_
        rintro e w2 ⟨rfl, rfl⟩
        rw [HC.out]
        go_wp2
        have hg3 := set2_row (a := .slice KA l[j].k.length kc) (b := .slice VA l[j].v.length vc) HR.out
        have fs := set2_fr w2 g (.slice KA l[j].k.length kc) (.slice VA l[j].v.length vc)
        rw [show (w2.setCell ⟨g, 0, none⟩ (.slice KA l[j].k.length kc)).setCell ⟨g, 1, none⟩ (.slice VA l[j].v.length vc) = set2 w2 g (.slice KA l[j].k.length kc) (.slice VA l[j].v.length vc) from rfl]
        generalize set2 w2 g (.slice KA l[j].k.length kc) (.slice VA l[j].v.length vc) = w3 at hg3 fs ⊢
        refine bodyPost_ret (results_cell_row2 rfl _ _ g _ #[.slice KA l[j].k.length kc, .slice VA l[j].v.length vc] (0, 0) _ rfl hg3 Try.underlying40 rfl (by kernel_rfl)) rfl ?_
        refine ⟨by rw [HE.out]; simp only [pairE, HKV.out.1, HKV.out.2]; rfl, HFr.out.trans fs (fun k hk e => by have := HG.out; omega)⟩
      | false =>
        have HC := Lib.hid hcc; clear hcc
        obtain ⟨bb, o, KA, kc, VA, vc, rfl, _, q0, q1, hgo, hkk, hvv⟩ := (HX.out.kept0 HFr.out).at j hlt
        have HGO := Lib.hid hgo; have HKV := Lib.hid (And.intro hkk hvv); clear hgo hkk hvv
        go_wp2_with fail
        refine (above_any wr _ F l[j].k f b HGO.out.K (HF.out.kept0 HFr.out)).mono ?_
        rintro e w2 ⟨rfl, rfl⟩
        rw [HC.out]
        go_wp2
        go_roundw
        case rel => exact ⟨j + 1, by omega, by first | rfl | go_num, HFr.out, HR.out, fun m h hm => by rcases Nat.lt_succ_iff_lt_or_eq.1 hm with h2 | rfl; exact HNO.out m h h2; exact HC.out⟩
        case measure => simp [intOf]; omega
    · obtain rfl : j = l.length := by omega
      have he : (l.find? fun y => abv y.k f b) = none := List.find?_eq_none.2 (fun y hy => by obtain ⟨m, hm, rfl⟩ := List.getElem_of_mem hy; simp [HNO.out m hm (by omega)])
      have HE := Lib.hid he; clear he
      obtain ⟨c0, c1, hz, hlt2⟩ := two_cells HR.out
      go_wp2
      have hg3 := set2_row (a := .slice none 0 0) (b := .slice none 0 0) HR.out
      have fs := set2_fr wr g (.slice none 0 0) (.slice none 0 0)
      rw [show (wr.setCell ⟨g, 0, none⟩ (.slice none 0 0)).setCell ⟨g, 1, none⟩ (.slice none 0 0) = set2 wr g (.slice none 0 0) (.slice none 0 0) from rfl]
      generalize set2 wr g (.slice none 0 0) (.slice none 0 0) = w3 at hg3 fs ⊢
      refine bodyPost_ret (results_cell_row2 rfl _ _ g _ #[.slice none 0 0, .slice none 0 0] (0, 0) _ rfl hg3 Try.underlying40 rfl (by kernel_rfl)) rfl ?_
      exact ⟨by rw [HE.out]; rfl, HFr.out.trans fs (fun k hk e => by have := HG.out; omega)⟩

set_option maxRecDepth 100000 in
set_option maxHeartbeats 4000000 in
theorem before_any (w : World) (X F : Value) (l : List PrV) (f : List UInt8) (b : Bool) (hx : Pairs w X l) (hF : Sl w 1 F f.length (bvs f)) :
    Calls Try.prog 67 #[X, F, .bool b] w fun e w' => e = .returned (pairE ((l.reverse.find? fun y => bel y.k f b))) ∧ Fr no w w' := by
  obtain ⟨A, c, rfl, hc1, _⟩ := hx.sl.form
  have hn := hx.n
  have HX := Lib.hid hx; have HF := Lib.hid hF; clear hx hF
  go_enter Try.func67, Try.ntmps67
  go_wp2_with fail
  have hN := heap_alloc_new w (.cells #[.slice none 0 0, .slice none 0 0] 40)
  have hf := (Fr.refl no w).alloc (.cells #[.slice none 0 0, .slice none 0 0] 40)
  generalize hg : w.heap.size = g at hN ⊢
  generalize w.alloc (.cells #[.slice none 0 0, .slice none 0 0] 40) = w1 at hN hf ⊢
  have hg2 := Nat.le_of_eq hg
  have HG := Lib.hid hg2; have HN := Lib.hid hN; have F1 := Lib.hid hf; clear hN hf hg hg2
  go_loopw [8] (fun i wr => ∃ j : Nat, j ≤ l.length ∧ i = .int .i64 ((j : Int) - 1) ∧ Fr no w wr ∧ wr.heap[g]? = some (.cells #[.slice none 0 0, .slice none 0 0] 40 (0, 0)) ∧ ∀ m (h : m < l.length), j ≤ m → bel l[m].k f b = false) (fun i _ => (intOf i + 1).toNat)
  case atStart => exact ⟨l.length, Nat.le_refl _, rfl, F1.out, HN.out, fun m h h0 => by omega⟩
  case round =>
    obtain ⟨j, hj, rfl, hf, hr, hno⟩ := hrel
    have HFr := Lib.hid hf; have HR := Lib.hid hr; have HNO := Lib.hid hno; clear hf hr hno
    rcases j with _ | j
    · have e1 : ((0 : Nat) : Int) - 1 = -1 := rfl
      rw [e1]; clear e1
      have he : (l.reverse.find? fun y => bel y.k f b) = none := List.find?_eq_none.2 (fun y hy => by obtain ⟨m, hm, rfl⟩ := List.getElem_of_mem (List.mem_reverse.1 hy); simp [HNO.out m hm (by omega)])
      have HE := Lib.hid he; clear he
      obtain ⟨c0, c1, hz, hlt2⟩ := two_cells HR.out
      go_wp2
      have hg3 := set2_row (a := .slice none 0 0) (b := .slice none 0 0) HR.out
      have fs := set2_fr wr g (.slice none 0 0) (.slice none 0 0)
      rw [show (wr.setCell ⟨g, 0, none⟩ (.slice none 0 0)).setCell ⟨g, 1, none⟩ (.slice none 0 0) = set2 wr g (.slice none 0 0) (.slice none 0 0) from rfl]
      generalize set2 wr g (.slice none 0 0) (.slice none 0 0) = w3 at hg3 fs ⊢
      refine bodyPost_ret (results_cell_row2 rfl _ _ g _ #[.slice none 0 0, .slice none 0 0] (0, 0) _ rfl hg3 Try.underlying40 rfl (by kernel_rfl)) rfl ?_
      exact ⟨by rw [HE.out]; rfl, HFr.out.trans fs (fun k hk e => by have := HG.out; omega)⟩
    · have e1 : ((j + 1 : Nat) : Int) - 1 = (j : Int) := by omega
      rw [e1]; clear e1
      have hlt : j < l.length := by omega
      cases hcc : bel l[j].k f b with
      | true =>
        have HC := Lib.hid hcc
        obtain ⟨bb, o, KA, kc, VA, vc, rfl, _, q0, q1, hgo, hkk, hvv⟩ := (HX.out.kept0 HFr.out).at j hlt
        have HGO := Lib.hid hgo; have HKV := Lib.hid (And.intro hkk hvv); clear hgo hkk hvv
        have he : (l.reverse.find? fun y => bel y.k f b) = some l[j] := find_last (fun y => bel y.k f b) l j hlt hcc (fun m h hm => HNO.out m h (by omega))
        have HE := Lib.hid he; clear he
        obtain ⟨c0, c1, hz, hlt2⟩ := two_cells HR.out
        go_wp2_with fail
        refine (below_any wr _ F l[j].k f b HGO.out.K (HF.out.kept0 HFr.out)).mono ?_
        rintro e w2 ⟨rfl, rfl⟩
        rw [HC.out]
        go_wp2
        have hg3 := set2_row (a := .slice KA l[j].k.length kc) (b := .slice VA l[j].v.length vc) HR.out
        have fs := set2_fr w2 g (.slice KA l[j].k.length kc) (.slice VA l[j].v.length vc)
        rw [show (w2.setCell ⟨g, 0, none⟩ (.slice KA l[j].k.length kc)).setCell ⟨g, 1, none⟩ (.slice VA l[j].v.length vc) = set2 w2 g (.slice KA l[j].k.length kc) (.slice VA l[j].v.length vc) from rfl]
        generalize set2 w2 g (.slice KA l[j].k.length kc) (.slice VA l[j].v.length vc) = w3 at hg3 fs ⊢
        refine bodyPost_ret (results_cell_row2 rfl _ _ g _ #[.slice KA l[j].k.length kc, .slice VA l[j].v.length vc] (0, 0) _ rfl hg3 Try.underlying40 rfl (by kernel_rfl)) rfl ?_
        refine ⟨by rw [HE.out]; simp only [pairE, HKV.out.1, HKV.out.2]; rfl, HFr.out.trans fs (fun k hk e => by have := HG.out; omega)⟩
      | false =>
        have HC := Lib.hid hcc; clear hcc
        obtain ⟨bb, o, KA, kc, VA, vc, rfl, _, q0, q1, hgo, hkk, hvv⟩ := (HX.out.kept0 HFr.out).at j hlt
        have HGO := Lib.hid hgo; have HKV := Lib.hid (And.intro hkk hvv); clear hgo hkk hvv
        go_wp2_with fail
        refine (below_any wr _ F l[j].k f b HGO.out.K (HF.out.kept0 HFr.out)).mono ?_
        rintro e w2 ⟨rfl, rfl⟩
        rw [HC.out]
        go_wp2
        go_roundw
        case rel => exact ⟨j, by omega, by first | rfl | go_num, HFr.out, HR.out, fun m h hm => by rcases Nat.eq_or_lt_of_le hm with h2 | h2; (subst h2; exact HC.out); exact HNO.out m h (by omega)⟩
        case measure => simp [intOf]
end Go.Proofs.Ytdnohhlgaaihmaa

/- law16: what a buffer asks. -/
namespace Go.Proofs.Ytdnohhlgaaihmaa
open Go.RowKit

/-- What lies below, at block b: its pairs and how many questions it answers. -/
structure Bel (w : World) (b : Nat) (lv : Value) (l : List PrV) (n : Nat) : Prop where
  at_ : w.heap[b]? = some (.cells #[lv, .int .i64 n] 48 (0, 0))
  pairs : Pairs w lv l
  ne : lv.ownBlock ≠ some b
  nk : ∀ y ∈ l, y.K.ownBlock ≠ some b ∧ y.V.ownBlock ≠ some b
theorem Bel.kept0 {w w1 : World} {b : Nat} {lv : Value} {l : List PrV} {n : Nat} (h : Bel w b lv l n) (f : Fr no w w1) : Bel w1 b lv l n := ⟨f.heap h.at_ (fun h => h), h.pairs.kept0 f, h.ne, h.nk⟩
theorem Pairs.kept {w w1 : World} {x : Value} {l : List PrV} {S : Nat → Prop} (h : Pairs w x l) (f : Fr S w w1) (h1 : ∀ k, x.ownBlock = some k → ¬ S k) (h2 : ∀ y ∈ l, ∀ k, y.K.ownBlock = some k ∨ y.V.ownBlock = some k → ¬ S k) : Pairs w1 x l :=
  ⟨h.sl.kept f h1, fun y hy => (h.good y hy).kept f (fun k hk => h2 y hy k (.inl hk)) (fun k hk => h2 y hy k (.inr hk)), h.n⟩

theorem slKeep {w w1 : World} {sz n : Nat} {v : Value} {xs : List Value} {S : Nat → Prop} (h : Sl w sz v n xs) (f : Fr S w w1) (hn : ∀ k, v.ownBlock = some k → k < w.heap.size → ¬ S k) : Sl w1 sz v n xs := by
  refine ⟨h.1, ?_⟩
  rcases h.2 with h | ⟨b, o, cap, rfl, h2, h3, h4⟩
  · exact .inl h
  · exact .inr ⟨b, o, cap, rfl, h2, h3, fun j u hu => f.cell (h4 j u hu) (hn b rfl (World.block_lt_of_cell? w _ (h4 j u hu)))⟩
theorem Pairs.keptL {w w1 : World} {x : Value} {l : List PrV} {S : Nat → Prop} (h : Pairs w x l) (f : Fr S w w1) (hn : ∀ k, k < w.heap.size → ¬ S k) : Pairs w1 x l :=
  ⟨slKeep h.sl f (fun k _ hk => hn k hk), fun y hy => ⟨slKeep (h.good y hy).K f (fun k _ hk => hn k hk), slKeep (h.good y hy).V f (fun k _ hk => hn k hk), (h.good y hy).lk, (h.good y hy).lv⟩, h.n⟩

/-- The answer: none (ErrIO), or a pair in memory of its own, or that there is none. -/
def Answer (w w' : World) (b : Nat) (lv : Value) (l : List PrV) (n : Nat) (r : Option PrV) (e : Ending) : Prop :=
  (n = 0 ∧ e = .returned (.tuple #[.agg #[.slice none 0 0, .slice none 0 0], .bool false, .int .u16 6]) ∧ Fr no w w') ∨
  ∃ m, n = m + 1 ∧ ∃ y : PrV, e = .returned (.tuple #[.agg #[y.K, y.V], .bool r.isSome, .int .u16 0]) ∧ y.Good w' ∧ (y.k, y.v) = (r.map fun z => (z.k, z.v)).getD ([], []) ∧ (∃ A c, y.K = .slice A y.k.length c) ∧ (∃ A c, y.V = .slice A y.v.length c) ∧
    Bel w' b lv l m ∧ Fr (fun k => k = b) w w' ∧ ∀ k, y.K.ownBlock = some k ∨ y.V.ownBlock = some k → w.heap.size ≤ k

set_option maxRecDepth 100000 in
set_option maxHeartbeats 4000000 in
theorem bnext_any (w : World) (b : Nat) (lv F : Value) (l : List PrV) (n : Nat) (f : List UInt8) (i : Bool) (hb : Bel w b lv l n) (hF : Sl w 1 F f.length (bvs f)) (hFb : F.ownBlock ≠ some b) (hn : n ≤ 140737488351232) :
    Calls Try.prog 21 #[.pointer (some ⟨b, 0, none⟩), F, .bool i] w fun e w' => Answer w w' b lv l n (l.find? fun y => abv y.k f i) e := by
  obtain ⟨A, c, rfl, _, _⟩ := hb.pairs.sl.form
  obtain ⟨b0, b1, bz, blt⟩ := two_cells hb.at_
  have HB := Lib.hid hb; have HF := Lib.hid hF; have HFB := Lib.hid hFb; clear hb hF hFb
  rcases n with _ | n
  · go_enter Try.func21, Try.ntmps21
    go_wp2
    have hN := heap_alloc_new w (.cells #[.slice none 0 0, .slice none 0 0] 40)
    have hf := (Fr.refl no w).alloc (.cells #[.slice none 0 0, .slice none 0 0] 40)
    refine bodyPost_ret (results_cell_row3 rfl _ _ w.heap.size _ #[.slice none 0 0, .slice none 0 0] (0, 0) _ rfl hN Try.underlying40 rfl (by kernel_rfl)) rfl ?_
    exact .inl ⟨rfl, rfl, hf⟩
  · go_enter Try.func21, Try.ntmps21
    go_wp2_with fail
    have hs := hp_same HB.out.at_ 1 (.int .i64 n)
    have hfs : Fr (fun k => k = b) w (w.setCell ⟨b, 1, none⟩ (.int .i64 n)) := Fr.setCell (Fr.refl (fun k => k = b) w) ⟨b, 1, none⟩ _ (fun _ => rfl)
    have hsz : (w.setCell ⟨b, 1, none⟩ (.int .i64 n)).heap.size = w.heap.size := by simp [World.setCell]
    have hN := heap_alloc_new (w.setCell ⟨b, 1, none⟩ (.int .i64 n)) (.cells #[.slice none 0 0, .slice none 0 0] 40)
    rw [hsz] at hN
    have ha := (Fr.refl no (w.setCell ⟨b, 1, none⟩ (.int .i64 n))).alloc (.cells #[.slice none 0 0, .slice none 0 0] 40)
    have hr := ha.heap hs (fun h => h)
    have hf1 := hfs.trans (S := fun k => k = b) ha (fun _ _ h => h.elim)
    generalize hg : w.heap.size = g at hN ⊢
    generalize (w.setCell ⟨b, 1, none⟩ (.int .i64 n)).alloc (.cells #[.slice none 0 0, .slice none 0 0] 40) = w1 at hN hr hf1 ⊢
    have hg2 := Nat.le_of_eq hg; have hg3 := Nat.le_of_eq hg.symm
    clear hs hfs hsz ha hg b0 b1 bz blt
    have hlw : ∀ k, (Value.slice A l.length c).ownBlock = some k → ¬ (k = b) := fun k hk e => HB.out.ne (e ▸ hk)
    have hpw : ∀ y ∈ l, ∀ k, y.K.ownBlock = some k ∨ y.V.ownBlock = some k → ¬ (k = b) := fun y hy k hk e => by
      obtain ⟨h1, h2⟩ := HB.out.nk y hy
      rcases hk with hk | hk
      · exact h1 (e ▸ hk)
      · exact h2 (e ▸ hk)
    have hB1 : Bel w1 b (.slice A l.length c) l n := ⟨hr, HB.out.pairs.kept hf1 hlw hpw, HB.out.ne, HB.out.nk⟩
    have hF1 := HF.out.kept hf1 (fun k hk e => HFB.out (e ▸ hk))
    have HG := Lib.hid hg2; have HG2 := Lib.hid hg3; have HN := Lib.hid hN; have F1 := Lib.hid hf1; have HB1 := Lib.hid hB1; have HF1 := Lib.hid hF1
    clear hg2 hg3 hN hr hf1 hlw hpw hB1 hF1
    refine (after_any w1 _ _ l f i HB1.out.pairs HF1.out).mono ?_
    rintro e w2 ⟨rfl, f2⟩
    have HN := Lib.hid (f2.heap HN.out (fun h => h)); have HB2 := Lib.hid (HB1.out.kept0 f2); have F2 := Lib.hid (F1.out.trans (S := fun k => k = b) f2 (fun _ _ h => h.elim)); clear f2
    have hgl := (Array.getElem?_eq_some_iff.1 HN.out).1
    have HGL := Lib.hid hgl; clear hgl
    -- what is found, as a pair that is good here
    obtain ⟨r, hr⟩ : ∃ r, r = (l.find? fun y => abv y.k f i) := ⟨_, rfl⟩
    rw [← hr]
    have hgr : ∀ z, r = some z → z.Good w2 := fun z hz => by
      rw [hr] at hz
      exact HB2.out.pairs.good z (List.mem_of_find?_eq_some hz)
    obtain ⟨KA, kc, VA, vc, zk, zv, hzr, hzg, hzz⟩ : ∃ KA kc VA vc, ∃ zk zv : List UInt8, pairE r = .tuple #[.agg #[.slice KA zk.length kc, .slice VA zv.length vc], .bool r.isSome] ∧ PrV.Good w2 ⟨.slice KA zk.length kc, .slice VA zv.length vc, zk, zv⟩ ∧ (zk, zv) = (r.map fun z => (z.k, z.v)).getD ([], []) := by
      cases hrr : r with
      | none => exact ⟨none, 0, none, 0, [], [], rfl, ⟨⟨rfl, .inl ⟨none, rfl, rfl⟩⟩, ⟨rfl, .inl ⟨none, rfl, rfl⟩⟩, by simp, by simp⟩, rfl⟩
      | some z =>
        have hz := hgr z hrr
        obtain ⟨KA, kc, hK, _, _⟩ := hz.K.form
        obtain ⟨VA, vc, hV, _, _⟩ := hz.V.form
        exact ⟨KA, kc, VA, vc, z.k, z.v, by simp only [pairE, hK, hV]; rfl, ⟨hK ▸ hz.K, hV ▸ hz.V, hz.lk, hz.lv⟩, rfl⟩
    rw [hzr]
    have HRR := Lib.hid hr; have HZG := Lib.hid hzg; have HZZ := Lib.hid hzz; clear hr hgr hzr hzg hzz
    go_wp2_with fail
    refine wp_region_ord [0, 1, 3, 4, 7, 2, 5, 6, 8, 9, 10] (fun i => [Kd.p, Kd.l, Kd.g, Kd.p, Kd.l, Kd.g, Kd.e, Kd.p, Kd.e, Kd.e, Kd.e].getD i .e) (by kernel_rfl) (by kernel_rfl) ?_
    iterate 5
      first | refine wpX_pu rfl rfl rfl (by first | exact pu_move rfl | exact pu_assign rfl | exact pu_nilCheck rfl rfl | exact pu_binInt rfl rfl rfl | exact pu_conv rfl rfl (by kernel_rfl) | exact pu_fld rfl (by kernel_rfl) | exact pu_ix rfl rfl rfl (by kernel_rfl) | exact pu_unOp rfl | exact pu_binStr rfl rfl rfl | exact pu_len rfl rfl | exact pu_lens rfl rfl | exact pu_pick rfl | exact pu_slice rfl rfl) (fun K hK => ?_) | refine wpX_rd rfl rfl rfl (rd_load rfl) (fun K hK => ?_) | refine wpX_gr rfl rfl rfl (by first | exact gr_buildSlice rfl | exact gr_box rfl | exact gr_alloc rfl) (fun K hK => ?_) | refine wpX_ex rfl rfl rfl (fun K hK => ?_)
      try go_wp2
    have hfw : Fr no w2 (w2.alloc (.cells #[.slice KA zk.length kc, .slice VA zv.length vc] 40)).drew := Fr.drew ((Fr.refl no w2).alloc _)
    generalize (w2.alloc (.cells #[.slice KA zk.length kc, .slice VA zv.length vc] 40)).drew = w3 at hfw ⊢
    have F3 := Lib.hid hfw; clear hfw
    refine wpX_ca rfl rfl rfl (fun K hK => ?_)
    go_wp2_with fail
    refine (lent_any w3 _ zk (HZG.out.K.kept0 F3.out) HZG.out.lk).mono ?_
    rintro e w4 ⟨g1, rfl, h1, h2, h3⟩
    have H1 := Lib.hid h1; have H2 := Lib.hid h2; have H3 := Lib.hid h3; clear h1 h2 h3
    go_wp2
    obtain ⟨⟨xa, xb⟩, hext⟩ := H3.out.ext
    refine ⟨⟨xa, xb, hext⟩, hK _ _ ?_⟩
    clear hK K hext xa xb
    refine wpX_ca rfl rfl rfl (fun K hK => ?_)
    go_wp2_with fail
    refine (lent_any w4 _ zv ((HZG.out.V.kept0 F3.out).kept0 H3.out) HZG.out.lv).mono ?_
    rintro e w5 ⟨g2, rfl, h1, h2, h3⟩
    have G1 := Lib.hid h1; have G2 := Lib.hid h2; have G3 := Lib.hid h3; clear h1 h2 h3
    go_wp2
    obtain ⟨⟨xa, xb⟩, hext⟩ := G3.out.ext
    refine ⟨⟨xa, xb, hext⟩, hK _ _ ?_⟩
    clear hK K hext xa xb
    have f25 := (F3.out.trans H3.out (fun _ _ h => h)).trans G3.out (fun _ _ h => h)
    have F25 := Lib.hid f25; have HN5 := Lib.hid (f25.heap HN.out (fun h => h)); clear f25
    obtain ⟨c0, c1, hz, hlt⟩ := two_cells HN5.out
    iterate 4
      first | refine wpX_pu rfl rfl rfl (by first | exact pu_move rfl | exact pu_assign rfl | exact pu_nilCheck rfl rfl | exact pu_binInt rfl rfl rfl | exact pu_conv rfl rfl (by kernel_rfl) | exact pu_fld rfl (by kernel_rfl) | exact pu_ix rfl rfl rfl (by kernel_rfl) | exact pu_unOp rfl | exact pu_binStr rfl rfl rfl | exact pu_len rfl rfl | exact pu_lens rfl rfl | exact pu_pick rfl | exact pu_slice rfl rfl) (fun K hK => ?_) | refine wpX_rd rfl rfl rfl (rd_load rfl) (fun K hK => ?_) | refine wpX_gr rfl rfl rfl (by first | exact gr_buildSlice rfl | exact gr_box rfl | exact gr_alloc rfl) (fun K hK => ?_) | refine wpX_ex rfl rfl rfl (fun K hK => ?_)
      try go_wp2
    refine wpX_done ?_
    go_wp2
    have hg3 := set2_row (a := .slice (some ⟨g1, 0, none⟩) zk.length (zk.length + 2)) (b := .slice (some ⟨g2, 0, none⟩) zv.length (zv.length + 2)) HN5.out
    have fs := set2_fr w5 g (.slice (some ⟨g1, 0, none⟩) zk.length (zk.length + 2)) (.slice (some ⟨g2, 0, none⟩) zv.length (zv.length + 2))
    rw [show (w5.setCell ⟨g, 0, none⟩ (.slice (some ⟨g1, 0, none⟩) zk.length (zk.length + 2))).setCell ⟨g, 1, none⟩ (.slice (some ⟨g2, 0, none⟩) zv.length (zv.length + 2)) = set2 w5 g (.slice (some ⟨g1, 0, none⟩) zk.length (zk.length + 2)) (.slice (some ⟨g2, 0, none⟩) zv.length (zv.length + 2)) from rfl]
    generalize set2 w5 g (.slice (some ⟨g1, 0, none⟩) zk.length (zk.length + 2)) (.slice (some ⟨g2, 0, none⟩) zv.length (zv.length + 2)) = w6 at hg3 fs ⊢
    refine bodyPost_ret (results_cell_row3 rfl _ _ g _ #[.slice (some ⟨g1, 0, none⟩) zk.length (zk.length + 2), .slice (some ⟨g2, 0, none⟩) zv.length (zv.length + 2)] (0, 0) _ rfl hg3 Try.underlying40 rfl (by kernel_rfl)) rfl ?_
    have s2 := F2.out.size; have s3 := F3.out.size; have s4 := H3.out.size; have s5 := G3.out.size
    have hgw := HG.out; have hgl := HGL.out
    have hbw := (Array.getElem?_eq_some_iff.1 HB.out.at_).1
    have n1 : ¬ g1 = g := fun e => by have := H1.out; omega
    have n2 : ¬ g2 = g := fun e => by have := G1.out; omega
    refine .inr ⟨n, rfl, ⟨.slice (some ⟨g1, 0, none⟩) zk.length (zk.length + 2), .slice (some ⟨g2, 0, none⟩) zv.length (zv.length + 2), zk, zv⟩, by rw [← HRR.out]; rfl, ⟨(((H2.out.kept G3.out (fun h => h)).kept fs n1).sl HZG.out.lk), ((G2.out.kept fs n2).sl HZG.out.lv), HZG.out.lk, HZG.out.lv⟩, by rw [← HRR.out]; exact HZZ.out, ⟨_, _, rfl⟩, ⟨_, _, rfl⟩, ?_, ?_, ?_⟩
    · have tot : Fr (fun k => k = g) w2 w6 := (F25.out.mono (fun _ _ h => h.elim)).trans fs (fun _ _ h => h)
      refine ⟨fs.heap ((HB2.out.kept0 F25.out).at_) (fun e => by have e2 : b = g := e; omega), ?_, HB.out.ne, HB.out.nk⟩
      have tot0 : Fr (fun k => k = b ∨ w.heap.size ≤ k) w w6 := (F2.out.mono (fun _ _ h => .inl h)).trans tot (fun k hk e => .inr (by have e2 : k = g := e; omega))
      refine ⟨slKeep HB.out.pairs.sl tot0 (fun k hk hk2 e => ?_), fun y hy => ?_, HB.out.pairs.n⟩
      · rcases e with e | e
        · exact HB.out.ne (e ▸ hk)
        · omega
      · have hgy := HB.out.pairs.good y hy
        obtain ⟨y1, y2⟩ := HB.out.nk y hy
        exact ⟨slKeep hgy.K tot0 (fun k hk hk2 e => e.elim (fun e => y1 (e ▸ hk)) (fun e => by omega)), slKeep hgy.V tot0 (fun k hk hk2 e => e.elim (fun e => y2 (e ▸ hk)) (fun e => by omega)), hgy.lk, hgy.lv⟩
    · exact (F2.out.trans (S := fun k => k = b) F25.out (fun _ _ h => h.elim)).trans fs (fun k hk e => by omega)
    · rintro k (hk | hk)
      · have e : g1 = k := by simpa [Value.ownBlock] using hk
        have := H1.out; omega
      · have e : g2 = k := by simpa [Value.ownBlock] using hk
        have := G1.out; omega

set_option maxRecDepth 100000 in
set_option maxHeartbeats 4000000 in
theorem bprev_any (w : World) (b : Nat) (lv F : Value) (l : List PrV) (n : Nat) (f : List UInt8) (i : Bool) (hb : Bel w b lv l n) (hF : Sl w 1 F f.length (bvs f)) (hFb : F.ownBlock ≠ some b) (hn : n ≤ 140737488351232) :
    Calls Try.prog 24 #[.pointer (some ⟨b, 0, none⟩), F, .bool i] w fun e w' => Answer w w' b lv l n (l.reverse.find? fun y => bel y.k f i) e := by
  obtain ⟨A, c, rfl, _, _⟩ := hb.pairs.sl.form
  obtain ⟨b0, b1, bz, blt⟩ := two_cells hb.at_
  have HB := Lib.hid hb; have HF := Lib.hid hF; have HFB := Lib.hid hFb; clear hb hF hFb
  rcases n with _ | n
  · go_enter Try.func24, Try.ntmps24
    go_wp2
    have hN := heap_alloc_new w (.cells #[.slice none 0 0, .slice none 0 0] 40)
    have hf := (Fr.refl no w).alloc (.cells #[.slice none 0 0, .slice none 0 0] 40)
    refine bodyPost_ret (results_cell_row3 rfl _ _ w.heap.size _ #[.slice none 0 0, .slice none 0 0] (0, 0) _ rfl hN Try.underlying40 rfl (by kernel_rfl)) rfl ?_
    exact .inl ⟨rfl, rfl, hf⟩
  · go_enter Try.func24, Try.ntmps24
    go_wp2_with fail
    have hs := hp_same HB.out.at_ 1 (.int .i64 n)
    have hfs : Fr (fun k => k = b) w (w.setCell ⟨b, 1, none⟩ (.int .i64 n)) := Fr.setCell (Fr.refl (fun k => k = b) w) ⟨b, 1, none⟩ _ (fun _ => rfl)
    have hsz : (w.setCell ⟨b, 1, none⟩ (.int .i64 n)).heap.size = w.heap.size := by simp [World.setCell]
    have hN := heap_alloc_new (w.setCell ⟨b, 1, none⟩ (.int .i64 n)) (.cells #[.slice none 0 0, .slice none 0 0] 40)
    rw [hsz] at hN
    have ha := (Fr.refl no (w.setCell ⟨b, 1, none⟩ (.int .i64 n))).alloc (.cells #[.slice none 0 0, .slice none 0 0] 40)
    have hr := ha.heap hs (fun h => h)
    have hf1 := hfs.trans (S := fun k => k = b) ha (fun _ _ h => h.elim)
    generalize hg : w.heap.size = g at hN ⊢
    generalize (w.setCell ⟨b, 1, none⟩ (.int .i64 n)).alloc (.cells #[.slice none 0 0, .slice none 0 0] 40) = w1 at hN hr hf1 ⊢
    have hg2 := Nat.le_of_eq hg; have hg3 := Nat.le_of_eq hg.symm
    clear hs hfs hsz ha hg b0 b1 bz blt
    have hlw : ∀ k, (Value.slice A l.length c).ownBlock = some k → ¬ (k = b) := fun k hk e => HB.out.ne (e ▸ hk)
    have hpw : ∀ y ∈ l, ∀ k, y.K.ownBlock = some k ∨ y.V.ownBlock = some k → ¬ (k = b) := fun y hy k hk e => by
      obtain ⟨h1, h2⟩ := HB.out.nk y hy
      rcases hk with hk | hk
      · exact h1 (e ▸ hk)
      · exact h2 (e ▸ hk)
    have hB1 : Bel w1 b (.slice A l.length c) l n := ⟨hr, HB.out.pairs.kept hf1 hlw hpw, HB.out.ne, HB.out.nk⟩
    have hF1 := HF.out.kept hf1 (fun k hk e => HFB.out (e ▸ hk))
    have HG := Lib.hid hg2; have HG2 := Lib.hid hg3; have HN := Lib.hid hN; have F1 := Lib.hid hf1; have HB1 := Lib.hid hB1; have HF1 := Lib.hid hF1
    clear hg2 hg3 hN hr hf1 hlw hpw hB1 hF1
    refine (before_any w1 _ _ l f i HB1.out.pairs HF1.out).mono ?_
    rintro e w2 ⟨rfl, f2⟩
    have HN := Lib.hid (f2.heap HN.out (fun h => h)); have HB2 := Lib.hid (HB1.out.kept0 f2); have F2 := Lib.hid (F1.out.trans (S := fun k => k = b) f2 (fun _ _ h => h.elim)); clear f2
    have hgl := (Array.getElem?_eq_some_iff.1 HN.out).1
    have HGL := Lib.hid hgl; clear hgl
    -- what is found, as a pair that is good here
    obtain ⟨r, hr⟩ : ∃ r, r = (l.reverse.find? fun y => bel y.k f i) := ⟨_, rfl⟩
    rw [← hr]
    have hgr : ∀ z, r = some z → z.Good w2 := fun z hz => by
      rw [hr] at hz
      exact HB2.out.pairs.good z (List.mem_reverse.1 (List.mem_of_find?_eq_some hz))
    obtain ⟨KA, kc, VA, vc, zk, zv, hzr, hzg, hzz⟩ : ∃ KA kc VA vc, ∃ zk zv : List UInt8, pairE r = .tuple #[.agg #[.slice KA zk.length kc, .slice VA zv.length vc], .bool r.isSome] ∧ PrV.Good w2 ⟨.slice KA zk.length kc, .slice VA zv.length vc, zk, zv⟩ ∧ (zk, zv) = (r.map fun z => (z.k, z.v)).getD ([], []) := by
      cases hrr : r with
      | none => exact ⟨none, 0, none, 0, [], [], rfl, ⟨⟨rfl, .inl ⟨none, rfl, rfl⟩⟩, ⟨rfl, .inl ⟨none, rfl, rfl⟩⟩, by simp, by simp⟩, rfl⟩
      | some z =>
        have hz := hgr z hrr
        obtain ⟨KA, kc, hK, _, _⟩ := hz.K.form
        obtain ⟨VA, vc, hV, _, _⟩ := hz.V.form
        exact ⟨KA, kc, VA, vc, z.k, z.v, by simp only [pairE, hK, hV]; rfl, ⟨hK ▸ hz.K, hV ▸ hz.V, hz.lk, hz.lv⟩, rfl⟩
    rw [hzr]
    have HRR := Lib.hid hr; have HZG := Lib.hid hzg; have HZZ := Lib.hid hzz; clear hr hgr hzr hzg hzz
    go_wp2_with fail
    refine wp_region_ord [0, 1, 3, 4, 7, 2, 5, 6, 8, 9, 10] (fun i => [Kd.p, Kd.l, Kd.g, Kd.p, Kd.l, Kd.g, Kd.e, Kd.p, Kd.e, Kd.e, Kd.e].getD i .e) (by kernel_rfl) (by kernel_rfl) ?_
    iterate 5
      first | refine wpX_pu rfl rfl rfl (by first | exact pu_move rfl | exact pu_assign rfl | exact pu_nilCheck rfl rfl | exact pu_binInt rfl rfl rfl | exact pu_conv rfl rfl (by kernel_rfl) | exact pu_fld rfl (by kernel_rfl) | exact pu_ix rfl rfl rfl (by kernel_rfl) | exact pu_unOp rfl | exact pu_binStr rfl rfl rfl | exact pu_len rfl rfl | exact pu_lens rfl rfl | exact pu_pick rfl | exact pu_slice rfl rfl) (fun K hK => ?_) | refine wpX_rd rfl rfl rfl (rd_load rfl) (fun K hK => ?_) | refine wpX_gr rfl rfl rfl (by first | exact gr_buildSlice rfl | exact gr_box rfl | exact gr_alloc rfl) (fun K hK => ?_) | refine wpX_ex rfl rfl rfl (fun K hK => ?_)
      try go_wp2
    have hfw : Fr no w2 (w2.alloc (.cells #[.slice KA zk.length kc, .slice VA zv.length vc] 40)).drew := Fr.drew ((Fr.refl no w2).alloc _)
    generalize (w2.alloc (.cells #[.slice KA zk.length kc, .slice VA zv.length vc] 40)).drew = w3 at hfw ⊢
    have F3 := Lib.hid hfw; clear hfw
    refine wpX_ca rfl rfl rfl (fun K hK => ?_)
    go_wp2_with fail
    refine (lent_any w3 _ zk (HZG.out.K.kept0 F3.out) HZG.out.lk).mono ?_
    rintro e w4 ⟨g1, rfl, h1, h2, h3⟩
    have H1 := Lib.hid h1; have H2 := Lib.hid h2; have H3 := Lib.hid h3; clear h1 h2 h3
    go_wp2
    obtain ⟨⟨xa, xb⟩, hext⟩ := H3.out.ext
    refine ⟨⟨xa, xb, hext⟩, hK _ _ ?_⟩
    clear hK K hext xa xb
    refine wpX_ca rfl rfl rfl (fun K hK => ?_)
    go_wp2_with fail
    refine (lent_any w4 _ zv ((HZG.out.V.kept0 F3.out).kept0 H3.out) HZG.out.lv).mono ?_
    rintro e w5 ⟨g2, rfl, h1, h2, h3⟩
    have G1 := Lib.hid h1; have G2 := Lib.hid h2; have G3 := Lib.hid h3; clear h1 h2 h3
    go_wp2
    obtain ⟨⟨xa, xb⟩, hext⟩ := G3.out.ext
    refine ⟨⟨xa, xb, hext⟩, hK _ _ ?_⟩
    clear hK K hext xa xb
    have f25 := (F3.out.trans H3.out (fun _ _ h => h)).trans G3.out (fun _ _ h => h)
    have F25 := Lib.hid f25; have HN5 := Lib.hid (f25.heap HN.out (fun h => h)); clear f25
    obtain ⟨c0, c1, hz, hlt⟩ := two_cells HN5.out
    iterate 4
      first | refine wpX_pu rfl rfl rfl (by first | exact pu_move rfl | exact pu_assign rfl | exact pu_nilCheck rfl rfl | exact pu_binInt rfl rfl rfl | exact pu_conv rfl rfl (by kernel_rfl) | exact pu_fld rfl (by kernel_rfl) | exact pu_ix rfl rfl rfl (by kernel_rfl) | exact pu_unOp rfl | exact pu_binStr rfl rfl rfl | exact pu_len rfl rfl | exact pu_lens rfl rfl | exact pu_pick rfl | exact pu_slice rfl rfl) (fun K hK => ?_) | refine wpX_rd rfl rfl rfl (rd_load rfl) (fun K hK => ?_) | refine wpX_gr rfl rfl rfl (by first | exact gr_buildSlice rfl | exact gr_box rfl | exact gr_alloc rfl) (fun K hK => ?_) | refine wpX_ex rfl rfl rfl (fun K hK => ?_)
      try go_wp2
    refine wpX_done ?_
    go_wp2
    have hg3 := set2_row (a := .slice (some ⟨g1, 0, none⟩) zk.length (zk.length + 2)) (b := .slice (some ⟨g2, 0, none⟩) zv.length (zv.length + 2)) HN5.out
    have fs := set2_fr w5 g (.slice (some ⟨g1, 0, none⟩) zk.length (zk.length + 2)) (.slice (some ⟨g2, 0, none⟩) zv.length (zv.length + 2))
    rw [show (w5.setCell ⟨g, 0, none⟩ (.slice (some ⟨g1, 0, none⟩) zk.length (zk.length + 2))).setCell ⟨g, 1, none⟩ (.slice (some ⟨g2, 0, none⟩) zv.length (zv.length + 2)) = set2 w5 g (.slice (some ⟨g1, 0, none⟩) zk.length (zk.length + 2)) (.slice (some ⟨g2, 0, none⟩) zv.length (zv.length + 2)) from rfl]
    generalize set2 w5 g (.slice (some ⟨g1, 0, none⟩) zk.length (zk.length + 2)) (.slice (some ⟨g2, 0, none⟩) zv.length (zv.length + 2)) = w6 at hg3 fs ⊢
    refine bodyPost_ret (results_cell_row3 rfl _ _ g _ #[.slice (some ⟨g1, 0, none⟩) zk.length (zk.length + 2), .slice (some ⟨g2, 0, none⟩) zv.length (zv.length + 2)] (0, 0) _ rfl hg3 Try.underlying40 rfl (by kernel_rfl)) rfl ?_
    have s2 := F2.out.size; have s3 := F3.out.size; have s4 := H3.out.size; have s5 := G3.out.size
    have hgw := HG.out; have hgl := HGL.out
    have hbw := (Array.getElem?_eq_some_iff.1 HB.out.at_).1
    have n1 : ¬ g1 = g := fun e => by have := H1.out; omega
    have n2 : ¬ g2 = g := fun e => by have := G1.out; omega
    refine .inr ⟨n, rfl, ⟨.slice (some ⟨g1, 0, none⟩) zk.length (zk.length + 2), .slice (some ⟨g2, 0, none⟩) zv.length (zv.length + 2), zk, zv⟩, by rw [← HRR.out]; rfl, ⟨(((H2.out.kept G3.out (fun h => h)).kept fs n1).sl HZG.out.lk), ((G2.out.kept fs n2).sl HZG.out.lv), HZG.out.lk, HZG.out.lv⟩, by rw [← HRR.out]; exact HZZ.out, ⟨_, _, rfl⟩, ⟨_, _, rfl⟩, ?_, ?_, ?_⟩
    · have tot : Fr (fun k => k = g) w2 w6 := (F25.out.mono (fun _ _ h => h.elim)).trans fs (fun _ _ h => h)
      refine ⟨fs.heap ((HB2.out.kept0 F25.out).at_) (fun e => by have e2 : b = g := e; omega), ?_, HB.out.ne, HB.out.nk⟩
      have tot0 : Fr (fun k => k = b ∨ w.heap.size ≤ k) w w6 := (F2.out.mono (fun _ _ h => .inl h)).trans tot (fun k hk e => .inr (by have e2 : k = g := e; omega))
      refine ⟨slKeep HB.out.pairs.sl tot0 (fun k hk hk2 e => ?_), fun y hy => ?_, HB.out.pairs.n⟩
      · rcases e with e | e
        · exact HB.out.ne (e ▸ hk)
        · omega
      · have hgy := HB.out.pairs.good y hy
        obtain ⟨y1, y2⟩ := HB.out.nk y hy
        exact ⟨slKeep hgy.K tot0 (fun k hk hk2 e => e.elim (fun e => y1 (e ▸ hk)) (fun e => by omega)), slKeep hgy.V tot0 (fun k hk hk2 e => e.elim (fun e => y2 (e ▸ hk)) (fun e => by omega)), hgy.lk, hgy.lv⟩
    · exact (F2.out.trans (S := fun k => k = b) F25.out (fun _ _ h => h.elim)).trans fs (fun k hk e => by omega)
    · rintro k (hk | hk)
      · have e : g1 = k := by simpa [Value.ownBlock] using hk
        have := H1.out; omega
      · have e : g2 = k := by simpa [Value.ownBlock] using hk
        have := G1.out; omega
end Go.Proofs.Ytdnohhlgaaihmaa
