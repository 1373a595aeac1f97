/- package buffer: Back to a mark. -/
import Derived.Test.YtdnohhlgaaihmaaBackw
import Derived.Test.YtdnohhlgaaihmaaBuf5
namespace Go.Proofs.Ytdnohhlgaaihmaa
open Go.RowKit Go.Shelf
attribute [local go_sem] Oper.semAt_some

/-- Changes undone, the newest first. -/
def backs (us : List Und) (l : List SpV) : List SpV := us.foldl (fun l u => u.back l) l
theorem backs_succ (us : List Und) (l : List SpV) (k : Nat) (h : k < us.length) : backs (us.take (k + 1)) l = us[k].back (backs (us.take k) l) := by
  unfold backs
  rw [List.take_succ_eq_append_getElem h, List.foldl_append]; rfl
theorem back_sub (u : Und) (l : List SpV) : ∀ x ∈ u.back l, x ∈ l ∨ ∀ k, BlC x k → u.blk k := by
  intro x hx
  cases u with
  | set bw bx bi i was =>
    rcases List.mem_or_eq_of_mem_set hx with h | rfl
    · exact .inl h
    · exact .inr fun k hk => .inr (.inr (.inr hk))
  | ins bx bi i => exact .inl (List.mem_of_mem_eraseIdx hx)
theorem back_len (u : Und) (l : List SpV) : (u.back l).length ≤ l.length := by
  cases u with
  | set bw bx bi i was => simp [Und.back]
  | ins bx bi i => simp only [Und.back, List.length_eraseIdx]; split <;> omega

theorem Bb.kept {w w1 : World} {p : Nat} {lv uv : Value} {l : List SpV} {us0 us : List Und} {S : Nat → Prop} (h : Bb w p lv l uv us0 us) (f : Fr S w w1) (hn : ∀ k, BfF p lv l uv us k → ¬ S k) : Bb w1 p lv l uv us0 us :=
  ⟨f.heap h.at_ (hn p (.inl rfl)), h.row.kept f (fun k hk => hn k (.inr (.inl hk))), fun x hx => ⟨(h.good x hx).F.kept f (fun k hk => hn k (.inr (.inr (.inr (.inl ⟨x, hx, .inl hk⟩))))), (h.good x hx).T.kept f (fun k hk => hn k (.inr (.inr (.inr (.inl ⟨x, hx, .inr hk⟩))))), (h.good x hx).lf, (h.good x hx).lt⟩,
    h.undo.kept f (fun k hk => hn k (.inr (.inr (.inl hk)))), fun u hu => (h.uok u hu).kept f (fun k hk => hn k (.inr (.inr (.inr (.inr ⟨u, hu, hk⟩))))), h.ris, h.hist, h.nl, h.nu, h.lu, fun k hk => ⟨(h.apart k hk).1, (h.apart k hk).2.1, (h.apart k hk).2.2.1, Nat.lt_of_lt_of_le (h.apart k hk).2.2.2 f.size⟩⟩

/-- The state when k are undone; w0: where it began. -/
def BackI (w0 : World) (p : Nat) (lv uv : Value) (l : List SpV) (us : List Und) (k : Nat) (W : World) : Prop :=
  ∃ lv1 : Value, lv1.ownBlock = lv.ownBlock ∧ Bb W p lv1 (backs (us.take k) l) uv us (us.drop k) ∧ (backs (us.take k) l).length ≤ l.length ∧ (∀ j, BfF p lv1 (backs (us.take k) l) uv (us.drop k) j → BfF p lv l uv us j) ∧ Fr (fun j => j = p ∨ lv.ownBlock = some j) w0 W

theorem BackI.next {w0 W W' : World} {p : Nat} {lv uv lv1 lv2 : Value} {l : List SpV} {us : List Und} {k : Nat} (hk : k < us.length) (h1 : lv1.ownBlock = lv.ownBlock) (h3 : (backs (us.take k) l).length ≤ l.length)
    (h4 : ∀ j, BfF p lv1 (backs (us.take k) l) uv (us.drop k) j → BfF p lv l uv us j) (h5 : Fr (fun j => j = p ∨ lv.ownBlock = some j) w0 W) (q1 : lv2.ownBlock = lv1.ownBlock) (q2 : Bb W' p lv2 (us[k].back (backs (us.take k) l)) uv us (us.drop (k + 1))) (q3 : Fr (fun j => j = p ∨ lv1.ownBlock = some j) W W') : BackI w0 p lv uv l us (k + 1) W' := by
  refine ⟨lv2, q1.trans h1, by rw [backs_succ us l k hk]; exact q2, by rw [backs_succ us l k hk]; exact Nat.le_trans (back_len _ _) h3, fun j hj => h4 j ?_, h5.trans q3 (fun j _ e => by rw [h1] at e; exact e)⟩
  rw [backs_succ us l k hk] at hj
  rw [List.drop_eq_getElem_cons hk]
  rcases hj with h | h | h | ⟨x, hx, hb⟩ | ⟨u, hu, hb⟩
  · exact .inl h
  · exact .inr (.inl (by rw [← q1]; exact h))
  · exact .inr (.inr (.inl h))
  · rcases back_sub _ _ x hx with h2 | h2
    · exact .inr (.inr (.inr (.inl ⟨x, h2, hb⟩)))
    · exact .inr (.inr (.inr (.inr ⟨_, List.mem_cons_self .., h2 j hb⟩)))
  · exact .inr (.inr (.inr (.inr ⟨u, List.mem_cons_of_mem _ hu, hb⟩)))

/-- What Back leaves. -/
def BackP (w w' : World) (p : Nat) (lv uv : Value) (l : List SpV) (us : List Und) (m : Nat) (e : Ending) : Prop :=
  e = .returned (.int .u16 0) ∧ ∃ lv1 uv1 : Value, Bf w' p lv1 (backs (us.take (us.length - m)) l) uv1 (us.drop (us.length - m)) ∧ (∀ j, BfF p lv1 (backs (us.take (us.length - m)) l) uv1 (us.drop (us.length - m)) j → BfF p lv l uv us j) ∧ Fr (fun j => j = p ∨ lv.ownBlock = some j) w w'

theorem clipf_any (w : World) (A : Option Addr) (n c : Nat) (hc : n ≤ c) : Calls Try.prog 71 #[.slice A n c] w fun e w' => e = .returned (.slice A n n) ∧ w' = w := by
  go_enter Try.func71, Try.ntmps71
  cases A <;> (go_wp2; go_ret; exact ⟨rfl, rfl⟩)

set_option maxRecDepth 100000 in
set_option maxHeartbeats 4000000 in
theorem back_err (w : World) (p : Nat) (lv uv : Value) (l : List SpV) (us : List Und) (m : Int) (hb : Bf w p lv l uv us) (hm : m < 0 ∨ (us.length : Int) < m) (h1 : -9223372036854775808 ≤ m) (h2 : m ≤ 9223372036854775807) :
    Calls Try.prog 32 #[.pointer (some ⟨p, 0, none⟩), .int .i64 m] w fun e w' => e = .returned (.int .u16 1) ∧ w' = w := by
  obtain ⟨A, c, rfl, hnc, hcm⟩ := hb.undo.form
  obtain ⟨b0, b1, bz, blt⟩ := two_cells hb.at_
  unfold maxLen at hcm
  clear hb
  by_cases h0 : m < 0
  · have d1 : decide (m < 0) = true := decide_eq_true h0
    go_enter Try.func32, Try.ntmps32
    go_wp2
    go_ret
    exact ⟨rfl, rfl⟩
  · have d1 : decide (m < 0) = false := decide_eq_false h0
    have d2 : decide ((us.length : Int) < m) = true := decide_eq_true (by omega)
    have d3 : (0 : Int) ≤ m := by omega
    clear hm h0
    go_enter Try.func32, Try.ntmps32
    go_wp2
    go_ret
    exact ⟨rfl, rfl⟩

theorem ow_front {w : World} {e : TypeId} {A : Option Addr} {n c m : Nat} {xs : List Value} (h : Ow w e 1 (.slice A n c) n xs) (hm : m ≤ n) : Ow w e 1 (.slice A m m) m (xs.take m) := by
  refine ⟨by rw [List.length_take, h.1]; omega, ?_⟩
  rcases h.2 with ⟨h1, h2⟩ | ⟨g, cap, cur, h1, h2, h3, h4, h5, h6⟩
  · simp only [Value.slice.injEq] at h1
    obtain ⟨rfl, rfl, rfl⟩ := h1
    obtain rfl : m = 0 := by omega
    exact .inl ⟨rfl, rfl⟩
  · simp only [Value.slice.injEq] at h1
    obtain ⟨rfl, -, rfl⟩ := h1
    refine .inr ⟨g, m, cur, rfl, h2, Nat.le_refl _, by omega, by omega, ?_⟩
    rw [← h6, Nat.mul_one, Nat.mul_one, List.take_take, Nat.min_eq_left (by omega)]

/-- Behind the rounds: the undo list is cut. -/
theorem back_out {w W w1 : World} {p : Nat} {lv lv1 : Value} {A : Option Addr} {c : Nat} {l : List SpV} {us : List Und} {m D : Nat} (hb : Bf w p lv l (.slice A us.length c) us) (_ : Fr no w w1) (hD : w.heap.size ≤ D) (hm : m ≤ us.length)
    (_ : lv1.ownBlock = lv.ownBlock) (q2 : Bb W p lv1 (backs (us.take (us.length - m)) l) (.slice A us.length c) us (us.drop (us.length - m))) (q4 : ∀ j, BfF p lv1 (backs (us.take (us.length - m)) l) (.slice A us.length c) (us.drop (us.length - m)) j → BfF p lv l (.slice A us.length c) us j)
    (q5 : Fr (fun j => j = p ∨ lv.ownBlock = some j) w W) : BackP w ((W.setCell ⟨p, 1, none⟩ (.slice A m m)).putObj D (.deferred none)) p lv (.slice A us.length c) l us m (.returned (.int .u16 0)) := by
  have hob : (Value.slice A m m).ownBlock = (Value.slice A us.length c).ownBlock := by cases A <;> rfl
  have f1 : Fr (fun k => k = p) W (W.setCell ⟨p, 1, none⟩ (.slice A m m)) := Fr.setCell (Fr.refl (fun k => k = p) W) ⟨p, 1, none⟩ _ (fun _ => rfl)
  have ha := hp_same q2.at_ 1 (.slice A m m)
  have hnp : ∀ k, ((∃ x ∈ backs (us.take (us.length - m)) l, BlC x k) ∨ ∃ u ∈ us.drop (us.length - m), u.blk k) → ¬ k = p := fun k hk => (q2.apart k hk).1
  have hbf1 : Bf (W.setCell ⟨p, 1, none⟩ (.slice A m m)) p lv1 (backs (us.take (us.length - m)) l) (.slice A m m) (us.drop (us.length - m)) := by
    refine ⟨ha, q2.row.kept f1 (fun k hk e => q2.nl (by rw [← e]; exact hk)), fun x hx => ⟨(q2.good x hx).F.kept f1 (fun k hk => hnp k (.inl ⟨x, hx, .inl hk⟩)), (q2.good x hx).T.kept f1 (fun k hk => hnp k (.inl ⟨x, hx, .inr hk⟩)), (q2.good x hx).lf, (q2.good x hx).lt⟩, ?_,
      fun u hu => (q2.uok u hu).kept f1 (fun k hk => hnp k (.inr ⟨u, hu, hk⟩)), q2.ris, q2.hist, q2.nl, by rw [hob]; exact q2.nu, fun k hk => by rw [hob]; exact q2.lu k hk, fun k hk => ?_⟩
    · have h1 := ow_front (q2.undo.kept f1 (fun k hk e => q2.nu (by rw [← e]; exact hk))) hm
      rw [List.length_drop, show us.length - (us.length - m) = m by omega]
      have e : (us.reverse.map Und.val).take m = (us.drop (us.length - m)).reverse.map Und.val := by
        rw [← List.map_take, List.take_reverse]
      rwa [e] at h1
    · have := q2.apart k hk
      exact ⟨this.1, this.2.1, by rw [hob]; exact this.2.2.1, Nat.lt_of_lt_of_le this.2.2.2 f1.size⟩
  have hsub : ∀ j, BfF p lv1 (backs (us.take (us.length - m)) l) (.slice A m m) (us.drop (us.length - m)) j → BfF p lv l (.slice A us.length c) us j := fun j hj => q4 j (by
    rcases hj with h | h | h | h
    · exact .inl h
    · exact .inr (.inl h)
    · exact .inr (.inr (.inl (by rw [← hob]; exact h)))
    · exact .inr (.inr (.inr h)))
  have f2 := fr_putObj (W.setCell ⟨p, 1, none⟩ (.slice A m m)) D (.deferred none)
  refine ⟨rfl, lv1, .slice A m m, hbf1.kept f2 (fun k hk e => ?_), hsub, (q5.trans f1 (fun k _ e => .inl e)).trans f2 (fun k hk e => ?_)⟩
  · have := hb.lt k (hsub k hk); have e2 : k = D := e; omega
  · have e2 : k = D := e; omega

set_option maxRecDepth 100000 in
set_option maxHeartbeats 4000000 in
theorem back_any (w : World) (p : Nat) (lv uv : Value) (l : List SpV) (us : List Und) (m : Nat) (hb : Bf w p lv l uv us) (hm : m ≤ us.length) (hl : l.length ≤ 100000) (hu : us.length ≤ 100000) :
    Calls Try.prog 32 #[.pointer (some ⟨p, 0, none⟩), .int .i64 m] w fun e w' => BackP w w' p lv uv l us m e := by
  have d1 : decide ((m : Int) < 0) = false := decide_eq_false (by omega)
  have d2 : decide (us.length < m) = false := decide_eq_false (by omega)
  obtain ⟨A, c, rfl, hnc, hcm⟩ := hb.undo.form
  obtain ⟨b0, b1, bz, blt⟩ := two_cells hb.at_
  have hA : c ≠ m → ∃ g2, A = some ⟨g2, 0, none⟩ ∧ g2 < w.heap.size := fun h => by
    rcases hb.undo.2 with ⟨h1, h2⟩ | ⟨g2, cap, cur, h1, h2, _⟩
    · simp only [Value.slice.injEq] at h1; omega
    · simp only [Value.slice.injEq] at h1; exact ⟨g2, h1.1, (Array.getElem?_eq_some_iff.1 h2).1⟩
  have hsl := hb.undo.sl
  have HB := Lib.hid hb; have HSL := Lib.hid hsl; clear hb hsl
  unfold maxLen at hcm
  refine (callsIn_wide (n := 10)).1 ?_
  refine callsIn_of_wp_marks Try.func32 rfl trivial ?_ rfl
  simp only [Try.ntmps32, List.size_toArray, List.length_cons, List.length_nil, Nat.reduceAdd, Nat.reduceSub, Array.replicate_succ, Array.replicate_zero, List.push_toArray, List.append_toArray, List.nil_append, List.cons_append]
  by_cases hc1 : c = m
  · have hnm : us.length = m := by omega
    gi_wp2_with (fail)
    refine ⟨trivial, (callsIn_wide.2 (backwf_any _ _ _ _)).mono ?_⟩
    rintro e w1 ⟨rfl, rfl⟩
    gi_wp2_with (fail)
    have hN := heap_alloc_new w (.cells #[.slice A 0 0] 110)
    have hf := (Fr.refl no w).alloc (.cells #[.slice A 0 0] 110)
    have hsz : (w.alloc (.cells #[.slice A 0 0] 110)).heap.size = w.heap.size + 1 := World.size_alloc _ _
    generalize hg1 : w.heap.size = g1 at hN hsz ⊢
    generalize w.alloc (.cells #[.slice A 0 0] 110) = w1 at hN hf hsz ⊢
    have HF := Lib.hid hf; have HSZ := Lib.hid hsz; have HG1 := Lib.hid hg1
    refine wpIn_range_at (P := Try.prog) (by omega) (gf := 131) (lb := #[.pointer (some ⟨g1, 0, none⟩)]) rfl (enters_of Try.func131 (by kernel_rfl) rfl) (encs := encIV) (xs := backL []) (Kp := keepB g1 g1)
      (backw_nil _ w1 A g1 0 g1 hN) (fun _ => rfl) (fun h k => ⟨k.1.trans h.1, k.2.trans h.2⟩) (fun W o' => ⟨World.putObj_heap_other (by omega), World.putObj_heap_other (by omega)⟩)
      (BackI w p lv (.slice A us.length c) l us) (fun _ _ => False) ?hI2 (fun _ _ _ h _ => h) ?h02 ?a12 ?assign2 ?body2 ?done2 (fun _ _ h => h.elim)
    case assign2 =>
      intro l x W K hK
      simp only [encIV]
      gi_wp2
      exact hK
    case hI2 =>
      rintro i A B ⟨lv1, q1, q2, q3, q4, q5⟩ f
      have hlt : ∀ k, BfF p lv l (.slice _ us.length c) us k → k < w.heap.size := fun k hk => HB.out.lt k hk
      refine ⟨lv1, q1, q2.kept f (fun k hk e => ?_), q3, q4, q5.trans f (fun k hk e => ?_)⟩
      · have := hlt k (q4 k hk); have := HG1.out; have := HSZ.out; rcases e with e | e <;> omega
      · have := HG1.out; have := HSZ.out; exfalso; rcases e with e | e <;> omega
    case h02 => exact ⟨lv, rfl, (HB.out.kept0 HF.out).bb, Nat.le_refl _, fun _ h => h, HF.out.mono (fun _ _ h => h.elim)⟩
    case body2 => intro l i hi; exact absurd hi (Nat.not_lt_zero _)
    case done2 =>
      rintro W ⟨lv1, q1, q2, q3, q4, q5⟩ hW hD
      rw [show (backL []).length = us.length - m by rw [hnm, Nat.sub_self]; rfl] at q2 q3 q4
      rw [HSZ.out] at hD
      obtain ⟨b0, b1, bz, blt⟩ := two_cells q2.at_
      have Q1 := Lib.hid q1; have Q2 := Lib.hid q2; have Q4 := Lib.hid q4; have Q5 := Lib.hid q5; have HD := Lib.hid hD
      clear q1 q2 q3 q4 q5
      gi_wp2_with (fail)
      refine ⟨trivial, (callsIn_wide.2 (clipf_any _ _ _ _ (by omega))).mono ?_⟩
      rintro e W2 ⟨rfl, rfl⟩
      gi_wp2
      have hD2 := (Fr.setCell (Fr.refl (fun k => k = p) W2) ⟨p, 1, none⟩ (.slice A m m) (fun _ => rfl)).heap HD.out (fun e => by have e2 : g1 + 1 = p := e; have := HG1.out; have := HB.out.lt p (.inl rfl); omega)
      refine ⟨by simp, .inl ⟨_, _, rfl, run_takeDeferred hD2, ?_⟩⟩
      have hout := back_out (D := g1 + 1) HB.out HF.out (by have := HG1.out; omega) hm Q1.out Q2.out Q4.out Q5.out
      refine ⟨_, results_tmp rfl _ _ _, ?_⟩
      exact hout
  · obtain ⟨g2, rfl, hg2⟩ := hA hc1
    gi_wp2_with (fail)
    refine ⟨trivial, (callsIn_wide.2 (backwf_any _ _ _ _)).mono ?_⟩
    rintro e w1 ⟨rfl, rfl⟩
    gi_wp2_with (fail)
    have hN := heap_alloc_new w (.cells #[.slice (some ⟨g2, m, none⟩) (us.length - m) (c - m)] 110)
    have hf := (Fr.refl no w).alloc (.cells #[.slice (some ⟨g2, m, none⟩) (us.length - m) (c - m)] 110)
    have hsz : (w.alloc (.cells #[.slice (some ⟨g2, m, none⟩) (us.length - m) (c - m)] 110)).heap.size = w.heap.size + 1 := World.size_alloc _ _
    generalize hg1 : w.heap.size = g1 at hN hsz hg2 ⊢
    generalize w.alloc (.cells #[.slice (some ⟨g2, m, none⟩) (us.length - m) (c - m)] 110) = w1 at hN hf hsz ⊢
    obtain ⟨vals, hvals⟩ : ∃ vals, vals = (us.reverse.map Und.val).drop m := ⟨_, rfl⟩
    have hvl : vals.length = us.length - m := by rw [hvals]; simp
    have hv : ∀ i (h : i < us.length - m), ∃ h2 : i < (backL vals).length, (backL vals)[i] = (us.length - m - 1 - i, us[i].val) := fun i h => by
      obtain ⟨h2, e⟩ := backL_at vals (us.length - m - 1 - i) (by omega)
      have e2 : vals.length - 1 - (us.length - m - 1 - i) = i := by omega
      simp only [e2] at h2 e
      refine ⟨h2, e.trans ?_⟩
      congr 1
      simp only [hvals, List.getElem_drop, List.getElem_map, List.getElem_reverse]
      congr 2
      omega
    have hcs : ∀ j u, vals[j]? = some u → w1.cell? ⟨g2, m + j, none⟩ = some u := fun j u hu => by
      have h := HSL.out.kept0 hf
      rcases h.2 with ⟨_, h1, h2⟩ | ⟨b, o, cap, h1, _, _, h4⟩
      · simp only [Value.slice.injEq] at h1; omega
      · simp only [Value.slice.injEq, Option.some.injEq, Addr.mk.injEq, and_true, true_and] at h1
        obtain ⟨⟨rfl, rfl⟩, rfl⟩ := h1
        have := h4 (m + j) u (by rw [hvals, List.getElem?_drop] at hu; exact hu)
        rwa [Nat.zero_add] at this
    have HV := Lib.hid hv; have HVL := Lib.hid hvl; have HF := Lib.hid hf; have HSZ := Lib.hid hsz; have HG1 := Lib.hid hg1
    refine wpIn_range_at (P := Try.prog) (by omega) (gf := 131) (lb := #[.pointer (some ⟨g1, 0, none⟩)]) rfl (enters_of Try.func131 (by kernel_rfl) rfl) (encs := encIV) (xs := backL vals) (Kp := keepB g1 g2)
      (backw_iter _ (by omega) w1 g1 g2 m (us.length - m) (c - m) vals hvl (by omega) hN hcs) (fun _ => rfl) (fun h k => ⟨k.1.trans h.1, k.2.trans h.2⟩) (fun W o' => ⟨World.putObj_heap_other (by omega), World.putObj_heap_other (by omega)⟩)
      (BackI w p lv (.slice (some ⟨g2, 0, none⟩) us.length c) l us) (fun _ _ => False) ?hI (fun _ _ _ h _ => h) ?h0 ?a1 ?assign ?body ?done (fun _ _ h => h.elim)
    case assign =>
      intro l x W K hK
      simp only [encIV]
      gi_wp2
      exact hK
    case hI =>
      rintro i A B ⟨lv1, q1, q2, q3, q4, q5⟩ f
      have hlt : ∀ k, BfF p lv l (.slice (some ⟨g2, 0, none⟩) us.length c) us k → k < w.heap.size := fun k hk => HB.out.lt k hk
      refine ⟨lv1, q1, q2.kept f (fun k hk e => ?_), q3, q4, q5.trans f (fun k hk e => ?_)⟩
      · have := hlt k (q4 k hk); have := HG1.out; have := HSZ.out; rcases e with e | e <;> omega
      · have := HG1.out; have := HSZ.out; exfalso; rcases e with e | e <;> omega
    case h0 => exact ⟨lv, rfl, (HB.out.kept0 HF.out).bb, Nat.le_refl _, fun _ h => h, HF.out.mono (fun _ _ h => h.elim)⟩
    case body =>
      rintro ll i hi W ⟨lv1, q1, q2, q3, q4, q5⟩ hW
      have hi2 : i < us.length - m := by rw [backL_len, HVL.out] at hi; exact hi
      obtain ⟨h2, e⟩ := HV.out i hi2
      rw [e]
      have hlt : ∀ k, BfF p lv l (.slice (some ⟨g2, 0, none⟩) us.length c) us k → k < w.heap.size := fun k hk => HB.out.lt k hk
      have hq2 : Bb W p lv1 (backs (us.take i) l) (.slice (some ⟨g2, 0, none⟩) us.length c) us (us[i] :: us.drop (i + 1)) := by rw [← List.drop_eq_getElem_cons]; exact q2
      have hfin : ∀ (W' : World) (lv2 : Value), lv2.ownBlock = lv1.ownBlock → Bb W' p lv2 (us[i].back (backs (us.take i) l)) (.slice (some ⟨g2, 0, none⟩) us.length c) us (us.drop (i + 1)) → Fr (fun j => j = p ∨ lv1.ownBlock = some j) W W' →
          (∀ k, twoB w1 k → W'.heap[k]? = W.heap[k]?) ∧ keepB g1 g2 W W' ∧ BackI w p lv (.slice (some ⟨g2, 0, none⟩) us.length c) l us (i + 1) W' := fun W' lv2 z1 z2 z3 => by
        have hno : ∀ k, k < W.heap.size → k ≠ p → lv.ownBlock ≠ some k → W'.heap[k]? = W.heap[k]? := fun k hk h1 h2 => z3.block k hk (fun e => by rcases e with e | e; exact h1 e; rw [q1] at e; exact h2 e)
        have s0 := HG1.out; have s1 := HSZ.out
        have hp := hlt p (.inl rfl)
        have hlv : ∀ k, lv.ownBlock = some k → k < w.heap.size := fun k hk => hlt k (.inr (.inl hk))
        refine ⟨fun k hk => hno k (by rcases hk with h | h <;> omega) (by rcases hk with h | h <;> omega) (fun e => by have := hlv k e; rcases hk with h | h <;> omega), ⟨hno g1 (by omega) (by omega) (fun e => by have := hlv g1 e; omega), hno g2 (by omega) (fun e => HB.out.nu (by rw [← e]; rfl)) (fun e => HB.out.lu g2 e rfl)⟩, ?_⟩
        exact BackI.next (by omega) q1 q3 q4 q5 z1 z2 z3
      have HFIN := Lib.hid hfin; have HQ2 := Lib.hid hq2; have Q3 := Lib.hid q3
      clear hfin hq2 q1 q2 q4 q5 e h2 hlt q3
      generalize us[i] = u at HFIN HQ2 ⊢
      cases u with
      | set bw bx bi k was =>
        simp only [Und.val]
        gi_wp2_with (fail)
        refine ⟨trivial, (CallsIn.inRound ll (callsIn_wide.2 (undo_set W p lv1 _ _ us (us.drop (i + 1)) bw bx bi k was HQ2.out))).mono ?_⟩
        rintro e W' ⟨rfl, lv2, z1, z2, z3⟩
        gi_wp2
        exact HFIN.out W' lv2 z1 z2 z3
      | ins bx bi k =>
        simp only [Und.val]
        gi_wp2_with (fail)
        refine ⟨trivial, (CallsIn.inRound ll (callsIn_wide.2 (undo_ins W p lv1 _ _ us (us.drop (i + 1)) bx bi k HQ2.out (by have := Q3.out; omega)))).mono ?_⟩
        rintro e W' ⟨rfl, lv2, z1, z2, z3⟩
        gi_wp2
        exact HFIN.out W' lv2 z1 z2 z3
    case done =>
      rintro W ⟨lv1, q1, q2, q3, q4, q5⟩ hW hD
      rw [show (backL vals).length = us.length - m by rw [backL_len, HVL.out]] at q2 q3 q4
      rw [HSZ.out] at hD
      obtain ⟨b0, b1, bz, blt⟩ := two_cells q2.at_
      have Q1 := Lib.hid q1; have Q2 := Lib.hid q2; have Q4 := Lib.hid q4; have Q5 := Lib.hid q5; have HD := Lib.hid hD
      clear q1 q2 q3 q4 q5
      gi_wp2_with (fail)
      refine ⟨trivial, (callsIn_wide.2 (clipf_any _ _ _ _ (by omega))).mono ?_⟩
      rintro e W2 ⟨rfl, rfl⟩
      gi_wp2
      have hD2 := (Fr.setCell (Fr.refl (fun k => k = p) W2) ⟨p, 1, none⟩ (.slice (some ⟨g2, 0, none⟩) m m) (fun _ => rfl)).heap HD.out (fun e => by have e2 : g1 + 1 = p := e; have := HG1.out; have := HB.out.lt p (.inl rfl); omega)
      refine ⟨by simp, .inl ⟨_, _, rfl, run_takeDeferred hD2, ?_⟩⟩
      have hout := back_out (D := g1 + 1) HB.out HF.out (by have := HG1.out; omega) hm Q1.out Q2.out Q4.out Q5.out
      refine ⟨_, results_tmp rfl _ _ _, ?_⟩
      exact hout
end Go.Proofs.Ytdnohhlgaaihmaa
