import Derived.Test.YtdnohhlgaaihmaaMd23
import Derived.Test.YtdnohhlgaaihmaaMd09
import Derived.Test.YtdnohhlgaaihmaaMd03

/- slices.Backward at func(): what it hands out. -/
namespace Go.Proofs.Ytdnohhlgaaihmaa
open Go.RowKit Go.Shelf
attribute [local go_sem] Oper.semAt_some

/-- The places and values of a row, from its end on. -/
def backL (vals : List Value) : List (Nat × Value) := (vals.zipIdx.map fun p => (p.2, p.1)).reverse
theorem backL_len (vals : List Value) : (backL vals).length = vals.length := by simp [backL]
theorem backL_at (vals : List Value) (m : Nat) (h : m < vals.length) : ∃ h2 : vals.length - 1 - m < (backL vals).length, (backL vals)[vals.length - 1 - m] = (m, vals[m]) := by
  refine ⟨by rw [backL_len]; omega, ?_⟩
  simp only [backL, List.getElem_reverse, List.getElem_map, List.getElem_zipIdx, List.length_map, List.length_zipIdx, Nat.zero_add]
  have e : vals.length - 1 - (vals.length - 1 - m) = m := by omega
  simp only [e]

def encIV (x : Nat × Value) : Array Value := #[.int .i64 x.1, x.2]
/-- What the rounds must keep: the box of the slice, and its row. -/
def keepB (Bs b : Nat) (W W' : World) : Prop := W'.heap[Bs]? = W.heap[Bs]? ∧ W'.heap[b]? = W.heap[b]?

theorem backwf_any (w : World) (A : Option Addr) (n c : Nat) : Calls Try.prog 70 #[.slice A n c] w fun e w' => e = .returned (.func (.func 131) #[] #[.pointer (some ⟨w.heap.size, 0, none⟩)]) ∧ w' = w.alloc (.cells #[.slice A n c] 110) := by
  go_enter Try.func70, Try.ntmps70
  go_wp2
  go_ret
  exact ⟨rfl, rfl⟩

set_option maxRecDepth 100000 in
set_option maxHeartbeats 4000000 in
theorem backw_iter (n : Nat) (hn : 1 ≤ n) (w : World) (Bs b off len cap : Nat) (vals : List Value) (hl : vals.length = len) (hlen : len ≤ 1000000) (hB : w.heap[Bs]? = some (.cells #[.slice (some ⟨b, off, none⟩) len cap] 110 (0, 0)))
    (hc : ∀ j u, vals[j]? = some u → w.cell? ⟨b, off + j, none⟩ = some u) :
    IterAt n Try.prog 131 #[.pointer (some ⟨Bs, 0, none⟩)] encIV (backL vals) (keepB Bs b) w := by
  intro l J Jx W hW hJ hJx hY h0
  have hBs := hW.heap hB (fun h => h)
  have hcs : ∀ j u, vals[j]? = some u → W.cell? ⟨b, off + j, none⟩ = some u := fun j u hu => hW.cell (hc j u hu) (fun h => h)
  have HL := Lib.hid hl; have HC := Lib.hid hcs; have HBS := Lib.hid hBs; have HY := Lib.hid hY; have HJ := Lib.hid hJ
  clear hl hc hcs hBs hB hY hJ
  obtain ⟨b0, bz, blt⟩ := one_cell HBS.out
  refine callsIn_of_wp Try.func131 rfl trivial ?_ rfl
  simp only [Try.ntmps131, List.size_toArray, List.length_cons, List.length_nil, Nat.reduceAdd, Nat.reduceSub, Array.replicate_succ, Array.replicate_zero, List.push_toArray, List.append_toArray, List.nil_append, List.cons_append]
  gi_wp2
  gi_loopw [3] (fun i wr => ∃ k : Nat, k ≤ len ∧ i = .int .i64 ((k : Int) - 1) ∧ J (len - k) wr ∧ keepB Bs b W wr) (fun i _ => (intOf i + 1).toNat)
  case atStart => exact ⟨len, Nat.le_refl _, rfl, by rw [Nat.sub_self]; exact h0, rfl, rfl⟩
  case round =>
    obtain ⟨k, hk, rfl, hJs, hkp⟩ := hrel
    rcases k with _ | m
    · rw [show (((0 : Nat) : Int) - 1) = -1 from rfl]
      rw [show len - 0 = (backL vals).length by rw [backL_len, HL.out, Nat.sub_zero]] at hJs
      gi_wp2
      go_end0
      exact ⟨⟨_, rfl⟩, .inl hJs⟩
    · rw [show (((m + 1 : Nat) : Int) - 1) = (m : Int) by omega]
      have hm : m < vals.length := by rw [HL.out]; omega
      obtain ⟨h2, e⟩ := backL_at vals m hm
      have hy0 := HY.out (vals.length - 1 - m) h2 wr (by rw [show vals.length - 1 - m = len - (m + 1) by rw [HL.out]; omega]; exact hJs)
      rw [e, show vals.length - 1 - m + 1 = len - m by rw [HL.out]; omega] at hy0
      obtain ⟨fn, tmps, assign, body, hy, hR⟩ := hy0
      have hy : (Instr.yield l #[.int .i64 (m : Int), vals[m]]).run Try.prog wr = .ok (.round l fn tmps assign body) wr := hy
      obtain ⟨b0, bz, blt⟩ := one_cell (hkp.1.trans HBS.out)
      have v0 : wr.cell? ⟨b, off + m, none⟩ = some vals[m] := by
        have := HC.out m vals[m] (List.getElem?_eq_getElem hm)
        simpa only [World.cell?, hkp.2] using this
      have HR := Lib.hid hR; have HKP := Lib.hid hkp
      clear hR hJs e h2 hkp
      generalize vals[m] = v at hy v0 HR
      gi_wp2_with (fail)
      refine HR.out.mono ?_
      rintro e W3 (⟨rfl, hJ3, hk3⟩ | ⟨rfl, hJx3⟩)
      · gi_wp2
        go_roundw
        case rel => exact ⟨m, by omega, rfl, hJ3, hk3.1.trans HKP.out.1, hk3.2.trans HKP.out.2⟩
        case measure => simp [intOf]
      · gi_wp2
        refine bodyPost_ret (results_none rfl _ _ _) rfl ?_
        exact ⟨⟨_, rfl⟩, .inr hJx3⟩

/-- A row of nothing hands out nothing. -/
theorem backw_nil (n : Nat) (w : World) (A : Option Addr) (Bs cap b : Nat) (hB : w.heap[Bs]? = some (.cells #[.slice A 0 cap] 110 (0, 0))) :
    IterAt n Try.prog 131 #[.pointer (some ⟨Bs, 0, none⟩)] encIV (backL []) (keepB Bs b) w := by
  intro l J Jx W hW hJ hJx hY h0
  obtain ⟨b0, bz, blt⟩ := one_cell (hW.heap hB (fun h => h))
  clear hY hJ
  refine callsIn_of_wp Try.func131 rfl trivial ?_ rfl
  simp only [Try.ntmps131, List.size_toArray, List.length_cons, List.length_nil, Nat.reduceAdd, Nat.reduceSub, Array.replicate_succ, Array.replicate_zero, List.push_toArray, List.append_toArray, List.nil_append, List.cons_append]
  gi_wp2
  gi_loopw [3] (fun i wr => i = .int .i64 (-1) ∧ J 0 wr) (fun _ _ => 0)
  case atStart => exact ⟨rfl, h0⟩
  case round =>
    obtain ⟨rfl, hJs⟩ := hrel
    gi_wp2
    go_end0
    exact ⟨⟨_, rfl⟩, .inl hJs⟩
end Go.Proofs.Ytdnohhlgaaihmaa

/- package buffer: Back to a mark. -/
namespace Go.Proofs.Ytdnohhlgaaihmaa
open Go.RowKit Go.Shelf
attribute [local go_sem] Oper.semAt_some

/-- Changes undone, the newest first. -/
def backs (us : List Und) (l : List SpV) : List SpV := us.foldl (fun l u => u.back l) l
theorem backs_succ (us : List Und) (l : List SpV) (k : Nat) (h : k < us.length) : backs (us.take (k + 1)) l = us[k].back (backs (us.take k) l) := by
  unfold backs
  rw [List.take_succ_eq_append_getElem h, List.foldl_append]; rfl
theorem back_sub (u : Und) (l : List SpV) : ∀ x ∈ u.back l, x ∈ l ∨ ∀ k, BlC x k → u.blk k := by
  intro x hx
  cases u with
  | set bw bx bi i was =>
    rcases List.mem_or_eq_of_mem_set hx with h | rfl
    · exact .inl h
    · exact .inr fun k hk => .inr (.inr (.inr hk))
  | ins bx bi i => exact .inl (List.mem_of_mem_eraseIdx hx)
theorem back_len (u : Und) (l : List SpV) : (u.back l).length ≤ l.length := by
  cases u with
  | set bw bx bi i was => simp [Und.back]
  | ins bx bi i => simp only [Und.back, List.length_eraseIdx]; split <;> omega

theorem Bb.kept {w w1 : World} {p : Nat} {lv uv : Value} {l : List SpV} {us0 us : List Und} {S : Nat → Prop} (h : Bb w p lv l uv us0 us) (f : Fr S w w1) (hn : ∀ k, BfF p lv l uv us k → ¬ S k) : Bb w1 p lv l uv us0 us :=
  ⟨f.heap h.at_ (hn p (.inl rfl)), h.row.kept f (fun k hk => hn k (.inr (.inl hk))), fun x hx => ⟨(h.good x hx).F.kept f (fun k hk => hn k (.inr (.inr (.inr (.inl ⟨x, hx, .inl hk⟩))))), (h.good x hx).T.kept f (fun k hk => hn k (.inr (.inr (.inr (.inl ⟨x, hx, .inr hk⟩))))), (h.good x hx).lf, (h.good x hx).lt⟩,
    h.undo.kept f (fun k hk => hn k (.inr (.inr (.inl hk)))), fun u hu => (h.uok u hu).kept f (fun k hk => hn k (.inr (.inr (.inr (.inr ⟨u, hu, hk⟩))))), h.ris, h.hist, h.nl, h.nu, h.lu, fun k hk => ⟨(h.apart k hk).1, (h.apart k hk).2.1, (h.apart k hk).2.2.1, Nat.lt_of_lt_of_le (h.apart k hk).2.2.2 f.size⟩⟩

/-- The state when k are undone; w0: where it began. -/
def BackI (w0 : World) (p : Nat) (lv uv : Value) (l : List SpV) (us : List Und) (k : Nat) (W : World) : Prop :=
  ∃ lv1 : Value, lv1.ownBlock = lv.ownBlock ∧ Bb W p lv1 (backs (us.take k) l) uv us (us.drop k) ∧ (backs (us.take k) l).length ≤ l.length ∧ (∀ j, BfF p lv1 (backs (us.take k) l) uv (us.drop k) j → BfF p lv l uv us j) ∧ Fr (fun j => j = p ∨ lv.ownBlock = some j) w0 W

theorem BackI.next {w0 W W' : World} {p : Nat} {lv uv lv1 lv2 : Value} {l : List SpV} {us : List Und} {k : Nat} (hk : k < us.length) (h1 : lv1.ownBlock = lv.ownBlock) (h3 : (backs (us.take k) l).length ≤ l.length)
    (h4 : ∀ j, BfF p lv1 (backs (us.take k) l) uv (us.drop k) j → BfF p lv l uv us j) (h5 : Fr (fun j => j = p ∨ lv.ownBlock = some j) w0 W) (q1 : lv2.ownBlock = lv1.ownBlock) (q2 : Bb W' p lv2 (us[k].back (backs (us.take k) l)) uv us (us.drop (k + 1))) (q3 : Fr (fun j => j = p ∨ lv1.ownBlock = some j) W W') : BackI w0 p lv uv l us (k + 1) W' := by
  refine ⟨lv2, q1.trans h1, by rw [backs_succ us l k hk]; exact q2, by rw [backs_succ us l k hk]; exact Nat.le_trans (back_len _ _) h3, fun j hj => h4 j ?_, h5.trans q3 (fun j _ e => by rw [h1] at e; exact e)⟩
  rw [backs_succ us l k hk] at hj
  rw [List.drop_eq_getElem_cons hk]
  rcases hj with h | h | h | ⟨x, hx, hb⟩ | ⟨u, hu, hb⟩
  · exact .inl h
  · exact .inr (.inl (by rw [← q1]; exact h))
  · exact .inr (.inr (.inl h))
  · rcases back_sub _ _ x hx with h2 | h2
    · exact .inr (.inr (.inr (.inl ⟨x, h2, hb⟩)))
    · exact .inr (.inr (.inr (.inr ⟨_, List.mem_cons_self .., h2 j hb⟩)))
  · exact .inr (.inr (.inr (.inr ⟨u, List.mem_cons_of_mem _ hu, hb⟩)))

/-- What Back leaves. -/
def BackP (w w' : World) (p : Nat) (lv uv : Value) (l : List SpV) (us : List Und) (m : Nat) (e : Ending) : Prop :=
  e = .returned (.int .u16 0) ∧ ∃ lv1 uv1 : Value, Bf w' p lv1 (backs (us.take (us.length - m)) l) uv1 (us.drop (us.length - m)) ∧ (∀ j, BfF p lv1 (backs (us.take (us.length - m)) l) uv1 (us.drop (us.length - m)) j → BfF p lv l uv us j) ∧ Fr (fun j => j = p ∨ lv.ownBlock = some j) w w'

theorem clipf_any (w : World) (A : Option Addr) (n c : Nat) (hc : n ≤ c) : Calls Try.prog 71 #[.slice A n c] w fun e w' => e = .returned (.slice A n n) ∧ w' = w := by
  go_enter Try.func71, Try.ntmps71
  cases A <;> (go_wp2; go_ret; exact ⟨rfl, rfl⟩)

set_option maxRecDepth 100000 in
set_option maxHeartbeats 4000000 in
theorem back_err (w : World) (p : Nat) (lv uv : Value) (l : List SpV) (us : List Und) (m : Int) (hb : Bf w p lv l uv us) (hm : m < 0 ∨ (us.length : Int) < m) (h1 : -9223372036854775808 ≤ m) (h2 : m ≤ 9223372036854775807) :
    Calls Try.prog 32 #[.pointer (some ⟨p, 0, none⟩), .int .i64 m] w fun e w' => e = .returned (.int .u16 1) ∧ w' = w := by
  obtain ⟨A, c, rfl, hnc, hcm⟩ := hb.undo.form
  obtain ⟨b0, b1, bz, blt⟩ := two_cells hb.at_
  unfold maxLen at hcm
  clear hb
  by_cases h0 : m < 0
  · have d1 : decide (m < 0) = true := decide_eq_true h0
    go_enter Try.func32, Try.ntmps32
    go_wp2
    go_ret
    exact ⟨rfl, rfl⟩
  · have d1 : decide (m < 0) = false := decide_eq_false h0
    have d2 : decide ((us.length : Int) < m) = true := decide_eq_true (by omega)
    have d3 : (0 : Int) ≤ m := by omega
    clear hm h0
    go_enter Try.func32, Try.ntmps32
    go_wp2
    go_ret
    exact ⟨rfl, rfl⟩

theorem ow_front {w : World} {e : TypeId} {A : Option Addr} {n c m : Nat} {xs : List Value} (h : Ow w e 1 (.slice A n c) n xs) (hm : m ≤ n) : Ow w e 1 (.slice A m m) m (xs.take m) := by
  refine ⟨by rw [List.length_take, h.1]; omega, ?_⟩
  rcases h.2 with ⟨h1, h2⟩ | ⟨g, cap, cur, h1, h2, h3, h4, h5, h6⟩
  · simp only [Value.slice.injEq] at h1
    obtain ⟨rfl, rfl, rfl⟩ := h1
    obtain rfl : m = 0 := by omega
    exact .inl ⟨rfl, rfl⟩
  · simp only [Value.slice.injEq] at h1
    obtain ⟨rfl, -, rfl⟩ := h1
    refine .inr ⟨g, m, cur, rfl, h2, Nat.le_refl _, by omega, by omega, ?_⟩
    rw [← h6, Nat.mul_one, Nat.mul_one, List.take_take, Nat.min_eq_left (by omega)]

/-- Behind the rounds: the undo list is cut. -/
theorem back_out {w W w1 : World} {p : Nat} {lv lv1 : Value} {A : Option Addr} {c : Nat} {l : List SpV} {us : List Und} {m D : Nat} (hb : Bf w p lv l (.slice A us.length c) us) (_ : Fr no w w1) (hD : w.heap.size ≤ D) (hm : m ≤ us.length)
    (_ : lv1.ownBlock = lv.ownBlock) (q2 : Bb W p lv1 (backs (us.take (us.length - m)) l) (.slice A us.length c) us (us.drop (us.length - m))) (q4 : ∀ j, BfF p lv1 (backs (us.take (us.length - m)) l) (.slice A us.length c) (us.drop (us.length - m)) j → BfF p lv l (.slice A us.length c) us j)
    (q5 : Fr (fun j => j = p ∨ lv.ownBlock = some j) w W) : BackP w ((W.setCell ⟨p, 1, none⟩ (.slice A m m)).putObj D (.deferred none)) p lv (.slice A us.length c) l us m (.returned (.int .u16 0)) := by
  have hob : (Value.slice A m m).ownBlock = (Value.slice A us.length c).ownBlock := by cases A <;> rfl
  have f1 : Fr (fun k => k = p) W (W.setCell ⟨p, 1, none⟩ (.slice A m m)) := Fr.setCell (Fr.refl (fun k => k = p) W) ⟨p, 1, none⟩ _ (fun _ => rfl)
  have ha := hp_same q2.at_ 1 (.slice A m m)
  have hnp : ∀ k, ((∃ x ∈ backs (us.take (us.length - m)) l, BlC x k) ∨ ∃ u ∈ us.drop (us.length - m), u.blk k) → ¬ k = p := fun k hk => (q2.apart k hk).1
  have hbf1 : Bf (W.setCell ⟨p, 1, none⟩ (.slice A m m)) p lv1 (backs (us.take (us.length - m)) l) (.slice A m m) (us.drop (us.length - m)) := by
    refine ⟨ha, q2.row.kept f1 (fun k hk e => q2.nl (by rw [← e]; exact hk)), fun x hx => ⟨(q2.good x hx).F.kept f1 (fun k hk => hnp k (.inl ⟨x, hx, .inl hk⟩)), (q2.good x hx).T.kept f1 (fun k hk => hnp k (.inl ⟨x, hx, .inr hk⟩)), (q2.good x hx).lf, (q2.good x hx).lt⟩, ?_,
      fun u hu => (q2.uok u hu).kept f1 (fun k hk => hnp k (.inr ⟨u, hu, hk⟩)), q2.ris, q2.hist, q2.nl, by rw [hob]; exact q2.nu, fun k hk => by rw [hob]; exact q2.lu k hk, fun k hk => ?_⟩
    · have h1 := ow_front (q2.undo.kept f1 (fun k hk e => q2.nu (by rw [← e]; exact hk))) hm
      rw [List.length_drop, show us.length - (us.length - m) = m by omega]
      have e : (us.reverse.map Und.val).take m = (us.drop (us.length - m)).reverse.map Und.val := by
        rw [← List.map_take, List.take_reverse]
      rwa [e] at h1
    · have := q2.apart k hk
      exact ⟨this.1, this.2.1, by rw [hob]; exact this.2.2.1, Nat.lt_of_lt_of_le this.2.2.2 f1.size⟩
  have hsub : ∀ j, BfF p lv1 (backs (us.take (us.length - m)) l) (.slice A m m) (us.drop (us.length - m)) j → BfF p lv l (.slice A us.length c) us j := fun j hj => q4 j (by
    rcases hj with h | h | h | h
    · exact .inl h
    · exact .inr (.inl h)
    · exact .inr (.inr (.inl (by rw [← hob]; exact h)))
    · exact .inr (.inr (.inr h)))
  have f2 := fr_putObj (W.setCell ⟨p, 1, none⟩ (.slice A m m)) D (.deferred none)
  refine ⟨rfl, lv1, .slice A m m, hbf1.kept f2 (fun k hk e => ?_), hsub, (q5.trans f1 (fun k _ e => .inl e)).trans f2 (fun k hk e => ?_)⟩
  · have := hb.lt k (hsub k hk); have e2 : k = D := e; omega
  · have e2 : k = D := e; omega

set_option maxRecDepth 100000 in
set_option maxHeartbeats 4000000 in
theorem back_any (w : World) (p : Nat) (lv uv : Value) (l : List SpV) (us : List Und) (m : Nat) (hb : Bf w p lv l uv us) (hm : m ≤ us.length) (hl : l.length ≤ 100000) (hu : us.length ≤ 100000) :
    Calls Try.prog 32 #[.pointer (some ⟨p, 0, none⟩), .int .i64 m] w fun e w' => BackP w w' p lv uv l us m e := by
  have d1 : decide ((m : Int) < 0) = false := decide_eq_false (by omega)
  have d2 : decide (us.length < m) = false := decide_eq_false (by omega)
  obtain ⟨A, c, rfl, hnc, hcm⟩ := hb.undo.form
  obtain ⟨b0, b1, bz, blt⟩ := two_cells hb.at_
  have hA : c ≠ m → ∃ g2, A = some ⟨g2, 0, none⟩ ∧ g2 < w.heap.size := fun h => by
    rcases hb.undo.2 with ⟨h1, h2⟩ | ⟨g2, cap, cur, h1, h2, _⟩
    · simp only [Value.slice.injEq] at h1; omega
    · simp only [Value.slice.injEq] at h1; exact ⟨g2, h1.1, (Array.getElem?_eq_some_iff.1 h2).1⟩
  have hsl := hb.undo.sl
  have HB := Lib.hid hb; have HSL := Lib.hid hsl; clear hb hsl
  unfold maxLen at hcm
  refine (callsIn_wide (n := 10)).1 ?_
  refine callsIn_of_wp_marks Try.func32 rfl trivial ?_ rfl
  simp only [Try.ntmps32, List.size_toArray, List.length_cons, List.length_nil, Nat.reduceAdd, Nat.reduceSub, Array.replicate_succ, Array.replicate_zero, List.push_toArray, List.append_toArray, List.nil_append, List.cons_append]
  by_cases hc1 : c = m
  · have hnm : us.length = m := by omega
    gi_wp2_with (fail)
    refine ⟨trivial, (callsIn_wide.2 (backwf_any _ _ _ _)).mono ?_⟩
    rintro e w1 ⟨rfl, rfl⟩
    gi_wp2_with (fail)
    have hN := heap_alloc_new w (.cells #[.slice A 0 0] 110)
    have hf := (Fr.refl no w).alloc (.cells #[.slice A 0 0] 110)
    have hsz : (w.alloc (.cells #[.slice A 0 0] 110)).heap.size = w.heap.size + 1 := World.size_alloc _ _
    generalize hg1 : w.heap.size = g1 at hN hsz ⊢
    generalize w.alloc (.cells #[.slice A 0 0] 110) = w1 at hN hf hsz ⊢
    have HF := Lib.hid hf; have HSZ := Lib.hid hsz; have HG1 := Lib.hid hg1
    refine wpIn_range_at (P := Try.prog) (by omega) (gf := 131) (lb := #[.pointer (some ⟨g1, 0, none⟩)]) rfl (enters_of Try.func131 (by kernel_rfl) rfl) (encs := encIV) (xs := backL []) (Kp := keepB g1 g1)
      (backw_nil _ w1 A g1 0 g1 hN) (fun _ => rfl) (fun h k => ⟨k.1.trans h.1, k.2.trans h.2⟩) (fun W o' => ⟨World.putObj_heap_other (by omega), World.putObj_heap_other (by omega)⟩)
      (BackI w p lv (.slice A us.length c) l us) (fun _ _ => False) ?hI2 (fun _ _ _ h _ => h) ?h02 ?a12 ?assign2 ?body2 ?done2 (fun _ _ h => h.elim)
    case assign2 =>
      intro l x W K hK
      simp only [encIV]
      gi_wp2
      exact hK
    case hI2 =>
      rintro i A B ⟨lv1, q1, q2, q3, q4, q5⟩ f
      have hlt : ∀ k, BfF p lv l (.slice _ us.length c) us k → k < w.heap.size := fun k hk => HB.out.lt k hk
      refine ⟨lv1, q1, q2.kept f (fun k hk e => ?_), q3, q4, q5.trans f (fun k hk e => ?_)⟩
      · have := hlt k (q4 k hk); have := HG1.out; have := HSZ.out; rcases e with e | e <;> omega
      · have := HG1.out; have := HSZ.out; exfalso; rcases e with e | e <;> omega
    case h02 => exact ⟨lv, rfl, (HB.out.kept0 HF.out).bb, Nat.le_refl _, fun _ h => h, HF.out.mono (fun _ _ h => h.elim)⟩
    case body2 => intro l i hi; exact absurd hi (Nat.not_lt_zero _)
    case done2 =>
      rintro W ⟨lv1, q1, q2, q3, q4, q5⟩ hW hD
      rw [show (backL []).length = us.length - m by rw [hnm, Nat.sub_self]; rfl] at q2 q3 q4
      rw [HSZ.out] at hD
      obtain ⟨b0, b1, bz, blt⟩ := two_cells q2.at_
      have Q1 := Lib.hid q1; have Q2 := Lib.hid q2; have Q4 := Lib.hid q4; have Q5 := Lib.hid q5; have HD := Lib.hid hD
      clear q1 q2 q3 q4 q5
      gi_wp2_with (fail)
      refine ⟨trivial, (callsIn_wide.2 (clipf_any _ _ _ _ (by omega))).mono ?_⟩
      rintro e W2 ⟨rfl, rfl⟩
      gi_wp2
      have hD2 := (Fr.setCell (Fr.refl (fun k => k = p) W2) ⟨p, 1, none⟩ (.slice A m m) (fun _ => rfl)).heap HD.out (fun e => by have e2 : g1 + 1 = p := e; have := HG1.out; have := HB.out.lt p (.inl rfl); omega)
      refine ⟨by simp, .inl ⟨_, _, rfl, run_takeDeferred hD2, ?_⟩⟩
      have hout := back_out (D := g1 + 1) HB.out HF.out (by have := HG1.out; omega) hm Q1.out Q2.out Q4.out Q5.out
      refine ⟨_, results_tmp rfl _ _ _, ?_⟩
      exact hout
  · obtain ⟨g2, rfl, hg2⟩ := hA hc1
    gi_wp2_with (fail)
    refine ⟨trivial, (callsIn_wide.2 (backwf_any _ _ _ _)).mono ?_⟩
    rintro e w1 ⟨rfl, rfl⟩
    gi_wp2_with (fail)
    have hN := heap_alloc_new w (.cells #[.slice (some ⟨g2, m, none⟩) (us.length - m) (c - m)] 110)
    have hf := (Fr.refl no w).alloc (.cells #[.slice (some ⟨g2, m, none⟩) (us.length - m) (c - m)] 110)
    have hsz : (w.alloc (.cells #[.slice (some ⟨g2, m, none⟩) (us.length - m) (c - m)] 110)).heap.size = w.heap.size + 1 := World.size_alloc _ _
    generalize hg1 : w.heap.size = g1 at hN hsz hg2 ⊢
    generalize w.alloc (.cells #[.slice (some ⟨g2, m, none⟩) (us.length - m) (c - m)] 110) = w1 at hN hf hsz ⊢
    obtain ⟨vals, hvals⟩ : ∃ vals, vals = (us.reverse.map Und.val).drop m := ⟨_, rfl⟩
    have hvl : vals.length = us.length - m := by rw [hvals]; simp
    have hv : ∀ i (h : i < us.length - m), ∃ h2 : i < (backL vals).length, (backL vals)[i] = (us.length - m - 1 - i, us[i].val) := fun i h => by
      obtain ⟨h2, e⟩ := backL_at vals (us.length - m - 1 - i) (by omega)
      have e2 : vals.length - 1 - (us.length - m - 1 - i) = i := by omega
      simp only [e2] at h2 e
      refine ⟨h2, e.trans ?_⟩
      congr 1
      simp only [hvals, List.getElem_drop, List.getElem_map, List.getElem_reverse]
      congr 2
      omega
    have hcs : ∀ j u, vals[j]? = some u → w1.cell? ⟨g2, m + j, none⟩ = some u := fun j u hu => by
      have h := HSL.out.kept0 hf
      rcases h.2 with ⟨_, h1, h2⟩ | ⟨b, o, cap, h1, _, _, h4⟩
      · simp only [Value.slice.injEq] at h1; omega
      · simp only [Value.slice.injEq, Option.some.injEq, Addr.mk.injEq, and_true, true_and] at h1
        obtain ⟨⟨rfl, rfl⟩, rfl⟩ := h1
        have := h4 (m + j) u (by rw [hvals, List.getElem?_drop] at hu; exact hu)
        rwa [Nat.zero_add] at this
    have HV := Lib.hid hv; have HVL := Lib.hid hvl; have HF := Lib.hid hf; have HSZ := Lib.hid hsz; have HG1 := Lib.hid hg1
    refine wpIn_range_at (P := Try.prog) (by omega) (gf := 131) (lb := #[.pointer (some ⟨g1, 0, none⟩)]) rfl (enters_of Try.func131 (by kernel_rfl) rfl) (encs := encIV) (xs := backL vals) (Kp := keepB g1 g2)
      (backw_iter _ (by omega) w1 g1 g2 m (us.length - m) (c - m) vals hvl (by omega) hN hcs) (fun _ => rfl) (fun h k => ⟨k.1.trans h.1, k.2.trans h.2⟩) (fun W o' => ⟨World.putObj_heap_other (by omega), World.putObj_heap_other (by omega)⟩)
      (BackI w p lv (.slice (some ⟨g2, 0, none⟩) us.length c) l us) (fun _ _ => False) ?hI (fun _ _ _ h _ => h) ?h0 ?a1 ?assign ?body ?done (fun _ _ h => h.elim)
    case assign =>
      intro l x W K hK
      simp only [encIV]
      gi_wp2
      exact hK
    case hI =>
      rintro i A B ⟨lv1, q1, q2, q3, q4, q5⟩ f
      have hlt : ∀ k, BfF p lv l (.slice (some ⟨g2, 0, none⟩) us.length c) us k → k < w.heap.size := fun k hk => HB.out.lt k hk
      refine ⟨lv1, q1, q2.kept f (fun k hk e => ?_), q3, q4, q5.trans f (fun k hk e => ?_)⟩
      · have := hlt k (q4 k hk); have := HG1.out; have := HSZ.out; rcases e with e | e <;> omega
      · have := HG1.out; have := HSZ.out; exfalso; rcases e with e | e <;> omega
    case h0 => exact ⟨lv, rfl, (HB.out.kept0 HF.out).bb, Nat.le_refl _, fun _ h => h, HF.out.mono (fun _ _ h => h.elim)⟩
    case body =>
      rintro ll i hi W ⟨lv1, q1, q2, q3, q4, q5⟩ hW
      have hi2 : i < us.length - m := by rw [backL_len, HVL.out] at hi; exact hi
      obtain ⟨h2, e⟩ := HV.out i hi2
      rw [e]
      have hlt : ∀ k, BfF p lv l (.slice (some ⟨g2, 0, none⟩) us.length c) us k → k < w.heap.size := fun k hk => HB.out.lt k hk
      have hq2 : Bb W p lv1 (backs (us.take i) l) (.slice (some ⟨g2, 0, none⟩) us.length c) us (us[i] :: us.drop (i + 1)) := by rw [← List.drop_eq_getElem_cons]; exact q2
      have hfin : ∀ (W' : World) (lv2 : Value), lv2.ownBlock = lv1.ownBlock → Bb W' p lv2 (us[i].back (backs (us.take i) l)) (.slice (some ⟨g2, 0, none⟩) us.length c) us (us.drop (i + 1)) → Fr (fun j => j = p ∨ lv1.ownBlock = some j) W W' →
          (∀ k, twoB w1 k → W'.heap[k]? = W.heap[k]?) ∧ keepB g1 g2 W W' ∧ BackI w p lv (.slice (some ⟨g2, 0, none⟩) us.length c) l us (i + 1) W' := fun W' lv2 z1 z2 z3 => by
        have hno : ∀ k, k < W.heap.size → k ≠ p → lv.ownBlock ≠ some k → W'.heap[k]? = W.heap[k]? := fun k hk h1 h2 => z3.block k hk (fun e => by rcases e with e | e; exact h1 e; rw [q1] at e; exact h2 e)
        have s0 := HG1.out; have s1 := HSZ.out
        have hp := hlt p (.inl rfl)
        have hlv : ∀ k, lv.ownBlock = some k → k < w.heap.size := fun k hk => hlt k (.inr (.inl hk))
        refine ⟨fun k hk => hno k (by rcases hk with h | h <;> omega) (by rcases hk with h | h <;> omega) (fun e => by have := hlv k e; rcases hk with h | h <;> omega), ⟨hno g1 (by omega) (by omega) (fun e => by have := hlv g1 e; omega), hno g2 (by omega) (fun e => HB.out.nu (by rw [← e]; rfl)) (fun e => HB.out.lu g2 e rfl)⟩, ?_⟩
        exact BackI.next (by omega) q1 q3 q4 q5 z1 z2 z3
      have HFIN := Lib.hid hfin; have HQ2 := Lib.hid hq2; have Q3 := Lib.hid q3
      clear hfin hq2 q1 q2 q4 q5 e h2 hlt q3
      generalize us[i] = u at HFIN HQ2 ⊢
      cases u with
      | set bw bx bi k was =>
        simp only [Und.val]
        gi_wp2_with (fail)
        refine ⟨trivial, (CallsIn.inRound ll (callsIn_wide.2 (undo_set W p lv1 _ _ us (us.drop (i + 1)) bw bx bi k was HQ2.out))).mono ?_⟩
        rintro e W' ⟨rfl, lv2, z1, z2, z3⟩
        gi_wp2
        exact HFIN.out W' lv2 z1 z2 z3
      | ins bx bi k =>
        simp only [Und.val]
        gi_wp2_with (fail)
        refine ⟨trivial, (CallsIn.inRound ll (callsIn_wide.2 (undo_ins W p lv1 _ _ us (us.drop (i + 1)) bx bi k HQ2.out (by have := Q3.out; omega)))).mono ?_⟩
        rintro e W' ⟨rfl, lv2, z1, z2, z3⟩
        gi_wp2
        exact HFIN.out W' lv2 z1 z2 z3
    case done =>
      rintro W ⟨lv1, q1, q2, q3, q4, q5⟩ hW hD
      rw [show (backL vals).length = us.length - m by rw [backL_len, HVL.out]] at q2 q3 q4
      rw [HSZ.out] at hD
      obtain ⟨b0, b1, bz, blt⟩ := two_cells q2.at_
      have Q1 := Lib.hid q1; have Q2 := Lib.hid q2; have Q4 := Lib.hid q4; have Q5 := Lib.hid q5; have HD := Lib.hid hD
      clear q1 q2 q3 q4 q5
      gi_wp2_with (fail)
      refine ⟨trivial, (callsIn_wide.2 (clipf_any _ _ _ _ (by omega))).mono ?_⟩
      rintro e W2 ⟨rfl, rfl⟩
      gi_wp2
      have hD2 := (Fr.setCell (Fr.refl (fun k => k = p) W2) ⟨p, 1, none⟩ (.slice (some ⟨g2, 0, none⟩) m m) (fun _ => rfl)).heap HD.out (fun e => by have e2 : g1 + 1 = p := e; have := HG1.out; have := HB.out.lt p (.inl rfl); omega)
      refine ⟨by simp, .inl ⟨_, _, rfl, run_takeDeferred hD2, ?_⟩⟩
      have hout := back_out (D := g1 + 1) HB.out HF.out (by have := HG1.out; omega) hm Q1.out Q2.out Q4.out Q5.out
      refine ⟨_, results_tmp rfl _ _ _, ?_⟩
      exact hout
end Go.Proofs.Ytdnohhlgaaihmaa

/- The book of lists: bytes put into it. -/
namespace Go.Proofs.Ytdnohhlgaaihmaa
open Go.RowKit

theorem tbRows : Tb Try.prog 63 34 (.slice none 0 0) 1 24 := ⟨by kernel_rfl, by kernel_rfl, rfl, by decide⟩

def nilS : Value := .slice none 0 0

/-- A book at block b that holds lists of bytes alone. -/
def Bk (w : World) (b : Nat) (v : Value) (rs : List Value) : Prop :=
  w.heap[b]? = some (.cells (#[v] ++ Array.replicate 22 nilS) 87 (0, 0)) ∧ w.ownsRow 0 34 1 v rs.length rs ∧ v.ownBlock ≠ some b

theorem Bk.cells {w : World} {b : Nat} {v : Value} {rs : List Value} (h : Bk w b v rs) : w.cell? ⟨b, 0, none⟩ = some v ∧ (∀ i, i < 22 → w.cell? ⟨b, i + 1, none⟩ = some (.slice none 0 0)) ∧ (∀ o, w.frozen? ⟨b, o, none⟩ = false) ∧ b < w.heap.size := by
  refine ⟨by simp [World.cell?, h.1], fun i hi => ?_, fun o => by simp [World.frozen?, h.1], (Array.getElem?_eq_some_iff.1 h.1).1⟩
  simp only [World.cell?, h.1, Option.isSome_none, Bool.false_eq_true, if_false]
  rw [Array.getElem?_append_right (by simp), Array.getElem?_replicate]
  rw [if_pos (by simp; omega)]; rfl

set_option maxRecDepth 100000 in
set_option maxHeartbeats 400000 in
theorem book_bytes (b : Nat) (w : World) (v : Value) (rs : List Value) (A : Option Addr) (n c : Nat) (h : Bk w b v rs) (hl : rs.length ≤ 1000000) :
    Calls Try.prog 82 #[.pointer (some ⟨b, 0, none⟩), .slice A n c] w fun e w' => e = .returned (.tuple #[]) ∧ ∃ v', Bk w' b v' (rs ++ [.slice A n c]) ∧ Fr (fun k => k = b ∨ v.ownBlock = some k) w w' ∧ Moved w w' v v' := by
  obtain ⟨B, d, rfl⟩ := own_form h.2.1
  obtain ⟨hc0, _, hfz, hbs⟩ := h.cells
  have HB := Lib.hid h; clear h
  go_enter Try.func82, Try.ntmps82
  go_wp2_with (at_builtin; refine wpList_ap rfl (.tmp 8) (.tmp 10) 63 rfl tbRows HB.out.2.1 ?fr ((Sl.built w _ _).kept0 ((Fr.refl no _))) rfl rfl (by simp [Value.oneCell']) ?b1 ?b2 ?go)
  case fr => (repeat first | exact Fr.refl _ _ | apply Fr.drew | apply Fr.alloc)
  case b1 => simp only [maxLen]; omega
  case b2 => omega
  case go =>
    intro A' N c' w2 ho hf2 hm2
    have hg : Fr (fun k => Value.ownBlock (.slice B rs.length d) = some k) w w2 := Fr.trans (S := fun k => Value.ownBlock (.slice B rs.length d) = some k) (by (repeat first | exact Fr.refl _ _ | apply Fr.drew | apply Fr.alloc)) hf2 (fun _ _ h => h)
    have hc1 := hg.cell hc0 HB.out.2.2
    have hf1 := (hg.frozen (a := ⟨b, 0, none⟩) hbs HB.out.2.2).trans (hfz 0)
    have hheap := hg.heap HB.out.1 HB.out.2.2
    have HO := Lib.hid ho; have HG := Lib.hid hg; have HM := Lib.hid hm2; have HH := Lib.hid hheap; clear ho hf2 hm2 hg hheap
    go_wp2
    go_end0
    obtain rfl : N = (rs ++ [Value.slice A n c]).length := by have := HO.out.1; simpa using this.symm
    have hne : Value.ownBlock (.slice A' (rs ++ [Value.slice A n c]).length c') ≠ some b := HM.out.not (by simp; omega) HB.out.2.2
    refine ⟨rfl, _, ⟨?_, own_set HO.out _ _ (by simpa using hne), hne⟩, ?_, ?_⟩
    · rw [hp_same HH.out]; simp
    · exact (HG.out.mono (fun _ _ h => .inr h)).setCell _ _ (fun _ => .inl rfl)
    · exact (HM.out.first (by simp)).later (by simp [World.setCell])
end Go.Proofs.Ytdnohhlgaaihmaa

/- The owner's check of a whole book: one kind of lists behind the other. -/
namespace Go.Proofs.Ytdnohhlgaaihmaa
open Go.RowKit

set_option maxRecDepth 100000 in
set_option maxHeartbeats 4000000 in
theorem own_all (b : Nat) (w : World) (F : Nat → Value) (I : Nat → World → Prop) (h0 : I 0 w) (hc : ∀ i w', i < 23 → I i w' → w'.cell? ⟨b, i, none⟩ = some (F i))
    (k0 : ∀ w', I 0 w' → Calls Try.prog 83 #[F 0] w' fun e w'' => e = .returned (.bool true) ∧ I 1 w'')
    (k1 : ∀ w', I 1 w' → Calls Try.prog 84 #[F 1] w' fun e w'' => e = .returned (.bool true) ∧ I 2 w'')
    (k2 : ∀ w', I 2 w' → Calls Try.prog 85 #[F 2] w' fun e w'' => e = .returned (.bool true) ∧ I 3 w'')
    (k3 : ∀ w', I 3 w' → Calls Try.prog 86 #[F 3] w' fun e w'' => e = .returned (.bool true) ∧ I 4 w'')
    (k4 : ∀ w', I 4 w' → Calls Try.prog 87 #[F 4] w' fun e w'' => e = .returned (.bool true) ∧ I 5 w'')
    (k5 : ∀ w', I 5 w' → Calls Try.prog 88 #[F 5] w' fun e w'' => e = .returned (.bool true) ∧ I 6 w'')
    (k6 : ∀ w', I 6 w' → Calls Try.prog 89 #[F 6] w' fun e w'' => e = .returned (.bool true) ∧ I 7 w'')
    (k7 : ∀ w', I 7 w' → Calls Try.prog 90 #[F 7] w' fun e w'' => e = .returned (.bool true) ∧ I 8 w'')
    (k8 : ∀ w', I 8 w' → Calls Try.prog 91 #[F 8] w' fun e w'' => e = .returned (.bool true) ∧ I 9 w'')
    (k9 : ∀ w', I 9 w' → Calls Try.prog 92 #[F 9] w' fun e w'' => e = .returned (.bool true) ∧ I 10 w'')
    (k10 : ∀ w', I 10 w' → Calls Try.prog 93 #[F 10] w' fun e w'' => e = .returned (.bool true) ∧ I 11 w'')
    (k11 : ∀ w', I 11 w' → Calls Try.prog 94 #[F 11] w' fun e w'' => e = .returned (.bool true) ∧ I 12 w'')
    (k12 : ∀ w', I 12 w' → Calls Try.prog 95 #[F 12] w' fun e w'' => e = .returned (.bool true) ∧ I 13 w'')
    (k13 : ∀ w', I 13 w' → Calls Try.prog 96 #[F 13] w' fun e w'' => e = .returned (.bool true) ∧ I 14 w'')
    (k14 : ∀ w', I 14 w' → Calls Try.prog 97 #[F 14] w' fun e w'' => e = .returned (.bool true) ∧ I 15 w'')
    (k15 : ∀ w', I 15 w' → Calls Try.prog 98 #[F 15] w' fun e w'' => e = .returned (.bool true) ∧ I 16 w'')
    (k16 : ∀ w', I 16 w' → Calls Try.prog 99 #[F 16] w' fun e w'' => e = .returned (.bool true) ∧ I 17 w'')
    (k17 : ∀ w', I 17 w' → Calls Try.prog 100 #[F 17] w' fun e w'' => e = .returned (.bool true) ∧ I 18 w'')
    (k18 : ∀ w', I 18 w' → Calls Try.prog 101 #[F 18] w' fun e w'' => e = .returned (.bool true) ∧ I 19 w'')
    (k19 : ∀ w', I 19 w' → Calls Try.prog 102 #[F 19] w' fun e w'' => e = .returned (.bool true) ∧ I 20 w'')
    (k20 : ∀ w', I 20 w' → Calls Try.prog 103 #[F 20] w' fun e w'' => e = .returned (.bool true) ∧ I 21 w'')
    (k21 : ∀ w', I 21 w' → Calls Try.prog 104 #[F 21] w' fun e w'' => e = .returned (.bool true) ∧ I 22 w'')
    (k22 : ∀ w', I 22 w' → Calls Try.prog 105 #[F 22] w' fun e w'' => e = .returned (.bool true) ∧ I 23 w'')
    : Calls Try.prog 37 #[.pointer (some ⟨b, 0, none⟩)] w fun e w' => e = .returned (.bool true) ∧ I 23 w' := by
  have HC := Lib.hid hc; clear hc
  have K0 := Lib.hid k0; clear k0
  have K1 := Lib.hid k1; clear k1
  have K2 := Lib.hid k2; clear k2
  have K3 := Lib.hid k3; clear k3
  have K4 := Lib.hid k4; clear k4
  have K5 := Lib.hid k5; clear k5
  have K6 := Lib.hid k6; clear k6
  have K7 := Lib.hid k7; clear k7
  have K8 := Lib.hid k8; clear k8
  have K9 := Lib.hid k9; clear k9
  have K10 := Lib.hid k10; clear k10
  have K11 := Lib.hid k11; clear k11
  have K12 := Lib.hid k12; clear k12
  have K13 := Lib.hid k13; clear k13
  have K14 := Lib.hid k14; clear k14
  have K15 := Lib.hid k15; clear k15
  have K16 := Lib.hid k16; clear k16
  have K17 := Lib.hid k17; clear k17
  have K18 := Lib.hid k18; clear k18
  have K19 := Lib.hid k19; clear k19
  have K20 := Lib.hid k20; clear k20
  have K21 := Lib.hid k21; clear k21
  have K22 := Lib.hid k22; clear k22
  have HI := Lib.hid h0; clear h0
  obtain ⟨F, rfl⟩ : ∃ G : Nat → Value, G = F := ⟨_, rfl⟩
  generalize hF0 : F 0 = v0 at K0
  generalize hF1 : F 1 = v1 at K1
  generalize hF2 : F 2 = v2 at K2
  generalize hF3 : F 3 = v3 at K3
  generalize hF4 : F 4 = v4 at K4
  generalize hF5 : F 5 = v5 at K5
  generalize hF6 : F 6 = v6 at K6
  generalize hF7 : F 7 = v7 at K7
  generalize hF8 : F 8 = v8 at K8
  generalize hF9 : F 9 = v9 at K9
  generalize hF10 : F 10 = v10 at K10
  generalize hF11 : F 11 = v11 at K11
  generalize hF12 : F 12 = v12 at K12
  generalize hF13 : F 13 = v13 at K13
  generalize hF14 : F 14 = v14 at K14
  generalize hF15 : F 15 = v15 at K15
  generalize hF16 : F 16 = v16 at K16
  generalize hF17 : F 17 = v17 at K17
  generalize hF18 : F 18 = v18 at K18
  generalize hF19 : F 19 = v19 at K19
  generalize hF20 : F 20 = v20 at K20
  generalize hF21 : F 21 = v21 at K21
  generalize hF22 : F 22 = v22 at K22
  have HF0 := Lib.hid hF0; clear hF0
  have HF1 := Lib.hid hF1; clear hF1
  have HF2 := Lib.hid hF2; clear hF2
  have HF3 := Lib.hid hF3; clear hF3
  have HF4 := Lib.hid hF4; clear hF4
  have HF5 := Lib.hid hF5; clear hF5
  have HF6 := Lib.hid hF6; clear hF6
  have HF7 := Lib.hid hF7; clear hF7
  have HF8 := Lib.hid hF8; clear hF8
  have HF9 := Lib.hid hF9; clear hF9
  have HF10 := Lib.hid hF10; clear hF10
  have HF11 := Lib.hid hF11; clear hF11
  have HF12 := Lib.hid hF12; clear hF12
  have HF13 := Lib.hid hF13; clear hF13
  have HF14 := Lib.hid hF14; clear hF14
  have HF15 := Lib.hid hF15; clear hF15
  have HF16 := Lib.hid hF16; clear hF16
  have HF17 := Lib.hid hF17; clear hF17
  have HF18 := Lib.hid hF18; clear hF18
  have HF19 := Lib.hid hF19; clear hF19
  have HF20 := Lib.hid hF20; clear hF20
  have HF21 := Lib.hid hF21; clear hF21
  have HF22 := Lib.hid hF22; clear hF22
  have c := HC.out 0 w (by omega) HI.out
  rw [HF0.out] at c
  go_enter Try.func37, Try.ntmps37
  go_wp2_with fail
  refine (K0.out _ HI.out).mono ?_
  clear c HI
  rintro e w1 ⟨rfl, hi⟩
  have HI := Lib.hid hi; clear hi
  have c := HC.out 1 w1 (by omega) HI.out
  rw [HF1.out] at c
  go_wp2_with fail
  refine (K1.out _ HI.out).mono ?_
  clear c HI
  rintro e w2 ⟨rfl, hi⟩
  have HI := Lib.hid hi; clear hi
  have c := HC.out 2 w2 (by omega) HI.out
  rw [HF2.out] at c
  go_wp2_with fail
  refine (K2.out _ HI.out).mono ?_
  clear c HI
  rintro e w3 ⟨rfl, hi⟩
  have HI := Lib.hid hi; clear hi
  have c := HC.out 3 w3 (by omega) HI.out
  rw [HF3.out] at c
  go_wp2_with fail
  refine (K3.out _ HI.out).mono ?_
  clear c HI
  rintro e w4 ⟨rfl, hi⟩
  have HI := Lib.hid hi; clear hi
  have c := HC.out 4 w4 (by omega) HI.out
  rw [HF4.out] at c
  go_wp2_with fail
  refine (K4.out _ HI.out).mono ?_
  clear c HI
  rintro e w5 ⟨rfl, hi⟩
  have HI := Lib.hid hi; clear hi
  have c := HC.out 5 w5 (by omega) HI.out
  rw [HF5.out] at c
  go_wp2_with fail
  refine (K5.out _ HI.out).mono ?_
  clear c HI
  rintro e w6 ⟨rfl, hi⟩
  have HI := Lib.hid hi; clear hi
  have c := HC.out 6 w6 (by omega) HI.out
  rw [HF6.out] at c
  go_wp2_with fail
  refine (K6.out _ HI.out).mono ?_
  clear c HI
  rintro e w7 ⟨rfl, hi⟩
  have HI := Lib.hid hi; clear hi
  have c := HC.out 7 w7 (by omega) HI.out
  rw [HF7.out] at c
  go_wp2_with fail
  refine (K7.out _ HI.out).mono ?_
  clear c HI
  rintro e w8 ⟨rfl, hi⟩
  have HI := Lib.hid hi; clear hi
  have c := HC.out 8 w8 (by omega) HI.out
  rw [HF8.out] at c
  go_wp2_with fail
  refine (K8.out _ HI.out).mono ?_
  clear c HI
  rintro e w9 ⟨rfl, hi⟩
  have HI := Lib.hid hi; clear hi
  have c := HC.out 9 w9 (by omega) HI.out
  rw [HF9.out] at c
  go_wp2_with fail
  refine (K9.out _ HI.out).mono ?_
  clear c HI
  rintro e w10 ⟨rfl, hi⟩
  have HI := Lib.hid hi; clear hi
  have c := HC.out 10 w10 (by omega) HI.out
  rw [HF10.out] at c
  go_wp2_with fail
  refine (K10.out _ HI.out).mono ?_
  clear c HI
  rintro e w11 ⟨rfl, hi⟩
  have HI := Lib.hid hi; clear hi
  have c := HC.out 11 w11 (by omega) HI.out
  rw [HF11.out] at c
  go_wp2_with fail
  refine (K11.out _ HI.out).mono ?_
  clear c HI
  rintro e w12 ⟨rfl, hi⟩
  have HI := Lib.hid hi; clear hi
  have c := HC.out 12 w12 (by omega) HI.out
  rw [HF12.out] at c
  go_wp2_with fail
  refine (K12.out _ HI.out).mono ?_
  clear c HI
  rintro e w13 ⟨rfl, hi⟩
  have HI := Lib.hid hi; clear hi
  have c := HC.out 13 w13 (by omega) HI.out
  rw [HF13.out] at c
  go_wp2_with fail
  refine (K13.out _ HI.out).mono ?_
  clear c HI
  rintro e w14 ⟨rfl, hi⟩
  have HI := Lib.hid hi; clear hi
  have c := HC.out 14 w14 (by omega) HI.out
  rw [HF14.out] at c
  go_wp2_with fail
  refine (K14.out _ HI.out).mono ?_
  clear c HI
  rintro e w15 ⟨rfl, hi⟩
  have HI := Lib.hid hi; clear hi
  have c := HC.out 15 w15 (by omega) HI.out
  rw [HF15.out] at c
  go_wp2_with fail
  refine (K15.out _ HI.out).mono ?_
  clear c HI
  rintro e w16 ⟨rfl, hi⟩
  have HI := Lib.hid hi; clear hi
  have c := HC.out 16 w16 (by omega) HI.out
  rw [HF16.out] at c
  go_wp2_with fail
  refine (K16.out _ HI.out).mono ?_
  clear c HI
  rintro e w17 ⟨rfl, hi⟩
  have HI := Lib.hid hi; clear hi
  have c := HC.out 17 w17 (by omega) HI.out
  rw [HF17.out] at c
  go_wp2_with fail
  refine (K17.out _ HI.out).mono ?_
  clear c HI
  rintro e w18 ⟨rfl, hi⟩
  have HI := Lib.hid hi; clear hi
  have c := HC.out 18 w18 (by omega) HI.out
  rw [HF18.out] at c
  go_wp2_with fail
  refine (K18.out _ HI.out).mono ?_
  clear c HI
  rintro e w19 ⟨rfl, hi⟩
  have HI := Lib.hid hi; clear hi
  have c := HC.out 19 w19 (by omega) HI.out
  rw [HF19.out] at c
  go_wp2_with fail
  refine (K19.out _ HI.out).mono ?_
  clear c HI
  rintro e w20 ⟨rfl, hi⟩
  have HI := Lib.hid hi; clear hi
  have c := HC.out 20 w20 (by omega) HI.out
  rw [HF20.out] at c
  go_wp2_with fail
  refine (K20.out _ HI.out).mono ?_
  clear c HI
  rintro e w21 ⟨rfl, hi⟩
  have HI := Lib.hid hi; clear hi
  have c := HC.out 21 w21 (by omega) HI.out
  rw [HF21.out] at c
  go_wp2_with fail
  refine (K21.out _ HI.out).mono ?_
  clear c HI
  rintro e w22 ⟨rfl, hi⟩
  have HI := Lib.hid hi; clear hi
  have c := HC.out 22 w22 (by omega) HI.out
  rw [HF22.out] at c
  go_wp2_with fail
  refine (K22.out _ HI.out).mono ?_
  clear c HI
  rintro e w23 ⟨rfl, hi⟩
  have HI := Lib.hid hi; clear hi
  go_wp2
  go_ret
  exact ⟨rfl, HI.out⟩
end Go.Proofs.Ytdnohhlgaaihmaa
