import Derived.Test.YtdnohhlgaaihmaaMd11

/- package buffer: next, prev, put. -/
namespace Go.Proofs.Ytdnohhlgaaihmaa
open Go.RowKit

/-- The place of the first key behind a place. -/
def nextI (l : List SpV) (k : List UInt8) (i : Bool) : Nat := if saidK l k && !i then posK l k + 1 else posK l k
/-- The place of the last key ahead of it. -/
def prevI (l : List SpV) (k : List UInt8) (i : Bool) : Int := if i && decide (k = []) then l.length - 1 else if saidK l k && i then posK l k else posK l k - 1

set_option maxRecDepth 100000 in
set_option maxHeartbeats 400000 in
theorem bnexti_any (w : World) (p : Nat) (lv uv K : Value) (l : List SpV) (us : List Und) (k : List UInt8) (i : Bool) (h : Bf w p lv l uv us) (hK : Sl w 1 K k.length (bvs k)) (hl : l.length ≤ 100000) :
    Calls Try.prog 59 #[.pointer (some ⟨p, 0, none⟩), K, .bool i] w fun e w' => e = .returned (.int .i64 (nextI l k i)) ∧ Fr no w w' := by
  have HB := Lib.hid h; have HK := Lib.hid hK; clear h hK
  go_enter Try.func59, Try.ntmps59
  go_wp2_with fail
  refine (at_any w p lv uv K l us k HB.out HK.out (by omega)).mono ?_
  rintro e w1 ⟨rfl, f1⟩
  have hpl := posK_le l k
  have F1 := Lib.hid f1; clear f1
  generalize hp : posK l k = P at hpl ⊢
  have HP := Lib.hid hp; clear hp
  cases hs : saidK l k <;> cases i
  all_goals
    have HS := Lib.hid hs; clear hs
    go_wp2
    go_ret
    unfold nextI
    rw [HS.out, HP.out]
    exact ⟨by first | rfl | simp, F1.out⟩

set_option maxRecDepth 100000 in
set_option maxHeartbeats 400000 in
theorem bprevi_any (w : World) (p : Nat) (lv uv K : Value) (l : List SpV) (us : List Und) (k : List UInt8) (i : Bool) (h : Bf w p lv l uv us) (hK : Sl w 1 K k.length (bvs k)) (hl : l.length ≤ 100000) :
    Calls Try.prog 65 #[.pointer (some ⟨p, 0, none⟩), K, .bool i] w fun e w' => e = .returned (.int .i64 (prevI l k i)) ∧ Fr no w w' := by
  obtain ⟨KA, kc, rfl, _, _⟩ := hK.form
  obtain ⟨A, c, rfl, _, _⟩ := h.row.form
  obtain ⟨b0, _, _, _⟩ := two_cells h.at_
  have HB := Lib.hid h; have HK := Lib.hid hK; clear h hK
  by_cases h0 : i = true ∧ k = []
  · obtain ⟨rfl, h0⟩ := h0
    have hk0 : ((k.length : Int) == 0) = true := by simp [h0]
    have hpi : prevI l k true = l.length - 1 := by unfold prevI; simp [h0]
    have HPI := Lib.hid hpi; clear h0 hpi
    go_enter Try.func65, Try.ntmps65
    go_wp2
    go_ret
    rw [HPI.out]
    exact ⟨by first | rfl | simp, Fr.refl _ _⟩
  · have hpi : prevI l k i = if saidK l k && i then (posK l k : Int) else posK l k - 1 := by unfold prevI; rw [if_neg (by simpa using h0)]
    have HPI := Lib.hid hpi; clear hpi
    have hk0 : i = true → ((k.length : Int) == 0) = false := fun e => by
      have : k ≠ [] := fun e2 => h0 ⟨e, e2⟩
      have := List.length_pos_iff.2 this
      simp; omega
    have HK0 := Lib.hid hk0; clear h0 hk0
    have hpl := posK_le l k
    cases i with
    | false =>
      go_enter Try.func65, Try.ntmps65
      go_wp2_with fail
      refine (at_any w p _ uv _ l us k HB.out HK.out (by omega)).mono ?_
      rintro e w1 ⟨rfl, f1⟩
      have F1 := Lib.hid f1; clear f1
      generalize hp : posK l k = P at hpl HPI ⊢
      have HP := Lib.hid hp; clear hp
      cases hs : saidK l k
      all_goals
        have HS := Lib.hid hs; clear hs
        go_wp2
        go_ret
        rw [HPI.out, HS.out]
        exact ⟨by first | rfl | simp, F1.out⟩
    | true =>
      have hk1 := HK0.out rfl
      go_enter Try.func65, Try.ntmps65
      go_wp2_with fail
      refine (at_any w p _ uv _ l us k HB.out HK.out (by omega)).mono ?_
      rintro e w1 ⟨rfl, f1⟩
      have F1 := Lib.hid f1; clear f1
      generalize hp : posK l k = P at hpl HPI ⊢
      have HP := Lib.hid hp; clear hp
      cases hs : saidK l k
      all_goals
        have HS := Lib.hid hs; clear hs
        go_wp2
        go_ret
        rw [HPI.out, HS.out]
        exact ⟨by first | rfl | simp, F1.out⟩

/-- A change that is there, or none. -/
def chgE : Option SpV → Value
  | some y => .tuple #[.agg #[y.F, y.T, .bool y.o], .bool true]
  | none => .tuple #[.agg #[.slice none 0 0, .slice none 0 0, .bool false], .bool false]

theorem find_drop {α : Type} (p : α → Bool) (l : List α) (i j : Nat) (hij : i ≤ j) (hj : j < l.length) (h : p l[j] = true) (hno : ∀ m (h : m < l.length), i ≤ m → m < j → p l[m] = false) : (l.drop i).find? p = some l[j] := by
  have e := find_first p (l.drop i) (j - i) (by simp; omega) (by rw [List.getElem_drop]; simp only [show i + (j - i) = j by omega]; exact h) (fun m hm h2 => by
    rw [List.getElem_drop]
    exact hno _ (by simp at hm; omega) (by omega) (by omega))
  rw [e, List.getElem_drop]
  simp only [show i + (j - i) = j by omega]
theorem find_take {α : Type} (p : α → Bool) (l : List α) (i j : Nat) (hi : i ≤ l.length) (hij : j + 1 ≤ i) (hj : j < l.length) (h : p l[j] = true) (hno : ∀ m (h : m < l.length), j < m → m < i → p l[m] = false) : (l.take i).reverse.find? p = some l[j] := by
  have e := find_last p (l.take i) j (by simp; omega) (by rw [List.getElem_take]; exact h) (fun m hm h2 => by
    rw [List.getElem_take]
    exact hno _ (by simp at hm; omega) h2 (by simp at hm; omega))
  rw [e, List.getElem_take]

set_option maxRecDepth 100000 in
set_option maxHeartbeats 4000000 in
theorem putf_any (w : World) (p : Nat) (lv uv : Value) (l : List SpV) (us : List Und) (i : Nat) (hb : Bf w p lv l uv us) (hi : i ≤ l.length) (hl : l.length ≤ 100000) :
    Calls Try.prog 58 #[.pointer (some ⟨p, 0, none⟩), .int .i64 i, .int .i64 1] w fun e w' => e = .returned (chgE ((l.drop i).find? fun y => !y.o)) ∧ Fr no w w' := by
  obtain ⟨A, c, rfl, _, _⟩ := hb.row.form
  have HB := Lib.hid hb; clear hb
  go_enter Try.func58, Try.ntmps58
  go_wp2_with fail
  have hN := heap_alloc_new w (.cells #[.slice none 0 0, .slice none 0 0, .bool false] 36)
  have hf := (Fr.refl no w).alloc (.cells #[.slice none 0 0, .slice none 0 0, .bool false] 36)
  generalize hg : w.heap.size = g at hN ⊢
  generalize w.alloc (.cells #[.slice none 0 0, .slice none 0 0, .bool false] 36) = w1 at hN hf ⊢
  have hg2 := Nat.le_of_eq hg
  have HG := Lib.hid hg2; have HN := Lib.hid hN; have F1 := Lib.hid hf; clear hN hf hg hg2
  go_loopw [1] (fun v wr => ∃ j : Nat, (i ≤ j ∧ j ≤ l.length) ∧ v = .int .i64 j ∧ Fr no w wr ∧ wr.heap[g]? = some (.cells #[.slice none 0 0, .slice none 0 0, .bool false] 36 (0, 0)) ∧ ∀ m (h : m < l.length), i ≤ m → m < j → l[m].o = true) (fun v _ => l.length - (intOf v).toNat)
  case atStart => exact ⟨i, ⟨Nat.le_refl _, hi⟩, rfl, F1.out, HN.out, fun m h h0 => by omega⟩
  case round =>
    obtain ⟨j, hj, rfl, hf, hr, hno⟩ := hrel
    have HF := Lib.hid hf; have HR := Lib.hid hr; have HNO := Lib.hid hno; clear hf hr hno
    have hb1 := HB.out.kept0 HF.out
    obtain ⟨b0, _, _, _⟩ := two_cells hb1.at_
    by_cases hlt : j < l.length
    · skip
      obtain ⟨gg, og, hA, q0, q1, q2⟩ := Spans.at hb1.row.sl j hlt
      obtain ⟨WF, wf, hWF, _, _⟩ := (hb1.good l[j] (List.getElem_mem _)).F.form
      obtain ⟨WT, wt, hWT, _, _⟩ := (hb1.good l[j] (List.getElem_mem _)).T.form
      rw [hWF] at q0; rw [hWT] at q1
      subst hA
      have HW := Lib.hid (And.intro hWF hWT); clear hWF hWT hb1
      cases ho : l[j].o with
      | false =>
        have he : ((l.drop i).find? fun y => !y.o) = some l[j] := find_drop (fun y => !y.o) l i j hj.1 hlt (by simp [ho]) (fun m h h1 h2 => by simp [HNO.out m h h1 h2])
        rw [ho] at q2
        have HE := Lib.hid he; have HO := Lib.hid ho; clear he ho
        obtain ⟨c0, c1, c2, hz, hlt2⟩ := three_cells HR.out
        go_wp2
        have hg3 := set3_row (a := .slice WF l[j].f.length wf) (b := .slice WT l[j].t.length wt) (c := .bool false) HR.out
        have fs := set3_fr wr g (.slice WF l[j].f.length wf) (.slice WT l[j].t.length wt) (.bool false)
        rw [show ((wr.setCell ⟨g, 0, none⟩ (.slice WF l[j].f.length wf)).setCell ⟨g, 1, none⟩ (.slice WT l[j].t.length wt)).setCell ⟨g, 2, none⟩ (.bool false) = set3 wr g (.slice WF l[j].f.length wf) (.slice WT l[j].t.length wt) (.bool false) from rfl]
        generalize set3 wr g (.slice WF l[j].f.length wf) (.slice WT l[j].t.length wt) (.bool false) = w3 at hg3 fs ⊢
        refine bodyPost_ret (results_cell_row2 rfl _ _ g _ #[.slice WF l[j].f.length wf, .slice WT l[j].t.length wt, .bool false] (0, 0) _ rfl hg3 Try.underlying36 rfl (by kernel_rfl)) rfl ?_
        exact ⟨by rw [HE.out]; simp only [chgE, HW.out.1, HW.out.2, HO.out]; rfl, HF.out.trans fs (fun k hk e => by have := HG.out; omega)⟩
      | true =>
        rw [ho] at q2
        have HO := Lib.hid ho; clear ho
        go_wp2
        go_roundw
        case rel => exact ⟨j + 1, by omega, by first | rfl | go_num, HF.out, HR.out, fun m h hm => by intro h3; rcases Nat.lt_succ_iff_lt_or_eq.1 h3 with h2 | rfl; exact HNO.out m h hm h2; exact HO.out⟩
        case measure => simp [intOf]; omega
    · obtain rfl : j = l.length := by omega
      have he : ((l.drop i).find? fun y => !y.o) = none := List.find?_eq_none.2 (fun y hy => by obtain ⟨m, hm, rfl⟩ := List.getElem_of_mem hy; rw [List.getElem_drop]; simp at hm; simp [HNO.out (i + m) (by omega) (by omega) (by omega)])
      have HE := Lib.hid he; clear he hb1
      obtain ⟨c0, c1, c2, hz, hlt2⟩ := three_cells HR.out
      go_wp2
      have hg3 := set3_row (a := .slice none 0 0) (b := .slice none 0 0) (c := .bool false) HR.out
      have fs := set3_fr wr g (.slice none 0 0) (.slice none 0 0) (.bool false)
      rw [show ((wr.setCell ⟨g, 0, none⟩ (.slice none 0 0)).setCell ⟨g, 1, none⟩ (.slice none 0 0)).setCell ⟨g, 2, none⟩ (.bool false) = set3 wr g (.slice none 0 0) (.slice none 0 0) (.bool false) from rfl]
      generalize set3 wr g (.slice none 0 0) (.slice none 0 0) (.bool false) = w3 at hg3 fs ⊢
      refine bodyPost_ret (results_cell_row2 rfl _ _ g _ #[.slice none 0 0, .slice none 0 0, .bool false] (0, 0) _ rfl hg3 Try.underlying36 rfl (by kernel_rfl)) rfl ?_
      exact ⟨by rw [HE.out]; rfl, HF.out.trans fs (fun k hk e => by have := HG.out; omega)⟩

set_option maxRecDepth 100000 in
set_option maxHeartbeats 4000000 in
theorem putb_any (w : World) (p : Nat) (lv uv : Value) (l : List SpV) (us : List Und) (i : Nat) (hb : Bf w p lv l uv us) (hi : i ≤ l.length) (hl : l.length ≤ 100000) :
    Calls Try.prog 58 #[.pointer (some ⟨p, 0, none⟩), .int .i64 ((i : Int) - 1), .int .i64 (-1)] w fun e w' => e = .returned (chgE ((l.take i).reverse.find? fun y => !y.o)) ∧ Fr no w w' := by
  obtain ⟨A, c, rfl, _, _⟩ := hb.row.form
  have HB := Lib.hid hb; clear hb
  go_enter Try.func58, Try.ntmps58
  go_wp2_with fail
  have hN := heap_alloc_new w (.cells #[.slice none 0 0, .slice none 0 0, .bool false] 36)
  have hf := (Fr.refl no w).alloc (.cells #[.slice none 0 0, .slice none 0 0, .bool false] 36)
  generalize hg : w.heap.size = g at hN ⊢
  generalize w.alloc (.cells #[.slice none 0 0, .slice none 0 0, .bool false] 36) = w1 at hN hf ⊢
  have hg2 := Nat.le_of_eq hg
  have HG := Lib.hid hg2; have HN := Lib.hid hN; have F1 := Lib.hid hf; clear hN hf hg hg2
  go_loopw [1] (fun v wr => ∃ j : Nat, j ≤ i ∧ v = .int .i64 ((j : Int) - 1) ∧ Fr no w wr ∧ wr.heap[g]? = some (.cells #[.slice none 0 0, .slice none 0 0, .bool false] 36 (0, 0)) ∧ ∀ m (h : m < l.length), j ≤ m → m < i → l[m].o = true) (fun v _ => (intOf v + 1).toNat)
  case atStart => exact ⟨i, Nat.le_refl _, rfl, F1.out, HN.out, fun m h h0 => by omega⟩
  case round =>
    obtain ⟨j, hj, rfl, hf, hr, hno⟩ := hrel
    have HF := Lib.hid hf; have HR := Lib.hid hr; have HNO := Lib.hid hno; clear hf hr hno
    have hb1 := HB.out.kept0 HF.out
    obtain ⟨b0, _, _, _⟩ := two_cells hb1.at_
    rcases j with _ | j
    · have e1 : ((0 : Nat) : Int) - 1 = -1 := rfl
      rw [e1]; clear e1
      have he : ((l.take i).reverse.find? fun y => !y.o) = none := List.find?_eq_none.2 (fun y hy => by obtain ⟨m, hm, rfl⟩ := List.getElem_of_mem (List.mem_reverse.1 hy); rw [List.getElem_take]; simp at hm; simp [HNO.out m (by omega) (by omega) (by omega)])
      have HE := Lib.hid he; clear he hb1
      obtain ⟨c0, c1, c2, hz, hlt2⟩ := three_cells HR.out
      go_wp2
      have hg3 := set3_row (a := .slice none 0 0) (b := .slice none 0 0) (c := .bool false) HR.out
      have fs := set3_fr wr g (.slice none 0 0) (.slice none 0 0) (.bool false)
      rw [show ((wr.setCell ⟨g, 0, none⟩ (.slice none 0 0)).setCell ⟨g, 1, none⟩ (.slice none 0 0)).setCell ⟨g, 2, none⟩ (.bool false) = set3 wr g (.slice none 0 0) (.slice none 0 0) (.bool false) from rfl]
      generalize set3 wr g (.slice none 0 0) (.slice none 0 0) (.bool false) = w3 at hg3 fs ⊢
      refine bodyPost_ret (results_cell_row2 rfl _ _ g _ #[.slice none 0 0, .slice none 0 0, .bool false] (0, 0) _ rfl hg3 Try.underlying36 rfl (by kernel_rfl)) rfl ?_
      exact ⟨by rw [HE.out]; rfl, HF.out.trans fs (fun k hk e => by have := HG.out; omega)⟩
    · have e1 : ((j + 1 : Nat) : Int) - 1 = (j : Int) := by omega
      rw [e1]; clear e1
      have hlt : j < l.length := by omega
      obtain ⟨gg, og, hA, q0, q1, q2⟩ := Spans.at hb1.row.sl j hlt
      obtain ⟨WF, wf, hWF, _, _⟩ := (hb1.good l[j] (List.getElem_mem _)).F.form
      obtain ⟨WT, wt, hWT, _, _⟩ := (hb1.good l[j] (List.getElem_mem _)).T.form
      rw [hWF] at q0; rw [hWT] at q1
      subst hA
      have HW := Lib.hid (And.intro hWF hWT); clear hWF hWT hb1
      cases ho : l[j].o with
      | false =>
        have he : ((l.take i).reverse.find? fun y => !y.o) = some l[j] := find_take (fun y => !y.o) l i j hi hj hlt (by simp [ho]) (fun m h h1 h2 => by simp [HNO.out m h (by omega) h2])
        rw [ho] at q2
        have HE := Lib.hid he; have HO := Lib.hid ho; clear he ho
        obtain ⟨c0, c1, c2, hz, hlt2⟩ := three_cells HR.out
        go_wp2
        have hg3 := set3_row (a := .slice WF l[j].f.length wf) (b := .slice WT l[j].t.length wt) (c := .bool false) HR.out
        have fs := set3_fr wr g (.slice WF l[j].f.length wf) (.slice WT l[j].t.length wt) (.bool false)
        rw [show ((wr.setCell ⟨g, 0, none⟩ (.slice WF l[j].f.length wf)).setCell ⟨g, 1, none⟩ (.slice WT l[j].t.length wt)).setCell ⟨g, 2, none⟩ (.bool false) = set3 wr g (.slice WF l[j].f.length wf) (.slice WT l[j].t.length wt) (.bool false) from rfl]
        generalize set3 wr g (.slice WF l[j].f.length wf) (.slice WT l[j].t.length wt) (.bool false) = w3 at hg3 fs ⊢
        refine bodyPost_ret (results_cell_row2 rfl _ _ g _ #[.slice WF l[j].f.length wf, .slice WT l[j].t.length wt, .bool false] (0, 0) _ rfl hg3 Try.underlying36 rfl (by kernel_rfl)) rfl ?_
        exact ⟨by rw [HE.out]; simp only [chgE, HW.out.1, HW.out.2, HO.out]; rfl, HF.out.trans fs (fun k hk e => by have := HG.out; omega)⟩
      | true =>
        rw [ho] at q2
        have HO := Lib.hid ho; clear ho
        go_wp2
        go_roundw
        case rel => exact ⟨j, by omega, by first | rfl | go_num, HF.out, HR.out, fun m h hm => by intro h3; rcases Nat.eq_or_lt_of_le hm with h2 | h2; (subst h2; exact HO.out); exact HNO.out m h (by omega) h3⟩
        case measure => simp [intOf]; omega
end Go.Proofs.Ytdnohhlgaaihmaa
