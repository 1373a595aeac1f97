import Derived.Test.YtgcicljklejmjaaDoorMb11

/- key.reader.value: the simple kinds. -/
namespace Go.Proofs.YtgcicljklejmjaaDoor
open Go.RowKit Go.Shelf
open Tr

/-- What value says of the bytes l at the depth d. -/
def ValOut (d m p : Nat) (w : World) (l : List UInt8) (e : Ending) (w' : World) : Prop :=
  Fr (At p) w w' ∧ ((∃ x s, dec d l = some (bare x, s) ∧ e = .returned x.agg ∧ Tr.Own w' x ∧ (∀ k, Blk x k → w.heap.size ≤ k) ∧ Rdr m w' p s false ∧ s.length < l.length)
    ∨ (dec d l = none ∧ (∃ k b i t BA bn bc LA ln lc FA fn fc, e = .returned (.agg #[.int .u8 k, .bool b, .int .i64 i, .string t, .slice BA bn bc, .slice LA ln lc, .slice FA fn fc])) ∧ ∃ s, Rdr m w' p s true ∧ s.length ≤ l.length))

theorem Rdr.fin {m p : Nat} {w w' wz : World} {s : List UInt8} {bad : Bool} (hr : Rdr m w' p s bad) (hz : Fr (fun k => k = w.heap.size) w' wz) (hm : m ≤ w.heap.size) : Rdr m wz p s bad := hr.kept hz (fun k h => by omega)
theorem val_fin {d m p : Nat} {w w' wz : World} {l s : List UInt8} {x : Tr Mm} (hdec : dec d l = some (bare x, s)) (hown : Tr.Own w' x) (hb : ∀ k, Blk x k → w.heap.size < k) (hr : Rdr m w' p s false) (hfr : Fr (At p) w w') (hz : Fr (fun k => k = w.heap.size) w' wz) (hm : m ≤ w.heap.size) (hl : s.length < l.length) :
    ValOut d m p w l (.returned x.agg) wz :=
  ⟨hfr.trans hz (fun k hk h => by omega), .inl ⟨x, s, hdec, rfl, hown.kept hz (fun k h1 h2 => by have := hb k h1; omega), fun k h => Nat.le_of_lt (hb k h), hr.fin hz hm, hl⟩⟩
theorem val_bad_fin {d m p : Nat} {w w' wz : World} {l s : List UInt8} {k : Int} {b : Bool} {i : Int} {t : ByteArray} {BA LA FA : Option Addr} {bn bc ln lc fn fc : Nat} (hdec : dec d l = none) (hr : Rdr m w' p s true) (hfr : Fr (At p) w w') (hz : Fr (fun k => k = w.heap.size) w' wz) (hm : m ≤ w.heap.size) (hl : s.length ≤ l.length) :
    ValOut d m p w l (.returned (.agg #[.int .u8 k, .bool b, .int .i64 i, .string t, .slice BA bn bc, .slice LA ln lc, .slice FA fn fc])) wz :=
  ⟨hfr.trans hz (fun k hk h => by omega), .inr ⟨hdec, ⟨_, _, _, _, _, _, _, _, _, _, _, _, _, rfl⟩, s, hr.fin hz hm, hl⟩⟩

theorem bare_leaf {k : UInt8} {b : Bool} {i : Int} {t bs : List UInt8} {m : Mm} : bare (.mk k b i t bs m [] [] : Tr Mm) = .mk k b i t bs () [] [] := by rw [bare_eq]; rfl
theorem dec_cons (d : Nat) (c : UInt8) (r : List UInt8) : dec (d + 1) (c :: r) = if c = 16 then some (only 1, r) else if c = 32 then some (only 2, r) else if c = 33 then some (.mk 2 true 0 [] [] () [] [], r)
    else if c = 48 then (if r.length < 8 then none else some (.mk 3 false (ios (un 0 (r.take 8))) [] [] () [] [], r.drop 8))
    else if c = 64 then (unesc r).map fun p => (.mk 4 false 0 p.1 [] () [] [], p.2)
    else if c = 80 then (unesc r).map fun p => (.mk 5 false 0 [] p.1 () [] [], p.2)
    else if c = 96 then (decL (dec d) (r.length + 1) r).map fun p => (.mk 6 false 0 [] [] () p.1 [], p.2)
    else none := rfl
theorem dec16 (d : Nat) (r : List UInt8) : dec (d + 1) (16 :: r) = some (only 1, r) := by rw [dec_cons, if_pos rfl]
theorem dec32 (d : Nat) (r : List UInt8) : dec (d + 1) (32 :: r) = some (only 2, r) := by rw [dec_cons, if_neg (by decide), if_pos rfl]
theorem dec33 (d : Nat) (r : List UInt8) : dec (d + 1) (33 :: r) = some (.mk 2 true 0 [] [] () [] [], r) := by rw [dec_cons, if_neg (by decide), if_neg (by decide), if_pos rfl]
theorem dec48 (d : Nat) (r : List UInt8) : dec (d + 1) (48 :: r) = if r.length < 8 then none else some (.mk 3 false (ios (un 0 (r.take 8))) [] [] () [] [], r.drop 8) := by
  rw [dec_cons, if_neg (by decide), if_neg (by decide), if_neg (by decide), if_pos rfl]
theorem dec64 (d : Nat) (r : List UInt8) : dec (d + 1) (64 :: r) = (unesc r).map fun p => (.mk 4 false 0 p.1 [] () [] [], p.2) := by
  rw [dec_cons, if_neg (by decide), if_neg (by decide), if_neg (by decide), if_neg (by decide), if_pos rfl]
theorem dec80 (d : Nat) (r : List UInt8) : dec (d + 1) (80 :: r) = (unesc r).map fun p => (.mk 5 false 0 [] p.1 () [] [], p.2) := by
  rw [dec_cons, if_neg (by decide), if_neg (by decide), if_neg (by decide), if_neg (by decide), if_neg (by decide), if_pos rfl]
theorem dec96 (d : Nat) (r : List UInt8) : dec (d + 1) (96 :: r) = (decL (dec d) (r.length + 1) r).map fun p => (.mk 6 false 0 [] [] () p.1 [], p.2) := by
  rw [dec_cons, if_neg (by decide), if_neg (by decide), if_neg (by decide), if_neg (by decide), if_neg (by decide), if_neg (by decide), if_pos rfl]
theorem dec_other (d : Nat) (c : UInt8) (r : List UInt8) (h : c ≠ 16 ∧ c ≠ 32 ∧ c ≠ 33 ∧ c ≠ 48 ∧ c ≠ 64 ∧ c ≠ 80 ∧ c ≠ 96) : dec (d + 1) (c :: r) = none := by
  rw [dec_cons, if_neg h.1, if_neg h.2.1, if_neg h.2.2.1, if_neg h.2.2.2.1, if_neg h.2.2.2.2.1, if_neg h.2.2.2.2.2.1, if_neg h.2.2.2.2.2.2]
theorem byte_ne {c k : UInt8} {n : Int} (h : c ≠ k) (hk : (k.toNat : Int) = n) : ((c.toNat : Int) == n) = false := by
  rw [beq_eq_false_iff_ne]
  intro e
  exact h (UInt8.toNat_inj.1 (by omega))

set_option maxRecDepth 100000 in
set_option maxHeartbeats 1000000 in
theorem val_zero (m p : Nat) (w : World) (l : List UInt8) (h : Rdr m w p l false) (hm : m ≤ w.heap.size) :
    Calls Tryd.prog 35 #[.pointer (some ⟨p, 0, none⟩), .int .i64 0] w fun e w' => ValOut 0 m p w l e w' := by
  have h1 := h.kept0 ((Fr.refl no w).alloc (.cells #[.int .u8 0, .bool false, .int .i64 0, .string ⟨#[]⟩, .slice none 0 0, .slice none 0 0, .slice none 0 0] 33))
  have hp := h.1
  obtain ⟨y1, yz, yb⟩ := h1.cells
  have hb : (w.alloc (.cells #[.int .u8 0, .bool false, .int .i64 0, .string ⟨#[]⟩, .slice none 0 0, .slice none 0 0, .slice none 0 0] 33)).heap[w.heap.size]? = _ := heap_alloc_new w (.cells #[.int .u8 0, .bool false, .int .i64 0, .string ⟨#[]⟩, .slice none 0 0, .slice none 0 0, .slice none 0 0] 33)
  have hne : w.heap.size ≠ p := by omega
  obtain ⟨q0, q1, q2, q3, q4, q5, q6, qz, ql⟩ := seven_cells hb
  have HB := Lib.hid hb; have HR2 := Lib.hid h1; have HNE := Lib.hid hne
  clear h hb h1 hne
  go_enter Tryd.func35, Tryd.ntmps35
  go_wp2_with fail
  have f1 := Fr.setCell (Fr.refl (At p) (w.alloc (.cells #[.int .u8 0, .bool false, .int .i64 0, .string ⟨#[]⟩, .slice none 0 0, .slice none 0 0, .slice none 0 0] 33))) ⟨p, 1, none⟩ (.bool true) (fun _ => rfl)
  have hb1 := f1.heap HB.out (fun h => HNE.out h)
  have hmk := HR2.out.mark true
  have hp0 := Fr.refl (fun k => k = w.heap.size) ((w.alloc (.cells #[.int .u8 0, .bool false, .int .i64 0, .string ⟨#[]⟩, .slice none 0 0, .slice none 0 0, .slice none 0 0] 33)).setCell ⟨p, 1, none⟩ (.bool true))
  have hset := set7_row (a := .int .u8 0) (b := .bool false) (c := .int .i64 0) (d := .string ⟨#[]⟩) (e := .slice none 0 0) (f := .slice none 0 0) (h := .slice none 0 0) hb1
  have hsf := hp0.trans (set7_fr _ w.heap.size (.int .u8 0) (.bool false) (.int .i64 0) (.string ⟨#[]⟩) (.slice none 0 0) (.slice none 0 0) (.slice none 0 0)) (fun _ _ h => h)
  unfold set7 at hset hsf
  refine bodyPost_ret (results_cell_row (P := Tryd.prog) rfl _ _ w.heap.size 33 _ (0, 0) _ rfl hset Tryd.underlying33 rfl (by kernel_rfl)) rfl ?_
  exact val_bad_fin rfl hmk (((Fr.refl (At p) w).alloc _).trans f1 (fun _ _ h => h)) hsf hm (Nat.le_refl _)

set_option maxRecDepth 100000 in
set_option maxHeartbeats 1000000 in
theorem val_null (d m p : Nat) (w : World) (r : List UInt8) (h : Rdr m w p (16 :: r) false) (hm : m ≤ w.heap.size) (hl : (16 :: r).length ≤ 1000000000) :
    Calls Tryd.prog 35 #[.pointer (some ⟨p, 0, none⟩), .int .i64 ((d + 1 : Nat) : Int)] w fun e w' => ValOut (d + 1) m p w (16 :: r) e w' := by
  have g0 : (((d + 1 : Nat) : Int) == 0) = false := by rw [beq_eq_false_iff_ne]; omega
  have HR := Lib.hid h
  have HP := Lib.hid h.1
  clear h
  go_enter Tryd.func35, Tryd.ntmps35
  go_wp2_with fail
  refine (rnext_any m p _ (16 :: r) false (HR.out.kept0 (by (repeat first | exact Fr.refl _ _ | exact Fr.drewN _ _ _ | apply Fr.drew | apply Fr.alloc | apply Fr.setAt | apply Fr.moreN))) (by first | omega | simp)).mono ?_
  rintro e w2 ⟨rfl, h2, f2⟩
  have hb := f2.heap (heap_alloc_new w (.cells #[.int .u8 0, .bool false, .int .i64 0, .string ⟨#[]⟩, .slice none 0 0, .slice none 0 0, .slice none 0 0] 33)) (fun h => by have h1 := HP.out; have h : w.heap.size = p := h; omega)
  have ff : Fr (At p) w w2 := Fr.trans (S := At p) ((Fr.refl (At p) w).alloc _) f2 (fun _ _ h => h)
  obtain ⟨q0, q1, q2, q3, q4, q5, q6, qz, ql⟩ := seven_cells hb
  have HB := Lib.hid hb; have HR2 := Lib.hid h2; have F2 := Lib.hid ff
  clear hb h2 f2 ff
  simp only [nextB, List.headD_cons]
  go_wp2
  have hp0 := Fr.refl (fun k => k = w.heap.size) w2
  have hs1 := hp_same HB.out 0 (.int .u8 1)
  simp only [List.setIfInBounds_toArray, List.set_cons_zero] at hs1
  have hp1 := Fr.setCell hp0 ⟨w.heap.size, 0, none⟩ (.int .u8 1) (fun _ => rfl)
  have hset := set7_row (a := .int .u8 1) (b := .bool false) (c := .int .i64 0) (d := .string ⟨#[]⟩) (e := .slice none 0 0) (f := .slice none 0 0) (h := .slice none 0 0) hs1
  have hsf := hp1.trans (set7_fr _ w.heap.size (.int .u8 1) (.bool false) (.int .i64 0) (.string ⟨#[]⟩) (.slice none 0 0) (.slice none 0 0) (.slice none 0 0)) (fun _ _ h => h)
  unfold set7 at hset hsf
  refine bodyPost_ret (results_cell_row (P := Tryd.prog) rfl _ _ w.heap.size 33 _ (0, 0) _ rfl hset Tryd.underlying33 rfl (by kernel_rfl)) rfl ?_
  exact val_fin (x := .mk 1 false 0 [] [] nil3 [] []) (by rw [dec16, bare_leaf]; rfl) (own_leaf _ _ _ _ _) (fun k hk => (blk_leaf hk).elim) HR2.out F2.out hsf hm (by simp)

set_option maxRecDepth 100000 in
set_option maxHeartbeats 1000000 in
theorem val_no (d m p : Nat) (w : World) (r : List UInt8) (h : Rdr m w p (32 :: r) false) (hm : m ≤ w.heap.size) (hl : (32 :: r).length ≤ 1000000000) :
    Calls Tryd.prog 35 #[.pointer (some ⟨p, 0, none⟩), .int .i64 ((d + 1 : Nat) : Int)] w fun e w' => ValOut (d + 1) m p w (32 :: r) e w' := by
  have g0 : (((d + 1 : Nat) : Int) == 0) = false := by rw [beq_eq_false_iff_ne]; omega
  have HR := Lib.hid h
  have HP := Lib.hid h.1
  clear h
  go_enter Tryd.func35, Tryd.ntmps35
  go_wp2_with fail
  refine (rnext_any m p _ (32 :: r) false (HR.out.kept0 (by (repeat first | exact Fr.refl _ _ | exact Fr.drewN _ _ _ | apply Fr.drew | apply Fr.alloc | apply Fr.setAt | apply Fr.moreN))) (by first | omega | simp)).mono ?_
  rintro e w2 ⟨rfl, h2, f2⟩
  have hb := f2.heap (heap_alloc_new w (.cells #[.int .u8 0, .bool false, .int .i64 0, .string ⟨#[]⟩, .slice none 0 0, .slice none 0 0, .slice none 0 0] 33)) (fun h => by have h1 := HP.out; have h : w.heap.size = p := h; omega)
  have ff : Fr (At p) w w2 := Fr.trans (S := At p) ((Fr.refl (At p) w).alloc _) f2 (fun _ _ h => h)
  obtain ⟨q0, q1, q2, q3, q4, q5, q6, qz, ql⟩ := seven_cells hb
  have HB := Lib.hid hb; have HR2 := Lib.hid h2; have F2 := Lib.hid ff
  clear hb h2 f2 ff
  simp only [nextB, List.headD_cons]
  go_wp2
  have hp0 := Fr.refl (fun k => k = w.heap.size) w2
  have hs1 := hp_same HB.out 0 (.int .u8 2)
  simp only [List.setIfInBounds_toArray, List.set_cons_zero] at hs1
  have hp1 := Fr.setCell hp0 ⟨w.heap.size, 0, none⟩ (.int .u8 2) (fun _ => rfl)
  have hs2 := hp_same hs1 1 (.bool false)
  simp only [List.setIfInBounds_toArray, List.set_cons_zero, List.set_cons_succ] at hs2
  have hp2 := Fr.setCell hp1 ⟨w.heap.size, 1, none⟩ (.bool false) (fun _ => rfl)
  have hset := set7_row (a := .int .u8 2) (b := .bool false) (c := .int .i64 0) (d := .string ⟨#[]⟩) (e := .slice none 0 0) (f := .slice none 0 0) (h := .slice none 0 0) hs2
  have hsf := hp2.trans (set7_fr _ w.heap.size (.int .u8 2) (.bool false) (.int .i64 0) (.string ⟨#[]⟩) (.slice none 0 0) (.slice none 0 0) (.slice none 0 0)) (fun _ _ h => h)
  unfold set7 at hset hsf
  refine bodyPost_ret (results_cell_row (P := Tryd.prog) rfl _ _ w.heap.size 33 _ (0, 0) _ rfl hset Tryd.underlying33 rfl (by kernel_rfl)) rfl ?_
  exact val_fin (x := .mk 2 false 0 [] [] nil3 [] []) (by rw [dec32, bare_leaf]; rfl) (own_leaf _ _ _ _ _) (fun k hk => (blk_leaf hk).elim) HR2.out F2.out hsf hm (by simp)

set_option maxRecDepth 100000 in
set_option maxHeartbeats 1000000 in
theorem val_yes (d m p : Nat) (w : World) (r : List UInt8) (h : Rdr m w p (33 :: r) false) (hm : m ≤ w.heap.size) (hl : (33 :: r).length ≤ 1000000000) :
    Calls Tryd.prog 35 #[.pointer (some ⟨p, 0, none⟩), .int .i64 ((d + 1 : Nat) : Int)] w fun e w' => ValOut (d + 1) m p w (33 :: r) e w' := by
  have g0 : (((d + 1 : Nat) : Int) == 0) = false := by rw [beq_eq_false_iff_ne]; omega
  have HR := Lib.hid h
  have HP := Lib.hid h.1
  clear h
  go_enter Tryd.func35, Tryd.ntmps35
  go_wp2_with fail
  refine (rnext_any m p _ (33 :: r) false (HR.out.kept0 (by (repeat first | exact Fr.refl _ _ | exact Fr.drewN _ _ _ | apply Fr.drew | apply Fr.alloc | apply Fr.setAt | apply Fr.moreN))) (by first | omega | simp)).mono ?_
  rintro e w2 ⟨rfl, h2, f2⟩
  have hb := f2.heap (heap_alloc_new w (.cells #[.int .u8 0, .bool false, .int .i64 0, .string ⟨#[]⟩, .slice none 0 0, .slice none 0 0, .slice none 0 0] 33)) (fun h => by have h1 := HP.out; have h : w.heap.size = p := h; omega)
  have ff : Fr (At p) w w2 := Fr.trans (S := At p) ((Fr.refl (At p) w).alloc _) f2 (fun _ _ h => h)
  obtain ⟨q0, q1, q2, q3, q4, q5, q6, qz, ql⟩ := seven_cells hb
  have HB := Lib.hid hb; have HR2 := Lib.hid h2; have F2 := Lib.hid ff
  clear hb h2 f2 ff
  simp only [nextB, List.headD_cons]
  go_wp2
  have hp0 := Fr.refl (fun k => k = w.heap.size) w2
  have hs1 := hp_same HB.out 0 (.int .u8 2)
  simp only [List.setIfInBounds_toArray, List.set_cons_zero] at hs1
  have hp1 := Fr.setCell hp0 ⟨w.heap.size, 0, none⟩ (.int .u8 2) (fun _ => rfl)
  have hs2 := hp_same hs1 1 (.bool true)
  simp only [List.setIfInBounds_toArray, List.set_cons_zero, List.set_cons_succ] at hs2
  have hp2 := Fr.setCell hp1 ⟨w.heap.size, 1, none⟩ (.bool true) (fun _ => rfl)
  have hset := set7_row (a := .int .u8 2) (b := .bool true) (c := .int .i64 0) (d := .string ⟨#[]⟩) (e := .slice none 0 0) (f := .slice none 0 0) (h := .slice none 0 0) hs2
  have hsf := hp2.trans (set7_fr _ w.heap.size (.int .u8 2) (.bool true) (.int .i64 0) (.string ⟨#[]⟩) (.slice none 0 0) (.slice none 0 0) (.slice none 0 0)) (fun _ _ h => h)
  unfold set7 at hset hsf
  refine bodyPost_ret (results_cell_row (P := Tryd.prog) rfl _ _ w.heap.size 33 _ (0, 0) _ rfl hset Tryd.underlying33 rfl (by kernel_rfl)) rfl ?_
  exact val_fin (x := .mk 2 true 0 [] [] nil3 [] []) (by rw [dec33, bare_leaf]; rfl) (own_leaf _ _ _ _ _) (fun k hk => (blk_leaf hk).elim) HR2.out F2.out hsf hm (by simp)

set_option maxRecDepth 100000 in
set_option maxHeartbeats 1000000 in
theorem val_nil (d m p : Nat) (w : World) (h : Rdr m w p (([] : List UInt8)) false) (hm : m ≤ w.heap.size) (hl : (([] : List UInt8)).length ≤ 1000000000) :
    Calls Tryd.prog 35 #[.pointer (some ⟨p, 0, none⟩), .int .i64 ((d + 1 : Nat) : Int)] w fun e w' => ValOut (d + 1) m p w (([] : List UInt8)) e w' := by
  have g0 : (((d + 1 : Nat) : Int) == 0) = false := by rw [beq_eq_false_iff_ne]; omega
  have HR := Lib.hid h
  have HP := Lib.hid h.1
  clear h
  go_enter Tryd.func35, Tryd.ntmps35
  go_wp2_with fail
  refine (rnext_any m p _ ([]) false (HR.out.kept0 (by (repeat first | exact Fr.refl _ _ | exact Fr.drewN _ _ _ | apply Fr.drew | apply Fr.alloc | apply Fr.setAt | apply Fr.moreN))) (by first | omega | simp)).mono ?_
  rintro e w2 ⟨rfl, h2, f2⟩
  have hb := f2.heap (heap_alloc_new w (.cells #[.int .u8 0, .bool false, .int .i64 0, .string ⟨#[]⟩, .slice none 0 0, .slice none 0 0, .slice none 0 0] 33)) (fun h => by have h1 := HP.out; have h : w.heap.size = p := h; omega)
  have ff : Fr (At p) w w2 := Fr.trans (S := At p) ((Fr.refl (At p) w).alloc _) f2 (fun _ _ h => h)
  obtain ⟨q0, q1, q2, q3, q4, q5, q6, qz, ql⟩ := seven_cells hb
  have HB := Lib.hid hb; have HR2 := Lib.hid h2; have F2 := Lib.hid ff
  clear hb h2 f2 ff
  obtain ⟨y1, yz, yb⟩ := HR2.out.cells
  have hne : w.heap.size ≠ p := by have h1 := HP.out; omega
  simp only [nextB, List.headD_nil]
  go_wp2
  have f1 := Fr.setCell (Fr.refl (At p) w2) ⟨p, 1, none⟩ (.bool true) (fun _ => rfl)
  have hb1 := f1.heap HB.out (fun h => hne h)
  have hmk := HR2.out.mark true
  have hp0 := Fr.refl (fun k => k = w.heap.size) (w2.setCell ⟨p, 1, none⟩ (.bool true))
  have hset := set7_row (a := .int .u8 0) (b := .bool false) (c := .int .i64 0) (d := .string ⟨#[]⟩) (e := .slice none 0 0) (f := .slice none 0 0) (h := .slice none 0 0) hb1
  have hsf := hp0.trans (set7_fr _ w.heap.size (.int .u8 0) (.bool false) (.int .i64 0) (.string ⟨#[]⟩) (.slice none 0 0) (.slice none 0 0) (.slice none 0 0)) (fun _ _ h => h)
  unfold set7 at hset hsf
  refine bodyPost_ret (results_cell_row (P := Tryd.prog) rfl _ _ w.heap.size 33 _ (0, 0) _ rfl hset Tryd.underlying33 rfl (by kernel_rfl)) rfl ?_
  exact val_bad_fin (s := []) rfl hmk (F2.out.trans f1 (fun _ _ h => h)) hsf hm (Nat.le_refl _)

set_option maxRecDepth 100000 in
set_option maxHeartbeats 1000000 in
theorem val_other (d m p : Nat) (w : World) (c : UInt8) (r : List UInt8) (hc : c ≠ 16 ∧ c ≠ 32 ∧ c ≠ 33 ∧ c ≠ 48 ∧ c ≠ 64 ∧ c ≠ 80 ∧ c ≠ 96) (h : Rdr m w p (c :: r) false) (hm : m ≤ w.heap.size) (hl : (c :: r).length ≤ 1000000000) :
    Calls Tryd.prog 35 #[.pointer (some ⟨p, 0, none⟩), .int .i64 ((d + 1 : Nat) : Int)] w fun e w' => ValOut (d + 1) m p w (c :: r) e w' := by
  have g0 : (((d + 1 : Nat) : Int) == 0) = false := by rw [beq_eq_false_iff_ne]; omega
  have e1 := byte_ne (n := 16) hc.1 rfl
  have e2 := byte_ne (n := 32) hc.2.1 rfl
  have e3 := byte_ne (n := 33) hc.2.2.1 rfl
  have e4 := byte_ne (n := 48) hc.2.2.2.1 rfl
  have e5 := byte_ne (n := 64) hc.2.2.2.2.1 rfl
  have e6 := byte_ne (n := 80) hc.2.2.2.2.2.1 rfl
  have e7 := byte_ne (n := 96) hc.2.2.2.2.2.2 rfl
  have hdc := Lib.hid (dec_other d c r hc)
  clear hc
  have HR := Lib.hid h
  have HP := Lib.hid h.1
  clear h
  go_enter Tryd.func35, Tryd.ntmps35
  go_wp2_with fail
  refine (rnext_any m p _ (c :: r) false (HR.out.kept0 (by (repeat first | exact Fr.refl _ _ | exact Fr.drewN _ _ _ | apply Fr.drew | apply Fr.alloc | apply Fr.setAt | apply Fr.moreN))) (by first | omega | simp)).mono ?_
  rintro e w2 ⟨rfl, h2, f2⟩
  have hb := f2.heap (heap_alloc_new w (.cells #[.int .u8 0, .bool false, .int .i64 0, .string ⟨#[]⟩, .slice none 0 0, .slice none 0 0, .slice none 0 0] 33)) (fun h => by have h1 := HP.out; have h : w.heap.size = p := h; omega)
  have ff : Fr (At p) w w2 := Fr.trans (S := At p) ((Fr.refl (At p) w).alloc _) f2 (fun _ _ h => h)
  obtain ⟨q0, q1, q2, q3, q4, q5, q6, qz, ql⟩ := seven_cells hb
  have HB := Lib.hid hb; have HR2 := Lib.hid h2; have F2 := Lib.hid ff
  clear hb h2 f2 ff
  obtain ⟨y1, yz, yb⟩ := HR2.out.cells
  have hne : w.heap.size ≠ p := by have h1 := HP.out; omega
  simp only [nextB, List.headD_cons]
  go_wp2
  have f1 := Fr.setCell (Fr.refl (At p) w2) ⟨p, 1, none⟩ (.bool true) (fun _ => rfl)
  have hb1 := f1.heap HB.out (fun h => hne h)
  have hmk := HR2.out.mark true
  have hp0 := Fr.refl (fun k => k = w.heap.size) (w2.setCell ⟨p, 1, none⟩ (.bool true))
  have hset := set7_row (a := .int .u8 0) (b := .bool false) (c := .int .i64 0) (d := .string ⟨#[]⟩) (e := .slice none 0 0) (f := .slice none 0 0) (h := .slice none 0 0) hb1
  have hsf := hp0.trans (set7_fr _ w.heap.size (.int .u8 0) (.bool false) (.int .i64 0) (.string ⟨#[]⟩) (.slice none 0 0) (.slice none 0 0) (.slice none 0 0)) (fun _ _ h => h)
  unfold set7 at hset hsf
  refine bodyPost_ret (results_cell_row (P := Tryd.prog) rfl _ _ w.heap.size 33 _ (0, 0) _ rfl hset Tryd.underlying33 rfl (by kernel_rfl)) rfl ?_
  exact val_bad_fin hdc.out hmk (F2.out.trans f1 (fun _ _ h => h)) hsf hm (by simp)

set_option maxRecDepth 100000 in
set_option maxHeartbeats 1000000 in
theorem val_int (d m p : Nat) (w : World) (r : List UInt8) (h : Rdr m w p (48 :: r) false) (hm : m ≤ w.heap.size) (hl : (48 :: r).length ≤ 1000000000) :
    Calls Tryd.prog 35 #[.pointer (some ⟨p, 0, none⟩), .int .i64 ((d + 1 : Nat) : Int)] w fun e w' => ValOut (d + 1) m p w (48 :: r) e w' := by
  have g0 : (((d + 1 : Nat) : Int) == 0) = false := by rw [beq_eq_false_iff_ne]; omega
  have HR := Lib.hid h
  have HP := Lib.hid h.1
  clear h
  go_enter Tryd.func35, Tryd.ntmps35
  go_wp2_with fail
  refine (rnext_any m p _ (48 :: r) false (HR.out.kept0 (by (repeat first | exact Fr.refl _ _ | exact Fr.drewN _ _ _ | apply Fr.drew | apply Fr.alloc | apply Fr.setAt | apply Fr.moreN))) (by first | omega | simp)).mono ?_
  rintro e w2 ⟨rfl, h2, f2⟩
  have hb := f2.heap (heap_alloc_new w (.cells #[.int .u8 0, .bool false, .int .i64 0, .string ⟨#[]⟩, .slice none 0 0, .slice none 0 0, .slice none 0 0] 33)) (fun h => by have h1 := HP.out; have h : w.heap.size = p := h; omega)
  have ff : Fr (At p) w w2 := Fr.trans (S := At p) ((Fr.refl (At p) w).alloc _) f2 (fun _ _ h => h)
  obtain ⟨q0, q1, q2, q3, q4, q5, q6, qz, ql⟩ := seven_cells hb
  have HB := Lib.hid hb; have HR2 := Lib.hid h2; have F2 := Lib.hid ff
  clear hb h2 f2 ff
  have hrl : r.length ≤ 1000000000 := by simp only [List.length_cons] at hl; omega
  simp only [nextB, List.headD_cons]
  go_wp2
  go_loopw [6, 31] (fun nv iv wr => Fr (At p) w2 wr ∧ ∃ j : Nat, j ≤ 8 ∧ iv = .int .i64 j ∧ ((j ≤ r.length ∧ nv = .int .u64 (un 0 (r.take j)) ∧ Rdr m wr p (r.drop j) false) ∨ (r.length < 8 ∧ (∃ X, nv = .int .u64 X) ∧ Rdr m wr p [] true))) (fun _ iv _ => 8 - (intOf iv).toNat)
  case atStart => exact ⟨Fr.refl _ _, 0, by omega, rfl, .inl ⟨Nat.zero_le _, rfl, HR2.out⟩⟩
  case round =>
    clear q0 q1 q2 q3 q4 q5 q6 qz ql
    obtain ⟨hfr, j, hj, rfl, hcase⟩ := hrel
    by_cases hlt : j < 8
    · rcases hcase with ⟨hjl, rfl, hrd⟩ | ⟨hr8, ⟨X, rfl⟩, hrd⟩
      · by_cases hj2 : j < r.length
        · rw [List.drop_eq_getElem_cons hj2] at hrd
          have hN : un 0 (r.take j) < 72057594037927936 := by
            have h1 := un_lt (r.take j)
            rw [List.length_take, Nat.min_eq_left hjl] at h1
            have h2 : 256 ^ j ≤ 256 ^ 7 := Nat.pow_le_pow_right (by omega) (by omega)
            have h3 : (256 : Nat) ^ 7 = 72057594037927936 := rfl
            omega
          have he := eight (un 0 (r.take j)) r[j].toNat hN r[j].toNat_lt
          have hun : un 0 (r.take j) * 256 + r[j].toNat = un 0 (r.take (j + 1)) := by rw [List.take_succ_eq_append_getElem hj2, un_snoc]
          rw [hun] at he
          have HFR := Lib.hid hfr; have HRD := Lib.hid hrd; have HE := Lib.hid he
          clear hfr hrd hN hun he
          go_wp2_with fail
          refine (rnext_any m p _ _ false HRD.out (by simp only [List.length_cons, List.length_drop]; omega)).mono ?_
          rintro e w3 ⟨rfl, h3, f3⟩
          have HR3 := Lib.hid h3; have F3 := Lib.hid f3
          clear h3 f3
          simp only [nextB, List.headD_cons]
          go_wp2
          go_roundw
          case rel => exact ⟨HFR.out.trans F3.out (fun _ _ h => h), j + 1, by omega, by go_num, .inl ⟨by omega, by rw [wrap_u64_id (r[j].toNat : Int) (by omega) (by have := r[j].toNat_lt; omega), HE.out], HR3.out⟩⟩
          case measure => simp [intOf]; omega
        · obtain rfl : j = r.length := by omega
          rw [List.drop_length] at hrd
          have HFR := Lib.hid hfr; have HRD := Lib.hid hrd
          clear hfr hrd
          go_wp2_with fail
          refine (rnext_any m p _ _ false HRD.out (by simp)).mono ?_
          rintro e w3 ⟨rfl, h3, f3⟩
          have HR3 := Lib.hid h3; have F3 := Lib.hid f3
          clear h3 f3
          simp only [nextB, List.headD_nil]
          go_wp2
          go_roundw
          case rel => exact ⟨HFR.out.trans F3.out (fun _ _ h => h), r.length + 1, by omega, by go_num, .inr ⟨by omega, ⟨_, rfl⟩, HR3.out⟩⟩
          case measure => simp [intOf]; omega
      · skip
        have HFR := Lib.hid hfr; have HRD := Lib.hid hrd
        clear hfr hrd
        go_wp2_with fail
        refine (rnext_any m p _ _ true HRD.out (by simp)).mono ?_
        rintro e w3 ⟨rfl, h3, f3⟩
        have HR3 := Lib.hid h3; have F3 := Lib.hid f3
        clear h3 f3
        simp only [nextB, List.headD_nil]
        go_wp2
        go_roundw
        case rel => exact ⟨HFR.out.trans F3.out (fun _ _ h => h), j + 1, by omega, by go_num, .inr ⟨by omega, ⟨_, rfl⟩, HR3.out⟩⟩
        case measure => simp [intOf]; omega
    · obtain rfl : j = 8 := by omega
      have hne : w.heap.size ≠ p := by have h1 := HP.out; omega
      have hbr := hfr.heap HB.out (fun h => hne h)
      obtain ⟨q0, q1, q2, q3, q4, q5, q6, qz, ql⟩ := seven_cells hbr
      have HBR := Lib.hid hbr; have HFR := Lib.hid (F2.out.trans hfr (fun _ _ h => h))
      clear hbr hfr
      rcases hcase with ⟨hjl, rfl, hrd⟩ | ⟨hr8, ⟨X, rfl⟩, hrd⟩
      · have hx := xor_ios (un 0 (r.take 8)) (by
          have h1 := un_lt (r.take 8)
          rwa [List.length_take, Nat.min_eq_left hjl] at h1)
        rw [IntWalk.i64_left] at hx
        have hdc : dec (d + 1) (48 :: r) = some (.mk 3 false (ios (un 0 (r.take 8))) [] [] () [] [], r.drop 8) := by rw [dec48, if_neg (by omega)]
        have HDC := Lib.hid hdc; have HRD := Lib.hid hrd
        clear hdc hrd
        go_wp2
        have hp0 := Fr.refl (fun k => k = w.heap.size) wr
        have hs1 := hp_same HBR.out 0 (.int .u8 3)
        simp only [List.setIfInBounds_toArray, List.set_cons_zero] at hs1
        have hp1 := Fr.setCell hp0 ⟨w.heap.size, 0, none⟩ (.int .u8 3) (fun _ => rfl)
        have hs2 := hp_same hs1 2 (.int .i64 (ios (un 0 (r.take 8))))
        simp only [List.setIfInBounds_toArray, List.set_cons_zero, List.set_cons_succ] at hs2
        have hp2 := Fr.setCell hp1 ⟨w.heap.size, 2, none⟩ (.int .i64 (ios (un 0 (r.take 8)))) (fun _ => rfl)
        have hset := set7_row (a := .int .u8 3) (b := .bool false) (c := .int .i64 (ios (un 0 (r.take 8)))) (d := .string ⟨#[]⟩) (e := .slice none 0 0) (f := .slice none 0 0) (h := .slice none 0 0) hs2
        have hsf := hp2.trans (set7_fr _ w.heap.size (.int .u8 3) (.bool false) (.int .i64 (ios (un 0 (r.take 8)))) (.string ⟨#[]⟩) (.slice none 0 0) (.slice none 0 0) (.slice none 0 0)) (fun _ _ h => h)
        unfold set7 at hset hsf
        refine bodyPost_ret (results_cell_row (P := Tryd.prog) rfl _ _ w.heap.size 33 _ (0, 0) _ rfl hset Tryd.underlying33 rfl (by kernel_rfl)) rfl ?_
        exact val_fin (x := .mk 3 false (ios (un 0 (r.take 8))) [] [] nil3 [] []) (by rw [HDC.out, bare_leaf]) (own_leaf _ _ _ _ _) (fun k hk => (blk_leaf hk).elim) HRD.out HFR.out hsf hm (by simp only [List.length_drop, List.length_cons]; omega)
      · have hdc : dec (d + 1) (48 :: r) = none := by rw [dec48, if_pos hr8]
        have HDC := Lib.hid hdc; have HRD := Lib.hid hrd
        clear hdc hrd
        go_wp2
        have hp0 := Fr.refl (fun k => k = w.heap.size) wr
        have hs1 := hp_same HBR.out 0 (.int .u8 3)
        simp only [List.setIfInBounds_toArray, List.set_cons_zero] at hs1
        have hp1 := Fr.setCell hp0 ⟨w.heap.size, 0, none⟩ (.int .u8 3) (fun _ => rfl)
        have hs2 := hp_same hs1 2 (.int .i64 (wrap64 (bits BinOp.xor IntKind.u64 X 9223372036854775808)))
        simp only [List.setIfInBounds_toArray, List.set_cons_zero, List.set_cons_succ] at hs2
        have hp2 := Fr.setCell hp1 ⟨w.heap.size, 2, none⟩ (.int .i64 (wrap64 (bits BinOp.xor IntKind.u64 X 9223372036854775808))) (fun _ => rfl)
        have hset := set7_row (a := .int .u8 3) (b := .bool false) (c := .int .i64 (wrap64 (bits BinOp.xor IntKind.u64 X 9223372036854775808))) (d := .string ⟨#[]⟩) (e := .slice none 0 0) (f := .slice none 0 0) (h := .slice none 0 0) hs2
        have hsf := hp2.trans (set7_fr _ w.heap.size (.int .u8 3) (.bool false) (.int .i64 (wrap64 (bits BinOp.xor IntKind.u64 X 9223372036854775808))) (.string ⟨#[]⟩) (.slice none 0 0) (.slice none 0 0) (.slice none 0 0)) (fun _ _ h => h)
        unfold set7 at hset hsf
        refine bodyPost_ret (results_cell_row (P := Tryd.prog) rfl _ _ w.heap.size 33 _ (0, 0) _ rfl hset Tryd.underlying33 rfl (by kernel_rfl)) rfl ?_
        exact val_bad_fin HDC.out HRD.out HFR.out hsf hm (by simp)

set_option maxRecDepth 100000 in
set_option maxHeartbeats 1000000 in
theorem val_raw (d m p : Nat) (w : World) (r : List UInt8) (h : Rdr m w p (80 :: r) false) (hm : m ≤ w.heap.size) (hl : (80 :: r).length ≤ 1000000000) :
    Calls Tryd.prog 35 #[.pointer (some ⟨p, 0, none⟩), .int .i64 ((d + 1 : Nat) : Int)] w fun e w' => ValOut (d + 1) m p w (80 :: r) e w' := by
  have g0 : (((d + 1 : Nat) : Int) == 0) = false := by rw [beq_eq_false_iff_ne]; omega
  have HR := Lib.hid h
  have HP := Lib.hid h.1
  clear h
  go_enter Tryd.func35, Tryd.ntmps35
  go_wp2_with fail
  refine (rnext_any m p _ (80 :: r) false (HR.out.kept0 (by (repeat first | exact Fr.refl _ _ | exact Fr.drewN _ _ _ | apply Fr.drew | apply Fr.alloc | apply Fr.setAt | apply Fr.moreN))) (by first | omega | simp)).mono ?_
  rintro e w2 ⟨rfl, h2, f2⟩
  have hb := f2.heap (heap_alloc_new w (.cells #[.int .u8 0, .bool false, .int .i64 0, .string ⟨#[]⟩, .slice none 0 0, .slice none 0 0, .slice none 0 0] 33)) (fun h => by have h1 := HP.out; have h : w.heap.size = p := h; omega)
  have ff : Fr (At p) w w2 := Fr.trans (S := At p) ((Fr.refl (At p) w).alloc _) f2 (fun _ _ h => h)
  obtain ⟨q0, q1, q2, q3, q4, q5, q6, qz, ql⟩ := seven_cells hb
  have HB := Lib.hid hb; have HR2 := Lib.hid h2; have F2 := Lib.hid ff
  clear hb h2 f2 ff
  have hsz : w.heap.size + 1 ≤ w2.heap.size := by have := (Array.getElem?_eq_some_iff.1 HB.out).1; omega
  have hrl : r.length ≤ 1000000000 := by simp only [List.length_cons] at hl; omega
  have hne : w.heap.size ≠ p := by have h1 := HP.out; omega
  have hesc := escaped_any m p w2 r HR2.out (by omega) (by omega)
  have HESC := Lib.hid hesc; clear hesc
  simp only [nextB, List.headD_cons]
  go_wp2_with fail
  refine HESC.out.mono ?_
  rintro e w3 ⟨f3, ⟨t, s, A, c, hu, rfl, how, hfs, hrd, hln⟩ | ⟨hu, rfl, s, hrd, hln⟩⟩
  · have hb3 := f3.heap HB.out (fun h => hne h)
    obtain ⟨q0, q1, q2, q3, q4, q5, q6, qz, ql⟩ := seven_cells hb3
    have HB3 := Lib.hid hb3; have F3 := Lib.hid (F2.out.trans f3 (fun _ _ h => h)); have HU := Lib.hid hu; have HOW := Lib.hid how; have HFS := Lib.hid hfs; have HRD := Lib.hid hrd; have HLN := Lib.hid hln
    clear hb3 f3 hu how hfs hrd hln
    go_wp2
    have hp0 := Fr.refl (fun k => k = w.heap.size) w3
    have hs1 := hp_same HB3.out 0 (.int .u8 5)
    simp only [List.setIfInBounds_toArray, List.set_cons_zero] at hs1
    have hp1 := Fr.setCell hp0 ⟨w.heap.size, 0, none⟩ (.int .u8 5) (fun _ => rfl)
    have hs2 := hp_same hs1 4 (.slice A t.length c)
    simp only [List.setIfInBounds_toArray, List.set_cons_zero, List.set_cons_succ] at hs2
    have hp2 := Fr.setCell hp1 ⟨w.heap.size, 4, none⟩ (.slice A t.length c) (fun _ => rfl)
    have hset := set7_row (a := .int .u8 5) (b := .bool false) (c := .int .i64 0) (d := .string ⟨#[]⟩) (e := .slice A t.length c) (f := .slice none 0 0) (h := .slice none 0 0) hs2
    have hsf := hp2.trans (set7_fr _ w.heap.size (.int .u8 5) (.bool false) (.int .i64 0) (.string ⟨#[]⟩) (.slice A t.length c) (.slice none 0 0) (.slice none 0 0)) (fun _ _ h => h)
    unfold set7 at hset hsf
    refine bodyPost_ret (results_cell_row (P := Tryd.prog) rfl _ _ w.heap.size 33 _ (0, 0) _ rfl hset Tryd.underlying33 rfl (by kernel_rfl)) rfl ?_
    exact val_fin (x := .mk 5 false 0 [] t (.slice A t.length c, .slice none 0 0, .slice none 0 0) [] []) (by rw [dec80, HU.out, bare_leaf]; rfl) (own_raw HOW.out _ _ _) (fun k hk => by have := HFS.out k (blk_raw hk); omega) HRD.out F3.out hsf hm (by have := HLN.out; simp only [List.length_cons]; omega)
  · have hb3 := f3.heap HB.out (fun h => hne h)
    obtain ⟨q0, q1, q2, q3, q4, q5, q6, qz, ql⟩ := seven_cells hb3
    have HB3 := Lib.hid hb3; have F3 := Lib.hid (F2.out.trans f3 (fun _ _ h => h)); have HU := Lib.hid hu; have HRD := Lib.hid hrd; have HLN := Lib.hid hln
    clear hb3 f3 hu hrd hln
    go_wp2
    have hp0 := Fr.refl (fun k => k = w.heap.size) w3
    have hs1 := hp_same HB3.out 0 (.int .u8 5)
    simp only [List.setIfInBounds_toArray, List.set_cons_zero] at hs1
    have hp1 := Fr.setCell hp0 ⟨w.heap.size, 0, none⟩ (.int .u8 5) (fun _ => rfl)
    have hs2 := hp_same hs1 4 (.slice none 0 0)
    simp only [List.setIfInBounds_toArray, List.set_cons_zero, List.set_cons_succ] at hs2
    have hp2 := Fr.setCell hp1 ⟨w.heap.size, 4, none⟩ (.slice none 0 0) (fun _ => rfl)
    have hset := set7_row (a := .int .u8 5) (b := .bool false) (c := .int .i64 0) (d := .string ⟨#[]⟩) (e := .slice none 0 0) (f := .slice none 0 0) (h := .slice none 0 0) hs2
    have hsf := hp2.trans (set7_fr _ w.heap.size (.int .u8 5) (.bool false) (.int .i64 0) (.string ⟨#[]⟩) (.slice none 0 0) (.slice none 0 0) (.slice none 0 0)) (fun _ _ h => h)
    unfold set7 at hset hsf
    refine bodyPost_ret (results_cell_row (P := Tryd.prog) rfl _ _ w.heap.size 33 _ (0, 0) _ rfl hset Tryd.underlying33 rfl (by kernel_rfl)) rfl ?_
    exact val_bad_fin (by rw [dec80, HU.out]; rfl) HRD.out F3.out hsf hm (by have := HLN.out; simp only [List.length_cons]; omega)

set_option maxRecDepth 100000 in
set_option maxHeartbeats 1000000 in
theorem val_text (d m p : Nat) (w : World) (r : List UInt8) (h : Rdr m w p (64 :: r) false) (hm : m ≤ w.heap.size) (hl : (64 :: r).length ≤ 1000000000) :
    Calls Tryd.prog 35 #[.pointer (some ⟨p, 0, none⟩), .int .i64 ((d + 1 : Nat) : Int)] w fun e w' => ValOut (d + 1) m p w (64 :: r) e w' := by
  have g0 : (((d + 1 : Nat) : Int) == 0) = false := by rw [beq_eq_false_iff_ne]; omega
  have HR := Lib.hid h
  have HP := Lib.hid h.1
  clear h
  go_enter Tryd.func35, Tryd.ntmps35
  go_wp2_with fail
  refine (rnext_any m p _ (64 :: r) false (HR.out.kept0 (by (repeat first | exact Fr.refl _ _ | exact Fr.drewN _ _ _ | apply Fr.drew | apply Fr.alloc | apply Fr.setAt | apply Fr.moreN))) (by first | omega | simp)).mono ?_
  rintro e w2 ⟨rfl, h2, f2⟩
  have hb := f2.heap (heap_alloc_new w (.cells #[.int .u8 0, .bool false, .int .i64 0, .string ⟨#[]⟩, .slice none 0 0, .slice none 0 0, .slice none 0 0] 33)) (fun h => by have h1 := HP.out; have h : w.heap.size = p := h; omega)
  have ff : Fr (At p) w w2 := Fr.trans (S := At p) ((Fr.refl (At p) w).alloc _) f2 (fun _ _ h => h)
  obtain ⟨q0, q1, q2, q3, q4, q5, q6, qz, ql⟩ := seven_cells hb
  have HB := Lib.hid hb; have HR2 := Lib.hid h2; have F2 := Lib.hid ff
  clear hb h2 f2 ff
  have hsz : w.heap.size + 1 ≤ w2.heap.size := by have := (Array.getElem?_eq_some_iff.1 HB.out).1; omega
  have hrl : r.length ≤ 1000000000 := by simp only [List.length_cons] at hl; omega
  have hne : w.heap.size ≠ p := by have h1 := HP.out; omega
  have hesc := escaped_any m p w2.drew r (HR2.out.kept0 (Fr.drew (Fr.refl no w2))) (show m ≤ w2.heap.size by omega) (by omega)
  have HESC := Lib.hid hesc; clear hesc
  simp only [nextB, List.headD_cons]
  go_wp2_with fail
  refine wp_region_fork anyW (.fork [0, 3, 1] (.lin [2, 4, 5, 6]) (.lin [4, 2, 5, 6])) (fun i => [Kd.p, Kd.e, Kd.l, Kd.p, Kd.e, Kd.p, Kd.e].getD i .e) (by kernel_rfl) (by kernel_rfl) True.intro (wpB_fork ?_)
  iterate 2
    first | refine wpX_pu rfl rfl rfl (by first | exact pu_move rfl | exact pu_assign rfl | exact pu_nilCheck rfl rfl | exact pu_binInt rfl rfl rfl | exact pu_conv rfl rfl (by kernel_rfl) | exact pu_fld rfl (by kernel_rfl) | exact pu_ix rfl rfl rfl (by kernel_rfl) | exact pu_unOp rfl | exact pu_binStr rfl rfl rfl | exact pu_len rfl rfl | exact pu_lens rfl rfl | exact pu_pick rfl | exact pu_slice rfl rfl) (fun K hK => ?_) | refine wpX_rd rfl rfl rfl (rd_load rfl) (fun K hK => ?_) | refine wpX_gr rfl rfl rfl (by first | exact gr_buildSlice rfl | exact gr_box rfl | exact gr_alloc rfl) (fun K hK => ?_) | refine wpX_ex rfl rfl rfl (fun K hK => ?_)
    try go_wp2
  refine wpX_ex rfl rfl rfl (fun K hK => ?_)
  go_wp2_with fail
  refine HESC.out.mono ?_
  rintro e w3 ⟨f3, ⟨t, s, A, c, hu, rfl, how, hfs, hrd, hln⟩ | ⟨hu, rfl, s, hrd, hln⟩⟩
  · have HSL := Lib.hid how.sl
    have HSN := Lib.hid (fun k (h1 : Value.ownBlock (.slice A t.length c) = some k) (h : k = w.heap.size) => by have := hfs k h1; have h3 : w2.drew.heap.size = w2.heap.size := rfl; omega : ∀ k, Value.ownBlock (.slice A t.length c) = some k → ¬ k = w.heap.size)
    clear how hfs
    have hb3 := f3.heap HB.out (fun h => hne h)
    obtain ⟨q0, q1, q2, q3, q4, q5, q6, qz, ql⟩ := seven_cells hb3
    have HB3 := Lib.hid hb3; have F3 := Lib.hid ((Fr.drew F2.out).trans f3 (fun _ _ h => h)); have HU := Lib.hid hu; have HRD := Lib.hid hrd; have HLN := Lib.hid hln
    clear hb3 f3 hu hrd hln
    go_simp
    refine hK _ _ ?_
    clear hK K
    refine wpX_fork (wpB_lin ?_) (wpB_lin ?_)
    · skip
      refine wpX_lv (.string ⟨t.toArray⟩) rfl rfl rfl (fun e => ?_) ?_
      · have := str_ext (P := Tryd.prog) (src := 22) (dst := 9) (e := 5) (by kernel_rfl) (by kernel_rfl) (by kernel_rfl) (w := w3) HSL.out e
        simp [execOp, this, Act.eval]
      go_simp
      first | refine wpX_pu rfl rfl rfl (by first | exact pu_move rfl | exact pu_assign rfl | exact pu_nilCheck rfl rfl | exact pu_binInt rfl rfl rfl | exact pu_conv rfl rfl (by kernel_rfl) | exact pu_fld rfl (by kernel_rfl) | exact pu_ix rfl rfl rfl (by kernel_rfl) | exact pu_unOp rfl | exact pu_binStr rfl rfl rfl | exact pu_len rfl rfl | exact pu_lens rfl rfl | exact pu_pick rfl | exact pu_slice rfl rfl) (fun K hK => ?_) | refine wpX_rd rfl rfl rfl (rd_load rfl) (fun K hK => ?_) | refine wpX_gr rfl rfl rfl (by first | exact gr_buildSlice rfl | exact gr_box rfl | exact gr_alloc rfl) (fun K hK => ?_) | refine wpX_ex rfl rfl rfl (fun K hK => ?_)
      try go_wp2
      first | refine wpX_pu rfl rfl rfl (by first | exact pu_move rfl | exact pu_assign rfl | exact pu_nilCheck rfl rfl | exact pu_binInt rfl rfl rfl | exact pu_conv rfl rfl (by kernel_rfl) | exact pu_fld rfl (by kernel_rfl) | exact pu_ix rfl rfl rfl (by kernel_rfl) | exact pu_unOp rfl | exact pu_binStr rfl rfl rfl | exact pu_len rfl rfl | exact pu_lens rfl rfl | exact pu_pick rfl | exact pu_slice rfl rfl) (fun K hK => ?_) | refine wpX_rd rfl rfl rfl (rd_load rfl) (fun K hK => ?_) | refine wpX_gr rfl rfl rfl (by first | exact gr_buildSlice rfl | exact gr_box rfl | exact gr_alloc rfl) (fun K hK => ?_) | refine wpX_ex rfl rfl rfl (fun K hK => ?_)
      try go_wp2
      first | refine wpX_pu rfl rfl rfl (by first | exact pu_move rfl | exact pu_assign rfl | exact pu_nilCheck rfl rfl | exact pu_binInt rfl rfl rfl | exact pu_conv rfl rfl (by kernel_rfl) | exact pu_fld rfl (by kernel_rfl) | exact pu_ix rfl rfl rfl (by kernel_rfl) | exact pu_unOp rfl | exact pu_binStr rfl rfl rfl | exact pu_len rfl rfl | exact pu_lens rfl rfl | exact pu_pick rfl | exact pu_slice rfl rfl) (fun K hK => ?_) | refine wpX_rd rfl rfl rfl (rd_load rfl) (fun K hK => ?_) | refine wpX_gr rfl rfl rfl (by first | exact gr_buildSlice rfl | exact gr_box rfl | exact gr_alloc rfl) (fun K hK => ?_) | refine wpX_ex rfl rfl rfl (fun K hK => ?_)
      try go_wp2
      refine wpX_done ?_
      go_wp2
      have hp0 := Fr.refl (fun k => k = w.heap.size) w3
      have hs1 := hp_same HB3.out 0 (.int .u8 4)
      simp only [List.setIfInBounds_toArray, List.set_cons_zero] at hs1
      have hp1 := Fr.setCell hp0 ⟨w.heap.size, 0, none⟩ (.int .u8 4) (fun _ => rfl)
      have hs2 := hp_same hs1 3 (.string ⟨t.toArray⟩)
      simp only [List.setIfInBounds_toArray, List.set_cons_zero, List.set_cons_succ] at hs2
      have hp2 := Fr.setCell hp1 ⟨w.heap.size, 3, none⟩ (.string ⟨t.toArray⟩) (fun _ => rfl)
      have hset := set7_row (a := .int .u8 4) (b := .bool false) (c := .int .i64 0) (d := .string ⟨t.toArray⟩) (e := .slice none 0 0) (f := .slice none 0 0) (h := .slice none 0 0) hs2
      have hsf := hp2.trans (set7_fr _ w.heap.size (.int .u8 4) (.bool false) (.int .i64 0) (.string ⟨t.toArray⟩) (.slice none 0 0) (.slice none 0 0) (.slice none 0 0)) (fun _ _ h => h)
      unfold set7 at hset hsf
      refine bodyPost_ret (results_cell_row (P := Tryd.prog) rfl _ _ w.heap.size 33 _ (0, 0) _ rfl hset Tryd.underlying33 rfl (by kernel_rfl)) rfl ?_
      exact val_fin (x := .mk 4 false 0 t [] nil3 [] []) (by rw [dec64, HU.out, bare_leaf]; rfl) (own_leaf _ _ _ _ _) (fun k hk => (blk_leaf hk).elim) HRD.out F3.out hsf hm (by have := HLN.out; simp only [List.length_cons]; omega)
    · skip
      first | refine wpX_pu rfl rfl rfl (by first | exact pu_move rfl | exact pu_assign rfl | exact pu_nilCheck rfl rfl | exact pu_binInt rfl rfl rfl | exact pu_conv rfl rfl (by kernel_rfl) | exact pu_fld rfl (by kernel_rfl) | exact pu_ix rfl rfl rfl (by kernel_rfl) | exact pu_unOp rfl | exact pu_binStr rfl rfl rfl | exact pu_len rfl rfl | exact pu_lens rfl rfl | exact pu_pick rfl | exact pu_slice rfl rfl) (fun K hK => ?_) | refine wpX_rd rfl rfl rfl (rd_load rfl) (fun K hK => ?_) | refine wpX_gr rfl rfl rfl (by first | exact gr_buildSlice rfl | exact gr_box rfl | exact gr_alloc rfl) (fun K hK => ?_) | refine wpX_ex rfl rfl rfl (fun K hK => ?_)
      try go_wp2
      refine wpX_lv (.string ⟨t.toArray⟩) rfl rfl rfl (fun e => ?_) ?_
      · have := str_ext (P := Tryd.prog) (src := 22) (dst := 9) (e := 5) (by kernel_rfl) (by kernel_rfl) (by kernel_rfl) (w := (w3.setCell ⟨w.heap.size, 0, none⟩ (.int .u8 4))) (HSL.out.kept (Fr.setCell (Fr.refl (fun k => k = w.heap.size) w3) ⟨w.heap.size, 0, none⟩ (.int .u8 4) (fun _ => rfl)) HSN.out) e
        simp [execOp, this, Act.eval]
      go_simp
      first | refine wpX_pu rfl rfl rfl (by first | exact pu_move rfl | exact pu_assign rfl | exact pu_nilCheck rfl rfl | exact pu_binInt rfl rfl rfl | exact pu_conv rfl rfl (by kernel_rfl) | exact pu_fld rfl (by kernel_rfl) | exact pu_ix rfl rfl rfl (by kernel_rfl) | exact pu_unOp rfl | exact pu_binStr rfl rfl rfl | exact pu_len rfl rfl | exact pu_lens rfl rfl | exact pu_pick rfl | exact pu_slice rfl rfl) (fun K hK => ?_) | refine wpX_rd rfl rfl rfl (rd_load rfl) (fun K hK => ?_) | refine wpX_gr rfl rfl rfl (by first | exact gr_buildSlice rfl | exact gr_box rfl | exact gr_alloc rfl) (fun K hK => ?_) | refine wpX_ex rfl rfl rfl (fun K hK => ?_)
      try go_wp2
      first | refine wpX_pu rfl rfl rfl (by first | exact pu_move rfl | exact pu_assign rfl | exact pu_nilCheck rfl rfl | exact pu_binInt rfl rfl rfl | exact pu_conv rfl rfl (by kernel_rfl) | exact pu_fld rfl (by kernel_rfl) | exact pu_ix rfl rfl rfl (by kernel_rfl) | exact pu_unOp rfl | exact pu_binStr rfl rfl rfl | exact pu_len rfl rfl | exact pu_lens rfl rfl | exact pu_pick rfl | exact pu_slice rfl rfl) (fun K hK => ?_) | refine wpX_rd rfl rfl rfl (rd_load rfl) (fun K hK => ?_) | refine wpX_gr rfl rfl rfl (by first | exact gr_buildSlice rfl | exact gr_box rfl | exact gr_alloc rfl) (fun K hK => ?_) | refine wpX_ex rfl rfl rfl (fun K hK => ?_)
      try go_wp2
      refine wpX_done ?_
      go_wp2
      have hp0 := Fr.refl (fun k => k = w.heap.size) w3
      have hs1 := hp_same HB3.out 0 (.int .u8 4)
      simp only [List.setIfInBounds_toArray, List.set_cons_zero] at hs1
      have hp1 := Fr.setCell hp0 ⟨w.heap.size, 0, none⟩ (.int .u8 4) (fun _ => rfl)
      have hs2 := hp_same hs1 3 (.string ⟨t.toArray⟩)
      simp only [List.setIfInBounds_toArray, List.set_cons_zero, List.set_cons_succ] at hs2
      have hp2 := Fr.setCell hp1 ⟨w.heap.size, 3, none⟩ (.string ⟨t.toArray⟩) (fun _ => rfl)
      have hset := set7_row (a := .int .u8 4) (b := .bool false) (c := .int .i64 0) (d := .string ⟨t.toArray⟩) (e := .slice none 0 0) (f := .slice none 0 0) (h := .slice none 0 0) hs2
      have hsf := hp2.trans (set7_fr _ w.heap.size (.int .u8 4) (.bool false) (.int .i64 0) (.string ⟨t.toArray⟩) (.slice none 0 0) (.slice none 0 0) (.slice none 0 0)) (fun _ _ h => h)
      unfold set7 at hset hsf
      refine bodyPost_ret (results_cell_row (P := Tryd.prog) rfl _ _ w.heap.size 33 _ (0, 0) _ rfl hset Tryd.underlying33 rfl (by kernel_rfl)) rfl ?_
      exact val_fin (x := .mk 4 false 0 t [] nil3 [] []) (by rw [dec64, HU.out, bare_leaf]; rfl) (own_leaf _ _ _ _ _) (fun k hk => (blk_leaf hk).elim) HRD.out F3.out hsf hm (by have := HLN.out; simp only [List.length_cons]; omega)
  · have HSL := Lib.hid (Sl.nil w3 1)
    have HSN := Lib.hid (fun k (h1 : Value.ownBlock (.slice none 0 0) = some k) => (nomatch h1) : ∀ k, Value.ownBlock (.slice none 0 0) = some k → ¬ k = w.heap.size)
    have hb3 := f3.heap HB.out (fun h => hne h)
    obtain ⟨q0, q1, q2, q3, q4, q5, q6, qz, ql⟩ := seven_cells hb3
    have HB3 := Lib.hid hb3; have F3 := Lib.hid ((Fr.drew F2.out).trans f3 (fun _ _ h => h)); have HU := Lib.hid hu; have HRD := Lib.hid hrd; have HLN := Lib.hid hln
    clear hb3 f3 hu hrd hln
    go_simp
    refine hK _ _ ?_
    clear hK K
    refine wpX_fork (wpB_lin ?_) (wpB_lin ?_)
    · skip
      refine wpX_lv (.string ⟨#[]⟩) rfl rfl rfl (fun e => ?_) ?_
      · have := str_ext (P := Tryd.prog) (src := 22) (dst := 9) (e := 5) (by kernel_rfl) (by kernel_rfl) (by kernel_rfl) (w := w3) (l := []) HSL.out e
        simp [execOp, this, Act.eval]
      go_simp
      first | refine wpX_pu rfl rfl rfl (by first | exact pu_move rfl | exact pu_assign rfl | exact pu_nilCheck rfl rfl | exact pu_binInt rfl rfl rfl | exact pu_conv rfl rfl (by kernel_rfl) | exact pu_fld rfl (by kernel_rfl) | exact pu_ix rfl rfl rfl (by kernel_rfl) | exact pu_unOp rfl | exact pu_binStr rfl rfl rfl | exact pu_len rfl rfl | exact pu_lens rfl rfl | exact pu_pick rfl | exact pu_slice rfl rfl) (fun K hK => ?_) | refine wpX_rd rfl rfl rfl (rd_load rfl) (fun K hK => ?_) | refine wpX_gr rfl rfl rfl (by first | exact gr_buildSlice rfl | exact gr_box rfl | exact gr_alloc rfl) (fun K hK => ?_) | refine wpX_ex rfl rfl rfl (fun K hK => ?_)
      try go_wp2
      first | refine wpX_pu rfl rfl rfl (by first | exact pu_move rfl | exact pu_assign rfl | exact pu_nilCheck rfl rfl | exact pu_binInt rfl rfl rfl | exact pu_conv rfl rfl (by kernel_rfl) | exact pu_fld rfl (by kernel_rfl) | exact pu_ix rfl rfl rfl (by kernel_rfl) | exact pu_unOp rfl | exact pu_binStr rfl rfl rfl | exact pu_len rfl rfl | exact pu_lens rfl rfl | exact pu_pick rfl | exact pu_slice rfl rfl) (fun K hK => ?_) | refine wpX_rd rfl rfl rfl (rd_load rfl) (fun K hK => ?_) | refine wpX_gr rfl rfl rfl (by first | exact gr_buildSlice rfl | exact gr_box rfl | exact gr_alloc rfl) (fun K hK => ?_) | refine wpX_ex rfl rfl rfl (fun K hK => ?_)
      try go_wp2
      first | refine wpX_pu rfl rfl rfl (by first | exact pu_move rfl | exact pu_assign rfl | exact pu_nilCheck rfl rfl | exact pu_binInt rfl rfl rfl | exact pu_conv rfl rfl (by kernel_rfl) | exact pu_fld rfl (by kernel_rfl) | exact pu_ix rfl rfl rfl (by kernel_rfl) | exact pu_unOp rfl | exact pu_binStr rfl rfl rfl | exact pu_len rfl rfl | exact pu_lens rfl rfl | exact pu_pick rfl | exact pu_slice rfl rfl) (fun K hK => ?_) | refine wpX_rd rfl rfl rfl (rd_load rfl) (fun K hK => ?_) | refine wpX_gr rfl rfl rfl (by first | exact gr_buildSlice rfl | exact gr_box rfl | exact gr_alloc rfl) (fun K hK => ?_) | refine wpX_ex rfl rfl rfl (fun K hK => ?_)
      try go_wp2
      refine wpX_done ?_
      go_wp2
      have hp0 := Fr.refl (fun k => k = w.heap.size) w3
      have hs1 := hp_same HB3.out 0 (.int .u8 4)
      simp only [List.setIfInBounds_toArray, List.set_cons_zero] at hs1
      have hp1 := Fr.setCell hp0 ⟨w.heap.size, 0, none⟩ (.int .u8 4) (fun _ => rfl)
      have hs2 := hp_same hs1 3 (.string ⟨#[]⟩)
      simp only [List.setIfInBounds_toArray, List.set_cons_zero, List.set_cons_succ] at hs2
      have hp2 := Fr.setCell hp1 ⟨w.heap.size, 3, none⟩ (.string ⟨#[]⟩) (fun _ => rfl)
      have hset := set7_row (a := .int .u8 4) (b := .bool false) (c := .int .i64 0) (d := .string ⟨#[]⟩) (e := .slice none 0 0) (f := .slice none 0 0) (h := .slice none 0 0) hs2
      have hsf := hp2.trans (set7_fr _ w.heap.size (.int .u8 4) (.bool false) (.int .i64 0) (.string ⟨#[]⟩) (.slice none 0 0) (.slice none 0 0) (.slice none 0 0)) (fun _ _ h => h)
      unfold set7 at hset hsf
      refine bodyPost_ret (results_cell_row (P := Tryd.prog) rfl _ _ w.heap.size 33 _ (0, 0) _ rfl hset Tryd.underlying33 rfl (by kernel_rfl)) rfl ?_
      exact val_bad_fin (by rw [dec64, HU.out]; rfl) HRD.out F3.out hsf hm (by have := HLN.out; simp only [List.length_cons]; omega)
    · skip
      first | refine wpX_pu rfl rfl rfl (by first | exact pu_move rfl | exact pu_assign rfl | exact pu_nilCheck rfl rfl | exact pu_binInt rfl rfl rfl | exact pu_conv rfl rfl (by kernel_rfl) | exact pu_fld rfl (by kernel_rfl) | exact pu_ix rfl rfl rfl (by kernel_rfl) | exact pu_unOp rfl | exact pu_binStr rfl rfl rfl | exact pu_len rfl rfl | exact pu_lens rfl rfl | exact pu_pick rfl | exact pu_slice rfl rfl) (fun K hK => ?_) | refine wpX_rd rfl rfl rfl (rd_load rfl) (fun K hK => ?_) | refine wpX_gr rfl rfl rfl (by first | exact gr_buildSlice rfl | exact gr_box rfl | exact gr_alloc rfl) (fun K hK => ?_) | refine wpX_ex rfl rfl rfl (fun K hK => ?_)
      try go_wp2
      refine wpX_lv (.string ⟨#[]⟩) rfl rfl rfl (fun e => ?_) ?_
      · have := str_ext (P := Tryd.prog) (src := 22) (dst := 9) (e := 5) (by kernel_rfl) (by kernel_rfl) (by kernel_rfl) (w := (w3.setCell ⟨w.heap.size, 0, none⟩ (.int .u8 4))) (l := []) (HSL.out.kept (Fr.setCell (Fr.refl (fun k => k = w.heap.size) w3) ⟨w.heap.size, 0, none⟩ (.int .u8 4) (fun _ => rfl)) HSN.out) e
        simp [execOp, this, Act.eval]
      go_simp
      first | refine wpX_pu rfl rfl rfl (by first | exact pu_move rfl | exact pu_assign rfl | exact pu_nilCheck rfl rfl | exact pu_binInt rfl rfl rfl | exact pu_conv rfl rfl (by kernel_rfl) | exact pu_fld rfl (by kernel_rfl) | exact pu_ix rfl rfl rfl (by kernel_rfl) | exact pu_unOp rfl | exact pu_binStr rfl rfl rfl | exact pu_len rfl rfl | exact pu_lens rfl rfl | exact pu_pick rfl | exact pu_slice rfl rfl) (fun K hK => ?_) | refine wpX_rd rfl rfl rfl (rd_load rfl) (fun K hK => ?_) | refine wpX_gr rfl rfl rfl (by first | exact gr_buildSlice rfl | exact gr_box rfl | exact gr_alloc rfl) (fun K hK => ?_) | refine wpX_ex rfl rfl rfl (fun K hK => ?_)
      try go_wp2
      first | refine wpX_pu rfl rfl rfl (by first | exact pu_move rfl | exact pu_assign rfl | exact pu_nilCheck rfl rfl | exact pu_binInt rfl rfl rfl | exact pu_conv rfl rfl (by kernel_rfl) | exact pu_fld rfl (by kernel_rfl) | exact pu_ix rfl rfl rfl (by kernel_rfl) | exact pu_unOp rfl | exact pu_binStr rfl rfl rfl | exact pu_len rfl rfl | exact pu_lens rfl rfl | exact pu_pick rfl | exact pu_slice rfl rfl) (fun K hK => ?_) | refine wpX_rd rfl rfl rfl (rd_load rfl) (fun K hK => ?_) | refine wpX_gr rfl rfl rfl (by first | exact gr_buildSlice rfl | exact gr_box rfl | exact gr_alloc rfl) (fun K hK => ?_) | refine wpX_ex rfl rfl rfl (fun K hK => ?_)
      try go_wp2
      refine wpX_done ?_
      go_wp2
      have hp0 := Fr.refl (fun k => k = w.heap.size) w3
      have hs1 := hp_same HB3.out 0 (.int .u8 4)
      simp only [List.setIfInBounds_toArray, List.set_cons_zero] at hs1
      have hp1 := Fr.setCell hp0 ⟨w.heap.size, 0, none⟩ (.int .u8 4) (fun _ => rfl)
      have hs2 := hp_same hs1 3 (.string ⟨#[]⟩)
      simp only [List.setIfInBounds_toArray, List.set_cons_zero, List.set_cons_succ] at hs2
      have hp2 := Fr.setCell hp1 ⟨w.heap.size, 3, none⟩ (.string ⟨#[]⟩) (fun _ => rfl)
      have hset := set7_row (a := .int .u8 4) (b := .bool false) (c := .int .i64 0) (d := .string ⟨#[]⟩) (e := .slice none 0 0) (f := .slice none 0 0) (h := .slice none 0 0) hs2
      have hsf := hp2.trans (set7_fr _ w.heap.size (.int .u8 4) (.bool false) (.int .i64 0) (.string ⟨#[]⟩) (.slice none 0 0) (.slice none 0 0) (.slice none 0 0)) (fun _ _ h => h)
      unfold set7 at hset hsf
      refine bodyPost_ret (results_cell_row (P := Tryd.prog) rfl _ _ w.heap.size 33 _ (0, 0) _ rfl hset Tryd.underlying33 rfl (by kernel_rfl)) rfl ?_
      exact val_bad_fin (by rw [dec64, HU.out]; rfl) HRD.out F3.out hsf hm (by have := HLN.out; simp only [List.length_cons]; omega)
end Go.Proofs.YtgcicljklejmjaaDoor
