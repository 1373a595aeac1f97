import Derived.Test.YtijcleiekafoiaaGreatDoorMb12
import Derived.Test.YtijcleiekafoiaaGreatDoorMb03
import Derived.Test.YtijcleiekafoiaaGreatDoorMb10
import Derived.ScopeJumps
import Derived.WalkMore

/- doc.reader.value: the simple kinds. Printed by mkdread.py. -/
namespace Go.Proofs.YtijcleiekafoiaaGreatDoor
open Go.RowKit
open Tr

/-- A scope in which the run jumps once, ahead, to a label. -/
theorem wp_scope_once {P : Program} {a : Act} {w : World} {Q : Exit → Act → World → Prop} {c rest : Code} (l : Nat) (hf : findLabel c l = some rest)
    (first : c.wp P (Exit.jump l (fun a w => rest.wp P (Exit.noGoto Q) a w) Q) a w) : (Code.scope c).wp P Q a w :=
  wp_scope_jumps l _ (fun _ _ => 0) hf first fun a w hJ => wp_mono hJ fun e a w h => by
    cases e with
    | goto l' => exact h.elim
    | _ => exact h

theorem pair_cells {w : World} {g : Nat} {a b : Value} {T : TypeId} (hr : w.heap[g]? = some (.cells #[a, b] T (0, 0))) : w.cell? ⟨g, 0, none⟩ = some a ∧ w.cell? ⟨g, 1, none⟩ = some b ∧ (∀ o, w.frozen? ⟨g, o, none⟩ = false) ∧ g < w.heap.size := by
  have hc : ∀ i, w.cell? ⟨g, i, none⟩ = (#[a, b] : Array Value)[i]? := fun i => by rw [cell_of_row w g i _ _ (0, 0) hr]
  exact ⟨hc 0, hc 1, fun o => by simp [World.frozen?, hr], (Array.getElem?_eq_some_iff.1 hr).1⟩

/-- The reader of package doc: a reader of bytes, and a mark. -/
structure Dr (m q p : Nat) (sv : Value) (l : List UInt8) (w : World) (s : RS) (bad : Bool) : Prop where
  row : w.heap[q]? = some (.cells #[.pointer (some ⟨p, 0, none⟩), .bool bad] 115 (0, 0))
  rr : Rr w p sv l s
  ne : q ≠ p
  hq : q < m
  hp : p < m
  hsv : ∀ k, sv.ownBlock = some k → k ≠ q ∧ k < m
def Qp (q p : Nat) : Nat → Prop := fun k => k = q ∨ k = p
theorem Dr.kept {m q p : Nat} {sv : Value} {l : List UInt8} {w w1 : World} {s : RS} {bad : Bool} {S : Nat → Prop} (h : Dr m q p sv l w s bad) (f : Fr S w w1) (hS : ∀ k, S k → m ≤ k) : Dr m q p sv l w1 s bad :=
  ⟨f.heap h.row (fun hk => by have := hS _ hk; have := h.hq; omega), h.rr.kept f (fun hk => by have := hS _ hk; have := h.hp; omega) (fun k hk h1 => by have := hS _ h1; have := (h.hsv k hk).2; omega), h.ne, h.hq, h.hp, h.hsv⟩
theorem Dr.kept0 {m q p : Nat} {sv : Value} {l : List UInt8} {w w1 : World} {s : RS} {bad : Bool} (h : Dr m q p sv l w s bad) (f : Fr no w w1) : Dr m q p sv l w1 s bad := h.kept f (fun _ h => h.elim)
theorem Dr.read {m q p : Nat} {sv : Value} {l : List UInt8} {w w1 : World} {s s' : RS} {bad : Bool} (h : Dr m q p sv l w s bad) (hr : Rr w1 p sv l s') (f : Fr (At p) w w1) : Dr m q p sv l w1 s' bad :=
  ⟨f.heap h.row (fun hk => h.ne hk), hr, h.ne, h.hq, h.hp, h.hsv⟩
theorem Dr.mark {m q p : Nat} {sv : Value} {l : List UInt8} {w : World} {s : RS} {bad : Bool} (h : Dr m q p sv l w s bad) (b2 : Bool) : Dr m q p sv l (w.setCell ⟨q, 1, none⟩ (.bool b2)) s b2 := by
  have f := Fr.setCell (Fr.refl (fun k => k = q) w) ⟨q, 1, none⟩ (.bool b2) (fun _ => rfl)
  refine ⟨?_, h.rr.kept f (fun hk => h.ne hk.symm) (fun k hk h1 => (h.hsv k hk).1 h1), h.ne, h.hq, h.hp, h.hsv⟩
  rw [hp_same h.row 1]
  rfl
theorem dr_k (m q p : Nat) (sv : Value) (l : List UInt8) (hq : q < m) (hp : p < m) : RdK m (Qp q p) (Dr m q p sv l) :=
  ⟨fun h f hS => h.kept f hS, fun k hk => by rcases hk with rfl | rfl <;> assumption⟩
theorem at_qp {q p : Nat} {w w1 : World} (f : Fr (At p) w w1) : Fr (Qp q p) w w1 := f.mono (fun _ _ h => .inr h)
theorem fr_any {S : Nat → Prop} {w w1 : World} (f : Fr no w w1) : Fr S w w1 := f.mono (fun _ _ h => h.elim)

set_option maxRecDepth 100000 in
theorem wrong_any (m q p : Nat) (sv : Value) (l : List UInt8) (w : World) (s : RS) (bad b : Bool) (h : Dr m q p sv l w s bad) (hb : b = true ↔ Lost s bad) :
    Calls Tryz.prog 90 #[.pointer (some ⟨q, 0, none⟩)] w fun e w' => e = .returned (.bool b) ∧ ∃ n, w' = w.drewN n := by
  obtain ⟨y0, y1, yz, yl⟩ := pair_cells h.row
  have HR := Lib.hid h.rr; have HROW := Lib.hid h.row
  have hb1 : b = (bad || decide (s.e ≠ 0)) := by
    rw [Bool.eq_iff_iff, hb]
    unfold Lost
    simp
  clear h hb
  go_enter Tryz.func90, Tryz.ntmps90
  go_wp2_with fail
  refine (err_any p w sv l s HR.out).mono ?_
  rintro e w1 ⟨rfl, n, rfl⟩
  obtain ⟨y0, y1, yz, yl⟩ := pair_cells ((Fr.drewN no w n).heap HROW.out (fun h => h))
  cases bad with
  | true =>
    obtain rfl : b = true := by rw [hb1, Bool.true_or]
    clear hb1
    go_wp2
    go_ret
    exact ⟨rfl, n, rfl⟩
  | false =>
    by_cases he : s.e = 0
    · obtain rfl : b = false := by rw [hb1]; simp [he]
      clear hb1
      rw [he]
      go_wp2
      go_ret
      exact ⟨rfl, n, rfl⟩
    · have h1 : ((s.e : Int) != 0) = true := by rw [bne_iff_ne]; omega
      obtain rfl : b = true := by rw [hb1]; simp [he]
      clear hb1
      go_wp2
      go_ret
      exact ⟨rfl, n, rfl⟩

theorem ddec_cons (d : Nat) (c : UInt8) (r : List UInt8) : ddec (d + 1) (c :: r) = if c = 1 then some (only 1, r) else if c = 2 then some (only 2, r) else if c = 3 then some (.mk 2 true 0 [] [] () [] [], r)
    else if c = 4 then (rvi r).map fun p => (.mk 3 false (uz p.1) [] [] () [] [], p.2)
    else if c = 5 then (rvt r).map fun p => (.mk 4 false 0 p.1 [] () [] [], p.2)
    else if c = 6 then (rvt r).map fun p => (.mk 5 false 0 [] p.1 () [] [], p.2)
    else if c = 7 then (match rvi r with | none => none | some (n, s) => (ddecL (ddec d) n s).map fun p => (.mk 6 false 0 [] [] () p.1 [], p.2))
    else if c = 8 then (match rvi r with | none => none | some (n, s) => (ddecF (ddec d) n s).map fun p => (.mk 7 false 0 [] [] () [] p.1, p.2))
    else none := rfl
theorem ddc1 (d : Nat) (r : List UInt8) : ddec (d + 1) (1 :: r) = some (only 1, r) := by rw [ddec_cons, if_pos rfl]
theorem ddc2 (d : Nat) (r : List UInt8) : ddec (d + 1) (2 :: r) = some (only 2, r) := by rw [ddec_cons, if_neg (by decide), if_pos rfl]
theorem ddc3 (d : Nat) (r : List UInt8) : ddec (d + 1) (3 :: r) = some (.mk 2 true 0 [] [] () [] [], r) := by rw [ddec_cons, if_neg (by decide), if_neg (by decide), if_pos rfl]
theorem ddc4 (d : Nat) (r : List UInt8) : ddec (d + 1) (4 :: r) = (rvi r).map fun p => (.mk 3 false (uz p.1) [] [] () [] [], p.2) := by
  rw [ddec_cons, if_neg (by decide), if_neg (by decide), if_neg (by decide), if_pos rfl]
theorem ddc5 (d : Nat) (r : List UInt8) : ddec (d + 1) (5 :: r) = (rvt r).map fun p => (.mk 4 false 0 p.1 [] () [] [], p.2) := by
  rw [ddec_cons, if_neg (by decide), if_neg (by decide), if_neg (by decide), if_neg (by decide), if_pos rfl]
theorem ddc6 (d : Nat) (r : List UInt8) : ddec (d + 1) (6 :: r) = (rvt r).map fun p => (.mk 5 false 0 [] p.1 () [] [], p.2) := by
  rw [ddec_cons, if_neg (by decide), if_neg (by decide), if_neg (by decide), if_neg (by decide), if_neg (by decide), if_pos rfl]
theorem ddc7 (d : Nat) (r : List UInt8) : ddec (d + 1) (7 :: r) = (match rvi r with | none => none | some (n, s) => (ddecL (ddec d) n s).map fun p => (.mk 6 false 0 [] [] () p.1 [], p.2)) := by
  rw [ddec_cons, if_neg (by decide), if_neg (by decide), if_neg (by decide), if_neg (by decide), if_neg (by decide), if_neg (by decide), if_pos rfl]
theorem ddc8 (d : Nat) (r : List UInt8) : ddec (d + 1) (8 :: r) = (match rvi r with | none => none | some (n, s) => (ddecF (ddec d) n s).map fun p => (.mk 7 false 0 [] [] () [] p.1, p.2)) := by
  rw [ddec_cons, if_neg (by decide), if_neg (by decide), if_neg (by decide), if_neg (by decide), if_neg (by decide), if_neg (by decide), if_neg (by decide), if_pos rfl]
/-- Bytes that are no tag. -/
structure NoTag (c : UInt8) : Prop where
  h1 : c ≠ 1
  h2 : c ≠ 2
  h3 : c ≠ 3
  h4 : c ≠ 4
  h5 : c ≠ 5
  h6 : c ≠ 6
  h7 : c ≠ 7
  h8 : c ≠ 8
theorem ddc_other (d : Nat) (c : UInt8) (r : List UInt8) (h : NoTag c) : ddec (d + 1) (c :: r) = none := by
  rw [ddec_cons, if_neg h.h1, if_neg h.h2, if_neg h.h3, if_neg h.h4, if_neg h.h5, if_neg h.h6, if_neg h.h7, if_neg h.h8]
theorem tag_ne {c k : UInt8} {n : Int} (h : c ≠ k) (hk : (k.toNat : Int) = n) : ((c.toNat : Int) == n) = false := by
  rw [beq_eq_false_iff_ne]
  intro e
  exact h (UInt8.toNat_inj.1 (by omega))
theorem bare_leaf2 {k : UInt8} {b : Bool} {i : Int} {t bs : List UInt8} {m : Mm} : bare (.mk k b i t bs m [] [] : Tr Mm) = .mk k b i t bs () [] [] := by rw [bare_eq]; rfl
theorem ube_one (c : UInt8) : ube [c] = c.toNat := by simp [ube]
theorem ube_nil : ube [] = 0 := rfl

/-- The ends of a read. -/
theorem dfin {l : List UInt8} {S S2 : Nat → Prop} {D : World → RS → Bool → Prop} {d m : Nat} {w w' wz : World} {r r' : List UInt8} {s' : RS} {x : Tr Mm} (K : RdK m S D) (hdec : ddec d r = some (bare x, r')) (hh : Held w' x) (hb : ∀ k, Blk x k → w.heap.size ≤ k ∧ ¬ S2 k) (hr : D w' s' false) (hon : RS.On l s' r')
    (hfr : Fr S w w') (hz : Fr S2 w' wz) (hS : ∀ k, S2 k → w.heap.size ≤ k) (hm : m ≤ w.heap.size) : DOut l S D d r w (.returned x.agg) wz :=
  ⟨hfr.trans hz (fun k hk h => by have := hS k h; omega), .inl ⟨x, r', s', hdec, rfl, hh.kept hz (fun k h1 => (hb k h1).2), fun k h => (hb k h).1, K.kept hr hz (fun k h => Nat.le_trans hm (hS k h)), hon⟩⟩
theorem dbad {l : List UInt8} {S S2 : Nat → Prop} {D : World → RS → Bool → Prop} {d m : Nat} {w w' wz : World} {r : List UInt8} {s' : RS} {b' : Bool} {e : Ending} (K : RdK m S D) (hdec : ddec d r = none) (hf : AggForm e) (hr : D w' s' b') (hlo : Lost s' b')
    (hfr : Fr S w w') (hz : Fr S2 w' wz) (hS : ∀ k, S2 k → w.heap.size ≤ k) (hm : m ≤ w.heap.size) : DOut l S D d r w e wz :=
  ⟨hfr.trans hz (fun k hk h => by have := hS k h; omega), .inr ⟨hdec, hf, s', b', K.kept hr hz (fun k h => Nat.le_trans hm (hS k h)), hlo⟩⟩
theorem dlost {S S2 : Nat → Prop} {D : World → RS → Bool → Prop} {m : Nat} {w w' wz : World} {s' : RS} {b' : Bool} {e : Ending} (K : RdK m S D) (hf : AggForm e) (hr : D w' s' b') (hlo : Lost s' b')
    (hfr : Fr S w w') (hz : Fr S2 w' wz) (hS : ∀ k, S2 k → w.heap.size ≤ k) (hm : m ≤ w.heap.size) : WOut S D w e wz :=
  ⟨hfr.trans hz (fun k hk h => by have := hS k h; omega), hf, s', b', K.kept hr hz (fun k h => Nat.le_trans hm (hS k h)), hlo⟩
theorem form_any {k : Int} {b : Bool} {i : Int} {t : ByteArray} {BA LA FA : Option Addr} {bn bc ln lc fn fc : Nat} : AggForm (.returned (.agg #[.int .u8 k, .bool b, .int .i64 i, .string t, .slice BA bn bc, .slice LA ln lc, .slice FA fn fc])) := ⟨_, _, _, _, _, _, _, _, _, _, _, _, _, rfl⟩

theorem bytes_fr (w : World) (e : TypeId) (s : ByteArray) : Fr no w (Lib.bytesWorld w e s) :=
  ⟨rfl, rfl, rfl, by rw [Lib.bytesWorld_size]; omega, fun k hk _ => Lib.bytesWorld_at_old w e s k hk⟩
theorem bytes_sl (w : World) (e : TypeId) (l : List UInt8) (h : l.length ≤ 140737488351232) : Sl (Lib.bytesWorld w e ⟨l.toArray⟩) 1 (.slice (some ⟨w.heap.size, 0, none⟩) l.length (grownCap w l.length 0 e)) l.length (bvs l) := by
  refine ⟨by rw [bvs_length, Nat.mul_one], .inr ⟨w.heap.size, 0, _, rfl, grownCap_ge _ _ _ _, grownCap_le_maxLen _ _ _ _ (by simp only [maxLen]; omega), fun j u hu => ?_⟩⟩
  have hj := (List.getElem?_eq_some_iff.1 hu).1
  rw [bvs_length] at hj
  rw [bvs_get l j hj] at hu
  cases hu
  rw [Nat.zero_add, Lib.bytesWorld_cell w e ⟨l.toArray⟩ j (by simpa [ByteArray.size] using hj)]
  simp [List.getD, hj]

set_option maxRecDepth 100000 in
set_option maxHeartbeats 1000000 in
theorem dval_zero (m q p : Nat) (sv : Value) (l : List UInt8) (w : World) (s : RS) (r : List UInt8) (h : Dr m q p sv l w s false) (hm : m ≤ w.heap.size) :
    Calls Tryz.prog 59 #[.pointer (some ⟨q, 0, none⟩), .int .i64 0] w fun e w' => DOut l (Qp q p) (Dr m q p sv l) 0 r w e w' := by
  have K := dr_k m q p sv l h.hq h.hp
  have hqp := And.intro h.hq h.hp
  have hal := h.kept0 ((Fr.refl no w).alloc (.cells #[.int .u8 0, .bool false, .int .i64 0, .string ⟨#[]⟩, .slice none 0 0, .slice none 0 0, .slice none 0 0] 27))
  have hbl := h.rr.2.2.2.2.1
  obtain ⟨y0, y1, yz, yl⟩ := pair_cells h.row
  have HAL := Lib.hid hal; have HQP := Lib.hid hqp; have KK := Lib.hid K; have HBL := Lib.hid hbl
  clear h hal hqp K hbl
  go_enter Tryz.func59, Tryz.ntmps59
  go_wp2
  refine wp_scope_once 0 rfl ?_
  go_hide hQ
  go_wp2_with fail
  refine (ru8_any p _ sv l s HAL.out.rr).mono ?_
  rintro e w2 ⟨rfl, h2, f2⟩
  have hd2 := HAL.out.read h2 f2
  have hb2 := f2.heap (heap_alloc_new w (.cells #[.int .u8 0, .bool false, .int .i64 0, .string ⟨#[]⟩, .slice none 0 0, .slice none 0 0, .slice none 0 0] 27)) (fun h => by have h1 := HQP.out.2; have h : w.heap.size = p := h; omega)
  have ff2 : Fr (Qp q p) w w2 := (fr_any ((Fr.refl no w).alloc (.cells #[.int .u8 0, .bool false, .int .i64 0, .string ⟨#[]⟩, .slice none 0 0, .slice none 0 0, .slice none 0 0] 27))).trans (at_qp f2) (fun _ _ h => h)
  clear h2 f2
  obtain ⟨y0, y1, yz, yl⟩ := pair_cells hd2.row
  have hne : w.heap.size ≠ q := by have h1 := HQP.out.1; omega
  have HD3 := Lib.hid hd2; have HB3 := Lib.hid hb2; have F3 := Lib.hid ff2
  clear hd2 hb2 ff2
  obtain ⟨w3, rfl⟩ : ∃ w3, w3 = w2 := ⟨_, rfl⟩
  obtain ⟨q0, q1, q2, q3, q4, q5, q6, qz, ql⟩ := seven_cells HB3.out
  go_wp2
  refine wp_goto ?_
  subst hQ
  refine And.intro rfl ?_
  go_wp2
  have f4 := Fr.setCell (Fr.refl (Qp q p) w3) ⟨q, 1, none⟩ (.bool true) (fun _ => .inl rfl)
  have hb4 := f4.heap HB3.out (fun h => by have h1 := HQP.out; rcases h with h | h <;> omega)
  have hmk := HD3.out.mark true
  have hp0 := Fr.refl (fun k => k = w.heap.size) (w3.setCell ⟨q, 1, none⟩ (.bool true))
  have hset := set7_row (a := .int .u8 0) (b := .bool false) (c := .int .i64 0) (d := .string ⟨#[]⟩) (e := .slice none 0 0) (f := .slice none 0 0) (h := .slice none 0 0) hb4
  have hsf := hp0.trans (set7_fr _ w.heap.size (.int .u8 0) (.bool false) (.int .i64 0) (.string ⟨#[]⟩) (.slice none 0 0) (.slice none 0 0) (.slice none 0 0)) (fun _ _ h => h)
  unfold set7 at hset hsf
  try rw [Exit.noGoto_ret]
  refine bodyPost_ret (results_cell_row (P := Tryz.prog) rfl _ _ w.heap.size 27 _ (0, 0) _ rfl hset Tryz.underlying27 rfl (by kernel_rfl)) rfl ?_
  exact dbad KK.out rfl form_any hmk (.inl rfl) (F3.out.trans f4 (fun _ _ h => h)) hsf (fun k h => by have h : k = w.heap.size := h; omega) hm

set_option maxRecDepth 100000 in
set_option maxHeartbeats 1000000 in
theorem dval_lost (d m q p : Nat) (sv : Value) (l : List UInt8) (w : World) (s : RS) (bad : Bool) (h : Dr m q p sv l w s bad) (hlo : Lost s bad) (hm : m ≤ w.heap.size) :
    Calls Tryz.prog 59 #[.pointer (some ⟨q, 0, none⟩), .int .i64 (d : Nat)] w fun e w' => WOut (Qp q p) (Dr m q p sv l) w e w' := by
  have hlo2 : Lost (s.take l 1).2 bad := by
    rcases hlo with h1 | h1
    · exact .inl h1
    · exact .inr (by rw [RS.take_bad 1 h1]; exact h1)
  have HLO := Lib.hid hlo2
  clear hlo hlo2
  cases d with
  | zero =>
    have K := dr_k m q p sv l h.hq h.hp
    have hqp := And.intro h.hq h.hp
    have hal := h.kept0 ((Fr.refl no w).alloc (.cells #[.int .u8 0, .bool false, .int .i64 0, .string ⟨#[]⟩, .slice none 0 0, .slice none 0 0, .slice none 0 0] 27))
    have hbl := h.rr.2.2.2.2.1
    obtain ⟨y0, y1, yz, yl⟩ := pair_cells h.row
    have HAL := Lib.hid hal; have HQP := Lib.hid hqp; have KK := Lib.hid K; have HBL := Lib.hid hbl
    clear h hal hqp K hbl
    go_enter Tryz.func59, Tryz.ntmps59
    go_wp2
    refine wp_scope_once 0 rfl ?_
    go_hide hQ
    go_wp2_with fail
    refine (ru8_any p _ sv l s HAL.out.rr).mono ?_
    rintro e w2 ⟨rfl, h2, f2⟩
    have hd2 := HAL.out.read h2 f2
    have hb2 := f2.heap (heap_alloc_new w (.cells #[.int .u8 0, .bool false, .int .i64 0, .string ⟨#[]⟩, .slice none 0 0, .slice none 0 0, .slice none 0 0] 27)) (fun h => by have h1 := HQP.out.2; have h : w.heap.size = p := h; omega)
    have ff2 : Fr (Qp q p) w w2 := (fr_any ((Fr.refl no w).alloc (.cells #[.int .u8 0, .bool false, .int .i64 0, .string ⟨#[]⟩, .slice none 0 0, .slice none 0 0, .slice none 0 0] 27))).trans (at_qp f2) (fun _ _ h => h)
    clear h2 f2
    obtain ⟨y0, y1, yz, yl⟩ := pair_cells hd2.row
    have hne : w.heap.size ≠ q := by have h1 := HQP.out.1; omega
    have HD3 := Lib.hid hd2; have HB3 := Lib.hid hb2; have F3 := Lib.hid ff2
    clear hd2 hb2 ff2
    obtain ⟨w3, rfl⟩ : ∃ w3, w3 = w2 := ⟨_, rfl⟩
    obtain ⟨q0, q1, q2, q3, q4, q5, q6, qz, ql⟩ := seven_cells HB3.out
    rw [show ((0 : Nat) : Int) = 0 from rfl]
    go_wp2
    refine wp_goto ?_
    subst hQ
    refine And.intro rfl ?_
    go_wp2
    have f4 := Fr.setCell (Fr.refl (Qp q p) w3) ⟨q, 1, none⟩ (.bool true) (fun _ => .inl rfl)
    have hb4 := f4.heap HB3.out (fun h => by have h1 := HQP.out; rcases h with h | h <;> omega)
    have hmk := HD3.out.mark true
    have hp0 := Fr.refl (fun k => k = w.heap.size) (w3.setCell ⟨q, 1, none⟩ (.bool true))
    have hset := set7_row (a := .int .u8 0) (b := .bool false) (c := .int .i64 0) (d := .string ⟨#[]⟩) (e := .slice none 0 0) (f := .slice none 0 0) (h := .slice none 0 0) hb4
    have hsf := hp0.trans (set7_fr _ w.heap.size (.int .u8 0) (.bool false) (.int .i64 0) (.string ⟨#[]⟩) (.slice none 0 0) (.slice none 0 0) (.slice none 0 0)) (fun _ _ h => h)
    unfold set7 at hset hsf
    try rw [Exit.noGoto_ret]
    refine bodyPost_ret (results_cell_row (P := Tryz.prog) rfl _ _ w.heap.size 27 _ (0, 0) _ rfl hset Tryz.underlying27 rfl (by kernel_rfl)) rfl ?_
    exact dlost KK.out form_any hmk (.inl rfl) (F3.out.trans f4 (fun _ _ h => h)) hsf (fun k h => by have h : k = w.heap.size := h; omega) hm
  | succ d =>
    have g0 : (((d + 1 : Nat) : Int) == 0) = false := by rw [beq_eq_false_iff_ne]; omega
    have K := dr_k m q p sv l h.hq h.hp
    have hqp := And.intro h.hq h.hp
    have hal := h.kept0 ((Fr.refl no w).alloc (.cells #[.int .u8 0, .bool false, .int .i64 0, .string ⟨#[]⟩, .slice none 0 0, .slice none 0 0, .slice none 0 0] 27))
    have hbl := h.rr.2.2.2.2.1
    obtain ⟨y0, y1, yz, yl⟩ := pair_cells h.row
    have HAL := Lib.hid hal; have HQP := Lib.hid hqp; have KK := Lib.hid K; have HBL := Lib.hid hbl
    clear h hal hqp K hbl
    go_enter Tryz.func59, Tryz.ntmps59
    go_wp2
    refine wp_scope_once 0 rfl ?_
    go_hide hQ
    go_wp2_with fail
    refine (ru8_any p _ sv l s HAL.out.rr).mono ?_
    rintro e w2 ⟨rfl, h2, f2⟩
    have hd2 := HAL.out.read h2 f2
    have hb2 := f2.heap (heap_alloc_new w (.cells #[.int .u8 0, .bool false, .int .i64 0, .string ⟨#[]⟩, .slice none 0 0, .slice none 0 0, .slice none 0 0] 27)) (fun h => by have h1 := HQP.out.2; have h : w.heap.size = p := h; omega)
    have ff2 : Fr (Qp q p) w w2 := (fr_any ((Fr.refl no w).alloc (.cells #[.int .u8 0, .bool false, .int .i64 0, .string ⟨#[]⟩, .slice none 0 0, .slice none 0 0, .slice none 0 0] 27))).trans (at_qp f2) (fun _ _ h => h)
    clear h2 f2
    have HD2 := Lib.hid hd2; have HB2 := Lib.hid hb2; have FF2 := Lib.hid ff2
    clear hd2 hb2 ff2 y0 y1 yz yl
    go_wp2_with fail
    refine (wrong_any m q p sv l w2 _ bad true HD2.out (by simp [HLO.out])).mono ?_
    rintro e w3 ⟨rfl, n3, hw3⟩
    have f3 : Fr no w2 w3 := by rw [hw3]; exact Fr.drewN _ _ _
    have hd3 := HD2.out.kept0 f3
    have hb3 := f3.heap HB2.out (fun h => h)
    obtain ⟨y0, y1, yz, yl⟩ := pair_cells hd3.row
    obtain ⟨q0, q1, q2, q3, q4, q5, q6, qz, ql⟩ := seven_cells hb3
    have hne : w.heap.size ≠ q := by have h1 := HQP.out.1; omega
    have HD3 := Lib.hid hd3; have HB3 := Lib.hid hb3; have F3 := Lib.hid (FF2.out.trans f3 (fun _ _ h => h.elim))
    clear hw3 f3 hd3 hb3 HD2 HB2 FF2
    go_wp2
    refine wp_goto ?_
    subst hQ
    refine And.intro rfl ?_
    go_wp2
    have f4 := Fr.setCell (Fr.refl (Qp q p) w3) ⟨q, 1, none⟩ (.bool true) (fun _ => .inl rfl)
    have hb4 := f4.heap HB3.out (fun h => by have h1 := HQP.out; rcases h with h | h <;> omega)
    have hmk := HD3.out.mark true
    have hp0 := Fr.refl (fun k => k = w.heap.size) (w3.setCell ⟨q, 1, none⟩ (.bool true))
    have hset := set7_row (a := .int .u8 0) (b := .bool false) (c := .int .i64 0) (d := .string ⟨#[]⟩) (e := .slice none 0 0) (f := .slice none 0 0) (h := .slice none 0 0) hb4
    have hsf := hp0.trans (set7_fr _ w.heap.size (.int .u8 0) (.bool false) (.int .i64 0) (.string ⟨#[]⟩) (.slice none 0 0) (.slice none 0 0) (.slice none 0 0)) (fun _ _ h => h)
    unfold set7 at hset hsf
    try rw [Exit.noGoto_ret]
    refine bodyPost_ret (results_cell_row (P := Tryz.prog) rfl _ _ w.heap.size 27 _ (0, 0) _ rfl hset Tryz.underlying27 rfl (by kernel_rfl)) rfl ?_
    exact dlost KK.out form_any hmk (.inl rfl) (F3.out.trans f4 (fun _ _ h => h)) hsf (fun k h => by have h : k = w.heap.size := h; omega) hm

set_option maxRecDepth 100000 in
set_option maxHeartbeats 1000000 in
theorem dval_nil (d m q p : Nat) (sv : Value) (l : List UInt8) (w : World) (s : RS) (h : Dr m q p sv l w s false) (ho : RS.On l s ([])) (hm : m ≤ w.heap.size) :
    Calls Tryz.prog 59 #[.pointer (some ⟨q, 0, none⟩), .int .i64 ((d + 1 : Nat) : Int)] w fun e w' => DOut l (Qp q p) (Dr m q p sv l) (d + 1) ([]) w e w' := by
  have hto := ho.one_no
  have HTO := Lib.hid hto
  clear hto ho
  have g0 : (((d + 1 : Nat) : Int) == 0) = false := by rw [beq_eq_false_iff_ne]; omega
  have K := dr_k m q p sv l h.hq h.hp
  have hqp := And.intro h.hq h.hp
  have hal := h.kept0 ((Fr.refl no w).alloc (.cells #[.int .u8 0, .bool false, .int .i64 0, .string ⟨#[]⟩, .slice none 0 0, .slice none 0 0, .slice none 0 0] 27))
  have hbl := h.rr.2.2.2.2.1
  obtain ⟨y0, y1, yz, yl⟩ := pair_cells h.row
  have HAL := Lib.hid hal; have HQP := Lib.hid hqp; have KK := Lib.hid K; have HBL := Lib.hid hbl
  clear h hal hqp K hbl
  go_enter Tryz.func59, Tryz.ntmps59
  go_wp2
  refine wp_scope_once 0 rfl ?_
  go_hide hQ
  go_wp2_with fail
  refine (ru8_any p _ sv l s HAL.out.rr).mono ?_
  rintro e w2 ⟨rfl, h2, f2⟩
  have hd2 := HAL.out.read h2 f2
  have hb2 := f2.heap (heap_alloc_new w (.cells #[.int .u8 0, .bool false, .int .i64 0, .string ⟨#[]⟩, .slice none 0 0, .slice none 0 0, .slice none 0 0] 27)) (fun h => by have h1 := HQP.out.2; have h : w.heap.size = p := h; omega)
  have ff2 : Fr (Qp q p) w w2 := (fr_any ((Fr.refl no w).alloc (.cells #[.int .u8 0, .bool false, .int .i64 0, .string ⟨#[]⟩, .slice none 0 0, .slice none 0 0, .slice none 0 0] 27))).trans (at_qp f2) (fun _ _ h => h)
  clear h2 f2
  rw [HTO.out] at hd2 ⊢
  simp only [ube_nil]
  have HD2 := Lib.hid hd2; have HB2 := Lib.hid hb2; have FF2 := Lib.hid ff2
  clear hd2 hb2 ff2 y0 y1 yz yl HTO
  go_wp2_with fail
  refine (wrong_any m q p sv l w2 _ false true HD2.out (by simp [Lost, RS.fail_ne])).mono ?_
  rintro e w3 ⟨rfl, n3, hw3⟩
  have f3 : Fr no w2 w3 := by rw [hw3]; exact Fr.drewN _ _ _
  have hd3 := HD2.out.kept0 f3
  have hb3 := f3.heap HB2.out (fun h => h)
  obtain ⟨y0, y1, yz, yl⟩ := pair_cells hd3.row
  obtain ⟨q0, q1, q2, q3, q4, q5, q6, qz, ql⟩ := seven_cells hb3
  have hne : w.heap.size ≠ q := by have h1 := HQP.out.1; omega
  have HD3 := Lib.hid hd3; have HB3 := Lib.hid hb3; have F3 := Lib.hid (FF2.out.trans f3 (fun _ _ h => h.elim))
  clear hw3 f3 hd3 hb3 HD2 HB2 FF2
  go_wp2
  refine wp_goto ?_
  subst hQ
  refine And.intro rfl ?_
  go_wp2
  have f4 := Fr.setCell (Fr.refl (Qp q p) w3) ⟨q, 1, none⟩ (.bool true) (fun _ => .inl rfl)
  have hb4 := f4.heap HB3.out (fun h => by have h1 := HQP.out; rcases h with h | h <;> omega)
  have hmk := HD3.out.mark true
  have hp0 := Fr.refl (fun k => k = w.heap.size) (w3.setCell ⟨q, 1, none⟩ (.bool true))
  have hset := set7_row (a := .int .u8 0) (b := .bool false) (c := .int .i64 0) (d := .string ⟨#[]⟩) (e := .slice none 0 0) (f := .slice none 0 0) (h := .slice none 0 0) hb4
  have hsf := hp0.trans (set7_fr _ w.heap.size (.int .u8 0) (.bool false) (.int .i64 0) (.string ⟨#[]⟩) (.slice none 0 0) (.slice none 0 0) (.slice none 0 0)) (fun _ _ h => h)
  unfold set7 at hset hsf
  try rw [Exit.noGoto_ret]
  refine bodyPost_ret (results_cell_row (P := Tryz.prog) rfl _ _ w.heap.size 27 _ (0, 0) _ rfl hset Tryz.underlying27 rfl (by kernel_rfl)) rfl ?_
  exact dbad KK.out rfl form_any hmk (.inl rfl) (F3.out.trans f4 (fun _ _ h => h)) hsf (fun k h => by have h : k = w.heap.size := h; omega) hm

set_option maxRecDepth 100000 in
set_option maxHeartbeats 1000000 in
theorem dval_other (d m q p : Nat) (sv : Value) (l : List UInt8) (w : World) (s : RS) (c : UInt8) (r : List UInt8) (hc : NoTag c) (h : Dr m q p sv l w s false) (ho : RS.On l s (c :: r)) (hm : m ≤ w.heap.size) :
    Calls Tryz.prog 59 #[.pointer (some ⟨q, 0, none⟩), .int .i64 ((d + 1 : Nat) : Int)] w fun e w' => DOut l (Qp q p) (Dr m q p sv l) (d + 1) (c :: r) w e w' := by
  have e1 := tag_ne (n := 1) hc.h1 rfl
  have e2 := tag_ne (n := 2) hc.h2 rfl
  have e3 := tag_ne (n := 3) hc.h3 rfl
  have e4 := tag_ne (n := 4) hc.h4 rfl
  have e5 := tag_ne (n := 5) hc.h5 rfl
  have e6 := tag_ne (n := 6) hc.h6 rfl
  have e7 := tag_ne (n := 7) hc.h7 rfl
  have e8 := tag_ne (n := 8) hc.h8 rfl
  have hdc := Lib.hid (ddc_other d c r hc)
  clear hc
  obtain ⟨hto, hon⟩ := ho.one
  obtain ⟨s1, hs1⟩ : ∃ s1, s1 = RS.mk (s.pos + 1) s.e s.wh := ⟨_, rfl⟩
  rw [← hs1] at hto hon
  clear hs1 ho
  have HTO := Lib.hid hto; have HON := Lib.hid hon
  clear hto hon
  have g0 : (((d + 1 : Nat) : Int) == 0) = false := by rw [beq_eq_false_iff_ne]; omega
  have K := dr_k m q p sv l h.hq h.hp
  have hqp := And.intro h.hq h.hp
  have hal := h.kept0 ((Fr.refl no w).alloc (.cells #[.int .u8 0, .bool false, .int .i64 0, .string ⟨#[]⟩, .slice none 0 0, .slice none 0 0, .slice none 0 0] 27))
  have hbl := h.rr.2.2.2.2.1
  obtain ⟨y0, y1, yz, yl⟩ := pair_cells h.row
  have HAL := Lib.hid hal; have HQP := Lib.hid hqp; have KK := Lib.hid K; have HBL := Lib.hid hbl
  clear h hal hqp K hbl
  go_enter Tryz.func59, Tryz.ntmps59
  go_wp2
  refine wp_scope_once 0 rfl ?_
  go_hide hQ
  go_wp2_with fail
  refine (ru8_any p _ sv l s HAL.out.rr).mono ?_
  rintro e w2 ⟨rfl, h2, f2⟩
  have hd2 := HAL.out.read h2 f2
  have hb2 := f2.heap (heap_alloc_new w (.cells #[.int .u8 0, .bool false, .int .i64 0, .string ⟨#[]⟩, .slice none 0 0, .slice none 0 0, .slice none 0 0] 27)) (fun h => by have h1 := HQP.out.2; have h : w.heap.size = p := h; omega)
  have ff2 : Fr (Qp q p) w w2 := (fr_any ((Fr.refl no w).alloc (.cells #[.int .u8 0, .bool false, .int .i64 0, .string ⟨#[]⟩, .slice none 0 0, .slice none 0 0, .slice none 0 0] 27))).trans (at_qp f2) (fun _ _ h => h)
  clear h2 f2
  rw [HTO.out] at hd2 ⊢
  simp only [ube_one]
  have HD2 := Lib.hid hd2; have HB2 := Lib.hid hb2; have FF2 := Lib.hid ff2
  clear hd2 hb2 ff2 y0 y1 yz yl HTO
  go_wp2_with fail
  refine (wrong_any m q p sv l w2 s1 false false HD2.out (by simp [Lost, HON.out.e])).mono ?_
  rintro e w3 ⟨rfl, n3, hw3⟩
  have f3 : Fr no w2 w3 := by rw [hw3]; exact Fr.drewN _ _ _
  have hd3 := HD2.out.kept0 f3
  have hb3 := f3.heap HB2.out (fun h => h)
  obtain ⟨y0, y1, yz, yl⟩ := pair_cells hd3.row
  obtain ⟨q0, q1, q2, q3, q4, q5, q6, qz, ql⟩ := seven_cells hb3
  have hne : w.heap.size ≠ q := by have h1 := HQP.out.1; omega
  have HD3 := Lib.hid hd3; have HB3 := Lib.hid hb3; have F3 := Lib.hid (FF2.out.trans f3 (fun _ _ h => h.elim))
  clear hw3 f3 hd3 hb3 HD2 HB2 FF2
  go_wp2
  refine wp_goto ?_
  subst hQ
  refine And.intro rfl ?_
  go_wp2
  have f4 := Fr.setCell (Fr.refl (Qp q p) w3) ⟨q, 1, none⟩ (.bool true) (fun _ => .inl rfl)
  have hb4 := f4.heap HB3.out (fun h => by have h1 := HQP.out; rcases h with h | h <;> omega)
  have hmk := HD3.out.mark true
  have hp0 := Fr.refl (fun k => k = w.heap.size) (w3.setCell ⟨q, 1, none⟩ (.bool true))
  have hset := set7_row (a := .int .u8 0) (b := .bool false) (c := .int .i64 0) (d := .string ⟨#[]⟩) (e := .slice none 0 0) (f := .slice none 0 0) (h := .slice none 0 0) hb4
  have hsf := hp0.trans (set7_fr _ w.heap.size (.int .u8 0) (.bool false) (.int .i64 0) (.string ⟨#[]⟩) (.slice none 0 0) (.slice none 0 0) (.slice none 0 0)) (fun _ _ h => h)
  unfold set7 at hset hsf
  try rw [Exit.noGoto_ret]
  refine bodyPost_ret (results_cell_row (P := Tryz.prog) rfl _ _ w.heap.size 27 _ (0, 0) _ rfl hset Tryz.underlying27 rfl (by kernel_rfl)) rfl ?_
  exact dbad KK.out hdc.out form_any hmk (.inl rfl) (F3.out.trans f4 (fun _ _ h => h)) hsf (fun k h => by have h : k = w.heap.size := h; omega) hm

set_option maxRecDepth 100000 in
set_option maxHeartbeats 1000000 in
theorem dval_null (d m q p : Nat) (sv : Value) (l : List UInt8) (w : World) (s : RS) (r : List UInt8) (h : Dr m q p sv l w s false) (ho : RS.On l s (1 :: r)) (hm : m ≤ w.heap.size) :
    Calls Tryz.prog 59 #[.pointer (some ⟨q, 0, none⟩), .int .i64 ((d + 1 : Nat) : Int)] w fun e w' => DOut l (Qp q p) (Dr m q p sv l) (d + 1) (1 :: r) w e w' := by
  obtain ⟨hto, hon⟩ := ho.one
  obtain ⟨s1, hs1⟩ : ∃ s1, s1 = RS.mk (s.pos + 1) s.e s.wh := ⟨_, rfl⟩
  rw [← hs1] at hto hon
  clear hs1 ho
  have HTO := Lib.hid hto; have HON := Lib.hid hon
  clear hto hon
  have g0 : (((d + 1 : Nat) : Int) == 0) = false := by rw [beq_eq_false_iff_ne]; omega
  have K := dr_k m q p sv l h.hq h.hp
  have hqp := And.intro h.hq h.hp
  have hal := h.kept0 ((Fr.refl no w).alloc (.cells #[.int .u8 0, .bool false, .int .i64 0, .string ⟨#[]⟩, .slice none 0 0, .slice none 0 0, .slice none 0 0] 27))
  have hbl := h.rr.2.2.2.2.1
  obtain ⟨y0, y1, yz, yl⟩ := pair_cells h.row
  have HAL := Lib.hid hal; have HQP := Lib.hid hqp; have KK := Lib.hid K; have HBL := Lib.hid hbl
  clear h hal hqp K hbl
  go_enter Tryz.func59, Tryz.ntmps59
  go_wp2
  go_step3
  go_wp2_with fail
  refine (ru8_any p _ sv l s HAL.out.rr).mono ?_
  rintro e w2 ⟨rfl, h2, f2⟩
  have hd2 := HAL.out.read h2 f2
  have hb2 := f2.heap (heap_alloc_new w (.cells #[.int .u8 0, .bool false, .int .i64 0, .string ⟨#[]⟩, .slice none 0 0, .slice none 0 0, .slice none 0 0] 27)) (fun h => by have h1 := HQP.out.2; have h : w.heap.size = p := h; omega)
  have ff2 : Fr (Qp q p) w w2 := (fr_any ((Fr.refl no w).alloc (.cells #[.int .u8 0, .bool false, .int .i64 0, .string ⟨#[]⟩, .slice none 0 0, .slice none 0 0, .slice none 0 0] 27))).trans (at_qp f2) (fun _ _ h => h)
  clear h2 f2
  rw [HTO.out] at hd2 ⊢
  simp only [ube_one]
  have HD2 := Lib.hid hd2; have HB2 := Lib.hid hb2; have FF2 := Lib.hid ff2
  clear hd2 hb2 ff2 y0 y1 yz yl HTO
  go_wp2_with fail
  refine (wrong_any m q p sv l w2 s1 false false HD2.out (by simp [Lost, HON.out.e])).mono ?_
  rintro e w3 ⟨rfl, n3, hw3⟩
  have f3 : Fr no w2 w3 := by rw [hw3]; exact Fr.drewN _ _ _
  have hd3 := HD2.out.kept0 f3
  have hb3 := f3.heap HB2.out (fun h => h)
  obtain ⟨y0, y1, yz, yl⟩ := pair_cells hd3.row
  obtain ⟨q0, q1, q2, q3, q4, q5, q6, qz, ql⟩ := seven_cells hb3
  have hne : w.heap.size ≠ q := by have h1 := HQP.out.1; omega
  have HD3 := Lib.hid hd3; have HB3 := Lib.hid hb3; have F3 := Lib.hid (FF2.out.trans f3 (fun _ _ h => h.elim))
  clear hw3 f3 hd3 hb3 HD2 HB2 FF2
  go_wp2
  have hp0 := Fr.refl (fun k => k = w.heap.size) w3
  have hs1 := hp_same HB3.out 0 (.int .u8 1)
  simp only [List.setIfInBounds_toArray, List.set_cons_zero] at hs1
  have hp1 := Fr.setCell hp0 ⟨w.heap.size, 0, none⟩ (.int .u8 1) (fun _ => rfl)
  have hset := set7_row (a := .int .u8 1) (b := .bool false) (c := .int .i64 0) (d := .string ⟨#[]⟩) (e := .slice none 0 0) (f := .slice none 0 0) (h := .slice none 0 0) hs1
  have hsf := hp1.trans (set7_fr _ w.heap.size (.int .u8 1) (.bool false) (.int .i64 0) (.string ⟨#[]⟩) (.slice none 0 0) (.slice none 0 0) (.slice none 0 0)) (fun _ _ h => h)
  unfold set7 at hset hsf
  try rw [Exit.noGoto_ret]
  refine bodyPost_ret (results_cell_row (P := Tryz.prog) rfl _ _ w.heap.size 27 _ (0, 0) _ rfl hset Tryz.underlying27 rfl (by kernel_rfl)) rfl ?_
  exact dfin (x := .mk 1 false 0 [] [] nil3 [] []) KK.out (by first | (rw [ddc1, bare_leaf2]; done) | (rw [ddc1, bare_leaf2]; rfl)) (held_leaf _ _ _ _ _) (fun k hk => (blk_leaf hk).elim) HD3.out HON.out F3.out hsf (fun k h => by have h : k = w.heap.size := h; omega) hm

set_option maxRecDepth 100000 in
set_option maxHeartbeats 1000000 in
theorem dval_no (d m q p : Nat) (sv : Value) (l : List UInt8) (w : World) (s : RS) (r : List UInt8) (h : Dr m q p sv l w s false) (ho : RS.On l s (2 :: r)) (hm : m ≤ w.heap.size) :
    Calls Tryz.prog 59 #[.pointer (some ⟨q, 0, none⟩), .int .i64 ((d + 1 : Nat) : Int)] w fun e w' => DOut l (Qp q p) (Dr m q p sv l) (d + 1) (2 :: r) w e w' := by
  obtain ⟨hto, hon⟩ := ho.one
  obtain ⟨s1, hs1⟩ : ∃ s1, s1 = RS.mk (s.pos + 1) s.e s.wh := ⟨_, rfl⟩
  rw [← hs1] at hto hon
  clear hs1 ho
  have HTO := Lib.hid hto; have HON := Lib.hid hon
  clear hto hon
  have g0 : (((d + 1 : Nat) : Int) == 0) = false := by rw [beq_eq_false_iff_ne]; omega
  have K := dr_k m q p sv l h.hq h.hp
  have hqp := And.intro h.hq h.hp
  have hal := h.kept0 ((Fr.refl no w).alloc (.cells #[.int .u8 0, .bool false, .int .i64 0, .string ⟨#[]⟩, .slice none 0 0, .slice none 0 0, .slice none 0 0] 27))
  have hbl := h.rr.2.2.2.2.1
  obtain ⟨y0, y1, yz, yl⟩ := pair_cells h.row
  have HAL := Lib.hid hal; have HQP := Lib.hid hqp; have KK := Lib.hid K; have HBL := Lib.hid hbl
  clear h hal hqp K hbl
  go_enter Tryz.func59, Tryz.ntmps59
  go_wp2
  go_step3
  go_wp2_with fail
  refine (ru8_any p _ sv l s HAL.out.rr).mono ?_
  rintro e w2 ⟨rfl, h2, f2⟩
  have hd2 := HAL.out.read h2 f2
  have hb2 := f2.heap (heap_alloc_new w (.cells #[.int .u8 0, .bool false, .int .i64 0, .string ⟨#[]⟩, .slice none 0 0, .slice none 0 0, .slice none 0 0] 27)) (fun h => by have h1 := HQP.out.2; have h : w.heap.size = p := h; omega)
  have ff2 : Fr (Qp q p) w w2 := (fr_any ((Fr.refl no w).alloc (.cells #[.int .u8 0, .bool false, .int .i64 0, .string ⟨#[]⟩, .slice none 0 0, .slice none 0 0, .slice none 0 0] 27))).trans (at_qp f2) (fun _ _ h => h)
  clear h2 f2
  rw [HTO.out] at hd2 ⊢
  simp only [ube_one]
  have HD2 := Lib.hid hd2; have HB2 := Lib.hid hb2; have FF2 := Lib.hid ff2
  clear hd2 hb2 ff2 y0 y1 yz yl HTO
  go_wp2_with fail
  refine (wrong_any m q p sv l w2 s1 false false HD2.out (by simp [Lost, HON.out.e])).mono ?_
  rintro e w3 ⟨rfl, n3, hw3⟩
  have f3 : Fr no w2 w3 := by rw [hw3]; exact Fr.drewN _ _ _
  have hd3 := HD2.out.kept0 f3
  have hb3 := f3.heap HB2.out (fun h => h)
  obtain ⟨y0, y1, yz, yl⟩ := pair_cells hd3.row
  obtain ⟨q0, q1, q2, q3, q4, q5, q6, qz, ql⟩ := seven_cells hb3
  have hne : w.heap.size ≠ q := by have h1 := HQP.out.1; omega
  have HD3 := Lib.hid hd3; have HB3 := Lib.hid hb3; have F3 := Lib.hid (FF2.out.trans f3 (fun _ _ h => h.elim))
  clear hw3 f3 hd3 hb3 HD2 HB2 FF2
  go_wp2
  have hp0 := Fr.refl (fun k => k = w.heap.size) w3
  have hs1 := hp_same HB3.out 0 (.int .u8 2)
  simp only [List.setIfInBounds_toArray, List.set_cons_zero] at hs1
  have hp1 := Fr.setCell hp0 ⟨w.heap.size, 0, none⟩ (.int .u8 2) (fun _ => rfl)
  have hs2 := hp_same hs1 1 (.bool false)
  simp only [List.setIfInBounds_toArray, List.set_cons_zero, List.set_cons_succ] at hs2
  have hp2 := Fr.setCell hp1 ⟨w.heap.size, 1, none⟩ (.bool false) (fun _ => rfl)
  have hset := set7_row (a := .int .u8 2) (b := .bool false) (c := .int .i64 0) (d := .string ⟨#[]⟩) (e := .slice none 0 0) (f := .slice none 0 0) (h := .slice none 0 0) hs2
  have hsf := hp2.trans (set7_fr _ w.heap.size (.int .u8 2) (.bool false) (.int .i64 0) (.string ⟨#[]⟩) (.slice none 0 0) (.slice none 0 0) (.slice none 0 0)) (fun _ _ h => h)
  unfold set7 at hset hsf
  try rw [Exit.noGoto_ret]
  refine bodyPost_ret (results_cell_row (P := Tryz.prog) rfl _ _ w.heap.size 27 _ (0, 0) _ rfl hset Tryz.underlying27 rfl (by kernel_rfl)) rfl ?_
  exact dfin (x := .mk 2 false 0 [] [] nil3 [] []) KK.out (by first | (rw [ddc2, bare_leaf2]; done) | (rw [ddc2, bare_leaf2]; rfl)) (held_leaf _ _ _ _ _) (fun k hk => (blk_leaf hk).elim) HD3.out HON.out F3.out hsf (fun k h => by have h : k = w.heap.size := h; omega) hm

set_option maxRecDepth 100000 in
set_option maxHeartbeats 1000000 in
theorem dval_yes (d m q p : Nat) (sv : Value) (l : List UInt8) (w : World) (s : RS) (r : List UInt8) (h : Dr m q p sv l w s false) (ho : RS.On l s (3 :: r)) (hm : m ≤ w.heap.size) :
    Calls Tryz.prog 59 #[.pointer (some ⟨q, 0, none⟩), .int .i64 ((d + 1 : Nat) : Int)] w fun e w' => DOut l (Qp q p) (Dr m q p sv l) (d + 1) (3 :: r) w e w' := by
  obtain ⟨hto, hon⟩ := ho.one
  obtain ⟨s1, hs1⟩ : ∃ s1, s1 = RS.mk (s.pos + 1) s.e s.wh := ⟨_, rfl⟩
  rw [← hs1] at hto hon
  clear hs1 ho
  have HTO := Lib.hid hto; have HON := Lib.hid hon
  clear hto hon
  have g0 : (((d + 1 : Nat) : Int) == 0) = false := by rw [beq_eq_false_iff_ne]; omega
  have K := dr_k m q p sv l h.hq h.hp
  have hqp := And.intro h.hq h.hp
  have hal := h.kept0 ((Fr.refl no w).alloc (.cells #[.int .u8 0, .bool false, .int .i64 0, .string ⟨#[]⟩, .slice none 0 0, .slice none 0 0, .slice none 0 0] 27))
  have hbl := h.rr.2.2.2.2.1
  obtain ⟨y0, y1, yz, yl⟩ := pair_cells h.row
  have HAL := Lib.hid hal; have HQP := Lib.hid hqp; have KK := Lib.hid K; have HBL := Lib.hid hbl
  clear h hal hqp K hbl
  go_enter Tryz.func59, Tryz.ntmps59
  go_wp2
  go_step3
  go_wp2_with fail
  refine (ru8_any p _ sv l s HAL.out.rr).mono ?_
  rintro e w2 ⟨rfl, h2, f2⟩
  have hd2 := HAL.out.read h2 f2
  have hb2 := f2.heap (heap_alloc_new w (.cells #[.int .u8 0, .bool false, .int .i64 0, .string ⟨#[]⟩, .slice none 0 0, .slice none 0 0, .slice none 0 0] 27)) (fun h => by have h1 := HQP.out.2; have h : w.heap.size = p := h; omega)
  have ff2 : Fr (Qp q p) w w2 := (fr_any ((Fr.refl no w).alloc (.cells #[.int .u8 0, .bool false, .int .i64 0, .string ⟨#[]⟩, .slice none 0 0, .slice none 0 0, .slice none 0 0] 27))).trans (at_qp f2) (fun _ _ h => h)
  clear h2 f2
  rw [HTO.out] at hd2 ⊢
  simp only [ube_one]
  have HD2 := Lib.hid hd2; have HB2 := Lib.hid hb2; have FF2 := Lib.hid ff2
  clear hd2 hb2 ff2 y0 y1 yz yl HTO
  go_wp2_with fail
  refine (wrong_any m q p sv l w2 s1 false false HD2.out (by simp [Lost, HON.out.e])).mono ?_
  rintro e w3 ⟨rfl, n3, hw3⟩
  have f3 : Fr no w2 w3 := by rw [hw3]; exact Fr.drewN _ _ _
  have hd3 := HD2.out.kept0 f3
  have hb3 := f3.heap HB2.out (fun h => h)
  obtain ⟨y0, y1, yz, yl⟩ := pair_cells hd3.row
  obtain ⟨q0, q1, q2, q3, q4, q5, q6, qz, ql⟩ := seven_cells hb3
  have hne : w.heap.size ≠ q := by have h1 := HQP.out.1; omega
  have HD3 := Lib.hid hd3; have HB3 := Lib.hid hb3; have F3 := Lib.hid (FF2.out.trans f3 (fun _ _ h => h.elim))
  clear hw3 f3 hd3 hb3 HD2 HB2 FF2
  go_wp2
  have hp0 := Fr.refl (fun k => k = w.heap.size) w3
  have hs1 := hp_same HB3.out 0 (.int .u8 2)
  simp only [List.setIfInBounds_toArray, List.set_cons_zero] at hs1
  have hp1 := Fr.setCell hp0 ⟨w.heap.size, 0, none⟩ (.int .u8 2) (fun _ => rfl)
  have hs2 := hp_same hs1 1 (.bool true)
  simp only [List.setIfInBounds_toArray, List.set_cons_zero, List.set_cons_succ] at hs2
  have hp2 := Fr.setCell hp1 ⟨w.heap.size, 1, none⟩ (.bool true) (fun _ => rfl)
  have hset := set7_row (a := .int .u8 2) (b := .bool true) (c := .int .i64 0) (d := .string ⟨#[]⟩) (e := .slice none 0 0) (f := .slice none 0 0) (h := .slice none 0 0) hs2
  have hsf := hp2.trans (set7_fr _ w.heap.size (.int .u8 2) (.bool true) (.int .i64 0) (.string ⟨#[]⟩) (.slice none 0 0) (.slice none 0 0) (.slice none 0 0)) (fun _ _ h => h)
  unfold set7 at hset hsf
  try rw [Exit.noGoto_ret]
  refine bodyPost_ret (results_cell_row (P := Tryz.prog) rfl _ _ w.heap.size 27 _ (0, 0) _ rfl hset Tryz.underlying27 rfl (by kernel_rfl)) rfl ?_
  exact dfin (x := .mk 2 true 0 [] [] nil3 [] []) KK.out (by first | (rw [ddc3, bare_leaf2]; done) | (rw [ddc3, bare_leaf2]; rfl)) (held_leaf _ _ _ _ _) (fun k hk => (blk_leaf hk).elim) HD3.out HON.out F3.out hsf (fun k h => by have h : k = w.heap.size := h; omega) hm

set_option maxRecDepth 100000 in
set_option maxHeartbeats 2000000 in
theorem dval_int (d m q p : Nat) (sv : Value) (l : List UInt8) (w : World) (s : RS) (r : List UInt8) (h : Dr m q p sv l w s false) (ho : RS.On l s (4 :: r)) (hm : m ≤ w.heap.size) :
    Calls Tryz.prog 59 #[.pointer (some ⟨q, 0, none⟩), .int .i64 ((d + 1 : Nat) : Int)] w fun e w' => DOut l (Qp q p) (Dr m q p sv l) (d + 1) (4 :: r) w e w' := by
  obtain ⟨hto, hon⟩ := ho.one
  obtain ⟨s1, hs1⟩ : ∃ s1, s1 = RS.mk (s.pos + 1) s.e s.wh := ⟨_, rfl⟩
  rw [← hs1] at hto hon
  clear hs1 ho
  have HTO := Lib.hid hto; have HON := Lib.hid hon
  clear hto hon
  have g0 : (((d + 1 : Nat) : Int) == 0) = false := by rw [beq_eq_false_iff_ne]; omega
  have K := dr_k m q p sv l h.hq h.hp
  have hqp := And.intro h.hq h.hp
  have hal := h.kept0 ((Fr.refl no w).alloc (.cells #[.int .u8 0, .bool false, .int .i64 0, .string ⟨#[]⟩, .slice none 0 0, .slice none 0 0, .slice none 0 0] 27))
  have hbl := h.rr.2.2.2.2.1
  obtain ⟨y0, y1, yz, yl⟩ := pair_cells h.row
  have HAL := Lib.hid hal; have HQP := Lib.hid hqp; have KK := Lib.hid K; have HBL := Lib.hid hbl
  clear h hal hqp K hbl
  go_enter Tryz.func59, Tryz.ntmps59
  go_wp2
  go_step3
  go_wp2_with fail
  refine (ru8_any p _ sv l s HAL.out.rr).mono ?_
  rintro e w2 ⟨rfl, h2, f2⟩
  have hd2 := HAL.out.read h2 f2
  have hb2 := f2.heap (heap_alloc_new w (.cells #[.int .u8 0, .bool false, .int .i64 0, .string ⟨#[]⟩, .slice none 0 0, .slice none 0 0, .slice none 0 0] 27)) (fun h => by have h1 := HQP.out.2; have h : w.heap.size = p := h; omega)
  have ff2 : Fr (Qp q p) w w2 := (fr_any ((Fr.refl no w).alloc (.cells #[.int .u8 0, .bool false, .int .i64 0, .string ⟨#[]⟩, .slice none 0 0, .slice none 0 0, .slice none 0 0] 27))).trans (at_qp f2) (fun _ _ h => h)
  clear h2 f2
  rw [HTO.out] at hd2 ⊢
  simp only [ube_one]
  have HD2 := Lib.hid hd2; have HB2 := Lib.hid hb2; have FF2 := Lib.hid ff2
  clear hd2 hb2 ff2 y0 y1 yz yl HTO
  go_wp2_with fail
  refine (wrong_any m q p sv l w2 s1 false false HD2.out (by simp [Lost, HON.out.e])).mono ?_
  rintro e w3 ⟨rfl, n3, hw3⟩
  have f3 : Fr no w2 w3 := by rw [hw3]; exact Fr.drewN _ _ _
  have hd3 := HD2.out.kept0 f3
  have hb3 := f3.heap HB2.out (fun h => h)
  obtain ⟨y0, y1, yz, yl⟩ := pair_cells hd3.row
  obtain ⟨q0, q1, q2, q3, q4, q5, q6, qz, ql⟩ := seven_cells hb3
  have hne : w.heap.size ≠ q := by have h1 := HQP.out.1; omega
  have HD3 := Lib.hid hd3; have HB3 := Lib.hid hb3; have F3 := Lib.hid (FF2.out.trans f3 (fun _ _ h => h.elim))
  clear hw3 f3 hd3 hb3 HD2 HB2 FF2
  go_wp2_with fail
  refine (rsigned_any p w3 sv l s1 HD3.out.rr).mono ?_
  rintro e w4 ⟨rfl, h4, f4⟩
  have hd4 := HD3.out.read h4 f4
  have hb4 := f4.heap HB3.out (fun h => by have h1 := HQP.out.2; have h : w.heap.size = p := h; omega)
  obtain ⟨y0, y1, yz, yl⟩ := pair_cells hd4.row
  obtain ⟨q0, q1, q2, q3, q4, q5, q6, qz, ql⟩ := seven_cells hb4
  have HD4 := Lib.hid hd4; have HB4 := Lib.hid hb4; have F4 := Lib.hid (F3.out.trans (at_qp f4) (fun _ _ h => h))
  clear h4 f4 hd4 hb4 HD3 HB3 F3
  cases hv : rvi r with
  | some z =>
    obtain ⟨n, r'⟩ := z
    obtain ⟨e1, e2⟩ := HON.out.var hv
    rw [e1]
    have HV := Lib.hid hv; have HE := Lib.hid e2
    clear hv e1 e2
    go_wp2
    have hp0 := Fr.refl (fun k => k = w.heap.size) w4
    have hs1 := hp_same HB4.out 0 (.int .u8 3)
    simp only [List.setIfInBounds_toArray, List.set_cons_zero] at hs1
    have hp1 := Fr.setCell hp0 ⟨w.heap.size, 0, none⟩ (.int .u8 3) (fun _ => rfl)
    have hs2 := hp_same hs1 2 (.int .i64 (uz n))
    simp only [List.setIfInBounds_toArray, List.set_cons_zero, List.set_cons_succ] at hs2
    have hp2 := Fr.setCell hp1 ⟨w.heap.size, 2, none⟩ (.int .i64 (uz n)) (fun _ => rfl)
    have hset := set7_row (a := .int .u8 3) (b := .bool false) (c := .int .i64 (uz n)) (d := .string ⟨#[]⟩) (e := .slice none 0 0) (f := .slice none 0 0) (h := .slice none 0 0) hs2
    have hsf := hp2.trans (set7_fr _ w.heap.size (.int .u8 3) (.bool false) (.int .i64 (uz n)) (.string ⟨#[]⟩) (.slice none 0 0) (.slice none 0 0) (.slice none 0 0)) (fun _ _ h => h)
    unfold set7 at hset hsf
    try rw [Exit.noGoto_ret]
    refine bodyPost_ret (results_cell_row (P := Tryz.prog) rfl _ _ w.heap.size 27 _ (0, 0) _ rfl hset Tryz.underlying27 rfl (by kernel_rfl)) rfl ?_
    exact dfin (x := .mk 3 false (uz n) [] [] nil3 [] []) KK.out (by rw [ddc4, HV.out, bare_leaf2]; rfl) (held_leaf _ _ _ _ _) (fun k hk => (blk_leaf hk).elim) HD4.out HE.out F4.out hsf (fun k h => by have h : k = w.heap.size := h; omega) hm
  | none =>
    obtain ⟨e1, e2⟩ := HON.out.var_no hv
    rw [e1]
    have HV := Lib.hid hv; have HE := Lib.hid e2
    clear hv e1 e2
    go_wp2
    have hp0 := Fr.refl (fun k => k = w.heap.size) w4
    have hs1 := hp_same HB4.out 0 (.int .u8 3)
    simp only [List.setIfInBounds_toArray, List.set_cons_zero] at hs1
    have hp1 := Fr.setCell hp0 ⟨w.heap.size, 0, none⟩ (.int .u8 3) (fun _ => rfl)
    have hs2 := hp_same hs1 2 (.int .i64 (uz 0))
    simp only [List.setIfInBounds_toArray, List.set_cons_zero, List.set_cons_succ] at hs2
    have hp2 := Fr.setCell hp1 ⟨w.heap.size, 2, none⟩ (.int .i64 (uz 0)) (fun _ => rfl)
    have hset := set7_row (a := .int .u8 3) (b := .bool false) (c := .int .i64 (uz 0)) (d := .string ⟨#[]⟩) (e := .slice none 0 0) (f := .slice none 0 0) (h := .slice none 0 0) hs2
    have hsf := hp2.trans (set7_fr _ w.heap.size (.int .u8 3) (.bool false) (.int .i64 (uz 0)) (.string ⟨#[]⟩) (.slice none 0 0) (.slice none 0 0) (.slice none 0 0)) (fun _ _ h => h)
    unfold set7 at hset hsf
    try rw [Exit.noGoto_ret]
    refine bodyPost_ret (results_cell_row (P := Tryz.prog) rfl _ _ w.heap.size 27 _ (0, 0) _ rfl hset Tryz.underlying27 rfl (by kernel_rfl)) rfl ?_
    exact dbad KK.out (by rw [ddc4, HV.out]; rfl) form_any HD4.out (.inr HE.out) F4.out hsf (fun k h => by have h : k = w.heap.size := h; omega) hm

set_option maxRecDepth 100000 in
set_option maxHeartbeats 2000000 in
theorem dval_text (d m q p : Nat) (sv : Value) (l : List UInt8) (w : World) (s : RS) (r : List UInt8) (h : Dr m q p sv l w s false) (ho : RS.On l s (5 :: r)) (hm : m ≤ w.heap.size) :
    Calls Tryz.prog 59 #[.pointer (some ⟨q, 0, none⟩), .int .i64 ((d + 1 : Nat) : Int)] w fun e w' => DOut l (Qp q p) (Dr m q p sv l) (d + 1) (5 :: r) w e w' := by
  obtain ⟨hto, hon⟩ := ho.one
  obtain ⟨s1, hs1⟩ : ∃ s1, s1 = RS.mk (s.pos + 1) s.e s.wh := ⟨_, rfl⟩
  rw [← hs1] at hto hon
  clear hs1 ho
  have HTO := Lib.hid hto; have HON := Lib.hid hon
  clear hto hon
  have g0 : (((d + 1 : Nat) : Int) == 0) = false := by rw [beq_eq_false_iff_ne]; omega
  have K := dr_k m q p sv l h.hq h.hp
  have hqp := And.intro h.hq h.hp
  have hal := h.kept0 ((Fr.refl no w).alloc (.cells #[.int .u8 0, .bool false, .int .i64 0, .string ⟨#[]⟩, .slice none 0 0, .slice none 0 0, .slice none 0 0] 27))
  have hbl := h.rr.2.2.2.2.1
  obtain ⟨y0, y1, yz, yl⟩ := pair_cells h.row
  have HAL := Lib.hid hal; have HQP := Lib.hid hqp; have KK := Lib.hid K; have HBL := Lib.hid hbl
  clear h hal hqp K hbl
  go_enter Tryz.func59, Tryz.ntmps59
  go_wp2
  go_step3
  go_wp2_with fail
  refine (ru8_any p _ sv l s HAL.out.rr).mono ?_
  rintro e w2 ⟨rfl, h2, f2⟩
  have hd2 := HAL.out.read h2 f2
  have hb2 := f2.heap (heap_alloc_new w (.cells #[.int .u8 0, .bool false, .int .i64 0, .string ⟨#[]⟩, .slice none 0 0, .slice none 0 0, .slice none 0 0] 27)) (fun h => by have h1 := HQP.out.2; have h : w.heap.size = p := h; omega)
  have ff2 : Fr (Qp q p) w w2 := (fr_any ((Fr.refl no w).alloc (.cells #[.int .u8 0, .bool false, .int .i64 0, .string ⟨#[]⟩, .slice none 0 0, .slice none 0 0, .slice none 0 0] 27))).trans (at_qp f2) (fun _ _ h => h)
  clear h2 f2
  rw [HTO.out] at hd2 ⊢
  simp only [ube_one]
  have HD2 := Lib.hid hd2; have HB2 := Lib.hid hb2; have FF2 := Lib.hid ff2
  clear hd2 hb2 ff2 y0 y1 yz yl HTO
  go_wp2_with fail
  refine (wrong_any m q p sv l w2 s1 false false HD2.out (by simp [Lost, HON.out.e])).mono ?_
  rintro e w3 ⟨rfl, n3, hw3⟩
  have f3 : Fr no w2 w3 := by rw [hw3]; exact Fr.drewN _ _ _
  have hd3 := HD2.out.kept0 f3
  have hb3 := f3.heap HB2.out (fun h => h)
  obtain ⟨y0, y1, yz, yl⟩ := pair_cells hd3.row
  obtain ⟨q0, q1, q2, q3, q4, q5, q6, qz, ql⟩ := seven_cells hb3
  have hne : w.heap.size ≠ q := by have h1 := HQP.out.1; omega
  have HD3 := Lib.hid hd3; have HB3 := Lib.hid hb3; have F3 := Lib.hid (FF2.out.trans f3 (fun _ _ h => h.elim))
  clear hw3 f3 hd3 hb3 HD2 HB2 FF2
  go_wp2_with fail
  refine (rtext_any p w3 sv l s1 HD3.out.rr).mono ?_
  rintro e w4 ⟨rfl, h4, f4⟩
  have hd4 := HD3.out.read h4 f4
  have hb4 := f4.heap HB3.out (fun h => by have h1 := HQP.out.2; have h : w.heap.size = p := h; omega)
  obtain ⟨y0, y1, yz, yl⟩ := pair_cells hd4.row
  obtain ⟨q0, q1, q2, q3, q4, q5, q6, qz, ql⟩ := seven_cells hb4
  have HD4 := Lib.hid hd4; have HB4 := Lib.hid hb4; have F4 := Lib.hid (F3.out.trans (at_qp f4) (fun _ _ h => h))
  clear h4 f4 hd4 hb4 HD3 HB3 F3
  cases hv : rvt r with
  | some z =>
    obtain ⟨n, r'⟩ := z
    obtain ⟨e1, e2⟩ := HON.out.text hv
    rw [e1]
    have HV := Lib.hid hv; have HE := Lib.hid e2
    clear hv e1 e2
    go_wp2
    have hp0 := Fr.refl (fun k => k = w.heap.size) w4
    have hs1 := hp_same HB4.out 0 (.int .u8 4)
    simp only [List.setIfInBounds_toArray, List.set_cons_zero] at hs1
    have hp1 := Fr.setCell hp0 ⟨w.heap.size, 0, none⟩ (.int .u8 4) (fun _ => rfl)
    have hs2 := hp_same hs1 3 (.string ⟨n.toArray⟩)
    simp only [List.setIfInBounds_toArray, List.set_cons_zero, List.set_cons_succ] at hs2
    have hp2 := Fr.setCell hp1 ⟨w.heap.size, 3, none⟩ (.string ⟨n.toArray⟩) (fun _ => rfl)
    have hset := set7_row (a := .int .u8 4) (b := .bool false) (c := .int .i64 0) (d := .string ⟨n.toArray⟩) (e := .slice none 0 0) (f := .slice none 0 0) (h := .slice none 0 0) hs2
    have hsf := hp2.trans (set7_fr _ w.heap.size (.int .u8 4) (.bool false) (.int .i64 0) (.string ⟨n.toArray⟩) (.slice none 0 0) (.slice none 0 0) (.slice none 0 0)) (fun _ _ h => h)
    unfold set7 at hset hsf
    try rw [Exit.noGoto_ret]
    refine bodyPost_ret (results_cell_row (P := Tryz.prog) rfl _ _ w.heap.size 27 _ (0, 0) _ rfl hset Tryz.underlying27 rfl (by kernel_rfl)) rfl ?_
    exact dfin (x := .mk 4 false 0 n [] nil3 [] []) KK.out (by rw [ddc5, HV.out, bare_leaf2]; rfl) (held_leaf _ _ _ _ _) (fun k hk => (blk_leaf hk).elim) HD4.out HE.out F4.out hsf (fun k h => by have h : k = w.heap.size := h; omega) hm
  | none =>
    obtain ⟨e1, e2⟩ := HON.out.text_no hv
    rw [e1]
    have HV := Lib.hid hv; have HE := Lib.hid e2
    clear hv e1 e2
    go_wp2
    have hp0 := Fr.refl (fun k => k = w.heap.size) w4
    have hs1 := hp_same HB4.out 0 (.int .u8 4)
    simp only [List.setIfInBounds_toArray, List.set_cons_zero] at hs1
    have hp1 := Fr.setCell hp0 ⟨w.heap.size, 0, none⟩ (.int .u8 4) (fun _ => rfl)
    have hs2 := hp_same hs1 3 (.string ⟨[].toArray⟩)
    simp only [List.setIfInBounds_toArray, List.set_cons_zero, List.set_cons_succ] at hs2
    have hp2 := Fr.setCell hp1 ⟨w.heap.size, 3, none⟩ (.string ⟨[].toArray⟩) (fun _ => rfl)
    have hset := set7_row (a := .int .u8 4) (b := .bool false) (c := .int .i64 0) (d := .string ⟨[].toArray⟩) (e := .slice none 0 0) (f := .slice none 0 0) (h := .slice none 0 0) hs2
    have hsf := hp2.trans (set7_fr _ w.heap.size (.int .u8 4) (.bool false) (.int .i64 0) (.string ⟨[].toArray⟩) (.slice none 0 0) (.slice none 0 0) (.slice none 0 0)) (fun _ _ h => h)
    unfold set7 at hset hsf
    try rw [Exit.noGoto_ret]
    refine bodyPost_ret (results_cell_row (P := Tryz.prog) rfl _ _ w.heap.size 27 _ (0, 0) _ rfl hset Tryz.underlying27 rfl (by kernel_rfl)) rfl ?_
    exact dbad KK.out (by rw [ddc5, HV.out]; rfl) form_any HD4.out (.inr HE.out) F4.out hsf (fun k h => by have h : k = w.heap.size := h; omega) hm

set_option maxRecDepth 100000 in
set_option maxHeartbeats 2000000 in
theorem dval_raw (d m q p : Nat) (sv : Value) (l : List UInt8) (w : World) (s : RS) (r : List UInt8) (h : Dr m q p sv l w s false) (ho : RS.On l s (6 :: r)) (hm : m ≤ w.heap.size) :
    Calls Tryz.prog 59 #[.pointer (some ⟨q, 0, none⟩), .int .i64 ((d + 1 : Nat) : Int)] w fun e w' => DOut l (Qp q p) (Dr m q p sv l) (d + 1) (6 :: r) w e w' := by
  obtain ⟨hto, hon⟩ := ho.one
  obtain ⟨s1, hs1⟩ : ∃ s1, s1 = RS.mk (s.pos + 1) s.e s.wh := ⟨_, rfl⟩
  rw [← hs1] at hto hon
  clear hs1 ho
  have HTO := Lib.hid hto; have HON := Lib.hid hon
  clear hto hon
  have g0 : (((d + 1 : Nat) : Int) == 0) = false := by rw [beq_eq_false_iff_ne]; omega
  have K := dr_k m q p sv l h.hq h.hp
  have hqp := And.intro h.hq h.hp
  have hal := h.kept0 ((Fr.refl no w).alloc (.cells #[.int .u8 0, .bool false, .int .i64 0, .string ⟨#[]⟩, .slice none 0 0, .slice none 0 0, .slice none 0 0] 27))
  have hbl := h.rr.2.2.2.2.1
  obtain ⟨y0, y1, yz, yl⟩ := pair_cells h.row
  have HAL := Lib.hid hal; have HQP := Lib.hid hqp; have KK := Lib.hid K; have HBL := Lib.hid hbl
  clear h hal hqp K hbl
  go_enter Tryz.func59, Tryz.ntmps59
  go_wp2
  go_step3
  go_wp2_with fail
  refine (ru8_any p _ sv l s HAL.out.rr).mono ?_
  rintro e w2 ⟨rfl, h2, f2⟩
  have hd2 := HAL.out.read h2 f2
  have hb2 := f2.heap (heap_alloc_new w (.cells #[.int .u8 0, .bool false, .int .i64 0, .string ⟨#[]⟩, .slice none 0 0, .slice none 0 0, .slice none 0 0] 27)) (fun h => by have h1 := HQP.out.2; have h : w.heap.size = p := h; omega)
  have ff2 : Fr (Qp q p) w w2 := (fr_any ((Fr.refl no w).alloc (.cells #[.int .u8 0, .bool false, .int .i64 0, .string ⟨#[]⟩, .slice none 0 0, .slice none 0 0, .slice none 0 0] 27))).trans (at_qp f2) (fun _ _ h => h)
  clear h2 f2
  rw [HTO.out] at hd2 ⊢
  simp only [ube_one]
  have HD2 := Lib.hid hd2; have HB2 := Lib.hid hb2; have FF2 := Lib.hid ff2
  clear hd2 hb2 ff2 y0 y1 yz yl HTO
  go_wp2_with fail
  refine (wrong_any m q p sv l w2 s1 false false HD2.out (by simp [Lost, HON.out.e])).mono ?_
  rintro e w3 ⟨rfl, n3, hw3⟩
  have f3 : Fr no w2 w3 := by rw [hw3]; exact Fr.drewN _ _ _
  have hd3 := HD2.out.kept0 f3
  have hb3 := f3.heap HB2.out (fun h => h)
  obtain ⟨y0, y1, yz, yl⟩ := pair_cells hd3.row
  obtain ⟨q0, q1, q2, q3, q4, q5, q6, qz, ql⟩ := seven_cells hb3
  have hne : w.heap.size ≠ q := by have h1 := HQP.out.1; omega
  have HD3 := Lib.hid hd3; have HB3 := Lib.hid hb3; have F3 := Lib.hid (FF2.out.trans f3 (fun _ _ h => h.elim))
  clear hw3 f3 hd3 hb3 HD2 HB2 FF2
  go_wp2_with fail
  refine (rtext_any p w3 sv l s1 HD3.out.rr).mono ?_
  rintro e w4 ⟨rfl, h4, f4⟩
  have hd4 := HD3.out.read h4 f4
  have hb4 := f4.heap HB3.out (fun h => by have h1 := HQP.out.2; have h : w.heap.size = p := h; omega)
  obtain ⟨y0, y1, yz, yl⟩ := pair_cells hd4.row
  obtain ⟨q0, q1, q2, q3, q4, q5, q6, qz, ql⟩ := seven_cells hb4
  have HD4 := Lib.hid hd4; have HB4 := Lib.hid hb4; have F4 := Lib.hid (F3.out.trans (at_qp f4) (fun _ _ h => h))
  clear h4 f4 hd4 hb4 HD3 HB3 F3
  cases hv : rvt r with
  | some z =>
    obtain ⟨n, r'⟩ := z
    obtain ⟨e1, e2⟩ := HON.out.text hv
    rw [e1]
    have HV := Lib.hid hv; have HE := Lib.hid e2
    clear hv e1 e2
    have rc := Lib.run_convert_string_bytes (P := Tryz.prog) (u := .string) w4 9 23 5 ⟨n.toArray⟩ (by kernel_rfl) (by kernel_rfl) (by kernel_rfl)
    rw [show (⟨n.toArray⟩ : ByteArray).size = n.length from List.size_toArray] at rc
    have hsl := bytes_sl w4 5 n (by have h1 := rvt_lt HV.out; have h2 := HON.out.len; have h3 := HBL.out; omega)
    have f5 := bytes_fr w4 5 ⟨n.toArray⟩
    have hz5 := Lib.bytesWorld_size w4 5 ⟨n.toArray⟩
    obtain ⟨cap, hcap⟩ : ∃ cap, cap = grownCap w4 n.length 0 5 := ⟨_, rfl⟩
    rw [← hcap] at rc hsl
    generalize Lib.bytesWorld w4 5 ⟨n.toArray⟩ = w5 at rc hsl f5 hz5
    have hb5 := f5.heap HB4.out (fun h => h)
    have hd5 := HD4.out.kept0 f5
    obtain ⟨q0, q1, q2, q3, q4, q5, q6, qz, ql⟩ := seven_cells hb5
    have HSL := Lib.hid hsl; have HB5 := Lib.hid hb5; have HD5 := Lib.hid hd5; have F5 := Lib.hid (F4.out.trans f5 (fun _ _ h => h.elim)); have HZ5 := Lib.hid hz5
    clear hsl hb5 hd5 f5 hz5 hcap
    go_wp2
    have hp0 := Fr.refl (fun k => k = w.heap.size) w5
    have hs1 := hp_same HB5.out 0 (.int .u8 5)
    simp only [List.setIfInBounds_toArray, List.set_cons_zero] at hs1
    have hp1 := Fr.setCell hp0 ⟨w.heap.size, 0, none⟩ (.int .u8 5) (fun _ => rfl)
    have hs2 := hp_same hs1 4 (.slice (some ⟨w4.heap.size, 0, none⟩) n.length cap)
    simp only [List.setIfInBounds_toArray, List.set_cons_zero, List.set_cons_succ] at hs2
    have hp2 := Fr.setCell hp1 ⟨w.heap.size, 4, none⟩ (.slice (some ⟨w4.heap.size, 0, none⟩) n.length cap) (fun _ => rfl)
    have hset := set7_row (a := .int .u8 5) (b := .bool false) (c := .int .i64 0) (d := .string ⟨#[]⟩) (e := .slice (some ⟨w4.heap.size, 0, none⟩) n.length cap) (f := .slice none 0 0) (h := .slice none 0 0) hs2
    have hsf := hp2.trans (set7_fr _ w.heap.size (.int .u8 5) (.bool false) (.int .i64 0) (.string ⟨#[]⟩) (.slice (some ⟨w4.heap.size, 0, none⟩) n.length cap) (.slice none 0 0) (.slice none 0 0)) (fun _ _ h => h)
    unfold set7 at hset hsf
    try rw [Exit.noGoto_ret]
    refine bodyPost_ret (results_cell_row (P := Tryz.prog) rfl _ _ w.heap.size 27 _ (0, 0) _ rfl hset Tryz.underlying27 rfl (by kernel_rfl)) rfl ?_
    exact dfin (x := .mk 5 false 0 [] n (.slice (some ⟨w4.heap.size, 0, none⟩) n.length cap, .slice none 0 0, .slice none 0 0) [] []) KK.out (by rw [ddc6, HV.out, bare_leaf2]; rfl) (held_raw HSL.out (fun k hk => by have h1 := HZ5.out; have h2 : w4.heap.size = k := (by simpa [Value.ownBlock] using hk); omega) _ _ _) (fun k hk => by
      have h1 := blk_raw hk
      have h2 : w4.heap.size = k := by simpa [Value.ownBlock] using h1
      have h3 := (Array.getElem?_eq_some_iff.1 HB4.out).1
      exact ⟨by omega, fun h => by have h : k = w.heap.size := h; omega⟩) HD5.out HE.out F5.out hsf (fun k h => by have h : k = w.heap.size := h; omega) hm
  | none =>
    obtain ⟨e1, e2⟩ := HON.out.text_no hv
    rw [e1]
    have HV := Lib.hid hv; have HE := Lib.hid e2
    clear hv e1 e2
    have rc := Lib.run_convert_string_bytes (P := Tryz.prog) (u := .string) w4 9 23 5 ⟨([] : List UInt8).toArray⟩ (by kernel_rfl) (by kernel_rfl) (by kernel_rfl)
    rw [show (⟨([] : List UInt8).toArray⟩ : ByteArray).size = ([] : List UInt8).length from List.size_toArray] at rc
    have hsl := bytes_sl w4 5 ([] : List UInt8) (by simp)
    have f5 := bytes_fr w4 5 ⟨([] : List UInt8).toArray⟩
    have hz5 := Lib.bytesWorld_size w4 5 ⟨([] : List UInt8).toArray⟩
    obtain ⟨cap, hcap⟩ : ∃ cap, cap = grownCap w4 ([] : List UInt8).length 0 5 := ⟨_, rfl⟩
    rw [← hcap] at rc hsl
    generalize Lib.bytesWorld w4 5 ⟨([] : List UInt8).toArray⟩ = w5 at rc hsl f5 hz5
    have hb5 := f5.heap HB4.out (fun h => h)
    have hd5 := HD4.out.kept0 f5
    obtain ⟨q0, q1, q2, q3, q4, q5, q6, qz, ql⟩ := seven_cells hb5
    have HSL := Lib.hid hsl; have HB5 := Lib.hid hb5; have HD5 := Lib.hid hd5; have F5 := Lib.hid (F4.out.trans f5 (fun _ _ h => h.elim)); have HZ5 := Lib.hid hz5
    clear hsl hb5 hd5 f5 hz5 hcap
    go_wp2
    have hp0 := Fr.refl (fun k => k = w.heap.size) w5
    have hs1 := hp_same HB5.out 0 (.int .u8 5)
    simp only [List.setIfInBounds_toArray, List.set_cons_zero] at hs1
    have hp1 := Fr.setCell hp0 ⟨w.heap.size, 0, none⟩ (.int .u8 5) (fun _ => rfl)
    have hs2 := hp_same hs1 4 (.slice (some ⟨w4.heap.size, 0, none⟩) 0 cap)
    simp only [List.setIfInBounds_toArray, List.set_cons_zero, List.set_cons_succ] at hs2
    have hp2 := Fr.setCell hp1 ⟨w.heap.size, 4, none⟩ (.slice (some ⟨w4.heap.size, 0, none⟩) 0 cap) (fun _ => rfl)
    have hset := set7_row (a := .int .u8 5) (b := .bool false) (c := .int .i64 0) (d := .string ⟨#[]⟩) (e := .slice (some ⟨w4.heap.size, 0, none⟩) 0 cap) (f := .slice none 0 0) (h := .slice none 0 0) hs2
    have hsf := hp2.trans (set7_fr _ w.heap.size (.int .u8 5) (.bool false) (.int .i64 0) (.string ⟨#[]⟩) (.slice (some ⟨w4.heap.size, 0, none⟩) 0 cap) (.slice none 0 0) (.slice none 0 0)) (fun _ _ h => h)
    unfold set7 at hset hsf
    try rw [Exit.noGoto_ret]
    refine bodyPost_ret (results_cell_row (P := Tryz.prog) rfl _ _ w.heap.size 27 _ (0, 0) _ rfl hset Tryz.underlying27 rfl (by kernel_rfl)) rfl ?_
    exact dbad KK.out (by rw [ddc6, HV.out]; rfl) form_any HD5.out (.inr HE.out) F5.out hsf (fun k h => by have h : k = w.heap.size := h; omega) hm
end Go.Proofs.YtijcleiekafoiaaGreatDoor
