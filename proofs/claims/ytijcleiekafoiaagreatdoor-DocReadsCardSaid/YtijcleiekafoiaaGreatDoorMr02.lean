import Derived.Test.YtijcleiekafoiaaGreatDoorMb13
import Derived.Test.YtijcleiekafoiaaGreatDoorMr01

/- codicilref05.read: the simple kinds. Printed by mkrd5.py. -/
namespace Go.Proofs.YtijcleiekafoiaaGreatDoor
open Go.RowKit
open Tr

/-- The document's reader, with room for a mark that it lacks. -/
structure Dx (m p : Nat) (sv : Value) (l : List UInt8) (w : World) (s : RS) (bad : Bool) : Prop where
  rx : Rx w p sv l s
  hp : p < m
  hsv : ∀ k, sv.ownBlock = some k → k < m
  nb : bad = false
theorem Dx.kept {m p : Nat} {sv : Value} {l : List UInt8} {w w1 : World} {s : RS} {bad : Bool} {S : Nat → Prop} (h : Dx m p sv l w s bad) (f : Fr S w w1) (hS : ∀ k, S k → m ≤ k) : Dx m p sv l w1 s bad :=
  ⟨h.rx.kept f (fun hk => by have := hS _ hk; have := h.hp; omega) (fun k hk h1 => by have := hS _ h1; have := h.hsv k hk; omega), h.hp, h.hsv, h.nb⟩
theorem Dx.kept0 {m p : Nat} {sv : Value} {l : List UInt8} {w w1 : World} {s : RS} {bad : Bool} (h : Dx m p sv l w s bad) (f : Fr no w w1) : Dx m p sv l w1 s bad := h.kept f (fun _ h => h.elim)
theorem Dx.read {m p : Nat} {sv : Value} {l : List UInt8} {w w1 : World} {s s' : RS} {bad : Bool} (h : Dx m p sv l w s bad) (hr : Rx w1 p sv l s') (_ : Fr (At p) w w1) : Dx m p sv l w1 s' bad := ⟨hr, h.hp, h.hsv, h.nb⟩
theorem dx_k (m p : Nat) (sv : Value) (l : List UInt8) (hp : p < m) : RdK m (At p) (Dx m p sv l) :=
  ⟨fun h f hS => h.kept f hS, fun k hk => by have hk : k = p := hk; omega⟩
theorem raw_lost (l : List UInt8) (s : RS) : (RS.take l (-1) s).2.e ≠ 0 := by
  unfold RS.take
  split
  · assumption
  · rw [if_pos (by omega)]
    exact RS.fail_ne (by decide)
theorem dx_lost {m p : Nat} {sv : Value} {l : List UInt8} {w : World} {s : RS} {bad : Bool} (h : Dx m p sv l w s bad) (hl : Lost s bad) : s.e ≠ 0 := by
  rcases hl with h1 | h1
  · rw [h.nb] at h1; cases h1
  · exact h1

set_option maxRecDepth 100000 in
set_option maxHeartbeats 2000000 in
theorem rval_zero (m p : Nat) (sv : Value) (l : List UInt8) (w : World) (s : RS) (r : List UInt8) (h : Dx m p sv l w s false) (hm : m ≤ w.heap.size) :
    Calls Tryz.prog 62 #[.pointer (some ⟨p, 0, none⟩), .int .i64 0] w fun e w' => DOut l (At p) (Dx m p sv l) 0 r w e w' := by
  have K := dx_k m p sv l h.hp
  have hpm := h.hp
  have hal2 := ((Fr.refl no w).alloc (.cells #[.int .u8 0, .bool false, .int .i64 0, .string ⟨#[]⟩, .slice none 0 0, .slice none 0 0, .slice none 0 0] 27)).alloc (.cells #[.int .u8 0, .bool false, .int .i64 0, .string ⟨#[]⟩, .slice none 0 0, .slice none 0 0, .slice none 0 0] 27)
  have hal := h.kept0 hal2
  have hbl := h.rx.2.2.2.2.1
  obtain ⟨ha1, ha2⟩ := two_allocs w (.cells #[.int .u8 0, .bool false, .int .i64 0, .string ⟨#[]⟩, .slice none 0 0, .slice none 0 0, .slice none 0 0] 27) (.cells #[.int .u8 0, .bool false, .int .i64 0, .string ⟨#[]⟩, .slice none 0 0, .slice none 0 0, .slice none 0 0] 27)
  have HAL := Lib.hid hal; have HPM := Lib.hid hpm; have KK := Lib.hid K; have HBL := Lib.hid hbl; have HA1 := Lib.hid ha1; have HA2 := Lib.hid ha2; have HL2 := Lib.hid hal2
  clear h hal hpm K hbl ha1 ha2 hal2
  go_enter Tryz.func62, Tryz.ntmps62
  go_wp2_with fail
  refine (xfixed_any p _ sv l s 1 (by omega) (by omega) HAL.out.rx).mono ?_
  rintro e w2 ⟨rfl, h2, f2⟩
  have hd2 := HAL.out.read h2 f2
  have hz2 := f2.heap HA1.out (fun h => by have h1 := HPM.out; have h : w.heap.size = p := h; omega)
  have hb2 := f2.heap HA2.out (fun h => by have h1 := HPM.out; have h : w.heap.size + 1 = p := h; omega)
  have ff2 : Fr (At p) w w2 := (fr_any HL2.out).trans f2 (fun _ _ h => h)
  obtain ⟨c0, c1, c2, c3, cf, cl⟩ := four_cells hd2.rx.1
  clear h2 f2
  clear c0 c1 c3
  obtain ⟨q0, q1, q2, q3, q4, q5, q6, qz, ql⟩ := seven_cells hb2
  obtain ⟨z0, z1, z2, z3, z4, z5, z6, zz, zl⟩ := seven_cells hz2
  obtain ⟨w3, rfl⟩ : ∃ w3, w3 = w2 := ⟨_, rfl⟩
  obtain ⟨s2, hs2⟩ : ∃ s2, s2 = (RS.take l 1 s).2 := ⟨_, rfl⟩
  rw [← hs2] at hd2
  have HD3 := Lib.hid hd2; have HB3 := Lib.hid hb2; have HZ3 := Lib.hid hz2; have F3 := Lib.hid ff2
  clear hd2 hb2 hz2 ff2 hs2
  go_wp2_with fail
  refine (xraw_any p w3 sv l s2 (-1) (by omega) HD3.out.rx).mono ?_
  rintro e w4 ⟨A4, c4, rfl, hsl4, hn4, h4, f4⟩
  have hd4 := HD3.out.read h4 f4
  have hz4 := f4.heap HZ3.out (fun h => by have h1 := HPM.out; have h : w.heap.size = p := h; omega)
  have hb4 := f4.heap HB3.out (fun h => by have h1 := HPM.out; have h : w.heap.size + 1 = p := h; omega)
  have hlo : Lost (RS.take l (-1) s2).2 false := .inr (raw_lost l s2)
  have HD4 := Lib.hid hd4; have HZ4 := Lib.hid hz4; have HB4 := Lib.hid hb4; have F4 := Lib.hid (F3.out.trans f4 (fun _ _ h => h)); have HLO := Lib.hid hlo
  clear hsl4 hn4 h4 f4 hd4 hz4 hb4 hlo q0 q1 q2 q3 q4 q5 q6 qz ql z0 z1 z2 z3 z4 z5 z6 zz zl c2 cf cl
  obtain ⟨q0, q1, q2, q3, q4, q5, q6, qz, ql⟩ := seven_cells HB4.out
  obtain ⟨z0, z1, z2, z3, z4, z5, z6, zz, zl⟩ := seven_cells HZ4.out
  go_wp2
  have hp0 := Fr.refl (fun k => k = w.heap.size ∨ k = w.heap.size + 1) w4
  have hz0 := HZ4.out
  have hv0 := HB4.out
  have hset := set7_row (a := .int .u8 0) (b := .bool false) (c := .int .i64 0) (d := .string ⟨#[]⟩) (e := .slice none 0 0) (f := .slice none 0 0) (h := .slice none 0 0) hz0
  have hsf := hp0.trans (set7_fr _ w.heap.size (.int .u8 0) (.bool false) (.int .i64 0) (.string ⟨#[]⟩) (.slice none 0 0) (.slice none 0 0) (.slice none 0 0)) (fun _ _ h => .inl h)
  unfold set7 at hset hsf
  refine bodyPost_ret (results_cell_row (P := Tryz.prog) rfl _ _ w.heap.size 27 _ (0, 0) _ rfl hset Tryz.underlying27 rfl (by kernel_rfl)) rfl ?_
  exact dbad KK.out rfl form_any HD4.out HLO.out F4.out hsf (fun k h => by rcases h with h | h <;> omega) hm

set_option maxRecDepth 100000 in
set_option maxHeartbeats 2000000 in
theorem rval_lost (d m p : Nat) (sv : Value) (l : List UInt8) (w : World) (s : RS) (h : Dx m p sv l w s false) (hlo : s.e ≠ 0) (hm : m ≤ w.heap.size) :
    Calls Tryz.prog 62 #[.pointer (some ⟨p, 0, none⟩), .int .i64 (d : Nat)] w fun e w' => WOut (At p) (Dx m p sv l) w e w' := by
  have hlo2 : (s.take l 1).2.e ≠ 0 := by rw [RS.take_bad 1 hlo]; exact hlo
  have HLO0 := Lib.hid hlo2
  clear hlo hlo2
  cases d with
  | zero =>
    have K := dx_k m p sv l h.hp
    have hpm := h.hp
    have hal2 := ((Fr.refl no w).alloc (.cells #[.int .u8 0, .bool false, .int .i64 0, .string ⟨#[]⟩, .slice none 0 0, .slice none 0 0, .slice none 0 0] 27)).alloc (.cells #[.int .u8 0, .bool false, .int .i64 0, .string ⟨#[]⟩, .slice none 0 0, .slice none 0 0, .slice none 0 0] 27)
    have hal := h.kept0 hal2
    have hbl := h.rx.2.2.2.2.1
    obtain ⟨ha1, ha2⟩ := two_allocs w (.cells #[.int .u8 0, .bool false, .int .i64 0, .string ⟨#[]⟩, .slice none 0 0, .slice none 0 0, .slice none 0 0] 27) (.cells #[.int .u8 0, .bool false, .int .i64 0, .string ⟨#[]⟩, .slice none 0 0, .slice none 0 0, .slice none 0 0] 27)
    have HAL := Lib.hid hal; have HPM := Lib.hid hpm; have KK := Lib.hid K; have HBL := Lib.hid hbl; have HA1 := Lib.hid ha1; have HA2 := Lib.hid ha2; have HL2 := Lib.hid hal2
    clear h hal hpm K hbl ha1 ha2 hal2
    go_enter Tryz.func62, Tryz.ntmps62
    go_wp2_with fail
    refine (xfixed_any p _ sv l s 1 (by omega) (by omega) HAL.out.rx).mono ?_
    rintro e w2 ⟨rfl, h2, f2⟩
    have hd2 := HAL.out.read h2 f2
    have hz2 := f2.heap HA1.out (fun h => by have h1 := HPM.out; have h : w.heap.size = p := h; omega)
    have hb2 := f2.heap HA2.out (fun h => by have h1 := HPM.out; have h : w.heap.size + 1 = p := h; omega)
    have ff2 : Fr (At p) w w2 := (fr_any HL2.out).trans f2 (fun _ _ h => h)
    obtain ⟨c0, c1, c2, c3, cf, cl⟩ := four_cells hd2.rx.1
    clear h2 f2
    clear c0 c1 c3
    obtain ⟨q0, q1, q2, q3, q4, q5, q6, qz, ql⟩ := seven_cells hb2
    obtain ⟨z0, z1, z2, z3, z4, z5, z6, zz, zl⟩ := seven_cells hz2
    obtain ⟨w3, rfl⟩ : ∃ w3, w3 = w2 := ⟨_, rfl⟩
    have hne : (((RS.take l 1 s).2.e : Int) != 0) = true := by rw [bne_iff_ne]; have := HLO0.out; omega
    obtain ⟨s2, hs2⟩ : ∃ s2, s2 = (RS.take l 1 s).2 := ⟨_, rfl⟩
    rw [← hs2] at hd2 hne c2
    have HD3 := Lib.hid hd2; have HB3 := Lib.hid hb2; have HZ3 := Lib.hid hz2; have F3 := Lib.hid ff2
    clear hd2 hb2 hz2 ff2 hs2
    rw [show ((0 : Nat) : Int) = 0 from rfl]
    go_wp2_with fail
    refine (xraw_any p w3 sv l s2 (-1) (by omega) HD3.out.rx).mono ?_
    rintro e w4 ⟨A4, c4, rfl, hsl4, hn4, h4, f4⟩
    have hd4 := HD3.out.read h4 f4
    have hz4 := f4.heap HZ3.out (fun h => by have h1 := HPM.out; have h : w.heap.size = p := h; omega)
    have hb4 := f4.heap HB3.out (fun h => by have h1 := HPM.out; have h : w.heap.size + 1 = p := h; omega)
    have hlo : Lost (RS.take l (-1) s2).2 false := .inr (raw_lost l s2)
    have HD4 := Lib.hid hd4; have HZ4 := Lib.hid hz4; have HB4 := Lib.hid hb4; have F4 := Lib.hid (F3.out.trans f4 (fun _ _ h => h)); have HLO := Lib.hid hlo
    clear hsl4 hn4 h4 f4 hd4 hz4 hb4 hlo q0 q1 q2 q3 q4 q5 q6 qz ql z0 z1 z2 z3 z4 z5 z6 zz zl c2 cf cl
    obtain ⟨q0, q1, q2, q3, q4, q5, q6, qz, ql⟩ := seven_cells HB4.out
    obtain ⟨z0, z1, z2, z3, z4, z5, z6, zz, zl⟩ := seven_cells HZ4.out
    go_wp2
    have hp0 := Fr.refl (fun k => k = w.heap.size ∨ k = w.heap.size + 1) w4
    have hz0 := HZ4.out
    have hv0 := HB4.out
    have hset := set7_row (a := .int .u8 0) (b := .bool false) (c := .int .i64 0) (d := .string ⟨#[]⟩) (e := .slice none 0 0) (f := .slice none 0 0) (h := .slice none 0 0) hz0
    have hsf := hp0.trans (set7_fr _ w.heap.size (.int .u8 0) (.bool false) (.int .i64 0) (.string ⟨#[]⟩) (.slice none 0 0) (.slice none 0 0) (.slice none 0 0)) (fun _ _ h => .inl h)
    unfold set7 at hset hsf
    refine bodyPost_ret (results_cell_row (P := Tryz.prog) rfl _ _ w.heap.size 27 _ (0, 0) _ rfl hset Tryz.underlying27 rfl (by kernel_rfl)) rfl ?_
    exact dlost KK.out form_any HD4.out HLO.out F4.out hsf (fun k h => by rcases h with h | h <;> omega) hm
  | succ d =>
    have g0 : (((d + 1 : Nat) : Int) == 0) = false := by rw [beq_eq_false_iff_ne]; omega
    have K := dx_k m p sv l h.hp
    have hpm := h.hp
    have hal2 := ((Fr.refl no w).alloc (.cells #[.int .u8 0, .bool false, .int .i64 0, .string ⟨#[]⟩, .slice none 0 0, .slice none 0 0, .slice none 0 0] 27)).alloc (.cells #[.int .u8 0, .bool false, .int .i64 0, .string ⟨#[]⟩, .slice none 0 0, .slice none 0 0, .slice none 0 0] 27)
    have hal := h.kept0 hal2
    have hbl := h.rx.2.2.2.2.1
    obtain ⟨ha1, ha2⟩ := two_allocs w (.cells #[.int .u8 0, .bool false, .int .i64 0, .string ⟨#[]⟩, .slice none 0 0, .slice none 0 0, .slice none 0 0] 27) (.cells #[.int .u8 0, .bool false, .int .i64 0, .string ⟨#[]⟩, .slice none 0 0, .slice none 0 0, .slice none 0 0] 27)
    have HAL := Lib.hid hal; have HPM := Lib.hid hpm; have KK := Lib.hid K; have HBL := Lib.hid hbl; have HA1 := Lib.hid ha1; have HA2 := Lib.hid ha2; have HL2 := Lib.hid hal2
    clear h hal hpm K hbl ha1 ha2 hal2
    go_enter Tryz.func62, Tryz.ntmps62
    go_wp2_with fail
    refine (xfixed_any p _ sv l s 1 (by omega) (by omega) HAL.out.rx).mono ?_
    rintro e w2 ⟨rfl, h2, f2⟩
    have hd2 := HAL.out.read h2 f2
    have hz2 := f2.heap HA1.out (fun h => by have h1 := HPM.out; have h : w.heap.size = p := h; omega)
    have hb2 := f2.heap HA2.out (fun h => by have h1 := HPM.out; have h : w.heap.size + 1 = p := h; omega)
    have ff2 : Fr (At p) w w2 := (fr_any HL2.out).trans f2 (fun _ _ h => h)
    obtain ⟨c0, c1, c2, c3, cf, cl⟩ := four_cells hd2.rx.1
    clear h2 f2
    clear c0 c1 c3
    obtain ⟨q0, q1, q2, q3, q4, q5, q6, qz, ql⟩ := seven_cells hb2
    obtain ⟨z0, z1, z2, z3, z4, z5, z6, zz, zl⟩ := seven_cells hz2
    obtain ⟨w3, rfl⟩ : ∃ w3, w3 = w2 := ⟨_, rfl⟩
    have hne : (((RS.take l 1 s).2.e : Int) != 0) = true := by rw [bne_iff_ne]; have := HLO0.out; omega
    obtain ⟨s2, hs2⟩ : ∃ s2, s2 = (RS.take l 1 s).2 := ⟨_, rfl⟩
    rw [← hs2] at hd2 hne c2
    have HD3 := Lib.hid hd2; have HB3 := Lib.hid hb2; have HZ3 := Lib.hid hz2; have F3 := Lib.hid ff2
    clear hd2 hb2 hz2 ff2 hs2
    go_wp2_with fail
    refine (xraw_any p w3 sv l s2 (-1) (by omega) HD3.out.rx).mono ?_
    rintro e w4 ⟨A4, c4, rfl, hsl4, hn4, h4, f4⟩
    have hd4 := HD3.out.read h4 f4
    have hz4 := f4.heap HZ3.out (fun h => by have h1 := HPM.out; have h : w.heap.size = p := h; omega)
    have hb4 := f4.heap HB3.out (fun h => by have h1 := HPM.out; have h : w.heap.size + 1 = p := h; omega)
    have hlo : Lost (RS.take l (-1) s2).2 false := .inr (raw_lost l s2)
    have HD4 := Lib.hid hd4; have HZ4 := Lib.hid hz4; have HB4 := Lib.hid hb4; have F4 := Lib.hid (F3.out.trans f4 (fun _ _ h => h)); have HLO := Lib.hid hlo
    clear hsl4 hn4 h4 f4 hd4 hz4 hb4 hlo q0 q1 q2 q3 q4 q5 q6 qz ql z0 z1 z2 z3 z4 z5 z6 zz zl c2 cf cl
    obtain ⟨q0, q1, q2, q3, q4, q5, q6, qz, ql⟩ := seven_cells HB4.out
    obtain ⟨z0, z1, z2, z3, z4, z5, z6, zz, zl⟩ := seven_cells HZ4.out
    go_wp2
    have hp0 := Fr.refl (fun k => k = w.heap.size ∨ k = w.heap.size + 1) w4
    have hz0 := HZ4.out
    have hv0 := HB4.out
    have hset := set7_row (a := .int .u8 0) (b := .bool false) (c := .int .i64 0) (d := .string ⟨#[]⟩) (e := .slice none 0 0) (f := .slice none 0 0) (h := .slice none 0 0) hz0
    have hsf := hp0.trans (set7_fr _ w.heap.size (.int .u8 0) (.bool false) (.int .i64 0) (.string ⟨#[]⟩) (.slice none 0 0) (.slice none 0 0) (.slice none 0 0)) (fun _ _ h => .inl h)
    unfold set7 at hset hsf
    refine bodyPost_ret (results_cell_row (P := Tryz.prog) rfl _ _ w.heap.size 27 _ (0, 0) _ rfl hset Tryz.underlying27 rfl (by kernel_rfl)) rfl ?_
    exact dlost KK.out form_any HD4.out HLO.out F4.out hsf (fun k h => by rcases h with h | h <;> omega) hm

set_option maxRecDepth 100000 in
set_option maxHeartbeats 2000000 in
theorem rval_nil (d m p : Nat) (sv : Value) (l : List UInt8) (w : World) (s : RS) (h : Dx m p sv l w s false) (ho : RS.On l s ([])) (hm : m ≤ w.heap.size) :
    Calls Tryz.prog 62 #[.pointer (some ⟨p, 0, none⟩), .int .i64 ((d + 1 : Nat) : Int)] w fun e w' => DOut l (At p) (Dx m p sv l) (d + 1) ([]) w e w' := by
  have hto := ho.one_no
  have HTO := Lib.hid hto
  have hlo0 : (RS.take l 1 s).2.e ≠ 0 := by rw [hto]; exact RS.fail_ne (by decide)
  have HLO0 := Lib.hid hlo0
  clear hlo0
  clear hto ho
  have g0 : (((d + 1 : Nat) : Int) == 0) = false := by rw [beq_eq_false_iff_ne]; omega
  have K := dx_k m p sv l h.hp
  have hpm := h.hp
  have hal2 := ((Fr.refl no w).alloc (.cells #[.int .u8 0, .bool false, .int .i64 0, .string ⟨#[]⟩, .slice none 0 0, .slice none 0 0, .slice none 0 0] 27)).alloc (.cells #[.int .u8 0, .bool false, .int .i64 0, .string ⟨#[]⟩, .slice none 0 0, .slice none 0 0, .slice none 0 0] 27)
  have hal := h.kept0 hal2
  have hbl := h.rx.2.2.2.2.1
  obtain ⟨ha1, ha2⟩ := two_allocs w (.cells #[.int .u8 0, .bool false, .int .i64 0, .string ⟨#[]⟩, .slice none 0 0, .slice none 0 0, .slice none 0 0] 27) (.cells #[.int .u8 0, .bool false, .int .i64 0, .string ⟨#[]⟩, .slice none 0 0, .slice none 0 0, .slice none 0 0] 27)
  have HAL := Lib.hid hal; have HPM := Lib.hid hpm; have KK := Lib.hid K; have HBL := Lib.hid hbl; have HA1 := Lib.hid ha1; have HA2 := Lib.hid ha2; have HL2 := Lib.hid hal2
  clear h hal hpm K hbl ha1 ha2 hal2
  go_enter Tryz.func62, Tryz.ntmps62
  go_wp2_with fail
  refine (xfixed_any p _ sv l s 1 (by omega) (by omega) HAL.out.rx).mono ?_
  rintro e w2 ⟨rfl, h2, f2⟩
  have hd2 := HAL.out.read h2 f2
  have hz2 := f2.heap HA1.out (fun h => by have h1 := HPM.out; have h : w.heap.size = p := h; omega)
  have hb2 := f2.heap HA2.out (fun h => by have h1 := HPM.out; have h : w.heap.size + 1 = p := h; omega)
  have ff2 : Fr (At p) w w2 := (fr_any HL2.out).trans f2 (fun _ _ h => h)
  obtain ⟨c0, c1, c2, c3, cf, cl⟩ := four_cells hd2.rx.1
  clear h2 f2
  clear c0 c1 c3
  obtain ⟨q0, q1, q2, q3, q4, q5, q6, qz, ql⟩ := seven_cells hb2
  obtain ⟨z0, z1, z2, z3, z4, z5, z6, zz, zl⟩ := seven_cells hz2
  obtain ⟨w3, rfl⟩ : ∃ w3, w3 = w2 := ⟨_, rfl⟩
  have hne : (((RS.take l 1 s).2.e : Int) != 0) = true := by rw [bne_iff_ne]; have := HLO0.out; omega
  obtain ⟨s2, hs2⟩ : ∃ s2, s2 = (RS.take l 1 s).2 := ⟨_, rfl⟩
  rw [← hs2] at hd2 hne c2
  have HD3 := Lib.hid hd2; have HB3 := Lib.hid hb2; have HZ3 := Lib.hid hz2; have F3 := Lib.hid ff2
  clear hd2 hb2 hz2 ff2 hs2
  go_wp2_with fail
  refine (xraw_any p w3 sv l s2 (-1) (by omega) HD3.out.rx).mono ?_
  rintro e w4 ⟨A4, c4, rfl, hsl4, hn4, h4, f4⟩
  have hd4 := HD3.out.read h4 f4
  have hz4 := f4.heap HZ3.out (fun h => by have h1 := HPM.out; have h : w.heap.size = p := h; omega)
  have hb4 := f4.heap HB3.out (fun h => by have h1 := HPM.out; have h : w.heap.size + 1 = p := h; omega)
  have hlo : Lost (RS.take l (-1) s2).2 false := .inr (raw_lost l s2)
  have HD4 := Lib.hid hd4; have HZ4 := Lib.hid hz4; have HB4 := Lib.hid hb4; have F4 := Lib.hid (F3.out.trans f4 (fun _ _ h => h)); have HLO := Lib.hid hlo
  clear hsl4 hn4 h4 f4 hd4 hz4 hb4 hlo q0 q1 q2 q3 q4 q5 q6 qz ql z0 z1 z2 z3 z4 z5 z6 zz zl c2 cf cl
  obtain ⟨q0, q1, q2, q3, q4, q5, q6, qz, ql⟩ := seven_cells HB4.out
  obtain ⟨z0, z1, z2, z3, z4, z5, z6, zz, zl⟩ := seven_cells HZ4.out
  go_wp2
  have hp0 := Fr.refl (fun k => k = w.heap.size ∨ k = w.heap.size + 1) w4
  have hz0 := HZ4.out
  have hv0 := HB4.out
  have hset := set7_row (a := .int .u8 0) (b := .bool false) (c := .int .i64 0) (d := .string ⟨#[]⟩) (e := .slice none 0 0) (f := .slice none 0 0) (h := .slice none 0 0) hz0
  have hsf := hp0.trans (set7_fr _ w.heap.size (.int .u8 0) (.bool false) (.int .i64 0) (.string ⟨#[]⟩) (.slice none 0 0) (.slice none 0 0) (.slice none 0 0)) (fun _ _ h => .inl h)
  unfold set7 at hset hsf
  refine bodyPost_ret (results_cell_row (P := Tryz.prog) rfl _ _ w.heap.size 27 _ (0, 0) _ rfl hset Tryz.underlying27 rfl (by kernel_rfl)) rfl ?_
  exact dbad KK.out rfl form_any HD4.out HLO.out F4.out hsf (fun k h => by rcases h with h | h <;> omega) hm

set_option maxRecDepth 100000 in
set_option maxHeartbeats 2000000 in
theorem rval_other (d m p : Nat) (sv : Value) (l : List UInt8) (w : World) (s : RS) (c : UInt8) (r : List UInt8) (hc : NoTag c) (h : Dx m p sv l w s false) (ho : RS.On l s (c :: r)) (hm : m ≤ w.heap.size) :
    Calls Tryz.prog 62 #[.pointer (some ⟨p, 0, none⟩), .int .i64 ((d + 1 : Nat) : Int)] w fun e w' => DOut l (At p) (Dx m p sv l) (d + 1) (c :: r) w e w' := by
  have e1 := tag_ne (n := 1) hc.h1 rfl
  have e2 := tag_ne (n := 2) hc.h2 rfl
  have e3 := tag_ne (n := 3) hc.h3 rfl
  have e4 := tag_ne (n := 4) hc.h4 rfl
  have e5 := tag_ne (n := 5) hc.h5 rfl
  have e6 := tag_ne (n := 6) hc.h6 rfl
  have e7 := tag_ne (n := 7) hc.h7 rfl
  have e8 := tag_ne (n := 8) hc.h8 rfl
  have hdc := Lib.hid (ddc_other d c r hc)
  clear hc
  obtain ⟨hto, hon⟩ := ho.one
  obtain ⟨s1, hs1⟩ : ∃ s1, s1 = RS.mk (s.pos + 1) s.e s.wh := ⟨_, rfl⟩
  rw [← hs1] at hto hon
  clear hs1 ho
  have HTO := Lib.hid hto; have HON := Lib.hid hon
  clear hto hon
  have g0 : (((d + 1 : Nat) : Int) == 0) = false := by rw [beq_eq_false_iff_ne]; omega
  have K := dx_k m p sv l h.hp
  have hpm := h.hp
  have hal2 := ((Fr.refl no w).alloc (.cells #[.int .u8 0, .bool false, .int .i64 0, .string ⟨#[]⟩, .slice none 0 0, .slice none 0 0, .slice none 0 0] 27)).alloc (.cells #[.int .u8 0, .bool false, .int .i64 0, .string ⟨#[]⟩, .slice none 0 0, .slice none 0 0, .slice none 0 0] 27)
  have hal := h.kept0 hal2
  have hbl := h.rx.2.2.2.2.1
  obtain ⟨ha1, ha2⟩ := two_allocs w (.cells #[.int .u8 0, .bool false, .int .i64 0, .string ⟨#[]⟩, .slice none 0 0, .slice none 0 0, .slice none 0 0] 27) (.cells #[.int .u8 0, .bool false, .int .i64 0, .string ⟨#[]⟩, .slice none 0 0, .slice none 0 0, .slice none 0 0] 27)
  have HAL := Lib.hid hal; have HPM := Lib.hid hpm; have KK := Lib.hid K; have HBL := Lib.hid hbl; have HA1 := Lib.hid ha1; have HA2 := Lib.hid ha2; have HL2 := Lib.hid hal2
  clear h hal hpm K hbl ha1 ha2 hal2
  go_enter Tryz.func62, Tryz.ntmps62
  go_wp2_with fail
  refine (xfixed_any p _ sv l s 1 (by omega) (by omega) HAL.out.rx).mono ?_
  rintro e w2 ⟨rfl, h2, f2⟩
  have hd2 := HAL.out.read h2 f2
  have hz2 := f2.heap HA1.out (fun h => by have h1 := HPM.out; have h : w.heap.size = p := h; omega)
  have hb2 := f2.heap HA2.out (fun h => by have h1 := HPM.out; have h : w.heap.size + 1 = p := h; omega)
  have ff2 : Fr (At p) w w2 := (fr_any HL2.out).trans f2 (fun _ _ h => h)
  obtain ⟨c0, c1, c2, c3, cf, cl⟩ := four_cells hd2.rx.1
  clear h2 f2
  rw [HTO.out] at hd2 c2 ⊢
  simp only [ube_one]
  simp only [HON.out.e] at c2
  rw [show ((0 : Nat) : Int) = 0 from rfl] at c2
  clear c0 c1 c3
  obtain ⟨q0, q1, q2, q3, q4, q5, q6, qz, ql⟩ := seven_cells hb2
  obtain ⟨z0, z1, z2, z3, z4, z5, z6, zz, zl⟩ := seven_cells hz2
  obtain ⟨w3, rfl⟩ : ∃ w3, w3 = w2 := ⟨_, rfl⟩
  have HD3 := Lib.hid hd2; have HB3 := Lib.hid hb2; have HZ3 := Lib.hid hz2; have F3 := Lib.hid ff2
  clear hd2 hb2 hz2 ff2 HTO
  go_wp2_with fail
  refine (xraw_any p w3 sv l s1 (-1) (by omega) HD3.out.rx).mono ?_
  rintro e w4 ⟨A4, c4, rfl, hsl4, hn4, h4, f4⟩
  have hd4 := HD3.out.read h4 f4
  have hz4 := f4.heap HZ3.out (fun h => by have h1 := HPM.out; have h : w.heap.size = p := h; omega)
  have hb4 := f4.heap HB3.out (fun h => by have h1 := HPM.out; have h : w.heap.size + 1 = p := h; omega)
  have hlo : Lost (RS.take l (-1) s1).2 false := .inr (raw_lost l s1)
  have HD4 := Lib.hid hd4; have HZ4 := Lib.hid hz4; have HB4 := Lib.hid hb4; have F4 := Lib.hid (F3.out.trans f4 (fun _ _ h => h)); have HLO := Lib.hid hlo
  clear hsl4 hn4 h4 f4 hd4 hz4 hb4 hlo q0 q1 q2 q3 q4 q5 q6 qz ql z0 z1 z2 z3 z4 z5 z6 zz zl c2 cf cl
  obtain ⟨q0, q1, q2, q3, q4, q5, q6, qz, ql⟩ := seven_cells HB4.out
  obtain ⟨z0, z1, z2, z3, z4, z5, z6, zz, zl⟩ := seven_cells HZ4.out
  go_wp2
  have hp0 := Fr.refl (fun k => k = w.heap.size ∨ k = w.heap.size + 1) w4
  have hz0 := HZ4.out
  have hv0 := HB4.out
  have hset := set7_row (a := .int .u8 0) (b := .bool false) (c := .int .i64 0) (d := .string ⟨#[]⟩) (e := .slice none 0 0) (f := .slice none 0 0) (h := .slice none 0 0) hz0
  have hsf := hp0.trans (set7_fr _ w.heap.size (.int .u8 0) (.bool false) (.int .i64 0) (.string ⟨#[]⟩) (.slice none 0 0) (.slice none 0 0) (.slice none 0 0)) (fun _ _ h => .inl h)
  unfold set7 at hset hsf
  refine bodyPost_ret (results_cell_row (P := Tryz.prog) rfl _ _ w.heap.size 27 _ (0, 0) _ rfl hset Tryz.underlying27 rfl (by kernel_rfl)) rfl ?_
  exact dbad KK.out hdc.out form_any HD4.out HLO.out F4.out hsf (fun k h => by rcases h with h | h <;> omega) hm

set_option maxRecDepth 100000 in
set_option maxHeartbeats 2000000 in
theorem rval_null (d m p : Nat) (sv : Value) (l : List UInt8) (w : World) (s : RS) (r : List UInt8) (h : Dx m p sv l w s false) (ho : RS.On l s (1 :: r)) (hm : m ≤ w.heap.size) :
    Calls Tryz.prog 62 #[.pointer (some ⟨p, 0, none⟩), .int .i64 ((d + 1 : Nat) : Int)] w fun e w' => DOut l (At p) (Dx m p sv l) (d + 1) (1 :: r) w e w' := by
  obtain ⟨hto, hon⟩ := ho.one
  obtain ⟨s1, hs1⟩ : ∃ s1, s1 = RS.mk (s.pos + 1) s.e s.wh := ⟨_, rfl⟩
  rw [← hs1] at hto hon
  clear hs1 ho
  have HTO := Lib.hid hto; have HON := Lib.hid hon
  clear hto hon
  have g0 : (((d + 1 : Nat) : Int) == 0) = false := by rw [beq_eq_false_iff_ne]; omega
  have K := dx_k m p sv l h.hp
  have hpm := h.hp
  have hal2 := ((Fr.refl no w).alloc (.cells #[.int .u8 0, .bool false, .int .i64 0, .string ⟨#[]⟩, .slice none 0 0, .slice none 0 0, .slice none 0 0] 27)).alloc (.cells #[.int .u8 0, .bool false, .int .i64 0, .string ⟨#[]⟩, .slice none 0 0, .slice none 0 0, .slice none 0 0] 27)
  have hal := h.kept0 hal2
  have hbl := h.rx.2.2.2.2.1
  obtain ⟨ha1, ha2⟩ := two_allocs w (.cells #[.int .u8 0, .bool false, .int .i64 0, .string ⟨#[]⟩, .slice none 0 0, .slice none 0 0, .slice none 0 0] 27) (.cells #[.int .u8 0, .bool false, .int .i64 0, .string ⟨#[]⟩, .slice none 0 0, .slice none 0 0, .slice none 0 0] 27)
  have HAL := Lib.hid hal; have HPM := Lib.hid hpm; have KK := Lib.hid K; have HBL := Lib.hid hbl; have HA1 := Lib.hid ha1; have HA2 := Lib.hid ha2; have HL2 := Lib.hid hal2
  clear h hal hpm K hbl ha1 ha2 hal2
  go_enter Tryz.func62, Tryz.ntmps62
  go_wp2_with fail
  refine (xfixed_any p _ sv l s 1 (by omega) (by omega) HAL.out.rx).mono ?_
  rintro e w2 ⟨rfl, h2, f2⟩
  have hd2 := HAL.out.read h2 f2
  have hz2 := f2.heap HA1.out (fun h => by have h1 := HPM.out; have h : w.heap.size = p := h; omega)
  have hb2 := f2.heap HA2.out (fun h => by have h1 := HPM.out; have h : w.heap.size + 1 = p := h; omega)
  have ff2 : Fr (At p) w w2 := (fr_any HL2.out).trans f2 (fun _ _ h => h)
  obtain ⟨c0, c1, c2, c3, cf, cl⟩ := four_cells hd2.rx.1
  clear h2 f2
  rw [HTO.out] at hd2 c2 ⊢
  simp only [ube_one]
  simp only [HON.out.e] at c2
  rw [show ((0 : Nat) : Int) = 0 from rfl] at c2
  clear c0 c1 c3
  obtain ⟨q0, q1, q2, q3, q4, q5, q6, qz, ql⟩ := seven_cells hb2
  obtain ⟨z0, z1, z2, z3, z4, z5, z6, zz, zl⟩ := seven_cells hz2
  obtain ⟨w3, rfl⟩ : ∃ w3, w3 = w2 := ⟨_, rfl⟩
  have HD3 := Lib.hid hd2; have HB3 := Lib.hid hb2; have HZ3 := Lib.hid hz2; have F3 := Lib.hid ff2
  clear hd2 hb2 hz2 ff2 HTO
  go_wp2
  have hp0 := Fr.refl (fun k => k = w.heap.size ∨ k = w.heap.size + 1) w3
  have hz0 := HZ3.out
  have hv0 := HB3.out
  have hp1 := Fr.setCell hp0 ⟨w.heap.size + 1, 0, none⟩ (.int .u8 1) (fun _ => .inr rfl)
  have hz1 := (Fr.setCell (Fr.refl (fun k => k = w.heap.size + 1) (w3)) ⟨w.heap.size + 1, 0, none⟩ (.int .u8 1) (fun _ => rfl)).heap hz0 (fun h => by have h : w.heap.size = w.heap.size + 1 := h; omega)
  have hset := set7_row (a := .int .u8 1) (b := .bool false) (c := .int .i64 0) (d := .string ⟨#[]⟩) (e := .slice none 0 0) (f := .slice none 0 0) (h := .slice none 0 0) hz1
  have hsf := hp1.trans (set7_fr _ w.heap.size (.int .u8 1) (.bool false) (.int .i64 0) (.string ⟨#[]⟩) (.slice none 0 0) (.slice none 0 0) (.slice none 0 0)) (fun _ _ h => .inl h)
  unfold set7 at hset hsf
  refine bodyPost_ret (results_cell_row (P := Tryz.prog) rfl _ _ w.heap.size 27 _ (0, 0) _ rfl hset Tryz.underlying27 rfl (by kernel_rfl)) rfl ?_
  exact dfin (x := .mk 1 false 0 [] [] nil3 [] []) KK.out (by first | (rw [ddc1, bare_leaf2]; done) | (rw [ddc1, bare_leaf2]; rfl)) (held_leaf _ _ _ _ _) (fun k hk => (blk_leaf hk).elim) HD3.out HON.out F3.out hsf (fun k h => by rcases h with h | h <;> omega) hm

set_option maxRecDepth 100000 in
set_option maxHeartbeats 2000000 in
theorem rval_no (d m p : Nat) (sv : Value) (l : List UInt8) (w : World) (s : RS) (r : List UInt8) (h : Dx m p sv l w s false) (ho : RS.On l s (2 :: r)) (hm : m ≤ w.heap.size) :
    Calls Tryz.prog 62 #[.pointer (some ⟨p, 0, none⟩), .int .i64 ((d + 1 : Nat) : Int)] w fun e w' => DOut l (At p) (Dx m p sv l) (d + 1) (2 :: r) w e w' := by
  obtain ⟨hto, hon⟩ := ho.one
  obtain ⟨s1, hs1⟩ : ∃ s1, s1 = RS.mk (s.pos + 1) s.e s.wh := ⟨_, rfl⟩
  rw [← hs1] at hto hon
  clear hs1 ho
  have HTO := Lib.hid hto; have HON := Lib.hid hon
  clear hto hon
  have g0 : (((d + 1 : Nat) : Int) == 0) = false := by rw [beq_eq_false_iff_ne]; omega
  have K := dx_k m p sv l h.hp
  have hpm := h.hp
  have hal2 := ((Fr.refl no w).alloc (.cells #[.int .u8 0, .bool false, .int .i64 0, .string ⟨#[]⟩, .slice none 0 0, .slice none 0 0, .slice none 0 0] 27)).alloc (.cells #[.int .u8 0, .bool false, .int .i64 0, .string ⟨#[]⟩, .slice none 0 0, .slice none 0 0, .slice none 0 0] 27)
  have hal := h.kept0 hal2
  have hbl := h.rx.2.2.2.2.1
  obtain ⟨ha1, ha2⟩ := two_allocs w (.cells #[.int .u8 0, .bool false, .int .i64 0, .string ⟨#[]⟩, .slice none 0 0, .slice none 0 0, .slice none 0 0] 27) (.cells #[.int .u8 0, .bool false, .int .i64 0, .string ⟨#[]⟩, .slice none 0 0, .slice none 0 0, .slice none 0 0] 27)
  have HAL := Lib.hid hal; have HPM := Lib.hid hpm; have KK := Lib.hid K; have HBL := Lib.hid hbl; have HA1 := Lib.hid ha1; have HA2 := Lib.hid ha2; have HL2 := Lib.hid hal2
  clear h hal hpm K hbl ha1 ha2 hal2
  go_enter Tryz.func62, Tryz.ntmps62
  go_wp2_with fail
  refine (xfixed_any p _ sv l s 1 (by omega) (by omega) HAL.out.rx).mono ?_
  rintro e w2 ⟨rfl, h2, f2⟩
  have hd2 := HAL.out.read h2 f2
  have hz2 := f2.heap HA1.out (fun h => by have h1 := HPM.out; have h : w.heap.size = p := h; omega)
  have hb2 := f2.heap HA2.out (fun h => by have h1 := HPM.out; have h : w.heap.size + 1 = p := h; omega)
  have ff2 : Fr (At p) w w2 := (fr_any HL2.out).trans f2 (fun _ _ h => h)
  obtain ⟨c0, c1, c2, c3, cf, cl⟩ := four_cells hd2.rx.1
  clear h2 f2
  rw [HTO.out] at hd2 c2 ⊢
  simp only [ube_one]
  simp only [HON.out.e] at c2
  rw [show ((0 : Nat) : Int) = 0 from rfl] at c2
  clear c0 c1 c3
  obtain ⟨q0, q1, q2, q3, q4, q5, q6, qz, ql⟩ := seven_cells hb2
  obtain ⟨z0, z1, z2, z3, z4, z5, z6, zz, zl⟩ := seven_cells hz2
  obtain ⟨w3, rfl⟩ : ∃ w3, w3 = w2 := ⟨_, rfl⟩
  have HD3 := Lib.hid hd2; have HB3 := Lib.hid hb2; have HZ3 := Lib.hid hz2; have F3 := Lib.hid ff2
  clear hd2 hb2 hz2 ff2 HTO
  go_wp2
  have hp0 := Fr.refl (fun k => k = w.heap.size ∨ k = w.heap.size + 1) w3
  have hz0 := HZ3.out
  have hv0 := HB3.out
  have hp1 := Fr.setCell hp0 ⟨w.heap.size + 1, 0, none⟩ (.int .u8 2) (fun _ => .inr rfl)
  have hz1 := (Fr.setCell (Fr.refl (fun k => k = w.heap.size + 1) (w3)) ⟨w.heap.size + 1, 0, none⟩ (.int .u8 2) (fun _ => rfl)).heap hz0 (fun h => by have h : w.heap.size = w.heap.size + 1 := h; omega)
  have hp2 := Fr.setCell hp1 ⟨w.heap.size + 1, 1, none⟩ (.bool false) (fun _ => .inr rfl)
  have hz2 := (Fr.setCell (Fr.refl (fun k => k = w.heap.size + 1) ((w3).setCell ⟨w.heap.size + 1, 0, none⟩ (.int .u8 2))) ⟨w.heap.size + 1, 1, none⟩ (.bool false) (fun _ => rfl)).heap hz1 (fun h => by have h : w.heap.size = w.heap.size + 1 := h; omega)
  have hset := set7_row (a := .int .u8 2) (b := .bool false) (c := .int .i64 0) (d := .string ⟨#[]⟩) (e := .slice none 0 0) (f := .slice none 0 0) (h := .slice none 0 0) hz2
  have hsf := hp2.trans (set7_fr _ w.heap.size (.int .u8 2) (.bool false) (.int .i64 0) (.string ⟨#[]⟩) (.slice none 0 0) (.slice none 0 0) (.slice none 0 0)) (fun _ _ h => .inl h)
  unfold set7 at hset hsf
  refine bodyPost_ret (results_cell_row (P := Tryz.prog) rfl _ _ w.heap.size 27 _ (0, 0) _ rfl hset Tryz.underlying27 rfl (by kernel_rfl)) rfl ?_
  exact dfin (x := .mk 2 false 0 [] [] nil3 [] []) KK.out (by first | (rw [ddc2, bare_leaf2]; done) | (rw [ddc2, bare_leaf2]; rfl)) (held_leaf _ _ _ _ _) (fun k hk => (blk_leaf hk).elim) HD3.out HON.out F3.out hsf (fun k h => by rcases h with h | h <;> omega) hm

set_option maxRecDepth 100000 in
set_option maxHeartbeats 2000000 in
theorem rval_yes (d m p : Nat) (sv : Value) (l : List UInt8) (w : World) (s : RS) (r : List UInt8) (h : Dx m p sv l w s false) (ho : RS.On l s (3 :: r)) (hm : m ≤ w.heap.size) :
    Calls Tryz.prog 62 #[.pointer (some ⟨p, 0, none⟩), .int .i64 ((d + 1 : Nat) : Int)] w fun e w' => DOut l (At p) (Dx m p sv l) (d + 1) (3 :: r) w e w' := by
  obtain ⟨hto, hon⟩ := ho.one
  obtain ⟨s1, hs1⟩ : ∃ s1, s1 = RS.mk (s.pos + 1) s.e s.wh := ⟨_, rfl⟩
  rw [← hs1] at hto hon
  clear hs1 ho
  have HTO := Lib.hid hto; have HON := Lib.hid hon
  clear hto hon
  have g0 : (((d + 1 : Nat) : Int) == 0) = false := by rw [beq_eq_false_iff_ne]; omega
  have K := dx_k m p sv l h.hp
  have hpm := h.hp
  have hal2 := ((Fr.refl no w).alloc (.cells #[.int .u8 0, .bool false, .int .i64 0, .string ⟨#[]⟩, .slice none 0 0, .slice none 0 0, .slice none 0 0] 27)).alloc (.cells #[.int .u8 0, .bool false, .int .i64 0, .string ⟨#[]⟩, .slice none 0 0, .slice none 0 0, .slice none 0 0] 27)
  have hal := h.kept0 hal2
  have hbl := h.rx.2.2.2.2.1
  obtain ⟨ha1, ha2⟩ := two_allocs w (.cells #[.int .u8 0, .bool false, .int .i64 0, .string ⟨#[]⟩, .slice none 0 0, .slice none 0 0, .slice none 0 0] 27) (.cells #[.int .u8 0, .bool false, .int .i64 0, .string ⟨#[]⟩, .slice none 0 0, .slice none 0 0, .slice none 0 0] 27)
  have HAL := Lib.hid hal; have HPM := Lib.hid hpm; have KK := Lib.hid K; have HBL := Lib.hid hbl; have HA1 := Lib.hid ha1; have HA2 := Lib.hid ha2; have HL2 := Lib.hid hal2
  clear h hal hpm K hbl ha1 ha2 hal2
  go_enter Tryz.func62, Tryz.ntmps62
  go_wp2_with fail
  refine (xfixed_any p _ sv l s 1 (by omega) (by omega) HAL.out.rx).mono ?_
  rintro e w2 ⟨rfl, h2, f2⟩
  have hd2 := HAL.out.read h2 f2
  have hz2 := f2.heap HA1.out (fun h => by have h1 := HPM.out; have h : w.heap.size = p := h; omega)
  have hb2 := f2.heap HA2.out (fun h => by have h1 := HPM.out; have h : w.heap.size + 1 = p := h; omega)
  have ff2 : Fr (At p) w w2 := (fr_any HL2.out).trans f2 (fun _ _ h => h)
  obtain ⟨c0, c1, c2, c3, cf, cl⟩ := four_cells hd2.rx.1
  clear h2 f2
  rw [HTO.out] at hd2 c2 ⊢
  simp only [ube_one]
  simp only [HON.out.e] at c2
  rw [show ((0 : Nat) : Int) = 0 from rfl] at c2
  clear c0 c1 c3
  obtain ⟨q0, q1, q2, q3, q4, q5, q6, qz, ql⟩ := seven_cells hb2
  obtain ⟨z0, z1, z2, z3, z4, z5, z6, zz, zl⟩ := seven_cells hz2
  obtain ⟨w3, rfl⟩ : ∃ w3, w3 = w2 := ⟨_, rfl⟩
  have HD3 := Lib.hid hd2; have HB3 := Lib.hid hb2; have HZ3 := Lib.hid hz2; have F3 := Lib.hid ff2
  clear hd2 hb2 hz2 ff2 HTO
  go_wp2
  have hp0 := Fr.refl (fun k => k = w.heap.size ∨ k = w.heap.size + 1) w3
  have hz0 := HZ3.out
  have hv0 := HB3.out
  have hp1 := Fr.setCell hp0 ⟨w.heap.size + 1, 0, none⟩ (.int .u8 2) (fun _ => .inr rfl)
  have hz1 := (Fr.setCell (Fr.refl (fun k => k = w.heap.size + 1) (w3)) ⟨w.heap.size + 1, 0, none⟩ (.int .u8 2) (fun _ => rfl)).heap hz0 (fun h => by have h : w.heap.size = w.heap.size + 1 := h; omega)
  have hp2 := Fr.setCell hp1 ⟨w.heap.size + 1, 1, none⟩ (.bool true) (fun _ => .inr rfl)
  have hz2 := (Fr.setCell (Fr.refl (fun k => k = w.heap.size + 1) ((w3).setCell ⟨w.heap.size + 1, 0, none⟩ (.int .u8 2))) ⟨w.heap.size + 1, 1, none⟩ (.bool true) (fun _ => rfl)).heap hz1 (fun h => by have h : w.heap.size = w.heap.size + 1 := h; omega)
  have hset := set7_row (a := .int .u8 2) (b := .bool true) (c := .int .i64 0) (d := .string ⟨#[]⟩) (e := .slice none 0 0) (f := .slice none 0 0) (h := .slice none 0 0) hz2
  have hsf := hp2.trans (set7_fr _ w.heap.size (.int .u8 2) (.bool true) (.int .i64 0) (.string ⟨#[]⟩) (.slice none 0 0) (.slice none 0 0) (.slice none 0 0)) (fun _ _ h => .inl h)
  unfold set7 at hset hsf
  refine bodyPost_ret (results_cell_row (P := Tryz.prog) rfl _ _ w.heap.size 27 _ (0, 0) _ rfl hset Tryz.underlying27 rfl (by kernel_rfl)) rfl ?_
  exact dfin (x := .mk 2 true 0 [] [] nil3 [] []) KK.out (by first | (rw [ddc3, bare_leaf2]; done) | (rw [ddc3, bare_leaf2]; rfl)) (held_leaf _ _ _ _ _) (fun k hk => (blk_leaf hk).elim) HD3.out HON.out F3.out hsf (fun k h => by rcases h with h | h <;> omega) hm

set_option maxRecDepth 100000 in
set_option maxHeartbeats 4000000 in
theorem rval_int (d m p : Nat) (sv : Value) (l : List UInt8) (w : World) (s : RS) (r : List UInt8) (h : Dx m p sv l w s false) (ho : RS.On l s (4 :: r)) (hm : m ≤ w.heap.size) :
    Calls Tryz.prog 62 #[.pointer (some ⟨p, 0, none⟩), .int .i64 ((d + 1 : Nat) : Int)] w fun e w' => DOut l (At p) (Dx m p sv l) (d + 1) (4 :: r) w e w' := by
  obtain ⟨hto, hon⟩ := ho.one
  obtain ⟨s1, hs1⟩ : ∃ s1, s1 = RS.mk (s.pos + 1) s.e s.wh := ⟨_, rfl⟩
  rw [← hs1] at hto hon
  clear hs1 ho
  have HTO := Lib.hid hto; have HON := Lib.hid hon
  clear hto hon
  have g0 : (((d + 1 : Nat) : Int) == 0) = false := by rw [beq_eq_false_iff_ne]; omega
  have K := dx_k m p sv l h.hp
  have hpm := h.hp
  have hal2 := ((Fr.refl no w).alloc (.cells #[.int .u8 0, .bool false, .int .i64 0, .string ⟨#[]⟩, .slice none 0 0, .slice none 0 0, .slice none 0 0] 27)).alloc (.cells #[.int .u8 0, .bool false, .int .i64 0, .string ⟨#[]⟩, .slice none 0 0, .slice none 0 0, .slice none 0 0] 27)
  have hal := h.kept0 hal2
  have hbl := h.rx.2.2.2.2.1
  obtain ⟨ha1, ha2⟩ := two_allocs w (.cells #[.int .u8 0, .bool false, .int .i64 0, .string ⟨#[]⟩, .slice none 0 0, .slice none 0 0, .slice none 0 0] 27) (.cells #[.int .u8 0, .bool false, .int .i64 0, .string ⟨#[]⟩, .slice none 0 0, .slice none 0 0, .slice none 0 0] 27)
  have HAL := Lib.hid hal; have HPM := Lib.hid hpm; have KK := Lib.hid K; have HBL := Lib.hid hbl; have HA1 := Lib.hid ha1; have HA2 := Lib.hid ha2; have HL2 := Lib.hid hal2
  clear h hal hpm K hbl ha1 ha2 hal2
  go_enter Tryz.func62, Tryz.ntmps62
  go_wp2_with fail
  refine (xfixed_any p _ sv l s 1 (by omega) (by omega) HAL.out.rx).mono ?_
  rintro e w2 ⟨rfl, h2, f2⟩
  have hd2 := HAL.out.read h2 f2
  have hz2 := f2.heap HA1.out (fun h => by have h1 := HPM.out; have h : w.heap.size = p := h; omega)
  have hb2 := f2.heap HA2.out (fun h => by have h1 := HPM.out; have h : w.heap.size + 1 = p := h; omega)
  have ff2 : Fr (At p) w w2 := (fr_any HL2.out).trans f2 (fun _ _ h => h)
  obtain ⟨c0, c1, c2, c3, cf, cl⟩ := four_cells hd2.rx.1
  clear h2 f2
  rw [HTO.out] at hd2 c2 ⊢
  simp only [ube_one]
  simp only [HON.out.e] at c2
  rw [show ((0 : Nat) : Int) = 0 from rfl] at c2
  clear c0 c1 c3
  obtain ⟨q0, q1, q2, q3, q4, q5, q6, qz, ql⟩ := seven_cells hb2
  obtain ⟨z0, z1, z2, z3, z4, z5, z6, zz, zl⟩ := seven_cells hz2
  obtain ⟨w3, rfl⟩ : ∃ w3, w3 = w2 := ⟨_, rfl⟩
  have HD3 := Lib.hid hd2; have HB3 := Lib.hid hb2; have HZ3 := Lib.hid hz2; have F3 := Lib.hid ff2
  clear hd2 hb2 hz2 ff2 HTO
  have hp0 := Fr.setCell (Fr.refl (fun k => k = w.heap.size + 1) w3) ⟨w.heap.size + 1, 0, none⟩ (.int .u8 3) (fun _ => rfl)
  have hs0 := hp_same HB3.out 0 (.int .u8 3)
  simp only [List.setIfInBounds_toArray, List.set_cons_zero] at hs0
  have hd4 := HD3.out.kept hp0 (fun k h => by have h : k = w.heap.size + 1 := h; omega)
  have hz4 := hp0.heap HZ3.out (fun h => by have h : w.heap.size = w.heap.size + 1 := h; omega)
  have f4 : Fr (At p) w (w3.setCell ⟨w.heap.size + 1, 0, none⟩ (.int .u8 3)) := F3.out.trans hp0 (fun k hk h => by have h : k = w.heap.size + 1 := h; omega)
  have HD4 := Lib.hid hd4; have HB4 := Lib.hid hs0; have HZ4 := Lib.hid hz4; have F4 := Lib.hid f4
  clear hp0 hs0 hd4 hz4 f4
  go_wp2_with fail
  generalize w3.setCell ⟨w.heap.size + 1, 0, none⟩ (.int .u8 3) = w4 at HD4 HB4 HZ4 F4 ⊢
  clear q0 q1 q2 q3 q4 q5 q6 qz ql z0 z1 z2 z3 z4 z5 z6 zz zl c2 cf cl HD3 HB3 HZ3 F3
  refine (xsigned_any p w4 sv l s1 HD4.out.rx).mono ?_
  rintro e w5 ⟨rfl, h5, f5⟩
  have hd5 := HD4.out.read h5 f5
  have hb5 := f5.heap HB4.out (fun h => by have h1 := HPM.out; have h : w.heap.size + 1 = p := h; omega)
  have hz5 := f5.heap HZ4.out (fun h => by have h1 := HPM.out; have h : w.heap.size = p := h; omega)
  obtain ⟨q0, q1, q2, q3, q4, q5, q6, qz, ql⟩ := seven_cells hb5
  obtain ⟨z0, z1, z2, z3, z4, z5, z6, zz, zl⟩ := seven_cells hz5
  have HD5 := Lib.hid hd5; have HB5 := Lib.hid hb5; have HZ5 := Lib.hid hz5; have F5 := Lib.hid (F4.out.trans f5 (fun _ _ h => h))
  clear h5 f5 hd5 hb5 hz5 HD4 HB4 HZ4 F4
  cases hv : rvi r with
  | some z =>
    obtain ⟨n, r'⟩ := z
    obtain ⟨e1, e2⟩ := HON.out.var hv
    rw [e1]
    have HV := Lib.hid hv; have HE := Lib.hid e2
    clear hv e1 e2
    go_wp2
    have hp0 := Fr.refl (fun k => k = w.heap.size ∨ k = w.heap.size + 1) w5
    have hz0 := HZ5.out
    have hv0 := HB5.out
    have hp1 := Fr.setCell hp0 ⟨w.heap.size + 1, 2, none⟩ (.int .i64 (uz n)) (fun _ => .inr rfl)
    have hz1 := (Fr.setCell (Fr.refl (fun k => k = w.heap.size + 1) (w5)) ⟨w.heap.size + 1, 2, none⟩ (.int .i64 (uz n)) (fun _ => rfl)).heap hz0 (fun h => by have h : w.heap.size = w.heap.size + 1 := h; omega)
    have hset := set7_row (a := .int .u8 3) (b := .bool false) (c := .int .i64 (uz n)) (d := .string ⟨#[]⟩) (e := .slice none 0 0) (f := .slice none 0 0) (h := .slice none 0 0) hz1
    have hsf := hp1.trans (set7_fr _ w.heap.size (.int .u8 3) (.bool false) (.int .i64 (uz n)) (.string ⟨#[]⟩) (.slice none 0 0) (.slice none 0 0) (.slice none 0 0)) (fun _ _ h => .inl h)
    unfold set7 at hset hsf
    refine bodyPost_ret (results_cell_row (P := Tryz.prog) rfl _ _ w.heap.size 27 _ (0, 0) _ rfl hset Tryz.underlying27 rfl (by kernel_rfl)) rfl ?_
    exact dfin (x := .mk 3 false (uz n) [] [] nil3 [] []) KK.out (by rw [ddc4, HV.out, bare_leaf2]; rfl) (held_leaf _ _ _ _ _) (fun k hk => (blk_leaf hk).elim) HD5.out HE.out F5.out hsf (fun k h => by rcases h with h | h <;> omega) hm
  | none =>
    obtain ⟨e1, e2⟩ := HON.out.var_no hv
    rw [e1]
    have HV := Lib.hid hv; have HE := Lib.hid e2
    clear hv e1 e2
    go_wp2
    have hp0 := Fr.refl (fun k => k = w.heap.size ∨ k = w.heap.size + 1) w5
    have hz0 := HZ5.out
    have hv0 := HB5.out
    have hp1 := Fr.setCell hp0 ⟨w.heap.size + 1, 2, none⟩ (.int .i64 (uz 0)) (fun _ => .inr rfl)
    have hz1 := (Fr.setCell (Fr.refl (fun k => k = w.heap.size + 1) (w5)) ⟨w.heap.size + 1, 2, none⟩ (.int .i64 (uz 0)) (fun _ => rfl)).heap hz0 (fun h => by have h : w.heap.size = w.heap.size + 1 := h; omega)
    have hset := set7_row (a := .int .u8 3) (b := .bool false) (c := .int .i64 (uz 0)) (d := .string ⟨#[]⟩) (e := .slice none 0 0) (f := .slice none 0 0) (h := .slice none 0 0) hz1
    have hsf := hp1.trans (set7_fr _ w.heap.size (.int .u8 3) (.bool false) (.int .i64 (uz 0)) (.string ⟨#[]⟩) (.slice none 0 0) (.slice none 0 0) (.slice none 0 0)) (fun _ _ h => .inl h)
    unfold set7 at hset hsf
    refine bodyPost_ret (results_cell_row (P := Tryz.prog) rfl _ _ w.heap.size 27 _ (0, 0) _ rfl hset Tryz.underlying27 rfl (by kernel_rfl)) rfl ?_
    exact dbad KK.out (by rw [ddc4, HV.out]; rfl) form_any HD5.out (.inr HE.out) F5.out hsf (fun k h => by rcases h with h | h <;> omega) hm

set_option maxRecDepth 100000 in
set_option maxHeartbeats 4000000 in
theorem rval_text (d m p : Nat) (sv : Value) (l : List UInt8) (w : World) (s : RS) (r : List UInt8) (h : Dx m p sv l w s false) (ho : RS.On l s (5 :: r)) (hm : m ≤ w.heap.size) :
    Calls Tryz.prog 62 #[.pointer (some ⟨p, 0, none⟩), .int .i64 ((d + 1 : Nat) : Int)] w fun e w' => DOut l (At p) (Dx m p sv l) (d + 1) (5 :: r) w e w' := by
  obtain ⟨hto, hon⟩ := ho.one
  obtain ⟨s1, hs1⟩ : ∃ s1, s1 = RS.mk (s.pos + 1) s.e s.wh := ⟨_, rfl⟩
  rw [← hs1] at hto hon
  clear hs1 ho
  have HTO := Lib.hid hto; have HON := Lib.hid hon
  clear hto hon
  have g0 : (((d + 1 : Nat) : Int) == 0) = false := by rw [beq_eq_false_iff_ne]; omega
  have K := dx_k m p sv l h.hp
  have hpm := h.hp
  have hal2 := ((Fr.refl no w).alloc (.cells #[.int .u8 0, .bool false, .int .i64 0, .string ⟨#[]⟩, .slice none 0 0, .slice none 0 0, .slice none 0 0] 27)).alloc (.cells #[.int .u8 0, .bool false, .int .i64 0, .string ⟨#[]⟩, .slice none 0 0, .slice none 0 0, .slice none 0 0] 27)
  have hal := h.kept0 hal2
  have hbl := h.rx.2.2.2.2.1
  obtain ⟨ha1, ha2⟩ := two_allocs w (.cells #[.int .u8 0, .bool false, .int .i64 0, .string ⟨#[]⟩, .slice none 0 0, .slice none 0 0, .slice none 0 0] 27) (.cells #[.int .u8 0, .bool false, .int .i64 0, .string ⟨#[]⟩, .slice none 0 0, .slice none 0 0, .slice none 0 0] 27)
  have HAL := Lib.hid hal; have HPM := Lib.hid hpm; have KK := Lib.hid K; have HBL := Lib.hid hbl; have HA1 := Lib.hid ha1; have HA2 := Lib.hid ha2; have HL2 := Lib.hid hal2
  clear h hal hpm K hbl ha1 ha2 hal2
  go_enter Tryz.func62, Tryz.ntmps62
  go_wp2_with fail
  refine (xfixed_any p _ sv l s 1 (by omega) (by omega) HAL.out.rx).mono ?_
  rintro e w2 ⟨rfl, h2, f2⟩
  have hd2 := HAL.out.read h2 f2
  have hz2 := f2.heap HA1.out (fun h => by have h1 := HPM.out; have h : w.heap.size = p := h; omega)
  have hb2 := f2.heap HA2.out (fun h => by have h1 := HPM.out; have h : w.heap.size + 1 = p := h; omega)
  have ff2 : Fr (At p) w w2 := (fr_any HL2.out).trans f2 (fun _ _ h => h)
  obtain ⟨c0, c1, c2, c3, cf, cl⟩ := four_cells hd2.rx.1
  clear h2 f2
  rw [HTO.out] at hd2 c2 ⊢
  simp only [ube_one]
  simp only [HON.out.e] at c2
  rw [show ((0 : Nat) : Int) = 0 from rfl] at c2
  clear c0 c1 c3
  obtain ⟨q0, q1, q2, q3, q4, q5, q6, qz, ql⟩ := seven_cells hb2
  obtain ⟨z0, z1, z2, z3, z4, z5, z6, zz, zl⟩ := seven_cells hz2
  obtain ⟨w3, rfl⟩ : ∃ w3, w3 = w2 := ⟨_, rfl⟩
  have HD3 := Lib.hid hd2; have HB3 := Lib.hid hb2; have HZ3 := Lib.hid hz2; have F3 := Lib.hid ff2
  clear hd2 hb2 hz2 ff2 HTO
  have hp0 := Fr.setCell (Fr.refl (fun k => k = w.heap.size + 1) w3) ⟨w.heap.size + 1, 0, none⟩ (.int .u8 4) (fun _ => rfl)
  have hs0 := hp_same HB3.out 0 (.int .u8 4)
  simp only [List.setIfInBounds_toArray, List.set_cons_zero] at hs0
  have hd4 := HD3.out.kept hp0 (fun k h => by have h : k = w.heap.size + 1 := h; omega)
  have hz4 := hp0.heap HZ3.out (fun h => by have h : w.heap.size = w.heap.size + 1 := h; omega)
  have f4 : Fr (At p) w (w3.setCell ⟨w.heap.size + 1, 0, none⟩ (.int .u8 4)) := F3.out.trans hp0 (fun k hk h => by have h : k = w.heap.size + 1 := h; omega)
  have HD4 := Lib.hid hd4; have HB4 := Lib.hid hs0; have HZ4 := Lib.hid hz4; have F4 := Lib.hid f4
  clear hp0 hs0 hd4 hz4 f4
  go_wp2_with fail
  generalize w3.setCell ⟨w.heap.size + 1, 0, none⟩ (.int .u8 4) = w4 at HD4 HB4 HZ4 F4 ⊢
  clear q0 q1 q2 q3 q4 q5 q6 qz ql z0 z1 z2 z3 z4 z5 z6 zz zl c2 cf cl HD3 HB3 HZ3 F3
  refine (xtext_any p w4 sv l s1 HD4.out.rx).mono ?_
  rintro e w5 ⟨rfl, h5, f5⟩
  have hd5 := HD4.out.read h5 f5
  have hb5 := f5.heap HB4.out (fun h => by have h1 := HPM.out; have h : w.heap.size + 1 = p := h; omega)
  have hz5 := f5.heap HZ4.out (fun h => by have h1 := HPM.out; have h : w.heap.size = p := h; omega)
  obtain ⟨q0, q1, q2, q3, q4, q5, q6, qz, ql⟩ := seven_cells hb5
  obtain ⟨z0, z1, z2, z3, z4, z5, z6, zz, zl⟩ := seven_cells hz5
  have HD5 := Lib.hid hd5; have HB5 := Lib.hid hb5; have HZ5 := Lib.hid hz5; have F5 := Lib.hid (F4.out.trans f5 (fun _ _ h => h))
  clear h5 f5 hd5 hb5 hz5 HD4 HB4 HZ4 F4
  cases hv : rvt r with
  | some z =>
    obtain ⟨n, r'⟩ := z
    obtain ⟨e1, e2⟩ := HON.out.text hv
    rw [e1]
    have HV := Lib.hid hv; have HE := Lib.hid e2
    clear hv e1 e2
    go_wp2
    have hp0 := Fr.refl (fun k => k = w.heap.size ∨ k = w.heap.size + 1) w5
    have hz0 := HZ5.out
    have hv0 := HB5.out
    have hp1 := Fr.setCell hp0 ⟨w.heap.size + 1, 3, none⟩ (.string ⟨n.toArray⟩) (fun _ => .inr rfl)
    have hz1 := (Fr.setCell (Fr.refl (fun k => k = w.heap.size + 1) (w5)) ⟨w.heap.size + 1, 3, none⟩ (.string ⟨n.toArray⟩) (fun _ => rfl)).heap hz0 (fun h => by have h : w.heap.size = w.heap.size + 1 := h; omega)
    have hset := set7_row (a := .int .u8 4) (b := .bool false) (c := .int .i64 0) (d := .string ⟨n.toArray⟩) (e := .slice none 0 0) (f := .slice none 0 0) (h := .slice none 0 0) hz1
    have hsf := hp1.trans (set7_fr _ w.heap.size (.int .u8 4) (.bool false) (.int .i64 0) (.string ⟨n.toArray⟩) (.slice none 0 0) (.slice none 0 0) (.slice none 0 0)) (fun _ _ h => .inl h)
    unfold set7 at hset hsf
    refine bodyPost_ret (results_cell_row (P := Tryz.prog) rfl _ _ w.heap.size 27 _ (0, 0) _ rfl hset Tryz.underlying27 rfl (by kernel_rfl)) rfl ?_
    exact dfin (x := .mk 4 false 0 n [] nil3 [] []) KK.out (by rw [ddc5, HV.out, bare_leaf2]; rfl) (held_leaf _ _ _ _ _) (fun k hk => (blk_leaf hk).elim) HD5.out HE.out F5.out hsf (fun k h => by rcases h with h | h <;> omega) hm
  | none =>
    obtain ⟨e1, e2⟩ := HON.out.text_no hv
    rw [e1]
    have HV := Lib.hid hv; have HE := Lib.hid e2
    clear hv e1 e2
    go_wp2
    have hp0 := Fr.refl (fun k => k = w.heap.size ∨ k = w.heap.size + 1) w5
    have hz0 := HZ5.out
    have hv0 := HB5.out
    have hp1 := Fr.setCell hp0 ⟨w.heap.size + 1, 3, none⟩ (.string ⟨[].toArray⟩) (fun _ => .inr rfl)
    have hz1 := (Fr.setCell (Fr.refl (fun k => k = w.heap.size + 1) (w5)) ⟨w.heap.size + 1, 3, none⟩ (.string ⟨[].toArray⟩) (fun _ => rfl)).heap hz0 (fun h => by have h : w.heap.size = w.heap.size + 1 := h; omega)
    have hset := set7_row (a := .int .u8 4) (b := .bool false) (c := .int .i64 0) (d := .string ⟨[].toArray⟩) (e := .slice none 0 0) (f := .slice none 0 0) (h := .slice none 0 0) hz1
    have hsf := hp1.trans (set7_fr _ w.heap.size (.int .u8 4) (.bool false) (.int .i64 0) (.string ⟨[].toArray⟩) (.slice none 0 0) (.slice none 0 0) (.slice none 0 0)) (fun _ _ h => .inl h)
    unfold set7 at hset hsf
    refine bodyPost_ret (results_cell_row (P := Tryz.prog) rfl _ _ w.heap.size 27 _ (0, 0) _ rfl hset Tryz.underlying27 rfl (by kernel_rfl)) rfl ?_
    exact dbad KK.out (by rw [ddc5, HV.out]; rfl) form_any HD5.out (.inr HE.out) F5.out hsf (fun k h => by rcases h with h | h <;> omega) hm

set_option maxRecDepth 100000 in
set_option maxHeartbeats 4000000 in
theorem rval_raw (d m p : Nat) (sv : Value) (l : List UInt8) (w : World) (s : RS) (r : List UInt8) (h : Dx m p sv l w s false) (ho : RS.On l s (6 :: r)) (hm : m ≤ w.heap.size) :
    Calls Tryz.prog 62 #[.pointer (some ⟨p, 0, none⟩), .int .i64 ((d + 1 : Nat) : Int)] w fun e w' => DOut l (At p) (Dx m p sv l) (d + 1) (6 :: r) w e w' := by
  obtain ⟨hto, hon⟩ := ho.one
  obtain ⟨s1, hs1⟩ : ∃ s1, s1 = RS.mk (s.pos + 1) s.e s.wh := ⟨_, rfl⟩
  rw [← hs1] at hto hon
  clear hs1 ho
  have HTO := Lib.hid hto; have HON := Lib.hid hon
  clear hto hon
  have g0 : (((d + 1 : Nat) : Int) == 0) = false := by rw [beq_eq_false_iff_ne]; omega
  have K := dx_k m p sv l h.hp
  have hpm := h.hp
  have hal2 := ((Fr.refl no w).alloc (.cells #[.int .u8 0, .bool false, .int .i64 0, .string ⟨#[]⟩, .slice none 0 0, .slice none 0 0, .slice none 0 0] 27)).alloc (.cells #[.int .u8 0, .bool false, .int .i64 0, .string ⟨#[]⟩, .slice none 0 0, .slice none 0 0, .slice none 0 0] 27)
  have hal := h.kept0 hal2
  have hbl := h.rx.2.2.2.2.1
  obtain ⟨ha1, ha2⟩ := two_allocs w (.cells #[.int .u8 0, .bool false, .int .i64 0, .string ⟨#[]⟩, .slice none 0 0, .slice none 0 0, .slice none 0 0] 27) (.cells #[.int .u8 0, .bool false, .int .i64 0, .string ⟨#[]⟩, .slice none 0 0, .slice none 0 0, .slice none 0 0] 27)
  have HAL := Lib.hid hal; have HPM := Lib.hid hpm; have KK := Lib.hid K; have HBL := Lib.hid hbl; have HA1 := Lib.hid ha1; have HA2 := Lib.hid ha2; have HL2 := Lib.hid hal2
  clear h hal hpm K hbl ha1 ha2 hal2
  go_enter Tryz.func62, Tryz.ntmps62
  go_wp2_with fail
  refine (xfixed_any p _ sv l s 1 (by omega) (by omega) HAL.out.rx).mono ?_
  rintro e w2 ⟨rfl, h2, f2⟩
  have hd2 := HAL.out.read h2 f2
  have hz2 := f2.heap HA1.out (fun h => by have h1 := HPM.out; have h : w.heap.size = p := h; omega)
  have hb2 := f2.heap HA2.out (fun h => by have h1 := HPM.out; have h : w.heap.size + 1 = p := h; omega)
  have ff2 : Fr (At p) w w2 := (fr_any HL2.out).trans f2 (fun _ _ h => h)
  obtain ⟨c0, c1, c2, c3, cf, cl⟩ := four_cells hd2.rx.1
  clear h2 f2
  rw [HTO.out] at hd2 c2 ⊢
  simp only [ube_one]
  simp only [HON.out.e] at c2
  rw [show ((0 : Nat) : Int) = 0 from rfl] at c2
  clear c0 c1 c3
  obtain ⟨q0, q1, q2, q3, q4, q5, q6, qz, ql⟩ := seven_cells hb2
  obtain ⟨z0, z1, z2, z3, z4, z5, z6, zz, zl⟩ := seven_cells hz2
  obtain ⟨w3, rfl⟩ : ∃ w3, w3 = w2 := ⟨_, rfl⟩
  have HD3 := Lib.hid hd2; have HB3 := Lib.hid hb2; have HZ3 := Lib.hid hz2; have F3 := Lib.hid ff2
  clear hd2 hb2 hz2 ff2 HTO
  have hp0 := Fr.setCell (Fr.refl (fun k => k = w.heap.size + 1) w3) ⟨w.heap.size + 1, 0, none⟩ (.int .u8 5) (fun _ => rfl)
  have hs0 := hp_same HB3.out 0 (.int .u8 5)
  simp only [List.setIfInBounds_toArray, List.set_cons_zero] at hs0
  have hd4 := HD3.out.kept hp0 (fun k h => by have h : k = w.heap.size + 1 := h; omega)
  have hz4 := hp0.heap HZ3.out (fun h => by have h : w.heap.size = w.heap.size + 1 := h; omega)
  have f4 : Fr (At p) w (w3.setCell ⟨w.heap.size + 1, 0, none⟩ (.int .u8 5)) := F3.out.trans hp0 (fun k hk h => by have h : k = w.heap.size + 1 := h; omega)
  have HD4 := Lib.hid hd4; have HB4 := Lib.hid hs0; have HZ4 := Lib.hid hz4; have F4 := Lib.hid f4
  clear hp0 hs0 hd4 hz4 f4
  go_wp2_with fail
  generalize w3.setCell ⟨w.heap.size + 1, 0, none⟩ (.int .u8 5) = w4 at HD4 HB4 HZ4 F4 ⊢
  clear q0 q1 q2 q3 q4 q5 q6 qz ql z0 z1 z2 z3 z4 z5 z6 zz zl c2 cf cl HD3 HB3 HZ3 F3
  refine (xtext_any p w4 sv l s1 HD4.out.rx).mono ?_
  rintro e w5 ⟨rfl, h5, f5⟩
  have hd5 := HD4.out.read h5 f5
  have hb5 := f5.heap HB4.out (fun h => by have h1 := HPM.out; have h : w.heap.size + 1 = p := h; omega)
  have hz5 := f5.heap HZ4.out (fun h => by have h1 := HPM.out; have h : w.heap.size = p := h; omega)
  obtain ⟨q0, q1, q2, q3, q4, q5, q6, qz, ql⟩ := seven_cells hb5
  obtain ⟨z0, z1, z2, z3, z4, z5, z6, zz, zl⟩ := seven_cells hz5
  have HD5 := Lib.hid hd5; have HB5 := Lib.hid hb5; have HZ5 := Lib.hid hz5; have F5 := Lib.hid (F4.out.trans f5 (fun _ _ h => h))
  clear h5 f5 hd5 hb5 hz5 HD4 HB4 HZ4 F4
  cases hv : rvt r with
  | some z =>
    obtain ⟨n, r'⟩ := z
    obtain ⟨e1, e2⟩ := HON.out.text hv
    rw [e1]
    have HV := Lib.hid hv; have HE := Lib.hid e2
    clear hv e1 e2
    have rc := Lib.run_convert_string_bytes (P := Tryz.prog) (u := .string) w5 9 23 5 ⟨n.toArray⟩ (by kernel_rfl) (by kernel_rfl) (by kernel_rfl)
    rw [show (⟨n.toArray⟩ : ByteArray).size = n.length from List.size_toArray] at rc
    have hsl := bytes_sl w5 5 n (by have h1 := rvt_lt HV.out; have h2 := HON.out.len; have h3 := HBL.out; omega)
    have f6 := bytes_fr w5 5 ⟨n.toArray⟩
    have hz6 := Lib.bytesWorld_size w5 5 ⟨n.toArray⟩
    obtain ⟨cap, hcap⟩ : ∃ cap, cap = grownCap w5 n.length 0 5 := ⟨_, rfl⟩
    rw [← hcap] at rc hsl
    generalize Lib.bytesWorld w5 5 ⟨n.toArray⟩ = w6 at rc hsl f6 hz6
    have HB6 := Lib.hid (f6.heap HB5.out (fun h => h)); have HZ6 := Lib.hid (f6.heap HZ5.out (fun h => h)); have HD6 := Lib.hid (HD5.out.kept0 f6); have HSL := Lib.hid hsl; have F6 := Lib.hid (F5.out.trans f6 (fun _ _ h => h.elim)); have HN6 := Lib.hid hz6
    clear q0 q1 q2 q3 q4 q5 q6 qz ql z0 z1 z2 z3 z4 z5 z6 zz zl hsl f6 hz6 hcap
    obtain ⟨q0, q1, q2, q3, q4, q5, q6, qz, ql⟩ := seven_cells HB6.out
    obtain ⟨z0, z1, z2, z3, z4, z5, z6, zz, zl⟩ := seven_cells HZ6.out
    go_wp2
    have hp0 := Fr.refl (fun k => k = w.heap.size ∨ k = w.heap.size + 1) w6
    have hz0 := HZ6.out
    have hv0 := HB6.out
    have hp1 := Fr.setCell hp0 ⟨w.heap.size + 1, 4, none⟩ (.slice (some ⟨w5.heap.size, 0, none⟩) n.length cap) (fun _ => .inr rfl)
    have hz1 := (Fr.setCell (Fr.refl (fun k => k = w.heap.size + 1) (w6)) ⟨w.heap.size + 1, 4, none⟩ (.slice (some ⟨w5.heap.size, 0, none⟩) n.length cap) (fun _ => rfl)).heap hz0 (fun h => by have h : w.heap.size = w.heap.size + 1 := h; omega)
    have hset := set7_row (a := .int .u8 5) (b := .bool false) (c := .int .i64 0) (d := .string ⟨#[]⟩) (e := .slice (some ⟨w5.heap.size, 0, none⟩) n.length cap) (f := .slice none 0 0) (h := .slice none 0 0) hz1
    have hsf := hp1.trans (set7_fr _ w.heap.size (.int .u8 5) (.bool false) (.int .i64 0) (.string ⟨#[]⟩) (.slice (some ⟨w5.heap.size, 0, none⟩) n.length cap) (.slice none 0 0) (.slice none 0 0)) (fun _ _ h => .inl h)
    unfold set7 at hset hsf
    refine bodyPost_ret (results_cell_row (P := Tryz.prog) rfl _ _ w.heap.size 27 _ (0, 0) _ rfl hset Tryz.underlying27 rfl (by kernel_rfl)) rfl ?_
    exact dfin (x := .mk 5 false 0 [] n (.slice (some ⟨w5.heap.size, 0, none⟩) n.length cap, .slice none 0 0, .slice none 0 0) [] []) KK.out (by rw [ddc6, HV.out, bare_leaf2]; rfl) (held_raw HSL.out (fun k hk => by have h1 := HN6.out; have h2 : w5.heap.size = k := (by simpa [Value.ownBlock] using hk); omega) _ _ _) (fun k hk => by
      have h1 := blk_raw hk
      have h2 : w5.heap.size = k := by simpa [Value.ownBlock] using h1
      have h3 := (Array.getElem?_eq_some_iff.1 HB5.out).1
      exact ⟨by omega, fun h => by rcases h with h | h <;> omega⟩) HD6.out HE.out F6.out hsf (fun k h => by rcases h with h | h <;> omega) hm
  | none =>
    obtain ⟨e1, e2⟩ := HON.out.text_no hv
    rw [e1]
    have HV := Lib.hid hv; have HE := Lib.hid e2
    clear hv e1 e2
    have rc := Lib.run_convert_string_bytes (P := Tryz.prog) (u := .string) w5 9 23 5 ⟨([] : List UInt8).toArray⟩ (by kernel_rfl) (by kernel_rfl) (by kernel_rfl)
    rw [show (⟨([] : List UInt8).toArray⟩ : ByteArray).size = ([] : List UInt8).length from List.size_toArray] at rc
    have hsl := bytes_sl w5 5 ([] : List UInt8) (by simp)
    have f6 := bytes_fr w5 5 ⟨([] : List UInt8).toArray⟩
    have hz6 := Lib.bytesWorld_size w5 5 ⟨([] : List UInt8).toArray⟩
    obtain ⟨cap, hcap⟩ : ∃ cap, cap = grownCap w5 ([] : List UInt8).length 0 5 := ⟨_, rfl⟩
    rw [← hcap] at rc hsl
    generalize Lib.bytesWorld w5 5 ⟨([] : List UInt8).toArray⟩ = w6 at rc hsl f6 hz6
    have HB6 := Lib.hid (f6.heap HB5.out (fun h => h)); have HZ6 := Lib.hid (f6.heap HZ5.out (fun h => h)); have HD6 := Lib.hid (HD5.out.kept0 f6); have HSL := Lib.hid hsl; have F6 := Lib.hid (F5.out.trans f6 (fun _ _ h => h.elim)); have HN6 := Lib.hid hz6
    clear q0 q1 q2 q3 q4 q5 q6 qz ql z0 z1 z2 z3 z4 z5 z6 zz zl hsl f6 hz6 hcap
    obtain ⟨q0, q1, q2, q3, q4, q5, q6, qz, ql⟩ := seven_cells HB6.out
    obtain ⟨z0, z1, z2, z3, z4, z5, z6, zz, zl⟩ := seven_cells HZ6.out
    go_wp2
    have hp0 := Fr.refl (fun k => k = w.heap.size ∨ k = w.heap.size + 1) w6
    have hz0 := HZ6.out
    have hv0 := HB6.out
    have hp1 := Fr.setCell hp0 ⟨w.heap.size + 1, 4, none⟩ (.slice (some ⟨w5.heap.size, 0, none⟩) 0 cap) (fun _ => .inr rfl)
    have hz1 := (Fr.setCell (Fr.refl (fun k => k = w.heap.size + 1) (w6)) ⟨w.heap.size + 1, 4, none⟩ (.slice (some ⟨w5.heap.size, 0, none⟩) 0 cap) (fun _ => rfl)).heap hz0 (fun h => by have h : w.heap.size = w.heap.size + 1 := h; omega)
    have hset := set7_row (a := .int .u8 5) (b := .bool false) (c := .int .i64 0) (d := .string ⟨#[]⟩) (e := .slice (some ⟨w5.heap.size, 0, none⟩) 0 cap) (f := .slice none 0 0) (h := .slice none 0 0) hz1
    have hsf := hp1.trans (set7_fr _ w.heap.size (.int .u8 5) (.bool false) (.int .i64 0) (.string ⟨#[]⟩) (.slice (some ⟨w5.heap.size, 0, none⟩) 0 cap) (.slice none 0 0) (.slice none 0 0)) (fun _ _ h => .inl h)
    unfold set7 at hset hsf
    refine bodyPost_ret (results_cell_row (P := Tryz.prog) rfl _ _ w.heap.size 27 _ (0, 0) _ rfl hset Tryz.underlying27 rfl (by kernel_rfl)) rfl ?_
    exact dbad KK.out (by rw [ddc6, HV.out]; rfl) form_any HD6.out (.inr HE.out) F6.out hsf (fun k h => by rcases h with h | h <;> omega) hm
end Go.Proofs.YtijcleiekafoiaaGreatDoor
