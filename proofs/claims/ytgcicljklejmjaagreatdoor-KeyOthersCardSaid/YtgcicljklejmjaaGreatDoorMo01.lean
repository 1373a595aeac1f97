import Derived.Test.YtgcicljklejmjaaGreatDoorMb16
import Derived.Test.YtgcicljklejmjaaGreatDoorMb02
import Derived.Test.YtgcicljklejmjaaGreatDoorMb04
import Derived.WalkSpells
import Derived.Lib.Bytealg
import Derived.Laws.Externs
import Derived.Handy

/- codicilref04.After. -/
namespace Go.Proofs.YtgcicljklejmjaaGreatDoor
open Go.RowKit Go.Shelf
open Tr

/-- What the document's After says. -/
def Aft4 (b : List UInt8) (w : World) (e : Ending) (w' : World) : Prop :=
  Fr no w w' ∧ ((after b = none ∧ e = .returned (.tuple #[.slice none 0 0, .bool false]))
    ∨ ∃ a A n c, after b = some a ∧ e = .returned (.tuple #[.slice A n c, .bool true]) ∧ n = a.length ∧ Ow w' 5 1 (.slice A n c) n (bvs a))
theorem ow_nilb0 (w : World) : Ow w 5 1 (.slice none 0 0) 0 (bvs []) := ⟨by simp [bvs], .inl ⟨rfl, rfl⟩⟩

set_option maxRecDepth 100000 in
set_option maxHeartbeats 1000000 in
theorem after4_any (w : World) (X : Value) (b : List UInt8) (hx : Sl w 1 X b.length (bvs b)) (hl : b.length ≤ 1000000000) :
    Calls Tryz.prog 21 #[X] w fun e w' => Aft4 b w e w' := by
  obtain ⟨A, c, rfl, hc1, hc2⟩ := hx.form
  have HX := Lib.hid hx
  clear hx
  go_enter Tryz.func21, Tryz.ntmps21
  go_wp2
  go_loop [4] (fun v => ∃ n : Nat, n ≤ b.length ∧ v = .int .i64 n ∧ ∀ j (hj : j < b.length), n ≤ j → b[j] = 255) (fun v => (intOf v).toNat)
  case atStart => exact ⟨b.length, Nat.le_refl _, rfl, fun j hj h => by omega⟩
  case round =>
    obtain ⟨n, hn, rfl, hall⟩ := hrel
    have HA := Lib.hid hall; clear hall
    cases n with
    | zero =>
      have ha : after b = none := after_zero (fun j hj => HA.out j hj (Nat.zero_le _))
      have HAF := Lib.hid ha; clear ha
      go_wp2
      go_ret2
      exact ⟨Fr.refl _ _, .inl ⟨HAF.out, rfl⟩⟩
    | succ m =>
      obtain ⟨g, o, rfl, hcell⟩ := HX.out.byte m (by omega)
      have hi : IntKind.i64.wrap (((m + 1 : Nat) : Int) - 1) = (m : Int) := by
        rw [show (((m + 1 : Nat) : Int) - 1) = (m : Int) by omega]
        exact IntWalk.i64_in _ ⟨by omega, by omega⟩
      by_cases h255 : b[m] = 255
      · have gc : ((b[m].toNat : Int) == 255) = true := by rw [h255]; rfl
        have H2 := Lib.hid h255; clear h255
        go_wp2
        go_round
        case rel => exact ⟨m, by omega, by first | rfl | go_num, fun j hj h => by
          by_cases hjm : j = m
          · subst hjm; exact H2.out
          · exact HA.out j hj (by omega)⟩
        case measure => simp [intOf]
      · have gc : ((b[m].toNat : Int) == 255) = false := byte_ne h255 rfl
        have haf : after b = some (b.take m ++ [b[m] + 1]) := after_at (by omega) (fun j hj h => HA.out j hj h) h255
        have H2 := Lib.hid h255; have HAF := Lib.hid haf; clear h255 haf
        obtain ⟨T, hT⟩ : ∃ T, T = b.take (m + 1) := ⟨_, rfl⟩
        have htk : T.length = m + 1 := by rw [hT, List.length_take]; omega
        have hhd : Sl w 1 (.slice (some ⟨g, o, none⟩) (m + 1) c) (m + 1) (bvs T) := by rw [hT, ← bvs_take]; exact HX.out.head (m + 1) hn
        rw [← htk] at hhd
        have hu8 : IntKind.u8.wrap ((b[m].toNat : Int) + 1) = ((b[m] + 1).toNat : Int) := by
          have h1 : b[m].toNat < 255 := by
            have h2 := b[m].toNat_lt
            have h3 : b[m].toNat ≠ 255 := fun e => H2.out (UInt8.toNat_inj.1 (by rw [e]; rfl))
            omega
          have h4 : (b[m] + 1).toNat = b[m].toNat + 1 := by rw [UInt8.toNat_add]; simp; omega
          rw [h4]
          simp only [IntKind.wrap, IntKind.bits, IntKind.signed, Bool.false_and, Bool.false_eq_true, if_false]
          omega
        have HTK := Lib.hid htk; have HTT := Lib.hid hT; have HU8 := Lib.hid hu8; have HHD := Lib.hid hhd
        clear htk hhd hu8 hT
        go_wp2_with (at_builtin; refine wpList_apo (n := 0) (xs := bvs []) (m := m + 1) (news := bvs T) rfl (.tmp 22) (.tmp 25) 27 rfl tbB (ow_nilb0 _) (by have h := HHD.out; rw [HTK.out] at h; exact h) rfl rfl (bvs_one T) ?ga ?gb ?gc2)
        case ga => simp only [maxLen]; omega
        case gb => omega
        case gc2 =>
        intro D N c2 w2 hN owc0 _ hf2 hst
        subst hN
        have owc : Ow w2 5 1 (.slice D (m + 1) c2) (m + 1) (bvs T) := owc0
        have f2 : Fr no w w2 := (by (repeat first | exact Fr.refl _ _ | exact Fr.drewN _ _ _ | apply Fr.drew | apply Fr.alloc | apply Fr.setAt | apply Fr.moreN) : Fr no w _).trans hf2 (fun k hk h => by simp [Value.ownBlock] at h)
        have hdn : ∀ k, Value.ownBlock (.slice D (m + 1) c2) = some k → w.heap.size ≤ k := fun k hk => by
          rcases hst with ⟨A', c', h1, h2⟩ | h
          · cases h1; cases h2; simp [Value.ownBlock] at hk
          · exact (h k hk).1
        clear owc0 hf2 hst
        obtain ⟨d, rfl⟩ := here_some owc (by omega)
        have hsl := owc.sl
        rw [← HTK.out] at hsl
        obtain ⟨d', o', hA, hcm⟩ := hsl.byte m (by rw [HTK.out]; omega)
        simp only [Option.some.injEq, Addr.mk.injEq, and_true] at hA
        obtain ⟨rfl, rfl⟩ := hA
        have hTm : T[m]'(by rw [HTK.out]; omega) = b[m] := by simp only [HTT.out, List.getElem_take]
        rw [Nat.zero_add, hTm] at hcm
        obtain ⟨_, cur, hcu, -⟩ := here owc
        have gz : ∀ q, w2.frozen? ⟨d, q, none⟩ = false := fun q => by simp [World.frozen?, hcu]
        have gl := (Array.getElem?_eq_some_iff.1 hcu).1
        have hu8 := HU8.out
        have OWC := Lib.hid owc; have HDN := Lib.hid hdn; have F2 := Lib.hid f2
        clear owc hdn f2 hsl hcu
        go_wp2
        go_ret2
        have hset := Fr.setCell (Fr.refl (fun k => k = d) w2) ⟨d, m, none⟩ (.int .u8 (b[m] + 1).toNat) (fun _ => rfl)
        refine ⟨F2.out.trans hset (fun k hk h => by have := HDN.out d rfl; omega), .inr ⟨_, _, _, _, HAF.out, rfl, (by simp; omega), ?_⟩⟩
        have h5 := ow_last (j := m) (b[m] + 1) OWC.out
        have h6 : T.set m (b[m] + 1) = b.take m ++ [b[m] + 1] := by
          rw [HTT.out, List.take_succ_eq_append_getElem (by omega), List.set_append_right _ _ (by rw [List.length_take]; omega), List.length_take, Nat.min_eq_left (by omega), Nat.sub_self]
          rfl
        rw [h6] at h5
        exact h5
end Go.Proofs.YtgcicljklejmjaaGreatDoor

/- bytes.Compare, strings.Compare; cmp.Compare of kinds and of numbers. -/
namespace Go
open Go.RowKit
theorem run_loadB {P : Program} {w : World} (b : Nat) : ∀ (l : List UInt8) (o : Nat) (acc : ByteArray), (∀ (j : Nat) u, l[j]? = some u → w.cell? ⟨b, o + j, none⟩ = some (.int .u8 u.toNat)) →
    (Extern.Bytes.loadBytes ⟨b, o, none⟩ l.length acc).run P w = .ok ⟨acc.data ++ l.toArray⟩ w
  | [], o, acc, _ => by simp [Extern.Bytes.loadBytes]
  | c :: l, o, acc, h => by
    have h0 := h 0 c rfl
    have ih := run_loadB (P := P) (w := w) b l (o + 1) (acc.push c) (fun j u hu => by rw [show o + 1 + j = o + (j + 1) by omega]; exact h (j + 1) u (by simpa using hu))
    have hl := run_load P w ⟨b, o, none⟩
    simp only [Nat.add_zero] at h0
    rw [h0] at hl
    have e1 : (⟨b, o, none⟩ : Addr).add 1 = ⟨b, o + 1, none⟩ := Addr.add_lit _ _ _
    have e2 : ((c.toNat : Int).toNat).toUInt8 = c := by simp
    simp only [List.length_cons, Extern.Bytes.loadBytes, Sem.run_bind, hl, Result.andThen_ok, e1, e2, ih]
    simp [ByteArray.push]

theorem run_bytesOf {P : Program} {w : World} {v : Value} {l : List UInt8} (h : Sl w 1 v l.length (bvs l)) : (Extern.Bytes.bytesOf v).run P w = .ok ⟨l.toArray⟩ w := by
  rcases h.2 with ⟨A, rfl, h0⟩ | ⟨b, o, cap, rfl, h1, h2, h3⟩
  · obtain rfl : l = [] := List.eq_nil_of_length_eq_zero h0
    cases A <;> simp [Extern.Bytes.bytesOf, Extern.Bytes.loadBytes, ByteArray.empty, ByteArray.emptyWithCapacity] <;> rfl
  · have := run_loadB (P := P) (w := w) b l o .empty (fun j u hu => by
      have hj := (List.getElem?_eq_some_iff.1 hu).1
      have := h3 j _ (bvs_get l j hj)
      rw [List.getElem?_eq_getElem hj] at hu
      cases hu
      exact this)
    simp only [Extern.Bytes.bytesOf, this]
    simp [ByteArray.empty, ByteArray.emptyWithCapacity]; rfl
end Go
namespace Go.Proofs.YtgcicljklejmjaaGreatDoor
open Go.RowKit

set_option maxRecDepth 100000 in
set_option maxHeartbeats 400000 in
theorem bcomp_any (w : World) (x y : Value) (l k : List UInt8) (hx : Sl w 1 x l.length (bvs l)) (hy : Sl w 1 y k.length (bvs k)) :
    Calls Tryz.prog 146 #[x, y] w fun e w' => e = .returned (.int .i64 (cb l k)) ∧ w' = w := by
  have hrun : (Extern.BytealgCompare.compare #[x, y]).run Tryz.prog w = .ok (.int .i64 (cb l k)) w := by
    change Sem.run Tryz.prog (do pure (goInt (Extern.BytealgCompare.cmp (← Extern.Bytes.bytesOf x) (← Extern.Bytes.bytesOf y)))) w = _
    simp only [Sem.run_bind, Sem.run_pure, Result.andThen_ok, run_bytesOf hx, run_bytesOf hy]
    rw [Lib.cmp_eq]
    rfl
  go_enter Tryz.func146, Tryz.ntmps146
  go_wp2
  rw [run_callFunc_extern Tryz.func147 (by kernel_rfl) (by kernel_rfl) (by kernel_rfl) (e := Extern.BytealgCompare.compare) (by kernel_rfl), hrun]
  simp only [Result.andThen]
  rw [Oper.upon_value]
  go_wp2
  go_ret
  exact ⟨rfl, rfl⟩

set_option maxRecDepth 100000 in
set_option maxHeartbeats 400000 in
theorem scomp_any (w : World) (a b : List UInt8) :
    Calls Tryz.prog 142 #[.string ⟨a.toArray⟩, .string ⟨b.toArray⟩] w fun e w' => e = .returned (.int .i64 (cb a b)) ∧ w' = w := by
  have hrun : (Extern.BytealgCompare.compare #[.string ⟨a.toArray⟩, .string ⟨b.toArray⟩]).run Tryz.prog w = .ok (.int .i64 (cb a b)) w := by
    change Sem.run Tryz.prog (do pure (goInt (Extern.BytealgCompare.cmp (← Extern.Bytes.bytesOf (.string ⟨a.toArray⟩)) (← Extern.Bytes.bytesOf (.string ⟨b.toArray⟩))))) w = _
    simp only [Extern.Bytes.bytesOf, Sem.run_bind, Sem.run_pure, Result.andThen_ok]
    rw [Lib.cmp_eq]
    rfl
  go_enter Tryz.func142, Tryz.ntmps142
  go_wp2
  rw [run_callFunc_extern Tryz.func144 (by kernel_rfl) (by kernel_rfl) (by kernel_rfl) (e := Extern.BytealgCompare.compare) (by kernel_rfl), hrun]
  simp only [Result.andThen]
  rw [Oper.upon_value]
  go_wp2
  go_ret
  exact ⟨rfl, rfl⟩

/-- Numbers compared. -/
def numK (a b : Int) : Int := if a < b then -1 else if b < a then 1 else 0

set_option maxRecDepth 100000 in
set_option maxHeartbeats 400000 in
theorem kcomp_any (w : World) (a b : Int) :
    Calls Tryz.prog 82 #[.int .u8 a, .int .u8 b] w fun e w' => e = .returned (.int .i64 (numK a b)) ∧ w' = w := by
  by_cases h1 : a < b
  · have e1 : numK a b = -1 := if_pos h1
    rw [e1]
    go_enter Tryz.func82, Tryz.ntmps82
    go_wp2
    go_ret
    exact ⟨rfl, rfl⟩
  · by_cases h2 : b < a
    · have e1 : numK a b = 1 := by unfold numK; rw [if_neg h1, if_pos h2]
      rw [e1]
      go_enter Tryz.func82, Tryz.ntmps82
      go_wp2
      go_ret
      exact ⟨rfl, rfl⟩
    · have e1 : numK a b = 0 := by unfold numK; rw [if_neg h1, if_neg h2]
      rw [e1]
      go_enter Tryz.func82, Tryz.ntmps82
      go_wp2
      go_ret
      exact ⟨rfl, rfl⟩
set_option maxRecDepth 100000 in
set_option maxHeartbeats 400000 in
theorem ncomp_any (w : World) (a b : Int) :
    Calls Tryz.prog 139 #[.int .i64 a, .int .i64 b] w fun e w' => e = .returned (.int .i64 (numK a b)) ∧ w' = w := by
  by_cases h1 : a < b
  · have e1 : numK a b = -1 := if_pos h1
    rw [e1]
    go_enter Tryz.func139, Tryz.ntmps139
    go_wp2
    go_ret
    exact ⟨rfl, rfl⟩
  · by_cases h2 : b < a
    · have e1 : numK a b = 1 := by unfold numK; rw [if_neg h1, if_pos h2]
      rw [e1]
      go_enter Tryz.func139, Tryz.ntmps139
      go_wp2
      go_ret
      exact ⟨rfl, rfl⟩
    · have e1 : numK a b = 0 := by unfold numK; rw [if_neg h1, if_neg h2]
      rw [e1]
      go_enter Tryz.func139, Tryz.ntmps139
      go_wp2
      go_ret
      exact ⟨rfl, rfl⟩
end Go.Proofs.YtgcicljklejmjaaGreatDoor

/- value.of: a value's content by its kind; how contents compare that are no lists. Printed by mkofv.py. -/
namespace Go
/-- x.(T) of what holds a T. -/
theorem run_assert_own {P : Program} (w : World) (t xT : TypeId) (v : Value) {d : TypeDesc} (h : P.underlying t = some d) (hd : (match d with | .interface _ => false | _ => true) = true) :
    (Instr.typeAssert (.iface t v) xT t true).run P w = .ok (.tuple #[v, .bool true]) w := by
  cases d <;> first | (cases hd; done) | simp [Instr.typeAssert, run_underlying h, go_sem, Result.andThen]
end Go
namespace Go.Proofs.YtgcicljklejmjaaGreatDoor
open Go.RowKit

set_option maxRecDepth 100000 in
theorem of_1 (w : World) (b : Bool) (i : Int) (T : ByteArray) (BA LA FA : Option Addr) (nb bc nl lc nf fc : Nat) : Calls Tryz.prog 83 #[.agg #[.int .u8 1, .bool b, .int .i64 i, .string T, .slice BA nb bc, .slice LA nl lc, .slice FA nf fc]] w fun e w' => e = .returned (.iface 187 (.agg #[])) ∧ Fr no w w' := by
  go_enter Tryz.func83, Tryz.ntmps83
  go_wp2
  go_ret
  exact ⟨rfl, by (repeat first | exact Fr.refl _ _ | exact Fr.drewN _ _ _ | apply Fr.drew | apply Fr.alloc | apply Fr.setAt | apply Fr.moreN)⟩
set_option maxRecDepth 100000 in
theorem of_2 (w : World) (b : Bool) (i : Int) (T : ByteArray) (BA LA FA : Option Addr) (nb bc nl lc nf fc : Nat) : Calls Tryz.prog 83 #[.agg #[.int .u8 2, .bool b, .int .i64 i, .string T, .slice BA nb bc, .slice LA nl lc, .slice FA nf fc]] w fun e w' => e = .returned (.iface 188 (.bool b)) ∧ Fr no w w' := by
  go_enter Tryz.func83, Tryz.ntmps83
  go_wp2
  go_ret
  exact ⟨rfl, by (repeat first | exact Fr.refl _ _ | exact Fr.drewN _ _ _ | apply Fr.drew | apply Fr.alloc | apply Fr.setAt | apply Fr.moreN)⟩
set_option maxRecDepth 100000 in
theorem of_3 (w : World) (b : Bool) (i : Int) (T : ByteArray) (BA LA FA : Option Addr) (nb bc nl lc nf fc : Nat) : Calls Tryz.prog 83 #[.agg #[.int .u8 3, .bool b, .int .i64 i, .string T, .slice BA nb bc, .slice LA nl lc, .slice FA nf fc]] w fun e w' => e = .returned (.iface 189 (.int .i64 i)) ∧ Fr no w w' := by
  go_enter Tryz.func83, Tryz.ntmps83
  go_wp2
  go_ret
  exact ⟨rfl, by (repeat first | exact Fr.refl _ _ | exact Fr.drewN _ _ _ | apply Fr.drew | apply Fr.alloc | apply Fr.setAt | apply Fr.moreN)⟩
set_option maxRecDepth 100000 in
theorem of_4 (w : World) (b : Bool) (i : Int) (T : ByteArray) (BA LA FA : Option Addr) (nb bc nl lc nf fc : Nat) : Calls Tryz.prog 83 #[.agg #[.int .u8 4, .bool b, .int .i64 i, .string T, .slice BA nb bc, .slice LA nl lc, .slice FA nf fc]] w fun e w' => e = .returned (.iface 190 (.string T)) ∧ Fr no w w' := by
  go_enter Tryz.func83, Tryz.ntmps83
  go_wp2
  go_ret
  exact ⟨rfl, by (repeat first | exact Fr.refl _ _ | exact Fr.drewN _ _ _ | apply Fr.drew | apply Fr.alloc | apply Fr.setAt | apply Fr.moreN)⟩
set_option maxRecDepth 100000 in
theorem of_5 (w : World) (b : Bool) (i : Int) (T : ByteArray) (BA LA FA : Option Addr) (nb bc nl lc nf fc : Nat) : Calls Tryz.prog 83 #[.agg #[.int .u8 5, .bool b, .int .i64 i, .string T, .slice BA nb bc, .slice LA nl lc, .slice FA nf fc]] w fun e w' => e = .returned (.iface 191 (.slice BA nb bc)) ∧ Fr no w w' := by
  go_enter Tryz.func83, Tryz.ntmps83
  go_wp2
  go_ret
  exact ⟨rfl, by (repeat first | exact Fr.refl _ _ | exact Fr.drewN _ _ _ | apply Fr.drew | apply Fr.alloc | apply Fr.setAt | apply Fr.moreN)⟩
set_option maxRecDepth 100000 in
theorem of_6 (w : World) (b : Bool) (i : Int) (T : ByteArray) (BA LA FA : Option Addr) (nb bc nl lc nf fc : Nat) : Calls Tryz.prog 83 #[.agg #[.int .u8 6, .bool b, .int .i64 i, .string T, .slice BA nb bc, .slice LA nl lc, .slice FA nf fc]] w fun e w' => e = .returned (.iface 192 (.slice LA nl lc)) ∧ Fr no w w' := by
  go_enter Tryz.func83, Tryz.ntmps83
  go_wp2
  go_ret
  exact ⟨rfl, by (repeat first | exact Fr.refl _ _ | exact Fr.drewN _ _ _ | apply Fr.drew | apply Fr.alloc | apply Fr.setAt | apply Fr.moreN)⟩
set_option maxRecDepth 100000 in
theorem of_7 (w : World) (b : Bool) (i : Int) (T : ByteArray) (BA LA FA : Option Addr) (nb bc nl lc nf fc : Nat) : Calls Tryz.prog 83 #[.agg #[.int .u8 7, .bool b, .int .i64 i, .string T, .slice BA nb bc, .slice LA nl lc, .slice FA nf fc]] w fun e w' => e = .returned (.iface 193 (.slice FA nf fc)) ∧ Fr no w w' := by
  go_enter Tryz.func83, Tryz.ntmps83
  go_wp2
  go_ret
  exact ⟨rfl, by (repeat first | exact Fr.refl _ _ | exact Fr.drewN _ _ _ | apply Fr.drew | apply Fr.alloc | apply Fr.setAt | apply Fr.moreN)⟩
set_option maxRecDepth 100000 in
theorem of_other (w : World) (kz : Int) (b : Bool) (i : Int) (T : ByteArray) (BA LA FA : Option Addr) (nb bc nl lc nf fc : Nat) (h : kz < 1 ∨ 7 < kz) : Calls Tryz.prog 83 #[.agg #[.int .u8 kz, .bool b, .int .i64 i, .string T, .slice BA nb bc, .slice LA nl lc, .slice FA nf fc]] w fun e w' => e = .returned (.nilIface) ∧ Fr no w w' := by
  go_enter Tryz.func83, Tryz.ntmps83
  go_wp2
  go_ret
  exact ⟨rfl, by (repeat first | exact Fr.refl _ _ | exact Fr.drewN _ _ _ | apply Fr.drew | apply Fr.alloc | apply Fr.setAt | apply Fr.moreN)⟩

set_option maxRecDepth 100000 in
theorem null_comp (w : World) (o : Value) : Calls Tryz.prog 136 #[.agg #[], o] w fun e w' => e = .returned (.int .i64 0) ∧ Fr no w w' := by
  go_enter Tryz.func136, Tryz.ntmps136
  go_wp2
  go_ret
  exact ⟨rfl, by (repeat first | exact Fr.refl _ _ | exact Fr.drewN _ _ _ | apply Fr.drew | apply Fr.alloc | apply Fr.setAt | apply Fr.moreN)⟩
set_option maxRecDepth 100000 in
theorem truth_comp (w : World) (a b : Bool) : Calls Tryz.prog 137 #[.bool a, .iface 188 (.bool b)] w fun e w' => e = .returned (.int .i64 (if a = b then 0 else if b then -1 else 1)) ∧ w' = w := by
  have hta := fun (w : World) (v : Value) => run_assert_own (P := Tryz.prog) w 188 166 v Tryz.underlying188 rfl
  cases a <;> cases b <;> (
    go_enter Tryz.func137, Tryz.ntmps137
    go_wp2
    go_ret
    exact ⟨rfl, rfl⟩)
set_option maxRecDepth 100000 in
theorem number_comp (w : World) (a b : Int) : Calls Tryz.prog 138 #[.int .i64 a, .iface 189 (.int .i64 b)] w fun e w' => e = .returned (.int .i64 (numK a b)) ∧ w' = w := by
  have hta := fun (w : World) (v : Value) => run_assert_own (P := Tryz.prog) w 189 166 v Tryz.underlying189 rfl
  go_enter Tryz.func138, Tryz.ntmps138
  go_wp2_with fail
  refine (ncomp_any _ a b).mono ?_
  rintro e w1 ⟨rfl, hw⟩
  subst w1
  go_wp2
  go_ret
  exact ⟨rfl, rfl⟩
set_option maxRecDepth 100000 in
theorem text_comp (w : World) (a b : List UInt8) : Calls Tryz.prog 141 #[.string ⟨a.toArray⟩, .iface 190 (.string ⟨b.toArray⟩)] w fun e w' => e = .returned (.int .i64 (cb a b)) ∧ w' = w := by
  have hta := fun (w : World) (v : Value) => run_assert_own (P := Tryz.prog) w 190 166 v Tryz.underlying190 rfl
  go_enter Tryz.func141, Tryz.ntmps141
  go_wp2_with fail
  refine (scomp_any _ a b).mono ?_
  rintro e w1 ⟨rfl, hw⟩
  subst w1
  go_wp2
  go_ret
  exact ⟨rfl, rfl⟩
set_option maxRecDepth 100000 in
theorem raw_comp (w : World) (A B : Option Addr) (c d : Nat) (a b : List UInt8) (ha : Sl w 1 (.slice A a.length c) a.length (bvs a)) (hb : Sl w 1 (.slice B b.length d) b.length (bvs b)) : Calls Tryz.prog 145 #[.slice A a.length c, .iface 191 (.slice B b.length d)] w fun e w' => e = .returned (.int .i64 (cb a b)) ∧ w' = w := by
  have hta := fun (w : World) (v : Value) => run_assert_own (P := Tryz.prog) w 191 166 v Tryz.underlying191 rfl
  go_enter Tryz.func145, Tryz.ntmps145
  go_wp2_with fail
  refine (bcomp_any _ _ _ a b ha hb).mono ?_
  rintro e w1 ⟨rfl, hw⟩
  subst w1
  go_wp2
  go_ret
  exact ⟨rfl, rfl⟩
end Go.Proofs.YtgcicljklejmjaaGreatDoor
