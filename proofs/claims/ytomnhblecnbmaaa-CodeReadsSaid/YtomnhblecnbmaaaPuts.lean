/- One call of a writer, as the laws of package code make it ('puts'), and the bytes that it writes. -/
import Derived.Test.YtomnhblecnbmaaaRefA
namespace Go.Proofs.Ytomnhblecnbmaaa
open Go.RowKit

theorem fx_mod (v : Nat) : ∀ (n m : Nat), n ≤ m → fx (v % 2 ^ (8 * m)) n = fx v n
  | 0, _, _ => rfl
  | n + 1, m, h => by
    simp only [fx]
    rw [fx_mod v n m (by omega)]
    congr 1
    apply UInt8.toNat_inj.1
    simp only [UInt8.toNat_ofNat']
    obtain ⟨d, rfl⟩ : ∃ d, m = n + 1 + d := ⟨m - (n + 1), by omega⟩
    rw [show 8 * (n + 1 + d) = 8 * n + (8 + 8 * d) by omega, Nat.pow_add, Nat.mod_mul_right_div_self, Nat.pow_add, Nat.mod_mod_of_dvd _ (Nat.dvd_mul_right _ _)]

/-- A call: its kind, its number, how many, its bytes. -/
structure OpV where
  k : Nat
  v : Nat
  n : Int
  B : Value
  bs : List UInt8

/-- A number as one of either sign. -/
def sg (v : Nat) : Int := if v < 9223372036854775808 then v else (v : Int) - 18446744073709551616

def OpV.bytes (o : OpV) : List UInt8 :=
  match o.k % 8 with
  | 0 => fx o.v 1
  | 1 => fx o.v 2
  | 2 => fx o.v 4
  | 3 => fx o.v 8
  | 4 => vi o.v
  | 5 => vi (zz (sg o.v))
  | 6 => o.bs
  | _ => vi o.bs.length ++ o.bs

structure OpV.Good (w : World) (o : OpV) : Prop where
  k : o.k < 256
  v : lt64 o.v
  n0 : -9223372036854775808 ≤ o.n
  n1 : o.n ≤ 9223372036854775807
  B : Sl w 1 o.B o.bs.length (bvs o.bs)

def OpV.cells (o : OpV) : List Value := [.int .u8 o.k, .int .u64 o.v, .int .i64 o.n, o.B]

theorem bytes_short (o : OpV) (hv : lt64 o.v) (h : o.bs.length ≤ 20000) : o.bytes.length ≤ 10 + o.bs.length := by
  have h1 := vi_length o.v (by have := hv.out; omega)
  have h2 := vi_length o.bs.length (by omega)
  have h3 := vi_length (zz (sg o.v)) (by have := hv.out; unfold zz sg; split <;> split <;> omega)
  unfold OpV.bytes
  split <;> simp [fx_length] <;> omega

theorem wrote_to {w w' : World} {p : Nat} {sv : Value} {l bs : List UInt8} (h : Wrote w w' p sv l bs) {w0 : World} (hb : Below w0.heap.size w0 w) (hn : ∀ k, Own p sv k → w0.heap.size ≤ k) : Below w0.heap.size w0 w' := by
  obtain ⟨A, n, c, _, f, _⟩ := h
  have s := hb.size
  exact ⟨f.os.trans hb.os, f.tape.trans hb.tape, f.output.trans hb.output, Nat.le_trans s f.size, fun k hk => (f.block k (by omega) (fun h => by have := hn k h; omega)).trans (hb.block k hk)⟩

/-- What puts leaves. -/
def Put (w w' : World) (p : Nat) (sv : Value) (l : List UInt8) (bs : List UInt8) (e : Ending) : Prop :=
  ∃ A c, e = .returned (.slice A bs.length c) ∧ Sl w' 1 (.slice A bs.length c) bs.length (bvs bs) ∧ Wrote w w' p sv l bs

theorem Wrote.later {w w1 w2 : World} {p : Nat} {sv : Value} {l bs : List UInt8} (h : Wrote w w1 p sv l bs) (f : Fr no w1 w2) : Wrote w w2 p sv l bs := by
  obtain ⟨A, n, c, h1, h2, h3⟩ := h
  exact ⟨A, n, c, h1.kept f (fun _ _ h => h), h2.trans f (fun _ _ h => h.elim), h3.later f.size⟩

theorem Wrote.sooner {w w1 w2 : World} {p : Nat} {sv : Value} {l bs : List UInt8} (f : Fr no w w1) (h : Wrote w1 w2 p sv l bs) : Wrote w w2 p sv l bs := by
  obtain ⟨A, n, c, h1, h2, h3⟩ := h
  exact ⟨A, n, c, h1, (f.mono (fun _ _ h => h.elim)).trans h2 (fun _ _ h => h), h3.first f.size⟩

set_option maxRecDepth 100000 in
set_option maxHeartbeats 1000000 in
theorem puts_any (w0 w : World) (hb : Below w0.heap.size w0 w) (p : Nat) (sv : Value) (l : List UInt8) (o : OpV) (ho : o.Good w0) (hs : o.bs.length ≤ 20000) (x : Value) (hx : Sl w 1 x o.bs.length (bvs o.bs)) (hw : Wr w p sv l) (hn : ∀ k, Own p sv k → w0.heap.size ≤ k) (hl : l.length ≤ 900000000) :
    Calls Try.prog 20 #[.pointer (some ⟨p, 0, none⟩), .agg #[.int .u8 o.k, .int .u64 o.v, .int .i64 o.n, o.B], x] w fun e w' => Put w w' p sv l o.bytes e := by
  obtain ⟨k, v, n, B, bs⟩ := o
  obtain ⟨hk, hv, hn0, hn1, hB⟩ := ho
  simp only at hk hv hn0 hn1 hB hs hx ⊢
  obtain ⟨A, c, rfl, hc1, hc2⟩ := hB.form
  have hWb : Wr (w.alloc (.cells #[.int .u8 k, .int .u64 v, .int .i64 n, .slice A bs.length c] 69)) p sv l := hw.kept (Fr.alloc (Fr.refl no w) _) (fun _ _ h => h)
  have HW := Lib.hid hWb
  have HV := Lib.hid hv
  have hpl := hw.lt
  have hsl : sv.ownBlock ≠ some w.heap.size := fun h => by have := own_lt hw.2.1 _ h; omega
  have key : ∀ w1 bs', Wrote (w.alloc (.cells #[.int .u8 k, .int .u64 v, .int .i64 n, .slice A bs.length c] 69)) w1 p sv l bs' →
      w1.cell? ⟨w.heap.size, 1, none⟩ = some (.int .u64 v) ∧ w1.cell? ⟨w.heap.size, 3, none⟩ = some (.slice A bs.length c) := by
    rintro w1 bs' ⟨A1, n1, c1, _, hf, _⟩
    have hno : ¬ Own p sv w.heap.size := fun h => by rcases h with h | h; omega; exact hsl h
    constructor
    · exact hf.cell (a := ⟨w.heap.size, 1, none⟩) (by unfold World.cell?; rw [heap_alloc_new]; simp) hno
    · exact hf.cell (a := ⟨w.heap.size, 3, none⟩) (by unfold World.cell?; rw [heap_alloc_new]; simp) hno
  have KEY := Lib.hid key
  have HB := Lib.hid hB
  have HX := Lib.hid hx
  have HN := Lib.hid hn
  have HB0 := Lib.hid hb
  clear hn0 hn1 hv hw hWb key hB hx hn hb hpl hsl
  have h8 : k % 8 = 0 ∨ k % 8 = 1 ∨ k % 8 = 2 ∨ k % 8 = 3 ∨ k % 8 = 4 ∨ k % 8 = 5 ∨ k % 8 = 6 ∨ k % 8 = 7 := by omega
  rcases h8 with h8 | h8 | h8 | h8 | h8 | h8 | h8 | h8
  · have e8 : (k : Int) % 8 = 0 := by omega
    simp only [OpV.bytes, h8]
    clear h8
    go_enter Try.func20, Try.ntmps20
    go_wp2_with fail
    refine (u8_any p _ sv l ((v : Int) % 256) (by omega) (by omega) HW.out (by omega)).mono ?_
    rintro e w1 ⟨rfl, hq⟩
    rw [show ((v : Int) % 256).toNat = v % 2 ^ (8 * 1) from by omega, fx_mod v 1 1 (Nat.le_refl _)] at hq
    obtain ⟨g1, g3⟩ := KEY.out _ _ hq
    have HQ := Lib.hid hq; clear hq
    go_wp2_with fail
    refine (fixed_ref _ v 1 HV.out (by omega)).mono ?_
    rintro e w2 ⟨A2, c2, rfl, hnew⟩
    have HNEW := Lib.hid hnew; clear hnew
    go_wp2
    go_ret
    exact ⟨A2, c2, rfl, Sl.of_own HNEW.out.1, Wrote.sooner ((Fr.refl no _).alloc _) (HQ.out.later HNEW.out.2.2)⟩
  · have e8 : (k : Int) % 8 = 1 := by omega
    simp only [OpV.bytes, h8]
    clear h8
    go_enter Try.func20, Try.ntmps20
    go_wp2_with fail
    refine (u16_any p _ sv l ((v : Int) % 65536) (by omega) (by omega) HW.out (by omega)).mono ?_
    rintro e w1 ⟨rfl, hq⟩
    rw [show ((v : Int) % 65536).toNat = v % 2 ^ (8 * 2) from by omega, fx_mod v 2 2 (Nat.le_refl _)] at hq
    obtain ⟨g1, g3⟩ := KEY.out _ _ hq
    have HQ := Lib.hid hq; clear hq
    go_wp2_with fail
    refine (fixed_ref _ v 2 HV.out (by omega)).mono ?_
    rintro e w2 ⟨A2, c2, rfl, hnew⟩
    have HNEW := Lib.hid hnew; clear hnew
    go_wp2
    go_ret
    exact ⟨A2, c2, rfl, Sl.of_own HNEW.out.1, Wrote.sooner ((Fr.refl no _).alloc _) (HQ.out.later HNEW.out.2.2)⟩
  · have e8 : (k : Int) % 8 = 2 := by omega
    simp only [OpV.bytes, h8]
    clear h8
    go_enter Try.func20, Try.ntmps20
    go_wp2_with fail
    refine (u32_any p _ sv l ((v : Int) % 4294967296) (by omega) (by omega) HW.out (by omega)).mono ?_
    rintro e w1 ⟨rfl, hq⟩
    rw [show ((v : Int) % 4294967296).toNat = v % 2 ^ (8 * 4) from by omega, fx_mod v 4 4 (Nat.le_refl _)] at hq
    obtain ⟨g1, g3⟩ := KEY.out _ _ hq
    have HQ := Lib.hid hq; clear hq
    go_wp2_with fail
    refine (fixed_ref _ v 4 HV.out (by omega)).mono ?_
    rintro e w2 ⟨A2, c2, rfl, hnew⟩
    have HNEW := Lib.hid hnew; clear hnew
    go_wp2
    go_ret
    exact ⟨A2, c2, rfl, Sl.of_own HNEW.out.1, Wrote.sooner ((Fr.refl no _).alloc _) (HQ.out.later HNEW.out.2.2)⟩
  · have e8 : (k : Int) % 8 = 3 := by omega
    simp only [OpV.bytes, h8]
    clear h8
    go_enter Try.func20, Try.ntmps20
    go_wp2_with fail
    refine (u64_any p _ sv l (v : Int) (by omega) HW.out (by omega)).mono ?_
    rintro e w1 ⟨rfl, hq⟩
    rw [Int.toNat_natCast] at hq
    obtain ⟨g1, g3⟩ := KEY.out _ _ hq
    have HQ := Lib.hid hq; clear hq
    go_wp2_with fail
    refine (fixed_ref _ v 8 HV.out (by omega)).mono ?_
    rintro e w2 ⟨A2, c2, rfl, hnew⟩
    have HNEW := Lib.hid hnew; clear hnew
    go_wp2
    go_ret
    exact ⟨A2, c2, rfl, Sl.of_own HNEW.out.1, Wrote.sooner ((Fr.refl no _).alloc _) (HQ.out.later HNEW.out.2.2)⟩
  · have e8 : (k : Int) % 8 = 4 := by omega
    simp only [OpV.bytes, h8]
    clear h8
    go_enter Try.func20, Try.ntmps20
    go_wp2_with fail
    refine (varint_any p _ sv l (v : Int) (by omega) HV.out HW.out (by omega)).mono ?_
    rintro e w1 ⟨rfl, hq⟩
    rw [Int.toNat_natCast] at hq
    obtain ⟨g1, g3⟩ := KEY.out _ _ hq
    have HQ := Lib.hid hq; clear hq
    go_wp2_with fail
    refine (varint_ref _ v HV.out).mono ?_
    rintro e w2 ⟨A2, c2, rfl, hnew⟩
    have HNEW := Lib.hid hnew; clear hnew
    go_wp2
    go_ret
    exact ⟨A2, c2, rfl, Sl.of_own HNEW.out.1, Wrote.sooner ((Fr.refl no _).alloc _) (HQ.out.later HNEW.out.2.2)⟩
  · have e8 : (k : Int) % 8 = 5 := by omega
    have ew : wrap64 (v : Int) = sg v := by have := HV.out.out; unfold wrap64 sg; split <;> omega
    have g0 := Lib.hid (show -9223372036854775808 ≤ sg v by have := HV.out.out; unfold sg; split <;> omega)
    have g1 := Lib.hid (show sg v ≤ 9223372036854775807 by have := HV.out.out; unfold sg; split <;> omega)
    have gz := Lib.hid (show lt64 (zz (sg v) : Nat) from ⟨by have := g0.out; have := g1.out; unfold zz; split <;> omega⟩)
    simp only [OpV.bytes, h8]
    clear h8
    go_enter Try.func20, Try.ntmps20
    go_wp2_with fail
    rw [ew]
    refine (signed_any p _ sv l (sg v) g0.out g1.out HW.out (by omega)).mono ?_
    rintro e w1 ⟨rfl, hq⟩
    obtain ⟨q1, q3⟩ := KEY.out _ _ hq
    have HQ := Lib.hid hq; clear hq
    go_wp2_with fail
    try rw [ew]
    refine (zigzag_ref _ (sg v) g0.out g1.out).mono ?_
    rintro e w2 ⟨rfl, rfl⟩
    go_wp2_with fail
    refine (varint_ref _ (zz (sg v)) gz.out).mono ?_
    rintro e w2 ⟨A2, c2, rfl, hnew⟩
    have HNEW := Lib.hid hnew; clear hnew
    go_wp2
    go_ret
    exact ⟨A2, c2, rfl, Sl.of_own HNEW.out.1, Wrote.sooner ((Fr.refl no _).alloc _) (HQ.out.later HNEW.out.2.2)⟩
  · have e8 : (k : Int) % 8 = 6 := by omega
    simp only [OpV.bytes, h8]
    clear h8
    go_enter Try.func20, Try.ntmps20
    go_wp2_with fail
    refine (raw_any p _ sv l x bs (HX.out.kept0 ((Fr.refl no _).alloc _)) HW.out (by omega)).mono ?_
    rintro e w1 ⟨rfl, hq⟩
    obtain ⟨g1, g3⟩ := KEY.out _ _ hq
    have HQ := Lib.hid hq; clear hq
    go_wp2
    go_ret
    refine ⟨A, c, rfl, HB.out.below (wrote_to (Wrote.sooner ((Fr.refl no _).alloc _) HQ.out) HB0.out HN.out), Wrote.sooner ((Fr.refl no _).alloc _) HQ.out⟩
  · have e8 : (k : Int) % 8 = 7 := by omega
    simp only [OpV.bytes, h8]
    clear h8
    have hst := fun (w' : World) (h : Sl w' 1 (.slice A bs.length c) bs.length (bvs bs)) => run_str (P := Try.prog) w' (src := 22) (dst := 9) (e := 5) (by kernel_rfl) (by kernel_rfl) (by kernel_rfl) h
    have hs1 := hst (w.alloc (.cells #[.int .u8 k, .int .u64 v, .int .i64 n, .slice A bs.length c] 69)) ((HB.out.below HB0.out).kept0 ((Fr.refl no _).alloc _))
    have HST := Lib.hid hst; clear hst
    go_enter Try.func20, Try.ntmps20
    go_wp2_with fail
    refine (text_any p _ sv l ⟨bs.toArray⟩ HW.out (by simp [ByteArray.size]; omega)).mono ?_
    rintro e w1 ⟨rfl, hq⟩
    rw [show (⟨bs.toArray⟩ : ByteArray).size = bs.length from rfl] at hq
    obtain ⟨g1, g3⟩ := KEY.out _ _ hq
    have hs2 := HST.out w1 (HB.out.below (wrote_to (Wrote.sooner ((Fr.refl no _).alloc _) hq) HB0.out HN.out))
    have HQ := Lib.hid hq; clear hq hs1
    go_wp2_with fail
    refine (text_ref _ ⟨bs.toArray⟩ (by simp [ByteArray.size]; omega)).mono ?_
    rintro e w2 ⟨A2, c2, rfl, hnew⟩
    have HNEW := Lib.hid hnew; clear hnew
    go_wp2
    go_ret
    exact ⟨A2, c2, by rw [List.length_append]; rfl, Sl.of_own HNEW.out.1, Wrote.sooner ((Fr.refl no _).alloc _) (HQ.out.later HNEW.out.2.2)⟩
end Go.Proofs.Ytomnhblecnbmaaa
