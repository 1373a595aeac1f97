import Derived.Test.YtgcicljklejmjaaDoorMb02
import Derived.Test.YtgcicljklejmjaaDoorMr09
import Derived.Test.YtgcicljklejmjaaDoorMb16
import Derived.Test.YtgcicljklejmjaaDoorRows
import Derived.Test.YtgcicljklejmjaaDoorCards
import Derived.Test.YtgcicljklejmjaaDoorTie
import Derived.Test.YtgcicljklejmjaaDoorMb15
import Derived.Test.YtgcicljklejmjaaDoorMb07
import Derived.WalkKit
import Derived.ProofKit
import Derived.OpenShut
import Derived.ChangeOld
import Derived.Below
import Derived.SizedLaws
import Derived.Lib.LaidIn
import Derived.Lib.LaidU8T
import Derived.Deep.DeepHandedRow
import Derived.Deep.DeepWitnessRowRef
import Derived.SevenTiedAt

/- What is lent to a call, looked at and written over behind it: LentBytes, WholeBytes, SpoilBytes. -/
namespace Go.Proofs.YtgcicljklejmjaaDoor
open Go.RowKit

/-- At block g lie these bytes, and the two marks behind. -/
def Lent (w : World) (g : Nat) (l : List UInt8) : Prop := w.heap[g]? = some (.cells (bvs (l ++ [91, 92])).toArray 5 (0, 0))

theorem Lent.sl {w : World} {g : Nat} {l : List UInt8} (h : Lent w g l) (hl : l.length ≤ 140737488351232) : Sl w 1 (.slice (some ⟨g, 0, none⟩) l.length (l.length + 2)) l.length (bvs l) := by
  refine ⟨by rw [bvs_length, Nat.mul_one], .inr ⟨g, 0, _, rfl, by omega, by simp only [maxLen]; omega, fun j u hu => ?_⟩⟩
  have hj := (List.getElem?_eq_some_iff.1 hu).1
  rw [Nat.zero_add, cell_of_row w g j _ _ (0, 0) h, bvs_append]
  simp only [List.getElem?_toArray]
  rw [List.getElem?_append_left hj, hu]

set_option maxRecDepth 100000 in
set_option maxHeartbeats 400000 in
theorem lent_any (w : World) (x : Value) (l : List UInt8) (hx : Sl w 1 x l.length (bvs l)) (hl : l.length ≤ 140737488351232) :
    Calls Tryd.prog 10 #[x] w fun e w' => ∃ g, e = .returned (.slice (some ⟨g, 0, none⟩) l.length (l.length + 2)) ∧ w.heap.size ≤ g ∧ Lent w' g l ∧ Fr no w w' := by
  obtain ⟨A, c, rfl, hc1, hc2⟩ := hx.form
  have HX := Lib.hid hx; clear hx hc2
  obtain ⟨inf, hi, hz0, hz1, hz2⟩ := info_parts tbB.info
  obtain ⟨wm, hmk, hown, hgrow⟩ := run_make_own (P := Tryd.prog) w 0 22 5 inf (.int .u8 0) 1 tbB.und hi hz0 hz1 .i64 .i64 (l.length + 2) (by rw [hz2]; omega) (by simp only [maxLen]; omega) (Nat.zero_le _)
  rw [show ((l.length + 2 : Nat) : Int) = (l.length : Int) + 2 from by omega] at hmk
  have hfm : Fr no w wm := (Fr.of_grown hgrow).mono (fun k _ h => by cases h)
  have HO := Lib.hid hown; have HFM := Lib.hid hfm; have HG := Lib.hid (hown.lt _ rfl); clear hown hfm hgrow hi hz0 hz1 hz2
  go_enter Tryd.func10, Tryd.ntmps10
  go_wp2_with (at_builtin; refine wpList_apr rfl (.tmp 8) (.tmp 9) 22 rfl tbB HO.out (HX.out.kept0 HFM.out) rfl rfl (bvs_one l) (by omega) ?go)
  case go =>
    intro N w1 hN ho1 hf1
    obtain rfl : N = l.length := by omega
    have HO1 := Lib.hid ho1; have HF1 := Lib.hid hf1; clear ho1 hf1 hmk hN
    go_wp2_with (at_builtin; refine wpList_apr rfl (.tmp 11) (.tmp 12) 22 rfl tbB (own_kept0 HO1.out ?fr) (Sl.fresh w1 [91, 92] 5 (by rfl) (by simp [maxLen])) rfl rfl (bvs_one _) (by simp) ?go2)
    case fr => (repeat first | exact Fr.refl _ _ | apply Fr.drew | apply Fr.alloc)
    case go2 =>
      intro N w2 hN ho2 hf2
      have HO2 := Lib.hid ho2; have HF2 := Lib.hid hf2; clear ho2 hf2
      obtain rfl : N = l.length + 2 := by simpa using hN
      clear hN
      go_wp2
      go_ret
      have h := HO2.out
      rcases h.2 with ⟨h1, _⟩ | ⟨g, cap, cur, h1, _, hg, _, _, h4, h5⟩
      · cases h1
      · simp only [Value.slice.injEq, Option.some.injEq, Addr.mk.injEq, and_true, true_and] at h1
        obtain ⟨rfl, rfl⟩ := h1
        refine ⟨_, rfl, Nat.le_refl _, ?_, ?_⟩
        · unfold Lent
          rw [hg]
          rw [List.take_of_length_le (by rw [Array.length_toList]; omega)] at h5
          rw [bvs_append, ← h5]
        · have f1 : Fr no w w1 := HFM.out.trans HF1.out (fun k hk h => by omega)
          exact (f1.alloc _).trans HF2.out (fun k hk h => by omega)

theorem Lent.whole {w : World} {g : Nat} {l : List UInt8} (h : Lent w g l) : w.cell? ⟨g, l.length, none⟩ = some (.int .u8 91) ∧ w.cell? ⟨g, l.length + 1, none⟩ = some (.int .u8 92) := by
  constructor
  · rw [cell_of_row w g _ _ _ (0, 0) h]; simp [bvs, Bv]
  · rw [cell_of_row w g _ _ _ (0, 0) h]; simp [bvs, Bv]

theorem Lent.kept {S : Nat → Prop} {w w1 : World} {g : Nat} {l : List UInt8} (h : Lent w g l) (f : Fr S w w1) (hn : ¬ S g) : Lent w1 g l := f.heap h hn

set_option maxRecDepth 100000 in
set_option maxHeartbeats 400000 in
theorem whole_lent (w : World) (g : Nat) (y : Value) (l k : List UInt8) (hx : Lent w g l) (hy : Sl w 1 y k.length (bvs k)) (hl : l.length ≤ 140737488351232) (hk : k.length ≤ 140737488351232) :
    Calls Tryd.prog 13 #[.slice (some ⟨g, 0, none⟩) l.length (l.length + 2), y] w fun e w' => e = .returned (.bool (decide (l = k))) ∧ ∃ n, w' = w.drewN n := by
  obtain ⟨A, c, rfl, hc1, hc2⟩ := hy.form
  obtain ⟨q1, q2⟩ := hx.whole
  have HX := Lib.hid (hx.sl hl); have HY := Lib.hid hy; clear hx hy hc2
  go_enter Tryd.func13, Tryd.ntmps13
  go_wp2_with fail
  refine (same_any _ _ _ l k HX.out HY.out hl hk).mono ?_
  rintro e w1 ⟨rfl, n1, rfl⟩
  go_wp2
  go_ret
  exact ⟨rfl, n1, rfl⟩

end Go.Proofs.YtgcicljklejmjaaDoor

/- SpoilBytes of bytes that were lent. -/
namespace Go.Proofs.YtgcicljklejmjaaDoor
open Go.RowKit

set_option maxRecDepth 100000 in
set_option maxHeartbeats 400000 in
theorem spoil_lent (w : World) (g : Nat) (l : List UInt8) (hx : Lent w g l) (hl : l.length ≤ 140737488351232) :
    Calls Tryd.prog 14 #[.slice (some ⟨g, 0, none⟩) l.length (l.length + 2)] w fun e w' => e = .returned (.tuple #[]) ∧ Fr (fun k => k = g) w w' := by
  go_enter Tryd.func14, Tryd.ntmps14
  go_wp2
  go_loopw [3] (fun i wr => ∃ j : Nat, j ≤ l.length + 2 ∧ i = .int .i64 j ∧ Fr (fun k => k = g) w wr ∧ ∃ cur, wr.heap[g]? = some (.cells cur 5 (0, 0)) ∧ cur.size = l.length + 2) (fun i _ => l.length + 2 - (intOf i).toNat)
  case atStart => exact ⟨0, Nat.zero_le _, rfl, Fr.refl _ _, _, hx, by simp [bvs]⟩
  case round =>
    obtain ⟨j, hj, rfl, hf, cur, hg, hsz⟩ := hrel
    have HF := Lib.hid hf; have HG := Lib.hid hg; clear hf hg
    by_cases hlt : j < l.length + 2
    · have q0 : wr.cell? ⟨g, j, none⟩ = some (cur[j]'(by omega)) := by rw [cell_of_row wr g _ _ _ (0, 0) HG.out]; simp
      have q1 : wr.frozen? ⟨g, j, none⟩ = false := by simp [World.frozen?, HG.out]
      go_wp2
      go_roundw
      case rel =>
        refine ⟨j + 1, hlt, by go_num, HF.out.setCell _ _ (fun _ => rfl), cur.setIfInBounds j (.int .u8 238), ?_, by simp [hsz]⟩
        rw [hp_same HG.out]
      case measure => simp [intOf]; omega
    · go_wp2
      go_end0
      exact ⟨rfl, HF.out⟩
end Go.Proofs.YtgcicljklejmjaaDoor

/- KeyReads: any bytes are the tuple that the chapter says. Printed by mkreads4.py. -/
namespace Go.Proofs.YtgcicljklejmjaaDoor
open Go.RowKit Go.Shelf
open Tr

set_option maxRecDepth 100000 in
set_option maxHeartbeats 16000000 in
theorem reads4_nil (w : World) (X D : Value) (b : List UInt8) (hx : Sl w 1 X b.length (bvs b)) (hd : Sl w 1 D (0) (bls [])) (hdn : (0) ≤ reachBytes) (hX : ∀ k, X.ownBlock = some k → k < w.heap.size) (hT : Tabs w) :
    Calls Tryd.prog 3 #[X, D] w fun e w' => e = .returned (.bool true) ∧ Fr no w w' := by
  obtain ⟨XA, xc, rfl, _, _⟩ := hx.form
  obtain ⟨DA, dc, rfl, _, _⟩ := hd.form
  have HX := Lib.hid hx; have HD := Lib.hid hd; have HDN := Lib.hid hdn; have HT := Lib.hid hT; have HXX := Lib.hid hX
  clear hx hd hdn hT hX
  go_enter Tryd.func3, Tryd.ntmps3
  by_cases hb2 : b.length ≤ 20000
  rotate_left
  · go_wp2
    all_goals first | (exfalso; omega) | skip
    go_ret
    exact ⟨rfl, Fr.refl _ _⟩
  obtain ⟨er, her⟩ : ∃ er, er = (DX [] b).2.1 := ⟨_, rfl⟩
  obtain ⟨pl, hpl⟩ : ∃ pl, pl = (DX [] b).2.2 := ⟨_, rfl⟩
  obtain ⟨sb, hsb⟩ : ∃ sb, sb = (SX false b).2.1 := ⟨_, rfl⟩
  obtain ⟨se, hse⟩ : ∃ se, se = (SX false b).2.2 := ⟨_, rfl⟩
  have hce : IntKind.i64.wrap (er : Int) = (er : Int) := err_i64 er (by rw [her]; exact (DX_le [] b).1)
  have hcs : IntKind.i64.wrap (se : Int) = (se : Int) := err_i64 se (by rw [hse]; exact (SX_le false b).1)
  have hsl : sb.length ≤ 20000 := by rw [hsb]; exact Nat.le_trans (SX_le false b).2 hb2
  have HER := Lib.hid her; have HPL := Lib.hid hpl; have HSB := Lib.hid hsb; have HSE := Lib.hid hse; have HCE := Lib.hid hce; have HCS := Lib.hid hcs
  clear her hpl hsb hse hce hcs
  go_wp2_with fail
  refine (lent_any w _ b HX.out (by omega)).mono ?_
  rintro e w1 ⟨g, rfl, hgn, hlt, f1⟩
  have hgl : g < w1.heap.size := (Array.getElem?_eq_some_iff.1 hlt).1
  have hT1 : ∀ k, Value.ownBlock (.slice (some ⟨g, 0, none⟩) b.length (b.length + 2)) = some k → k = g := fun k hk => by simpa [Value.ownBlock] using hk.symm
  have HGN := Lib.hid hgn; have HGL := Lib.hid hgl; have HLT := Lib.hid hlt; have F1 := Lib.hid f1; have HT1 := Lib.hid hT1
  clear hgn hgl hlt f1 hT1
  go_wp2_with fail
  refine (decu_any w1 _ _ b [] (HLT.out.sl (by omega)) (by omega) (fun k hk => by have h1 := HT1.out k hk; have h2 := HGL.out; omega) (HD.out.kept0 F1.out) HDN.out (HT.out.kept0 F1.out)).mono ?_
  rintro e w2 ⟨f2, ys, A1, c1, rfl, hys, hy4, hyp, hv1⟩
  rw [← HER.out, ← HPL.out]
  have F2 := Lib.hid (F1.out.trans f2 (fun _ _ h => h)); have F12 := Lib.hid f2; have HYS := Lib.hid hys; have HYP := Lib.hid hyp; have HV1 := Lib.hid hv1; have HY4 := Lib.hid hy4
  clear f2 hys hyp hv1 hy4
  go_wp2_with fail
  refine (splu_any w2 _ b false ((Lent.kept HLT.out F12.out (fun h => h)).sl (by omega)) (by omega) (HT.out.kept0 F2.out) (fun k hk => by have h1 := HT1.out k hk; have h2 := HGL.out; have h3 := F12.out.size; omega)).mono ?_
  rintro e w3 ⟨f3, x, S1, n1, sc1, rfl, hbx, hn1, hpx, hox, hgx, hbk, hos, hsn⟩
  obtain ⟨XB, Xb, XL, Xl, XF, Xf, hfx⟩ := hgx.node.forms
  have hagx := hfx.agg
  rw [hagx, ← HSE.out]
  rw [← HSB.out] at hn1 hos
  subst hn1
  have F3 := Lib.hid (F2.out.trans f3 (fun _ _ h => h)); have F23 := Lib.hid f3; have HAGX := Lib.hid hagx; have HBX := Lib.hid hbx; have HPX := Lib.hid hpx; have HOX := Lib.hid hox; have HGX := Lib.hid hgx; have HBK := Lib.hid hbk; have HOS := Lib.hid hos; have HSN := Lib.hid hsn
  clear f3 hfx hagx hbx hpx hox hgx hbk hos hsn
  go_wp2_with fail
  have hal := (Fr.refl no w3).alloc (.cells #[.int .u8 x.k.toNat, .bool x.b, .int .i64 x.i, .string ⟨x.t.toArray⟩, .slice XB x.bs.length Xb, .slice XL x.l.length Xl, .slice XF x.f.length Xf] 33)
  refine (whole_lent _ g _ b b (Lent.kept (Lent.kept (Lent.kept HLT.out F12.out (fun h => h)) F23.out (fun h => h)) hal (fun h => h)) (HX.out.kept0 (F3.out.trans hal (fun _ _ h => h))) (by omega) (by omega)).mono ?_
  rintro e w4 ⟨rfl, n4, hw4⟩
  rw [decide_eq_true (rfl : b = b)]
  have f34 : Fr no w3 w4 := by rw [hw4]; exact hal.trans (Fr.drewN _ _ _) (fun _ _ h => h)
  have hr4 : w4.heap[w3.heap.size]? = some (.cells #[.int .u8 x.k.toNat, .bool x.b, .int .i64 x.i, .string ⟨x.t.toArray⟩, .slice XB x.bs.length Xb, .slice XL x.l.length Xl, .slice XF x.f.length Xf] 33 (0, 0)) := by
    have h := (Fr.drewN no (w3.alloc (.cells #[.int .u8 x.k.toNat, .bool x.b, .int .i64 x.i, .string ⟨x.t.toArray⟩, .slice XB x.bs.length Xb, .slice XL x.l.length Xl, .slice XF x.f.length Xf] 33)) n4).heap (heap_alloc_new w3 (.cells #[.int .u8 x.k.toNat, .bool x.b, .int .i64 x.i, .string ⟨x.t.toArray⟩, .slice XB x.bs.length Xb, .slice XL x.l.length Xl, .slice XF x.f.length Xf] 33)) (fun h => h)
    rw [← hw4] at h
    exact h
  have F34 := Lib.hid f34; have HR4 := Lib.hid hr4
  clear hal hw4 f34 hr4
  go_wp2_with fail
  refine (spoil_lent w4 g b (Lent.kept (Lent.kept (Lent.kept HLT.out F12.out (fun h => h)) F23.out (fun h => h)) F34.out (fun h => h)) (by omega)).mono ?_
  rintro e w5 ⟨rfl, f5⟩
  have hs1 := HGL.out; have hs2 := F12.out.size; have hs3 := F23.out.size; have hs4 := F34.out.size; have hs5 := f5.size; have hs0 := F1.out.size; have hsg := HGN.out
  have hw3 : w3.heap.size < w4.heap.size := (Array.getElem?_eq_some_iff.1 HR4.out).1
  have F5 := Lib.hid (Fr.since (F3.out.trans F34.out (fun _ _ h => h)) f5 (fun k h => by have h : k = g := h; omega) : Fr no w w5)
  have hv5 := ((HV1.out.kept F23.out).kept F34.out).kept_lt f5 (fun k h => by have h : k = g := h; omega)
  have ho5 := (HOX.out.kept0 F34.out).kept f5 (fun k hk h => by have h : k = g := h; have := HBK.out k hk; omega)
  have hg5 := ho5.good rfl HGX.out
  have hr5 := f5.heap HR4.out (fun h => by have h : w3.heap.size = g := h; omega)
  have hb5 := ((HOS.out.kept0 F34.out).kept f5 (fun k hk h => by have h : k = g := h; have := (HSN.out k hk).1; omega))
  have HSZ := Lib.hid (And.intro hs0 (And.intro hs1 (And.intro hs2 (And.intro hs3 (And.intro hw3 (And.intro hs5 hsg))))))
  have HV5 := Lib.hid hv5; have HO5 := Lib.hid ho5; have HG5 := Lib.hid hg5; have HR5 := Lib.hid hr5; have HB5 := Lib.hid hb5
  clear f5 hs1 hs2 hs3 hs4 hs5 hs0 hsg hw3 hv5 ho5 hg5 hr5 hb5 HR4 HGX
  go_wp2_with fail
  refine (decu4_any w5 _ _ b [] (HX.out.kept0 F5.out) (by omega) (fun k hk => Nat.lt_of_lt_of_le (HXX.out k hk) F5.out.size) (HD.out.kept0 F5.out) HDN.out).mono ?_
  rintro e w6 ⟨f6, zs, A2, c2, rfl, hzs, hz4, hzp, hv2⟩
  rw [← HER.out, ← HPL.out]
  have F6 := Lib.hid (F5.out.trans f6 (fun _ _ h => h)); have F56 := Lib.hid f6; have HZS := Lib.hid hzs; have HV2 := Lib.hid hv2; have HZ4 := Lib.hid hz4
  clear f6 hzs hzp hv2 hz4
  go_wp2_with fail
  refine (splu4_any w6 _ b false (HX.out.kept0 F6.out) (by omega)).mono ?_
  rintro e w7 ⟨f7, y, S2, n2, sc2, rfl, hby, hn2, hpy, hoy, hgy, hbky, hosy, hsny⟩
  obtain ⟨YB, Yb, YL, Yl, YF, Yf, hfy⟩ := hgy.node.forms
  have hagy := hfy.agg
  rw [hagy, ← HSE.out]
  rw [← HSB.out] at hn2 hosy
  subst hn2
  have hw5 := F56.out.trans f7 (fun _ _ h => h)
  have hs67 := hw5.size
  have F7 := Lib.hid (F6.out.trans f7 (fun _ _ h => h)); have F57 := Lib.hid hw5; have F67 := Lib.hid f7; have HAGY := Lib.hid hagy; have HBY := Lib.hid hby; have HGY := Lib.hid hgy; have HOSY := Lib.hid hosy
  have HS57 := Lib.hid hs67
  clear f7 hfy hagy hby hpy hoy hgy hbky hosy hsny hw5 hs67
  go_wp2_with fail
  have hal := (Fr.refl no w7).alloc (.cells #[.int .u8 y.k.toNat, .bool y.b, .int .i64 y.i, .string ⟨y.t.toArray⟩, .slice YB y.bs.length Yb, .slice YL y.l.length Yl, .slice YF y.f.length Yf] 33)
  have hsz : (w7.alloc (.cells #[.int .u8 y.k.toNat, .bool y.b, .int .i64 y.i, .string ⟨y.t.toArray⟩, .slice YB y.bs.length Yb, .slice YL y.l.length Yl, .slice YF y.f.length Yf] 33)).heap.size = w7.heap.size + 1 := World.size_alloc _ _
  have hry := heap_alloc_new w7 (.cells #[.int .u8 y.k.toNat, .bool y.b, .int .i64 y.i, .string ⟨y.t.toArray⟩, .slice YB y.bs.length Yb, .slice YL y.l.length Yl, .slice YF y.f.length Yf] 33)
  have hrb := heap_alloc_new (w7.alloc (.cells #[.int .u8 y.k.toNat, .bool y.b, .int .i64 y.i, .string ⟨y.t.toArray⟩, .slice YB y.bs.length Yb, .slice YL y.l.length Yl, .slice YF y.f.length Yf] 33)) (.cells #[.slice none 0 0, .slice none 0 0, .slice none 0 0, .slice none 0 0, .slice none 0 0, .slice none 0 0, .slice none 0 0, .slice none 0 0, .slice none 0 0, .slice none 0 0, .slice none 0 0, .slice none 0 0, .slice none 0 0, .slice none 0 0, .slice none 0 0, .slice none 0 0, .slice none 0 0, .slice none 0 0, .slice none 0 0, .slice none 0 0, .slice none 0 0, .slice none 0 0, .slice none 0 0] 67)
  have hal2 := (Fr.refl no (w7.alloc (.cells #[.int .u8 y.k.toNat, .bool y.b, .int .i64 y.i, .string ⟨y.t.toArray⟩, .slice YB y.bs.length Yb, .slice YL y.l.length Yl, .slice YF y.f.length Yf] 33))).alloc (.cells #[.slice none 0 0, .slice none 0 0, .slice none 0 0, .slice none 0 0, .slice none 0 0, .slice none 0 0, .slice none 0 0, .slice none 0 0, .slice none 0 0, .slice none 0 0, .slice none 0 0, .slice none 0 0, .slice none 0 0, .slice none 0 0, .slice none 0 0, .slice none 0 0, .slice none 0 0, .slice none 0 0, .slice none 0 0, .slice none 0 0, .slice none 0 0, .slice none 0 0, .slice none 0 0] 67)
  have hry2 := hal2.heap hry (fun h => h)
  rw [hsz] at hrb
  generalize w7.alloc (.cells #[.int .u8 y.k.toNat, .bool y.b, .int .i64 y.i, .string ⟨y.t.toArray⟩, .slice YB y.bs.length Yb, .slice YL y.l.length Yl, .slice YF y.f.length Yf] 33) = wa at hal hsz hry hrb hal2 hry2 ⊢
  generalize wa.alloc (.cells #[.slice none 0 0, .slice none 0 0, .slice none 0 0, .slice none 0 0, .slice none 0 0, .slice none 0 0, .slice none 0 0, .slice none 0 0, .slice none 0 0, .slice none 0 0, .slice none 0 0, .slice none 0 0, .slice none 0 0, .slice none 0 0, .slice none 0 0, .slice none 0 0, .slice none 0 0, .slice none 0 0, .slice none 0 0, .slice none 0 0, .slice none 0 0, .slice none 0 0, .slice none 0 0] 67) = w8 at hrb hal2 hry2 ⊢
  have hbc := bcv_nil hrb
  have F7a := Lib.hid hal; have HSA := Lib.hid hsz; have HRY := Lib.hid hry; have FA8 := Lib.hid hal2; have HBC := Lib.hid hbc
  clear hal hsz hry hrb hal2 hry2 hbc
  have hb8 : w7.heap.size + 1 < w8.heap.size := HBC.out.bq.lt
  have HB8 := Lib.hid hb8
  clear hb8
  have f58 := (F57.out.trans F7a.out (fun _ _ h => h)).trans FA8.out (fun _ _ h => h)
  have hv8 := HV5.out.kept f58
  have hl8 : ∀ k, (Value.ownBlock (.slice A1 ys.length c1) = some k ∨ ∃ y ∈ ys, Blk y k) → k < w5.heap.size := fun k hk => by
    rcases hk with h | ⟨y, hy, h⟩
    · exact HV5.out.ow.lt k h
    · exact (HV5.out.each y hy).lt k h
  have HL8 := Lib.hid hl8
  clear hl8
  have hy4 := HY4.out
  refine (bc_values_of ys (fun y _ => bc_value_any y) w8 (w7.heap.size + 1) V0 R0 _ HBC.out hv8.ow (hv8.inn (by omega)) hv8.each hv8.pw (fun y hy k hk => (hv8.yn y hy k hk).2) (fun k hk h => by have h1 := HL8.out k hk; have h2 := bcf_nil h; have h3 := HS57.out; omega) (by omega) (fun i => by have := HYP.out; simp only [List.length_nil]; omega)).mono ?_
  rintro e w9 ⟨rfl, V1, R1, g1⟩
  have fa9 := g1.fr0 FA8.out HSA.out.symm
  have f59 := (F57.out.trans F7a.out (fun _ _ h => h)).trans fa9 (fun _ _ h => h)
  have hr9 := f59.heap HR5.out (fun h => h)
  obtain ⟨x0, x1, x2, x3, x4, x5, x6, xz, xl⟩ := seven_cells hr9
  have G1 := Lib.hid g1; have FA9 := Lib.hid fa9; have F59 := Lib.hid f59
  clear f58 hv8 g1 fa9 f59 hr9 hy4
  have hcv := bc_value_any x w9 (w7.heap.size + 1) V1 R1 G1.out.bc (HO5.out.kept0 F59.out) (HG5.out.kept0 F59.out) (fun k hk => G1.out.far HB8.out (by have h1 := HO5.out.lt k hk; have h2 := HS57.out; omega) (fun hN => by
    have h3 := HBK.out k hk
    rcases hN with h | ⟨y, hy, h⟩
    · have := HV1.out.ow.lt k h; omega
    · have := (HV1.out.each y hy).lt k h; omega)) (fun i => by have h1 := G1.out.len0 i; have h2 := HYP.out; have h3 := HPX.out; omega)
  rw [HAGX.out] at hcv
  have HCV := Lib.hid hcv
  clear hcv
  go_wp2_with fail
  refine HCV.out.mono ?_
  rintro e w10 ⟨rfl, V2, R2, g2⟩
  have g12 := G1.out.trans (Fr.refl _ _) g2
  have fa10 := g12.fr0 FA8.out HSA.out.symm
  have f510 := (F57.out.trans F7a.out (fun _ _ h => h)).trans fa10 (fun _ _ h => h)
  have G2 := Lib.hid g12; have FA10 := Lib.hid fa10; have F510 := Lib.hid f510
  clear g2 g12 fa10 f510 HCV x0 x1 x2 x3 x4 x5 x6 xz xl
  go_wp2_with fail
  refine (bc_bytes w10 (w7.heap.size + 1) V2 R2 S1 _ sc1 G2.out.bc (by have h1 := G2.out.len0 0; have h2 := HYP.out; have h3 := HPX.out; omega) ⟨sb.length, bvs sb, (by show sb.length ≤ 140737488351232; omega), HB5.out.kept0 F510.out⟩ (fun k hk => G2.out.far HB8.out (by have h1 := HB5.out.lt k hk; have h2 := HS57.out; omega) (fun hN => by
    have h3 := HSN.out k hk
    rcases hN with (h | ⟨y, hy, h⟩) | h
    · have := HV1.out.ow.lt k h; omega
    · have := (HV1.out.each y hy).lt k h; omega
    · exact h3.2 h))).mono ?_
  rintro e w11 ⟨rfl, V3, R3, g3⟩
  have g13 := G2.out.trans (Fr.refl _ _) g3
  have fa11 := g13.fr0 FA8.out HSA.out.symm
  have f7b := F7a.out.trans fa11 (fun _ _ h => h)
  have f511 := F57.out.trans f7b (fun _ _ h => h)
  have G3 := Lib.hid g13; have FA11 := Lib.hid fa11; have F711 := Lib.hid f7b; have F511 := Lib.hid f511
  clear g3 g13 fa11 f511 f7b
  have hce := HCE.out; have hcs := HCS.out
  have he1 := ieq_self er; have he2 := ieq_self pl; have he3 := ieq_self se
  go_wp2_with fail
  refine (samevs_any ys zs w11 _ _ ((HV5.out.kept F511.out).inn (by have := HY4.out; omega)) (((HV2.out.kept F67.out).kept F711.out).inn (by have := HZ4.out; omega))).mono ?_
  rintro e w12 ⟨⟨v, rfl, hv⟩, f12⟩
  obtain rfl : v = true := hv.2 (HYS.out.trans HZS.out.symm)
  have hr12 := f12.heap (F511.out.heap HR5.out (fun h => h)) (fun h => h)
  have hy12 := f12.heap (FA11.out.heap HRY.out (fun h => h)) (fun h => h)
  obtain ⟨x0, x1, x2, x3, x4, x5, x6, xz, xl⟩ := seven_cells hr12
  obtain ⟨q0, q1, q2, q3, q4, q5, q6, qz, ql⟩ := seven_cells hy12
  have hsv := samev_any x y w12 (HG5.out.kept0 (F511.out.trans f12 (fun _ _ h => h))) (HGY.out.kept0 (F711.out.trans f12 (fun _ _ h => h)))
  rw [HAGX.out, HAGY.out] at hsv
  have HSV := Lib.hid hsv; have F12b := Lib.hid f12
  clear hv hr12 hy12 hsv f12
  go_wp2_with fail
  refine HSV.out.mono ?_
  rintro e w13 ⟨⟨v, rfl, hv⟩, f13⟩
  obtain rfl : v = true := hv.2 (HBX.out.trans HBY.out.symm)
  have F13 := Lib.hid (F12b.out.trans f13 (fun _ _ h => h))
  clear hv f13 HSV x0 x1 x2 x3 x4 x5 x6 xz xl q0 q1 q2 q3 q4 q5 q6 qz ql
  go_wp2_with fail
  refine (same_any w13 _ _ sb sb ((HB5.out.kept0 (F511.out.trans F13.out (fun _ _ h => h))).sl) ((HOSY.out.kept0 (F711.out.trans F13.out (fun _ _ h => h))).sl) (by omega) (by omega)).mono ?_
  rintro e w14 ⟨rfl, n14, hw14⟩
  rw [decide_eq_true (rfl : sb = sb)]
  have F14 := Lib.hid (F13.out.trans (by rw [hw14]; exact Fr.drewN _ _ _ : Fr no w13 w14) (fun _ _ h => h))
  clear hw14
  go_wp2_with fail
  have f0 := F7.out.trans (F711.out.trans F14.out (fun _ _ h => h)) (fun _ _ h => h)
  refine (known_any w14 (HT.out.kept0 f0)).mono ?_
  rintro e w15 ⟨rfl, f15⟩
  have F015 := Lib.hid (f0.trans f15 (fun _ _ h => h)); have F15 := Lib.hid (F14.out.trans f15 (fun _ _ h => h))
  clear f0 f15
  go_wp2_with fail
  refine (bc_own w15 (w7.heap.size + 1) V3 R3 (G3.out.bc.kept0 F15.out) (fun i => by have h1 := G3.out.len0 i; have h2 := HYP.out; have h3 := HPX.out; omega)).mono ?_
  rintro e w16 ⟨rfl, f16⟩
  have F16 := Lib.hid f16
  clear f16
  go_wp2
  go_ret
  refine ⟨rfl, Fr.since F015.out F16.out (fun k hk => ?_)⟩
  obtain ⟨j, _, hj⟩ := hk
  have h0 := F5.out.size
  have h1 := HSZ.out
  have h2 := HS57.out
  rcases G3.out.more k (.inr (.inr ⟨j, hj⟩)) with h | h | h
  · have := bcf_nil h; omega
  · rcases h with ((h | ⟨y, hy, h⟩) | h) | h
    · have := HV1.out.own k h; omega
    · have := (HV1.out.yn y hy k h).1; omega
    · have := HBK.out k h; omega
    · have := (HSN.out k h).1; omega
  · have := HB8.out; omega

set_option maxRecDepth 100000 in
set_option maxHeartbeats 16000000 in
theorem reads4_cons (w : World) (X D : Value) (b : List UInt8) (d0 : Bool) (dl : List Bool) (hx : Sl w 1 X b.length (bvs b)) (hd : Sl w 1 D (dl.length + 1) (bls (d0 :: dl))) (hdn : (dl.length + 1) ≤ reachBytes) (hX : ∀ k, X.ownBlock = some k → k < w.heap.size) (hT : Tabs w) :
    Calls Tryd.prog 3 #[X, D] w fun e w' => e = .returned (.bool true) ∧ Fr no w w' := by
  obtain ⟨XA, xc, rfl, _, _⟩ := hx.form
  obtain ⟨DA, dc, rfl, _, _⟩ := hd.form
  obtain ⟨gd, od, rfl, hcd⟩ := bls_at (l := d0 :: dl) hd 0 (by simp)
  have hcd : ∀ W, Fr no w W → W.cell? ⟨gd, od, none⟩ = some (.bool d0) := fun W f => by
    obtain ⟨gd2, od2, h1, h2⟩ := bls_at (l := d0 :: dl) (hd.kept0 f) 0 (by simp)
    simp only [Option.some.injEq, Addr.mk.injEq, and_true] at h1
    obtain ⟨rfl, rfl⟩ := h1
    exact h2
  have HCD := Lib.hid hcd
  clear hcd
  have HX := Lib.hid hx; have HD := Lib.hid hd; have HDN := Lib.hid hdn; have HT := Lib.hid hT; have HXX := Lib.hid hX
  clear hx hd hdn hT hX
  go_enter Tryd.func3, Tryd.ntmps3
  by_cases hb2 : b.length ≤ 20000
  rotate_left
  · go_wp2
    all_goals first | (exfalso; omega) | skip
    go_ret
    exact ⟨rfl, Fr.refl _ _⟩
  by_cases hd2 : dl.length + 1 ≤ 20000
  rotate_left
  · go_wp2
    all_goals first | (exfalso; omega) | skip
    go_ret
    exact ⟨rfl, Fr.refl _ _⟩
  obtain ⟨er, her⟩ : ∃ er, er = (DX (d0 :: dl) b).2.1 := ⟨_, rfl⟩
  obtain ⟨pl, hpl⟩ : ∃ pl, pl = (DX (d0 :: dl) b).2.2 := ⟨_, rfl⟩
  obtain ⟨sb, hsb⟩ : ∃ sb, sb = (SX d0 b).2.1 := ⟨_, rfl⟩
  obtain ⟨se, hse⟩ : ∃ se, se = (SX d0 b).2.2 := ⟨_, rfl⟩
  have hce : IntKind.i64.wrap (er : Int) = (er : Int) := err_i64 er (by rw [her]; exact (DX_le (d0 :: dl) b).1)
  have hcs : IntKind.i64.wrap (se : Int) = (se : Int) := err_i64 se (by rw [hse]; exact (SX_le d0 b).1)
  have hsl : sb.length ≤ 20000 := by rw [hsb]; exact Nat.le_trans (SX_le d0 b).2 hb2
  have HER := Lib.hid her; have HPL := Lib.hid hpl; have HSB := Lib.hid hsb; have HSE := Lib.hid hse; have HCE := Lib.hid hce; have HCS := Lib.hid hcs
  clear her hpl hsb hse hce hcs
  go_wp2_with fail
  refine (lent_any w _ b HX.out (by omega)).mono ?_
  rintro e w1 ⟨g, rfl, hgn, hlt, f1⟩
  have hgl : g < w1.heap.size := (Array.getElem?_eq_some_iff.1 hlt).1
  have hT1 : ∀ k, Value.ownBlock (.slice (some ⟨g, 0, none⟩) b.length (b.length + 2)) = some k → k = g := fun k hk => by simpa [Value.ownBlock] using hk.symm
  have HGN := Lib.hid hgn; have HGL := Lib.hid hgl; have HLT := Lib.hid hlt; have F1 := Lib.hid f1; have HT1 := Lib.hid hT1
  clear hgn hgl hlt f1 hT1
  go_wp2_with fail
  refine (decu_any w1 _ _ b (d0 :: dl) (HLT.out.sl (by omega)) (by omega) (fun k hk => by have h1 := HT1.out k hk; have h2 := HGL.out; omega) (HD.out.kept0 F1.out) HDN.out (HT.out.kept0 F1.out)).mono ?_
  rintro e w2 ⟨f2, ys, A1, c1, rfl, hys, hy4, hyp, hv1⟩
  rw [← HER.out, ← HPL.out]
  have F2 := Lib.hid (F1.out.trans f2 (fun _ _ h => h)); have F12 := Lib.hid f2; have HYS := Lib.hid hys; have HYP := Lib.hid hyp; have HV1 := Lib.hid hv1; have HY4 := Lib.hid hy4
  clear f2 hys hyp hv1 hy4
  have hcd2 := HCD.out w2 F2.out
  go_wp2_with fail
  refine (splu_any w2 _ b d0 ((Lent.kept HLT.out F12.out (fun h => h)).sl (by omega)) (by omega) (HT.out.kept0 F2.out) (fun k hk => by have h1 := HT1.out k hk; have h2 := HGL.out; have h3 := F12.out.size; omega)).mono ?_
  rintro e w3 ⟨f3, x, S1, n1, sc1, rfl, hbx, hn1, hpx, hox, hgx, hbk, hos, hsn⟩
  obtain ⟨XB, Xb, XL, Xl, XF, Xf, hfx⟩ := hgx.node.forms
  have hagx := hfx.agg
  rw [hagx, ← HSE.out]
  rw [← HSB.out] at hn1 hos
  subst hn1
  have F3 := Lib.hid (F2.out.trans f3 (fun _ _ h => h)); have F23 := Lib.hid f3; have HAGX := Lib.hid hagx; have HBX := Lib.hid hbx; have HPX := Lib.hid hpx; have HOX := Lib.hid hox; have HGX := Lib.hid hgx; have HBK := Lib.hid hbk; have HOS := Lib.hid hos; have HSN := Lib.hid hsn
  clear f3 hfx hagx hbx hpx hox hgx hbk hos hsn
  go_wp2_with fail
  have hal := (Fr.refl no w3).alloc (.cells #[.int .u8 x.k.toNat, .bool x.b, .int .i64 x.i, .string ⟨x.t.toArray⟩, .slice XB x.bs.length Xb, .slice XL x.l.length Xl, .slice XF x.f.length Xf] 33)
  refine (whole_lent _ g _ b b (Lent.kept (Lent.kept (Lent.kept HLT.out F12.out (fun h => h)) F23.out (fun h => h)) hal (fun h => h)) (HX.out.kept0 (F3.out.trans hal (fun _ _ h => h))) (by omega) (by omega)).mono ?_
  rintro e w4 ⟨rfl, n4, hw4⟩
  rw [decide_eq_true (rfl : b = b)]
  have f34 : Fr no w3 w4 := by rw [hw4]; exact hal.trans (Fr.drewN _ _ _) (fun _ _ h => h)
  have hr4 : w4.heap[w3.heap.size]? = some (.cells #[.int .u8 x.k.toNat, .bool x.b, .int .i64 x.i, .string ⟨x.t.toArray⟩, .slice XB x.bs.length Xb, .slice XL x.l.length Xl, .slice XF x.f.length Xf] 33 (0, 0)) := by
    have h := (Fr.drewN no (w3.alloc (.cells #[.int .u8 x.k.toNat, .bool x.b, .int .i64 x.i, .string ⟨x.t.toArray⟩, .slice XB x.bs.length Xb, .slice XL x.l.length Xl, .slice XF x.f.length Xf] 33)) n4).heap (heap_alloc_new w3 (.cells #[.int .u8 x.k.toNat, .bool x.b, .int .i64 x.i, .string ⟨x.t.toArray⟩, .slice XB x.bs.length Xb, .slice XL x.l.length Xl, .slice XF x.f.length Xf] 33)) (fun h => h)
    rw [← hw4] at h
    exact h
  have F34 := Lib.hid f34; have HR4 := Lib.hid hr4
  clear hal hw4 f34 hr4
  go_wp2_with fail
  refine (spoil_lent w4 g b (Lent.kept (Lent.kept (Lent.kept HLT.out F12.out (fun h => h)) F23.out (fun h => h)) F34.out (fun h => h)) (by omega)).mono ?_
  rintro e w5 ⟨rfl, f5⟩
  have hs1 := HGL.out; have hs2 := F12.out.size; have hs3 := F23.out.size; have hs4 := F34.out.size; have hs5 := f5.size; have hs0 := F1.out.size; have hsg := HGN.out
  have hw3 : w3.heap.size < w4.heap.size := (Array.getElem?_eq_some_iff.1 HR4.out).1
  have F5 := Lib.hid (Fr.since (F3.out.trans F34.out (fun _ _ h => h)) f5 (fun k h => by have h : k = g := h; omega) : Fr no w w5)
  have hv5 := ((HV1.out.kept F23.out).kept F34.out).kept_lt f5 (fun k h => by have h : k = g := h; omega)
  have ho5 := (HOX.out.kept0 F34.out).kept f5 (fun k hk h => by have h : k = g := h; have := HBK.out k hk; omega)
  have hg5 := ho5.good rfl HGX.out
  have hr5 := f5.heap HR4.out (fun h => by have h : w3.heap.size = g := h; omega)
  have hb5 := ((HOS.out.kept0 F34.out).kept f5 (fun k hk h => by have h : k = g := h; have := (HSN.out k hk).1; omega))
  have HSZ := Lib.hid (And.intro hs0 (And.intro hs1 (And.intro hs2 (And.intro hs3 (And.intro hw3 (And.intro hs5 hsg))))))
  have HV5 := Lib.hid hv5; have HO5 := Lib.hid ho5; have HG5 := Lib.hid hg5; have HR5 := Lib.hid hr5; have HB5 := Lib.hid hb5
  clear f5 hs1 hs2 hs3 hs4 hs5 hs0 hsg hw3 hv5 ho5 hg5 hr5 hb5 HR4 HGX
  go_wp2_with fail
  refine (decu4_any w5 _ _ b (d0 :: dl) (HX.out.kept0 F5.out) (by omega) (fun k hk => Nat.lt_of_lt_of_le (HXX.out k hk) F5.out.size) (HD.out.kept0 F5.out) HDN.out).mono ?_
  rintro e w6 ⟨f6, zs, A2, c2, rfl, hzs, hz4, hzp, hv2⟩
  rw [← HER.out, ← HPL.out]
  have F6 := Lib.hid (F5.out.trans f6 (fun _ _ h => h)); have F56 := Lib.hid f6; have HZS := Lib.hid hzs; have HV2 := Lib.hid hv2; have HZ4 := Lib.hid hz4
  clear f6 hzs hzp hv2 hz4
  have hcd6 := HCD.out w6 F6.out
  go_wp2_with fail
  refine (splu4_any w6 _ b d0 (HX.out.kept0 F6.out) (by omega)).mono ?_
  rintro e w7 ⟨f7, y, S2, n2, sc2, rfl, hby, hn2, hpy, hoy, hgy, hbky, hosy, hsny⟩
  obtain ⟨YB, Yb, YL, Yl, YF, Yf, hfy⟩ := hgy.node.forms
  have hagy := hfy.agg
  rw [hagy, ← HSE.out]
  rw [← HSB.out] at hn2 hosy
  subst hn2
  have hw5 := F56.out.trans f7 (fun _ _ h => h)
  have hs67 := hw5.size
  have F7 := Lib.hid (F6.out.trans f7 (fun _ _ h => h)); have F57 := Lib.hid hw5; have F67 := Lib.hid f7; have HAGY := Lib.hid hagy; have HBY := Lib.hid hby; have HGY := Lib.hid hgy; have HOSY := Lib.hid hosy
  have HS57 := Lib.hid hs67
  clear f7 hfy hagy hby hpy hoy hgy hbky hosy hsny hw5 hs67
  go_wp2_with fail
  have hal := (Fr.refl no w7).alloc (.cells #[.int .u8 y.k.toNat, .bool y.b, .int .i64 y.i, .string ⟨y.t.toArray⟩, .slice YB y.bs.length Yb, .slice YL y.l.length Yl, .slice YF y.f.length Yf] 33)
  have hsz : (w7.alloc (.cells #[.int .u8 y.k.toNat, .bool y.b, .int .i64 y.i, .string ⟨y.t.toArray⟩, .slice YB y.bs.length Yb, .slice YL y.l.length Yl, .slice YF y.f.length Yf] 33)).heap.size = w7.heap.size + 1 := World.size_alloc _ _
  have hry := heap_alloc_new w7 (.cells #[.int .u8 y.k.toNat, .bool y.b, .int .i64 y.i, .string ⟨y.t.toArray⟩, .slice YB y.bs.length Yb, .slice YL y.l.length Yl, .slice YF y.f.length Yf] 33)
  have hrb := heap_alloc_new (w7.alloc (.cells #[.int .u8 y.k.toNat, .bool y.b, .int .i64 y.i, .string ⟨y.t.toArray⟩, .slice YB y.bs.length Yb, .slice YL y.l.length Yl, .slice YF y.f.length Yf] 33)) (.cells #[.slice none 0 0, .slice none 0 0, .slice none 0 0, .slice none 0 0, .slice none 0 0, .slice none 0 0, .slice none 0 0, .slice none 0 0, .slice none 0 0, .slice none 0 0, .slice none 0 0, .slice none 0 0, .slice none 0 0, .slice none 0 0, .slice none 0 0, .slice none 0 0, .slice none 0 0, .slice none 0 0, .slice none 0 0, .slice none 0 0, .slice none 0 0, .slice none 0 0, .slice none 0 0] 67)
  have hal2 := (Fr.refl no (w7.alloc (.cells #[.int .u8 y.k.toNat, .bool y.b, .int .i64 y.i, .string ⟨y.t.toArray⟩, .slice YB y.bs.length Yb, .slice YL y.l.length Yl, .slice YF y.f.length Yf] 33))).alloc (.cells #[.slice none 0 0, .slice none 0 0, .slice none 0 0, .slice none 0 0, .slice none 0 0, .slice none 0 0, .slice none 0 0, .slice none 0 0, .slice none 0 0, .slice none 0 0, .slice none 0 0, .slice none 0 0, .slice none 0 0, .slice none 0 0, .slice none 0 0, .slice none 0 0, .slice none 0 0, .slice none 0 0, .slice none 0 0, .slice none 0 0, .slice none 0 0, .slice none 0 0, .slice none 0 0] 67)
  have hry2 := hal2.heap hry (fun h => h)
  rw [hsz] at hrb
  generalize w7.alloc (.cells #[.int .u8 y.k.toNat, .bool y.b, .int .i64 y.i, .string ⟨y.t.toArray⟩, .slice YB y.bs.length Yb, .slice YL y.l.length Yl, .slice YF y.f.length Yf] 33) = wa at hal hsz hry hrb hal2 hry2 ⊢
  generalize wa.alloc (.cells #[.slice none 0 0, .slice none 0 0, .slice none 0 0, .slice none 0 0, .slice none 0 0, .slice none 0 0, .slice none 0 0, .slice none 0 0, .slice none 0 0, .slice none 0 0, .slice none 0 0, .slice none 0 0, .slice none 0 0, .slice none 0 0, .slice none 0 0, .slice none 0 0, .slice none 0 0, .slice none 0 0, .slice none 0 0, .slice none 0 0, .slice none 0 0, .slice none 0 0, .slice none 0 0] 67) = w8 at hrb hal2 hry2 ⊢
  have hbc := bcv_nil hrb
  have F7a := Lib.hid hal; have HSA := Lib.hid hsz; have HRY := Lib.hid hry; have FA8 := Lib.hid hal2; have HBC := Lib.hid hbc
  clear hal hsz hry hrb hal2 hry2 hbc
  have hb8 : w7.heap.size + 1 < w8.heap.size := HBC.out.bq.lt
  have HB8 := Lib.hid hb8
  clear hb8
  have f58 := (F57.out.trans F7a.out (fun _ _ h => h)).trans FA8.out (fun _ _ h => h)
  have hv8 := HV5.out.kept f58
  have hl8 : ∀ k, (Value.ownBlock (.slice A1 ys.length c1) = some k ∨ ∃ y ∈ ys, Blk y k) → k < w5.heap.size := fun k hk => by
    rcases hk with h | ⟨y, hy, h⟩
    · exact HV5.out.ow.lt k h
    · exact (HV5.out.each y hy).lt k h
  have HL8 := Lib.hid hl8
  clear hl8
  have hy4 := HY4.out
  refine (bc_values_of ys (fun y _ => bc_value_any y) w8 (w7.heap.size + 1) V0 R0 _ HBC.out hv8.ow (hv8.inn (by omega)) hv8.each hv8.pw (fun y hy k hk => (hv8.yn y hy k hk).2) (fun k hk h => by have h1 := HL8.out k hk; have h2 := bcf_nil h; have h3 := HS57.out; omega) (by omega) (fun i => by have := HYP.out; simp only [List.length_nil]; omega)).mono ?_
  rintro e w9 ⟨rfl, V1, R1, g1⟩
  have fa9 := g1.fr0 FA8.out HSA.out.symm
  have f59 := (F57.out.trans F7a.out (fun _ _ h => h)).trans fa9 (fun _ _ h => h)
  have hr9 := f59.heap HR5.out (fun h => h)
  obtain ⟨x0, x1, x2, x3, x4, x5, x6, xz, xl⟩ := seven_cells hr9
  have G1 := Lib.hid g1; have FA9 := Lib.hid fa9; have F59 := Lib.hid f59
  clear f58 hv8 g1 fa9 f59 hr9 hy4
  have hcv := bc_value_any x w9 (w7.heap.size + 1) V1 R1 G1.out.bc (HO5.out.kept0 F59.out) (HG5.out.kept0 F59.out) (fun k hk => G1.out.far HB8.out (by have h1 := HO5.out.lt k hk; have h2 := HS57.out; omega) (fun hN => by
    have h3 := HBK.out k hk
    rcases hN with h | ⟨y, hy, h⟩
    · have := HV1.out.ow.lt k h; omega
    · have := (HV1.out.each y hy).lt k h; omega)) (fun i => by have h1 := G1.out.len0 i; have h2 := HYP.out; have h3 := HPX.out; omega)
  rw [HAGX.out] at hcv
  have HCV := Lib.hid hcv
  clear hcv
  go_wp2_with fail
  refine HCV.out.mono ?_
  rintro e w10 ⟨rfl, V2, R2, g2⟩
  have g12 := G1.out.trans (Fr.refl _ _) g2
  have fa10 := g12.fr0 FA8.out HSA.out.symm
  have f510 := (F57.out.trans F7a.out (fun _ _ h => h)).trans fa10 (fun _ _ h => h)
  have G2 := Lib.hid g12; have FA10 := Lib.hid fa10; have F510 := Lib.hid f510
  clear g2 g12 fa10 f510 HCV x0 x1 x2 x3 x4 x5 x6 xz xl
  go_wp2_with fail
  refine (bc_bytes w10 (w7.heap.size + 1) V2 R2 S1 _ sc1 G2.out.bc (by have h1 := G2.out.len0 0; have h2 := HYP.out; have h3 := HPX.out; omega) ⟨sb.length, bvs sb, (by show sb.length ≤ 140737488351232; omega), HB5.out.kept0 F510.out⟩ (fun k hk => G2.out.far HB8.out (by have h1 := HB5.out.lt k hk; have h2 := HS57.out; omega) (fun hN => by
    have h3 := HSN.out k hk
    rcases hN with (h | ⟨y, hy, h⟩) | h
    · have := HV1.out.ow.lt k h; omega
    · have := (HV1.out.each y hy).lt k h; omega
    · exact h3.2 h))).mono ?_
  rintro e w11 ⟨rfl, V3, R3, g3⟩
  have g13 := G2.out.trans (Fr.refl _ _) g3
  have fa11 := g13.fr0 FA8.out HSA.out.symm
  have f7b := F7a.out.trans fa11 (fun _ _ h => h)
  have f511 := F57.out.trans f7b (fun _ _ h => h)
  have G3 := Lib.hid g13; have FA11 := Lib.hid fa11; have F711 := Lib.hid f7b; have F511 := Lib.hid f511
  clear g3 g13 fa11 f511 f7b
  have hce := HCE.out; have hcs := HCS.out
  have he1 := ieq_self er; have he2 := ieq_self pl; have he3 := ieq_self se
  go_wp2_with fail
  refine (samevs_any ys zs w11 _ _ ((HV5.out.kept F511.out).inn (by have := HY4.out; omega)) (((HV2.out.kept F67.out).kept F711.out).inn (by have := HZ4.out; omega))).mono ?_
  rintro e w12 ⟨⟨v, rfl, hv⟩, f12⟩
  obtain rfl : v = true := hv.2 (HYS.out.trans HZS.out.symm)
  have hr12 := f12.heap (F511.out.heap HR5.out (fun h => h)) (fun h => h)
  have hy12 := f12.heap (FA11.out.heap HRY.out (fun h => h)) (fun h => h)
  obtain ⟨x0, x1, x2, x3, x4, x5, x6, xz, xl⟩ := seven_cells hr12
  obtain ⟨q0, q1, q2, q3, q4, q5, q6, qz, ql⟩ := seven_cells hy12
  have hsv := samev_any x y w12 (HG5.out.kept0 (F511.out.trans f12 (fun _ _ h => h))) (HGY.out.kept0 (F711.out.trans f12 (fun _ _ h => h)))
  rw [HAGX.out, HAGY.out] at hsv
  have HSV := Lib.hid hsv; have F12b := Lib.hid f12
  clear hv hr12 hy12 hsv f12
  go_wp2_with fail
  refine HSV.out.mono ?_
  rintro e w13 ⟨⟨v, rfl, hv⟩, f13⟩
  obtain rfl : v = true := hv.2 (HBX.out.trans HBY.out.symm)
  have F13 := Lib.hid (F12b.out.trans f13 (fun _ _ h => h))
  clear hv f13 HSV x0 x1 x2 x3 x4 x5 x6 xz xl q0 q1 q2 q3 q4 q5 q6 qz ql
  go_wp2_with fail
  refine (same_any w13 _ _ sb sb ((HB5.out.kept0 (F511.out.trans F13.out (fun _ _ h => h))).sl) ((HOSY.out.kept0 (F711.out.trans F13.out (fun _ _ h => h))).sl) (by omega) (by omega)).mono ?_
  rintro e w14 ⟨rfl, n14, hw14⟩
  rw [decide_eq_true (rfl : sb = sb)]
  have F14 := Lib.hid (F13.out.trans (by rw [hw14]; exact Fr.drewN _ _ _ : Fr no w13 w14) (fun _ _ h => h))
  clear hw14
  go_wp2_with fail
  have f0 := F7.out.trans (F711.out.trans F14.out (fun _ _ h => h)) (fun _ _ h => h)
  refine (known_any w14 (HT.out.kept0 f0)).mono ?_
  rintro e w15 ⟨rfl, f15⟩
  have F015 := Lib.hid (f0.trans f15 (fun _ _ h => h)); have F15 := Lib.hid (F14.out.trans f15 (fun _ _ h => h))
  clear f0 f15
  go_wp2_with fail
  refine (bc_own w15 (w7.heap.size + 1) V3 R3 (G3.out.bc.kept0 F15.out) (fun i => by have h1 := G3.out.len0 i; have h2 := HYP.out; have h3 := HPX.out; omega)).mono ?_
  rintro e w16 ⟨rfl, f16⟩
  have F16 := Lib.hid f16
  clear f16
  go_wp2
  go_ret
  refine ⟨rfl, Fr.since F015.out F16.out (fun k hk => ?_)⟩
  obtain ⟨j, _, hj⟩ := hk
  have h0 := F5.out.size
  have h1 := HSZ.out
  have h2 := HS57.out
  rcases G3.out.more k (.inr (.inr ⟨j, hj⟩)) with h | h | h
  · have := bcf_nil h; omega
  · rcases h with ((h | ⟨y, hy, h⟩) | h) | h
    · have := HV1.out.own k h; omega
    · have := (HV1.out.yn y hy k h).1; omega
    · have := HBK.out k h; omega
    · have := (HSN.out k h).1; omega
  · have := HB8.out; omega

theorem reads4_any (w : World) (X D : Value) (b : List UInt8) (dl : List Bool) (hx : Sl w 1 X b.length (bvs b)) (hd : Sl w 1 D dl.length (bls dl)) (hdn : dl.length ≤ reachBytes) (hX : ∀ k, X.ownBlock = some k → k < w.heap.size) (hT : Tabs w) :
    Calls Tryd.prog 3 #[X, D] w fun e w' => e = .returned (.bool true) ∧ Fr no w w' := by
  cases dl with
  | nil => exact reads4_nil w X D b hx hd hdn hX hT
  | cons d0 dl => exact reads4_cons w X D b d0 dl hx hd hdn hX hT
end Go.Proofs.YtgcicljklejmjaaDoor

/- KeyReads holds, for every input; its tied card. No condition but what its row lists. -/
namespace Go.Proofs.YtgcicljklejmjaaDoor
open Go.ChangeShapes Go.WideShapes Go.ChangeAt Go.RowKit Go.Shelf
namespace RKeyReads
theorem own : ownKnob Tryd.prog.godebug = none := by kernel_rfl
theorem laidOut : laidOutB Tryd.prog = true := by kernel_rfl

/-- A world in which the two tables lie. -/
noncomputable def laidWorld (os : Os) : World :=
  let w0 := World.holding Tryd.prog os ⟨#[], #[], []⟩
  let put (h : Array Obj) (g : Nat) (cs : Array Value) : Array Obj := h.modify g fun
    | .cells _ t frozen => .cells cs t frozen
    | o => o
  let h1 := put w0.heap 0 (Lib.firstTab.map fun z => Value.int .u8 z).toArray
  let h2 := put h1 1 ((List.range 16).flatMap fun i => [Value.int .u8 (Lib.accLo i), Value.int .u8 (Lib.accHi i)]).toArray
  { w0 with heap := h2 }
theorem laid_met (os : Os) (args : Array Value) : laidMet Tryd.prog Rows.keyReadsRow.laid ((laidWorld os).forCall (fun _ _ => 0) ⟨#[], args, []⟩).memory :=
  (LaidIn.of_run (l := [("unicode/utf8.acceptRanges", Rows.laid_unicode_utf8_acceptRanges), ("unicode/utf8.first", Rows.laid_unicode_utf8_first)]) [0, 1] 8 (by kernel_rfl) (by kernel_rfl) (by kernel_rfl) (by kernel_rfl)).met

theorem witness_row (os : Os) {H : Type} (enc : TypeId × Value → H) :
    (OpenSpec.ofChange Rows.keyReadsSpec).preRow enc Tryd.prog Tryd.f3 Rows.keyReadsRow.domain false Rows.keyReadsRow.laid ((laidWorld os).forCall (fun _ _ => 0) ⟨#[], #[.slice none 0 0, .slice none 0 0], []⟩).memory #[.slice none 0 0, .slice none 0 0] := by
  have hw : (DataW.whole enc Tryd.prog ((laidWorld os).forCall (fun _ _ => 0) ⟨#[], #[.slice none 0 0, .slice none 0 0], []⟩).memory Tryd.f3.params.toList (OpenSpec.ofChange Rows.keyReadsSpec).vars false #[.slice none 0 0, .slice none 0 0].toList 8).map (fun x => (x.1, x.2.1)) = some ([.nil, .nil], []) := by kernel_rfl
  obtain ⟨⟨x1, x2, x3⟩, hx, hx1⟩ := Option.map_eq_some_iff.1 hw
  simp only [Prod.mk.injEq] at hx1
  obtain ⟨rfl, rfl⟩ := hx1
  exact OpenSpec.preRow_of_cond 8 hx (by kernel_rfl) (fun k hk => by cases hk) (by kernel_rfl) (laid_met os _)

set_option maxRecDepth 100000 in
set_option maxHeartbeats 2000000 in
theorem lifted (os : Os) (started : os.Started) (H : Type) (enc : TypeId × Value → H) (F : Stop.Interp) :
    ReturnsInHanded {} Tryd.checked os 3 .any ((OpenSpec.ofChange Rows.keyReadsSpec).preRow enc Tryd.prog Tryd.f3 Rows.keyReadsRow.domain false Rows.keyReadsRow.laid) (((OpenSpec.ofChange Rows.keyReadsSpec).at F).post enc Tryd.prog Tryd.f3 false true false false) := by
  refine returnsInHanded_of_row (C := Tryd.checked) (s := (OpenSpec.ofChange Rows.keyReadsSpec)) own started (by kernel_rfl) Tryd.func3
    (witness_row_atRef (enc := enc) (C := Tryd.checked) false (laidWorld os) #[.slice none 0 0, .slice none 0 0] rfl (by kernel_rfl) (by kernel_rfl) (by kernel_rfl) (witness_row os enc)) ?_
  intro W base args ds gs before hval0 hW hcnd hk0 hsz0 hL _ _
  have hval : ∀ (j : Nat) t v, Tryd.f3.params[j]? = some t → args[j]? = some v → Value.okWide Tryd.prog W .any base t v := hval0
  have hW' := hW
  obtain ⟨p, q, hA0, hV, rfl, hfz, hnd⟩ := hW
  have hA : DataW.TrodAll enc Tryd.prog W 0 (fun _ => true) true Tryd.f3.params.toList args.toList ds p := hA0
  have hTd : ∀ (j : Nat) t v, Tryd.f3.params.toList[j]? = some t → args.toList[j]? = some v → Td Tryd.prog W t v.cells.toList := fun j t v h1 h2 => Td.arg hA hsz0 j t v h1 h2
  have htab : Tabs W := utf8Tabs_of_readsT (U8Types.of196 lays_valid) ⟨by kernel_rfl, by kernel_rfl, by kernel_rfl, by kernel_rfl, by kernel_rfl, by kernel_rfl, by kernel_rfl⟩ (Lib.laidMet.reads (d := Rows.laid_unicode_utf8_first) hL (.tail _ (.head _))) (Lib.laidMet.reads (d := Rows.laid_unicode_utf8_acceptRanges) hL (.head _))
  clear hsz0 hcnd hk0
  rw [Tryd.params3] at hA hval hTd
  obtain ⟨v0, vs0, d0, ds0, p0, q0, hargs, rfl, rfl, h0, r0⟩ := trodAll_cons hA
  obtain ⟨v1, vs1, d1, ds1, p1, q1, rfl, rfl, rfl, h1, r1⟩ := trodAll_cons r0
  obtain ⟨rfl, rfl, rfl⟩ := trodAll_nil r1
  obtain rfl : args = #[v0, v1] := by cases args; simp_all
  obtain ⟨rfl, rfl⟩ := trodVars_none hV
  have lt0 : ∀ x ∈ p0, x.block < W.heap.size := by obtain ⟨m, hm⟩ := h0; exact DataW.trod_lt m _ _ _ hm
  obtain ⟨a0, n0, c0, rfl⟩ := okWide_slice Tryd.underlying22 (hval 0 22 v0 rfl rfl)
  have lo0 : ∀ k, (Value.slice a0 n0 c0).ownBlock = some k → k < W.heap.size := okWide_lt Tryd.underlying22 (hval 0 22 _ rfl rfl)
  have td0 : Td Tryd.prog W 22 [.slice a0 n0 c0] := hTd 0 22 _ rfl rfl
  have lt1 : ∀ x ∈ p1, x.block < W.heap.size := by obtain ⟨m, hm⟩ := h1; exact DataW.trod_lt m _ _ _ hm
  obtain ⟨a1, n1, c1, rfl⟩ := okWide_slice Tryd.underlying23 (hval 1 23 v1 rfl rfl)
  have lo1 : ∀ k, (Value.slice a1 n1 c1).ownBlock = some k → k < W.heap.size := okWide_lt Tryd.underlying23 (hval 1 23 _ rfl rfl)
  have td1 : Td Tryd.prog W 23 [.slice a1 n1 c1] := hTd 1 23 _ rfl rfl
  have walk : Calls Tryd.prog 3 #[.slice a0 n0 c0, .slice a1 n1 c1] W fun e w' => e = .returned (.bool true) ∧ Below W.heap.size W w' := by
    clear hA0 hTd hval hval0 hL
    obtain ⟨x0, l0, e0, s0, h0⟩ := td_bytes td0
    obtain rfl := (List.cons.inj e0).1
    obtain ⟨x1, l1, e1, s1, h1⟩ := open_bools td1
    obtain rfl := (List.cons.inj e1).1
    exact (reads4_any W _ _ l0 l1 s0 s1 h1 lo0 htab).mono fun e w' ⟨h1, f⟩ => ⟨h1, f.below (fun _ _ h => h)⟩
  clear hA0 hval0 hTd
  refine walk.mono fun e W' ⟨he, bel⟩ => ?_
  subst he
  exact ⟨_, rfl, _, _, _, [], _, [], hW', trodAll_mk1 (shut_bool Tryd.underlying4 _), (trodAll_cons_mk (Below.trod laidOut (by kernel_rfl) (of_decide_eq_true (by kernel_rfl)) h0 bel lt0) (trodAll_cons_mk (Below.trod laidOut (by kernel_rfl) (of_decide_eq_true (by kernel_rfl)) h1 bel lt1) trodAll_mk0)), rfl, bel.frame _, fun h => by cases h⟩

theorem row : Rows.keyReadsRow.holds Tryd.pinned (OpenSpec.ofChange Rows.keyReadsSpec) :=
  OpenClaim.holds_of_cond 3 Tryd.f3 rfl rfl rfl rfl rfl rfl rfl ⟨rfl, rfl, rfl, rfl, rfl⟩ rfl rfl rfl rfl rfl (by kernel_rfl) Tryd.func3 (by kernel_rfl)
    (of_decide_eq_true (by kernel_rfl)) (by unfold Func.isWrapper; first | (rw [if_pos (by decide +kernel)]; kernel_rfl) | (rw [if_neg (of_decide_eq_false (by kernel_rfl))]; exact ⟨rfl, rfl⟩))
    (fun os started H enc _ F0 => by rw [OpenClaim.pre_eq_preRow]; exact lifted os started H enc F0)
theorem card : Claim7.holds Tryd.pinned (.plain (OpenSpec.ofChange Rows.keyReadsSpec)) Rows.keyReadsCard :=
  Claim7.holds_tied_plain_at .later [] [.data, .pinned] true Rows.keyReadsCard.stood.harness Rows.keyReadsCard.stood.looks
    row (fun _ h => by cases h) (by kernel_rfl) (fun _ h => by cases h) keyReads_row_tie rfl ⟨rfl, rfl⟩ (by kernel_rfl) (by kernel_rfl)
    (fun f fn hf hfn => by
      obtain rfl : f = 3 := Option.some.inj ((show Tryd.prog.funcNamed "codicil/codicillaw04.KeyReads" = some 3 by kernel_rfl).symm.trans hf) |>.symm
      obtain rfl : fn = Tryd.f3 := (Option.some.inj (Tryd.func3.symm.trans hfn)).symm
      exact ⟨by kernel_rfl, fun j t ht => by
        have hall : (Tryd.f3.params.toList.all fun t => Tryd.prog.wantsStandIn t == false) = true := by kernel_rfl
        have hm : t ∈ Tryd.f3.params.toList := by
          rw [Array.mem_toList_iff]
          exact Array.mem_of_getElem? ht
        exact (eq_of_beq (List.all_eq_true.1 hall t hm) : Tryd.prog.wantsStandIn t = false)⟩)
    (by kernel_rfl)
end RKeyReads

/-- The card. -/
theorem keyReads_holds : Rows.KeyReadsCardSaid := RKeyReads.card
#print axioms keyReads_holds
end Go.Proofs.YtgcicljklejmjaaDoor
