import Derived.Test.YtijcleiekafoiaaGreatDoorMw04
import Derived.Test.YtijcleiekafoiaaGreatDoorMb15
import Derived.Test.YtijcleiekafoiaaGreatDoorMb16
import Derived.Test.YtijcleiekafoiaaGreatDoorMw03
import Derived.Test.YtijcleiekafoiaaGreatDoorMb21
import Derived.Test.YtijcleiekafoiaaGreatDoorRows
import Derived.Test.YtijcleiekafoiaaGreatDoorCards
import Derived.Test.YtijcleiekafoiaaGreatDoorTie
import Derived.Test.YtijcleiekafoiaaGreatDoorMb22
import Derived.Test.YtijcleiekafoiaaGreatDoorMb06
import Derived.WalkKit
import Derived.ProofKit
import Derived.OpenShut
import Derived.ChangeOld
import Derived.Below
import Derived.SizedLaws
import Derived.Lib.LaidIn
import Derived.Lib.LaidU8T
import Derived.Deep.DeepHandedRow
import Derived.Deep.DeepWitnessRowRef
import Derived.SevenTiedAt

/- WholeValue, WholeValues, WholeField, WholeFields: what was lent is as it was. Printed by mkwholev.py. -/
namespace Go.Proofs.YtijcleiekafoiaaGreatDoor
open Go.RowKit
open Tr

/-- What the lists need of WholeValue. -/
def WholeOk (y : Tr Mm) : Prop := ∀ (x : Tr Mm) (lo : Nat) (w : World), LT lo w y → Tr.Good w y → Tr.Good w x → bare y = bare x → Calls Tryz.prog 9 #[y.agg, x.agg] w fun e w' => e = .returned (.bool true) ∧ Fr no w w'
def WholeFOk (q : List UInt8 × Tr Mm) : Prop := ∀ (p : List UInt8 × Tr Mm) (lo : Nat) (w : World), LT lo w q.2 → Tr.Good w q.2 → Tr.Good w p.2 → (q.1, bare q.2) = (p.1, bare p.2) → Calls Tryz.prog 81 #[fagg q, fagg p] w fun e w' => e = .returned (.bool true) ∧ Fr no w w'
theorem map_at {α β γ : Type} {f : α → γ} {h : β → γ} {l : List α} {k : List β} (e : l.map f = k.map h) (j : Nat) (h1 : j < l.length) (h2 : j < k.length) : f l[j] = h k[j] := by
  have := congrArg (fun t => t[j]?) e
  simpa only [List.getElem?_map, List.getElem?_eq_getElem h1, List.getElem?_eq_getElem h2, Option.map_some, Option.some.injEq] using this

set_option maxRecDepth 100000 in
set_option maxHeartbeats 4000000 in
theorem wholevs_of (ys l : List (Tr Mm)) (ih : ∀ y ∈ ys, WholeOk y) (lo g : Nat) (w : World) (V Y : Value) (hr : LRow lo w 27 7 V ys.length (ys.flatMap cells) markV g) (hv : In w V ys) (hy : In w Y l) (hlt : ∀ y ∈ ys, LT lo w y) (hb : ys.map bare = l.map bare) :
    Calls Tryz.prog 31 #[V, Y] w fun e w' => e = .returned (.bool true) ∧ Fr no w w' := by
  obtain ⟨B, d, rfl, hd1, hd2⟩ := hy.sl.form
  obtain rfl := hr.v
  have hnl : ys.length ≤ 140737488351232 := hv.n
  have hnk : l.length ≤ 140737488351232 := hy.n
  have hlen : ys.length = l.length := by have := congrArg List.length hb; simpa using this
  have gb : ((ys.length : Int) != (l.length : Int)) = false := by rw [hlen]; simp
  have hmk : w.cell? ⟨g, ys.length * 7 + 2, none⟩ = some (.int .i64 (-777)) := hr.cell 2 _ rfl
  have hgl : g < w.heap.size := hr.ow.lt g rfl
  have HV := Lib.hid hv; have HY := Lib.hid hy; have IH := Lib.hid ih; have HLT := Lib.hid hlt; have HB := Lib.hid hb; have HLEN := Lib.hid hlen
  clear hv hy ih hlt hb hlen hr hd1 hd2
  go_enter Tryz.func31, Tryz.ntmps31
  go_wp2
  clear hmk hgl gb
  go_loopw [5] (fun i wr => ∃ j : Nat, j ≤ l.length ∧ i = .int .i64 j ∧ Fr no w wr) (fun i _ => l.length - (intOf i).toNat)
  case atStart => exact ⟨0, Nat.zero_le _, rfl, Fr.refl _ _⟩
  case round =>
    obtain ⟨j, hj, rfl, hfr⟩ := hrel
    by_cases hlt : j < l.length
    · have hlt2 : j < ys.length := by have := HLEN.out; omega
      have hX := HV.out.kept0 hfr
      have hY := HY.out.kept0 hfr
      obtain ⟨b, o, KB, kb, KL, kl, KF, kf, hgo, hfj, q0, q1, q2, q3, q4, q5, q6, hgl⟩ := In.get hX j hlt2
      simp only [Option.some.injEq, Addr.mk.injEq, and_true] at hgo
      obtain ⟨rfl, rfl⟩ := hgo
      obtain ⟨b', o', LB, lb, LL, ll, LF, lf, rfl, hfj', r0, r1, r2, r3, r4, r5, r6, hgl'⟩ := In.get hY j hlt
      have hcall := fun W (f : Fr no wr W) => IH.out ys[j] (List.getElem_mem _) l[j] lo W ((HLT.out ys[j] (List.getElem_mem _)).kept0 (hfr.trans f (fun _ _ h => h))) ((hX.good _ (List.getElem_mem _)).kept0 f) ((hY.good _ (List.getElem_mem _)).kept0 f) (map_at HB.out j hlt2 hlt)
      rw [hfj.agg, hfj'.agg] at hcall
      have HC := Lib.hid hcall; have HFR := Lib.hid hfr
      simp only [Nat.zero_add] at q0 r0 q1 r1 q2 r2 q3 r3 q4 r4 q5 r5 q6 r6
      clear hcall hfr hX hY hfj hfj'
      go_wp2_with fail
      refine wp_region_ord (List.range 10) (fun i => [Kd.p, Kd.p, Kd.p, Kd.l, Kd.p, Kd.p, Kd.p, Kd.l, Kd.g, Kd.p].getD i .e) (by kernel_rfl) (by kernel_rfl) ?_
      iterate 8
        first | refine wpX_pu rfl rfl rfl (by first | exact pu_move rfl | exact pu_assign rfl | exact pu_nilCheck rfl rfl | exact pu_binInt rfl rfl rfl | exact pu_conv rfl rfl (by kernel_rfl) | exact pu_fld rfl (by kernel_rfl) | exact pu_ix rfl rfl rfl (by kernel_rfl) | exact pu_unOp rfl | exact pu_binStr rfl rfl rfl | exact pu_len rfl rfl | exact pu_lens rfl rfl | exact pu_pick rfl | exact pu_slice rfl rfl) (fun K hK => ?_) | refine wpX_rd rfl rfl rfl (rd_load rfl) (fun K hK => ?_) | refine wpX_gr rfl rfl rfl (by first | exact gr_buildSlice rfl | exact gr_box rfl | exact gr_alloc rfl) (fun K hK => ?_) | refine wpX_ex rfl rfl rfl (fun K hK => ?_)
        try go_wp2
      refine wpX_ca rfl rfl rfl (fun K hK => ?_)
      go_wp2_with fail
      refine (HC.out _ (by (repeat first | exact Fr.refl _ _ | exact Fr.drewN _ _ _ | apply Fr.drew | apply Fr.alloc | apply Fr.setAt | apply Fr.moreN))).mono ?_
      rintro e w5 ⟨rfl, fy⟩
      have FY0 := Lib.hid fy; have FY := Lib.hid ((by (repeat first | exact Fr.refl _ _ | exact Fr.drewN _ _ _ | apply Fr.drew | apply Fr.alloc | apply Fr.setAt | apply Fr.moreN) : Fr no wr _).trans fy (fun _ _ h => h))
      clear fy
      go_wp2
      obtain ⟨⟨xa, xb⟩, hext⟩ := FY0.out.ext
      refine ⟨⟨xa, xb, hext⟩, hK _ _ ?_⟩
      clear hK K hext xa xb
      first | refine wpX_pu rfl rfl rfl (by first | exact pu_move rfl | exact pu_assign rfl | exact pu_nilCheck rfl rfl | exact pu_binInt rfl rfl rfl | exact pu_conv rfl rfl (by kernel_rfl) | exact pu_fld rfl (by kernel_rfl) | exact pu_ix rfl rfl rfl (by kernel_rfl) | exact pu_unOp rfl | exact pu_binStr rfl rfl rfl | exact pu_len rfl rfl | exact pu_lens rfl rfl | exact pu_pick rfl | exact pu_slice rfl rfl) (fun K hK => ?_) | refine wpX_rd rfl rfl rfl (rd_load rfl) (fun K hK => ?_) | refine wpX_gr rfl rfl rfl (by first | exact gr_buildSlice rfl | exact gr_box rfl | exact gr_alloc rfl) (fun K hK => ?_) | refine wpX_ex rfl rfl rfl (fun K hK => ?_)
      try go_wp2
      refine wpX_done ?_
      clear q0 r0 q1 r1 q2 r2 q3 r3 q4 r4 q5 r5 q6 r6 hgl hgl'
      go_wp2
      go_roundw
      case rel => exact ⟨j + 1, by omega, by go_num, HFR.out.trans FY.out (fun _ _ h => h)⟩
      case measure => simp [intOf]; omega
    · obtain rfl : j = l.length := by omega
      have HFR := Lib.hid hfr; clear hfr
      go_wp2
      go_ret
      exact ⟨rfl, HFR.out⟩
set_option maxRecDepth 100000 in
set_option maxHeartbeats 4000000 in
theorem wholefs_of (ys l : List (List UInt8 × Tr Mm)) (ih : ∀ y ∈ ys, WholeFOk y) (lo g : Nat) (w : World) (V Y : Value) (hr : LRow lo w 87 8 V ys.length (ys.flatMap fcells) markF g) (hv : InF w V ys) (hy : InF w Y l) (hlt : ∀ y ∈ ys, LT lo w y.2) (hb : ys.map (fun p : List UInt8 × Tr Mm => (p.1, bare p.2)) = l.map (fun p : List UInt8 × Tr Mm => (p.1, bare p.2))) :
    Calls Tryz.prog 32 #[V, Y] w fun e w' => e = .returned (.bool true) ∧ Fr no w w' := by
  obtain ⟨B, d, rfl, hd1, hd2⟩ := hy.sl.form
  obtain rfl := hr.v
  have hnl : ys.length ≤ 140737488351232 := hv.n
  have hnk : l.length ≤ 140737488351232 := hy.n
  have hlen : ys.length = l.length := by have := congrArg List.length hb; simpa using this
  have gb : ((ys.length : Int) != (l.length : Int)) = false := by rw [hlen]; simp
  have hmk : w.cell? ⟨g, ys.length * 8 , none⟩ = some (.string ⟨#[116, 104, 101, 32, 111, 119, 110, 101, 114, 39, 115]⟩) := hr.cell 0 _ rfl
  have hgl : g < w.heap.size := hr.ow.lt g rfl
  have HV := Lib.hid hv; have HY := Lib.hid hy; have IH := Lib.hid ih; have HLT := Lib.hid hlt; have HB := Lib.hid hb; have HLEN := Lib.hid hlen
  clear hv hy ih hlt hb hlen hr hd1 hd2
  go_enter Tryz.func32, Tryz.ntmps32
  go_wp2
  clear hmk hgl gb
  go_loopw [5] (fun i wr => ∃ j : Nat, j ≤ l.length ∧ i = .int .i64 j ∧ Fr no w wr) (fun i _ => l.length - (intOf i).toNat)
  case atStart => exact ⟨0, Nat.zero_le _, rfl, Fr.refl _ _⟩
  case round =>
    obtain ⟨j, hj, rfl, hfr⟩ := hrel
    by_cases hlt : j < l.length
    · have hlt2 : j < ys.length := by have := HLEN.out; omega
      have hX := HV.out.kept0 hfr
      have hY := HY.out.kept0 hfr
      obtain ⟨b, o, KB, kb, KL, kl, KF, kf, hgo, hfj, q0, q1, q2, q3, q4, q5, q6, q7, hgl⟩ := InF.get hX j hlt2
      simp only [Option.some.injEq, Addr.mk.injEq, and_true] at hgo
      obtain ⟨rfl, rfl⟩ := hgo
      obtain ⟨b', o', LB, lb, LL, ll, LF, lf, rfl, hfj', r0, r1, r2, r3, r4, r5, r6, r7, hgl'⟩ := InF.get hY j hlt
      have hcall := fun W (f : Fr no wr W) => IH.out ys[j] (List.getElem_mem _) l[j] lo W ((HLT.out ys[j] (List.getElem_mem _)).kept0 (hfr.trans f (fun _ _ h => h))) ((hX.good _ (List.getElem_mem _)).kept0 f) ((hY.good _ (List.getElem_mem _)).kept0 f) (map_at HB.out j hlt2 hlt)
      unfold fagg at hcall
      rw [hfj.B, hfj.L, hfj.F, hfj'.B, hfj'.L, hfj'.F] at hcall
      have HC := Lib.hid hcall; have HFR := Lib.hid hfr
      simp only [Nat.zero_add] at q0 r0 q1 r1 q2 r2 q3 r3 q4 r4 q5 r5 q6 r6 q7 r7
      clear hcall hfr hX hY hfj hfj'
      go_wp2_with fail
      refine wp_region_ord (List.range 10) (fun i => [Kd.p, Kd.p, Kd.p, Kd.l, Kd.p, Kd.p, Kd.p, Kd.l, Kd.g, Kd.p].getD i .e) (by kernel_rfl) (by kernel_rfl) ?_
      iterate 8
        first | refine wpX_pu rfl rfl rfl (by first | exact pu_move rfl | exact pu_assign rfl | exact pu_nilCheck rfl rfl | exact pu_binInt rfl rfl rfl | exact pu_conv rfl rfl (by kernel_rfl) | exact pu_fld rfl (by kernel_rfl) | exact pu_ix rfl rfl rfl (by kernel_rfl) | exact pu_unOp rfl | exact pu_binStr rfl rfl rfl | exact pu_len rfl rfl | exact pu_lens rfl rfl | exact pu_pick rfl | exact pu_slice rfl rfl) (fun K hK => ?_) | refine wpX_rd rfl rfl rfl (rd_load rfl) (fun K hK => ?_) | refine wpX_gr rfl rfl rfl (by first | exact gr_buildSlice rfl | exact gr_box rfl | exact gr_alloc rfl) (fun K hK => ?_) | refine wpX_ex rfl rfl rfl (fun K hK => ?_)
        try go_wp2
      refine wpX_ca rfl rfl rfl (fun K hK => ?_)
      go_wp2_with fail
      refine (HC.out _ (by (repeat first | exact Fr.refl _ _ | exact Fr.drewN _ _ _ | apply Fr.drew | apply Fr.alloc | apply Fr.setAt | apply Fr.moreN))).mono ?_
      rintro e w5 ⟨rfl, fy⟩
      have FY0 := Lib.hid fy; have FY := Lib.hid ((by (repeat first | exact Fr.refl _ _ | exact Fr.drewN _ _ _ | apply Fr.drew | apply Fr.alloc | apply Fr.setAt | apply Fr.moreN) : Fr no wr _).trans fy (fun _ _ h => h))
      clear fy
      go_wp2
      obtain ⟨⟨xa, xb⟩, hext⟩ := FY0.out.ext
      refine ⟨⟨xa, xb, hext⟩, hK _ _ ?_⟩
      clear hK K hext xa xb
      first | refine wpX_pu rfl rfl rfl (by first | exact pu_move rfl | exact pu_assign rfl | exact pu_nilCheck rfl rfl | exact pu_binInt rfl rfl rfl | exact pu_conv rfl rfl (by kernel_rfl) | exact pu_fld rfl (by kernel_rfl) | exact pu_ix rfl rfl rfl (by kernel_rfl) | exact pu_unOp rfl | exact pu_binStr rfl rfl rfl | exact pu_len rfl rfl | exact pu_lens rfl rfl | exact pu_pick rfl | exact pu_slice rfl rfl) (fun K hK => ?_) | refine wpX_rd rfl rfl rfl (rd_load rfl) (fun K hK => ?_) | refine wpX_gr rfl rfl rfl (by first | exact gr_buildSlice rfl | exact gr_box rfl | exact gr_alloc rfl) (fun K hK => ?_) | refine wpX_ex rfl rfl rfl (fun K hK => ?_)
      try go_wp2
      refine wpX_done ?_
      clear q0 r0 q1 r1 q2 r2 q3 r3 q4 r4 q5 r5 q6 r6 q7 r7 hgl hgl'
      go_wp2
      go_roundw
      case rel => exact ⟨j + 1, by omega, by go_num, HFR.out.trans FY.out (fun _ _ h => h)⟩
      case measure => simp [intOf]; omega
    · obtain rfl : j = l.length := by omega
      have HFR := Lib.hid hfr; clear hfr
      go_wp2
      go_ret
      exact ⟨rfl, HFR.out⟩

set_option maxRecDepth 100000 in
set_option maxHeartbeats 2000000 in
theorem wholef_of (q : List UInt8 × Tr Mm) (ih : WholeOk q.2) : WholeFOk q := by
  obtain ⟨m, y⟩ := q
  intro p lo w hlt hy hx hb
  obtain ⟨n, x⟩ := p
  simp only [Prod.mk.injEq] at hb
  obtain ⟨rfl, hb⟩ := hb
  obtain ⟨BB, bd, LB, ld, FB, fd, hg⟩ := hy.node.forms
  obtain ⟨BA, bc, LA, lc, FA, fc, hf⟩ := hx.node.forms
  have hcall := fun W (f : Fr no w W) => ih x lo W (hlt.kept0 f) (hy.kept0 f) (hx.kept0 f) hb
  simp only at hf hg hcall
  rw [hf.agg, hg.agg] at hcall
  unfold fagg
  simp only
  rw [hf.B, hf.L, hf.F, hg.B, hg.L, hg.F]
  have gs := strs_same (rfl : m = m)
  have HC := Lib.hid hcall
  clear hx hy ih hf hg hcall hb hlt
  go_enter Tryz.func81, Tryz.ntmps81
  go_wp2_with fail
  refine (HC.out _ (by (repeat first | exact Fr.refl _ _ | exact Fr.drewN _ _ _ | apply Fr.drew | apply Fr.alloc | apply Fr.setAt | apply Fr.moreN))).mono ?_
  rintro e w5 ⟨rfl, fy⟩
  have FY := Lib.hid ((by (repeat first | exact Fr.refl _ _ | exact Fr.drewN _ _ _ | apply Fr.drew | apply Fr.alloc | apply Fr.setAt | apply Fr.moreN) : Fr no w _).trans fy (fun _ _ h => h))
  clear fy
  go_wp2
  go_ret
  exact ⟨rfl, FY.out⟩

set_option maxRecDepth 100000 in
set_option maxHeartbeats 4000000 in
theorem wholev_any (y : Tr Mm) : WholeOk y := by
  induction y using Tr.ind with
  | h y ih =>
    intro x lo w hlt hy hx hb
    obtain ⟨e1, e2, e3, e4, e5, e6, e7⟩ := (bare_same y x).1 hb
    obtain ⟨BA, bc, LA, lc, FA, fc, hf⟩ := hx.node.forms
    obtain ⟨gB, gL, gF, a, b, c, d, e⟩ := hlt.opened
    have hnb : x.bs.length ≤ 140737488351232 := hx.node.bs
    rw [e5] at c
    have hBc := fun W (f : Fr no w W) => whole_lent W gB _ x.bs x.bs (c.kept f (fun h => h)) (hx.kept0 f).node.B hnb hnb
    have hLc := fun W (f : Fr no w W) => wholevs_of y.l x.l (fun z hz => ih z (List.mem_append_left _ hz)) lo gL W _ _ (d.kept f (fun _ _ h => h)) (hy.kept0 f).inL (hx.kept0 f).inL (fun z hz => (hlt.l z hz).kept0 f) e6
    have hFc := fun W (f : Fr no w W) => wholefs_of y.f x.f (fun q hq => wholef_of q (ih q.2 (List.mem_append_right _ (List.mem_map_of_mem hq)))) lo gF W _ _ (e.kept f (fun _ _ h => h)) (hy.kept0 f).inF (hx.kept0 f).inF (fun q hq => (hlt.f q hq).kept0 f) e7
    have hya : y.agg = .agg #[.int .u8 x.k.toNat, .bool x.b, .int .i64 x.i, .string ⟨x.t.toArray⟩, .slice (some ⟨gB, 0, none⟩) x.bs.length (x.bs.length + 2), .slice (some ⟨gL, 0, none⟩) y.l.length (y.l.length + 1), .slice (some ⟨gF, 0, none⟩) y.f.length (y.f.length + 1)] := by unfold Tr.agg; rw [a, d.v, e.v, e1, e2, e3, e4, e5]
    rw [hf.B] at hBc; rw [hf.L, d.v] at hLc; rw [hf.F, e.v] at hFc
    rw [hf.agg, hya]
    have gs := strs_same (rfl : x.t = x.t)
    have HB := Lib.hid hBc; have HL := Lib.hid hLc; have HF := Lib.hid hFc
    clear hBc hLc hFc hf hya a b c d e e1 e2 e3 e4 e5 e6 e7 hx hy ih hlt hb
    go_enter Tryz.func9, Tryz.ntmps9
    go_wp2_with fail
    refine (HB.out _ (by (repeat first | exact Fr.refl _ _ | exact Fr.drewN _ _ _ | apply Fr.drew | apply Fr.alloc | apply Fr.setAt | apply Fr.moreN))).mono ?_
    rintro e w1 ⟨rfl, n1, hw1⟩
    have f1 := (by (repeat first | exact Fr.refl _ _ | exact Fr.drewN _ _ _ | apply Fr.drew | apply Fr.alloc | apply Fr.setAt | apply Fr.moreN) : Fr no w ((w.alloc (.cells #[.int .u8 x.k.toNat, .bool x.b, .int .i64 x.i, .string ⟨x.t.toArray⟩, .slice (some ⟨gB, 0, none⟩) x.bs.length (x.bs.length + 2), .slice (some ⟨gL, 0, none⟩) y.l.length (y.l.length + 1), .slice (some ⟨gF, 0, none⟩) y.f.length (y.f.length + 1)] 27)).alloc (.cells #[.int .u8 x.k.toNat, .bool x.b, .int .i64 x.i, .string ⟨x.t.toArray⟩, .slice BA x.bs.length bc, .slice LA x.l.length lc, .slice FA x.f.length fc] 27))).moreN n1
    rw [← hw1] at f1
    have hA := f1
    have h2 := ((Fr.refl no ((w.alloc (.cells #[.int .u8 x.k.toNat, .bool x.b, .int .i64 x.i, .string ⟨x.t.toArray⟩, .slice (some ⟨gB, 0, none⟩) x.bs.length (x.bs.length + 2), .slice (some ⟨gL, 0, none⟩) y.l.length (y.l.length + 1), .slice (some ⟨gF, 0, none⟩) y.f.length (y.f.length + 1)] 27)).alloc (.cells #[.int .u8 x.k.toNat, .bool x.b, .int .i64 x.i, .string ⟨x.t.toArray⟩, .slice BA x.bs.length bc, .slice LA x.l.length lc, .slice FA x.f.length fc] 27))).moreN n1)
    rw [← hw1] at h2
    obtain ⟨k1, k2⟩ := two_allocs w (.cells #[.int .u8 x.k.toNat, .bool x.b, .int .i64 x.i, .string ⟨x.t.toArray⟩, .slice (some ⟨gB, 0, none⟩) x.bs.length (x.bs.length + 2), .slice (some ⟨gL, 0, none⟩) y.l.length (y.l.length + 1), .slice (some ⟨gF, 0, none⟩) y.f.length (y.f.length + 1)] 27) (.cells #[.int .u8 x.k.toNat, .bool x.b, .int .i64 x.i, .string ⟨x.t.toArray⟩, .slice BA x.bs.length bc, .slice LA x.l.length lc, .slice FA x.f.length fc] 27)
    have k3 := h2.heap k1 (fun h => h); have k4 := h2.heap k2 (fun h => h)
    have F1 := Lib.hid f1; have K3 := Lib.hid k3; have K4 := Lib.hid k4
    obtain ⟨r0, r1, r2, r3, r4, r5, r6, rz, rl⟩ := seven_cells k3
    obtain ⟨q0, q1, q2, q3, q4, q5, q6, qz, ql⟩ := seven_cells k4
    clear f1 hA h2 hw1 k1 k2 k3 k4
    simp only [decide_true]
    go_wp2_with fail
    refine (HL.out _ F1.out).mono ?_
    rintro e w2 ⟨rfl, f2⟩
    have k3 := f2.heap K3.out (fun h => h); have k4 := f2.heap K4.out (fun h => h)
    clear r0 r1 r2 r3 r4 r5 r6 rz rl q0 q1 q2 q3 q4 q5 q6 qz ql
    obtain ⟨r0, r1, r2, r3, r4, r5, r6, rz, rl⟩ := seven_cells k3
    obtain ⟨q0, q1, q2, q3, q4, q5, q6, qz, ql⟩ := seven_cells k4
    have F2 := Lib.hid (F1.out.trans f2 (fun _ _ h => h))
    clear f2 k3 k4
    go_wp2_with fail
    refine (HF.out _ F2.out).mono ?_
    rintro e w3 ⟨rfl, f3⟩
    have F3 := Lib.hid (F2.out.trans f3 (fun _ _ h => h))
    clear f3 r0 r1 r2 r3 r4 r5 r6 rz rl q0 q1 q2 q3 q4 q5 q6 qz ql
    go_wp2
    go_ret
    exact ⟨rfl, F3.out⟩
end Go.Proofs.YtijcleiekafoiaaGreatDoor

/- DocWrites: each value has the bytes that the chapter says, or is refused. -/
namespace Go.Proofs.YtijcleiekafoiaaGreatDoor
open Go.RowKit Go.Shelf
open Tr

/-- A value in its box. -/
def boxV (x : Tr Mm) (BA : Option Addr) (bc : Nat) (LA : Option Addr) (lc : Nat) (FA : Option Addr) (fc : Nat) : Obj :=
  .cells #[.int .u8 x.k.toNat, .bool x.b, .int .i64 x.i, .string ⟨x.t.toArray⟩, .slice BA x.bs.length bc, .slice LA x.l.length lc, .slice FA x.f.length fc] 27
def BookO : Obj := .cells #[.slice none 0 0, .slice none 0 0, .slice none 0 0, .slice none 0 0, .slice none 0 0, .slice none 0 0, .slice none 0 0, .slice none 0 0, .slice none 0 0, .slice none 0 0, .slice none 0 0, .slice none 0 0, .slice none 0 0, .slice none 0 0, .slice none 0 0, .slice none 0 0, .slice none 0 0, .slice none 0 0, .slice none 0 0, .slice none 0 0, .slice none 0 0, .slice none 0 0, .slice none 0 0] 63

set_option maxRecDepth 100000 in
set_option maxHeartbeats 8000000 in
theorem docwrites_any (w : World) (x : Tr Mm) (hx : Tr.Good w x) (hT : Tabs w) :
    Calls Tryz.prog 3 #[x.agg] w fun e w' => e = .returned (.bool true) ∧ Fr no w w' := by
  obtain ⟨BA, bc, LA, lc, FA, fc, hf⟩ := hx.node.forms
  have hag := hf.agg
  have hm := fun W (f : Fr no w W) => muchv_any W x (hx.kept0 f)
  have hlv := fun W (f : Fr no w W) => lentv_any x W (hx.kept0 f)
  have hr0 := heap_alloc_new w (boxV x BA bc LA lc FA fc)
  have hal := (Fr.refl no w).alloc (boxV x BA bc LA lc FA fc)
  unfold boxV at hr0 hal
  rw [hag] at hm hlv ⊢
  have HX := Lib.hid hx; have HT := Lib.hid hT; have HM := Lib.hid hm; have HLV := Lib.hid hlv; have HAG := Lib.hid hag; have HR0 := Lib.hid hr0; have HAL := Lib.hid hal
  clear hx hT hm hlv hf hag hr0 hal
  go_enter Tryz.func3, Tryz.ntmps3
  go_wp2_with fail
  generalize w.alloc (.cells #[.int .u8 x.k.toNat, .bool x.b, .int .i64 x.i, .string ⟨x.t.toArray⟩, .slice BA x.bs.length bc, .slice LA x.l.length lc, .slice FA x.f.length fc] 27) = w0 at HR0 HAL ⊢
  refine (HM.out w0 HAL.out).mono ?_
  rintro e w1 ⟨f1, b, rfl, hb⟩
  have F1 := Lib.hid (HAL.out.trans f1 (fun _ _ h => h)); have HR1 := Lib.hid (f1.heap HR0.out (fun h => h))
  clear f1 HR0
  cases b with
  | true =>
    go_wp2
    go_ret
    exact ⟨rfl, F1.out⟩
  | false =>
    have hwg := hb rfl
    have hdl := denc_len x HX.out
    have hpw := parts_wgt5 x
    have hnb : (denc x).length ≤ 100000000 ∧ parts x ≤ 1000000 := ⟨by omega, by omega⟩
    have HNB := Lib.hid hnb
    clear hb hwg hdl hpw hnb
    obtain ⟨q0, q1, q2, q3, q4, q5, q6, qz, ql⟩ := seven_cells HR1.out
    go_wp2_with fail
    refine (HLV.out w1 F1.out).mono ?_
    rintro e w2 ⟨y, rfl, hby, hly, f2⟩
    have hgy := hly.good hby (HX.out.kept0 F1.out)
    obtain ⟨YB, yb, YL, yl, YF, yf, hfy⟩ := hgy.node.forms
    have hay := hfy.agg
    have hdy : (denc y).length ≤ 900000000 := by rw [denc_of hby]; have := HNB.out.1; omega
    have henc := fun W (f : Fr no w2 W) => docenc_any W y (hgy.kept0 f) (HT.out.kept0 (F1.out.trans (f2.trans f (fun _ _ h => h)) (fun _ _ h => h))) hdy
    have hsiz := fun W (f : Fr no w2 W) => docsize_any W y (hgy.kept0 f) (HT.out.kept0 (F1.out.trans (f2.trans f (fun _ _ h => h)) (fun _ _ h => h))) hdy
    have hwho := fun W (f : Fr no w2 W) => wholev_any y x w1.heap.size W (hly.kept0 f) (hgy.kept0 f) (HX.out.kept0 (F1.out.trans (f2.trans f (fun _ _ h => h)) (fun _ _ h => h))) hby
    have hen5 := fun W (f : Fr no w2 W) => encode5_any W x (HX.out.kept0 (F1.out.trans (f2.trans f (fun _ _ h => h)) (fun _ _ h => h))) HNB.out.2 HNB.out.1
    have hsz5 := fun W (f : Fr no w2 W) => size5_any W x (HX.out.kept0 (F1.out.trans (f2.trans f (fun _ _ h => h)) (fun _ _ h => h))) HNB.out.2 HNB.out.1
    rw [hay, docErr_of hby, docBytes_of hby] at henc
    rw [hay, docSize_of hby] at hsiz
    rw [hay, HAG.out] at hwho
    rw [HAG.out] at hen5 hsz5
    rw [hay]
    obtain ⟨er, her⟩ : ∃ er, er = docErr x := ⟨_, rfl⟩
    obtain ⟨bs, hbs⟩ : ∃ bs, bs = docBytes x := ⟨_, rfl⟩
    obtain ⟨sz, hsz⟩ : ∃ sz, sz = docSize x := ⟨_, rfl⟩
    have hce : IntKind.i64.wrap (er : Int) = (er : Int) := err_i64 er (by rw [her]; have := docErr_le x; omega)
    have hbl : bs.length ≤ 8192 := by rw [hbs]; exact docBytes_len x
    rw [← her, ← hbs] at henc hen5
    rw [← hsz] at hsiz hsz5
    have he1 := ieq_self er; have he2 := ieq_self sz
    have HENC := Lib.hid henc; have HSIZ := Lib.hid hsiz; have HWHO := Lib.hid hwho; have HEN5 := Lib.hid hen5; have HSZ5 := Lib.hid hsz5; have HCE := Lib.hid hce; have HBL := Lib.hid hbl; have HE1 := Lib.hid he1; have HE2 := Lib.hid he2; have F2 := Lib.hid (F1.out.trans f2 (fun _ _ h => h)); have HR2 := Lib.hid (f2.heap HR1.out (fun h => h))
    clear henc hsiz hwho hen5 hsz5 her hbs hsz hce hbl hby hly hgy hfy hay hdy f2 he1 he2 HR1 q0 q1 q2 q3 q4 q5 q6 qz ql HM HLV
    have hrb := heap_alloc_new w2 (boxV y YB yb YL yl YF yf)
    have hal := (Fr.refl no w2).alloc (boxV y YB yb YL yl YF yf)
    unfold boxV at hrb hal
    have HRB := Lib.hid hrb; have HAL2 := Lib.hid hal
    clear hrb hal
    go_wp2_with fail
    generalize w2.alloc (.cells #[.int .u8 y.k.toNat, .bool y.b, .int .i64 y.i, .string ⟨y.t.toArray⟩, .slice YB y.bs.length yb, .slice YL y.l.length yl, .slice YF y.f.length yf] 27) = w3 at HRB HAL2 ⊢
    refine (HENC.out w3 HAL2.out).mono ?_
    rintro e w4 ⟨f4, A, n, rfl, hn, ho, hk⟩
    have F4 := Lib.hid (HAL2.out.trans f4 (fun _ _ h => h)); have F34 := Lib.hid f4; have HN := Lib.hid hn; have HO := Lib.hid ho; have HK := Lib.hid hk; have HRB4 := Lib.hid (f4.heap HRB.out (fun h => h))
    clear f4 hn ho hk
    obtain ⟨v0, v1, v2, v3, v4, v5, v6, vz, vl⟩ := seven_cells HRB4.out
    go_wp2_with fail
    refine (HENC.out w4 F4.out).mono ?_
    rintro e w5 ⟨f5, B, m, rfl, hm, ho2, hk2⟩
    have F5 := Lib.hid (F4.out.trans f5 (fun _ _ h => h)); have F45 := Lib.hid f5; have HM2 := Lib.hid hm; have HO2 := Lib.hid ho2; have HK2 := Lib.hid hk2; have HRB5 := Lib.hid (f5.heap HRB4.out (fun h => h))
    clear f5 hm ho2 hk2 v0 v1 v2 v3 v4 v5 v6 vz vl HENC
    obtain ⟨v0, v1, v2, v3, v4, v5, v6, vz, vl⟩ := seven_cells HRB5.out
    go_wp2_with fail
    refine (HSIZ.out w5 F5.out).mono ?_
    rintro e w6 ⟨f6, rfl⟩
    have F6 := Lib.hid (F5.out.trans f6 (fun _ _ h => h)); have F56 := Lib.hid f6; have HRB6 := Lib.hid (f6.heap HRB5.out (fun h => h))
    clear f6 v0 v1 v2 v3 v4 v5 v6 vz vl HSIZ
    obtain ⟨v0, v1, v2, v3, v4, v5, v6, vz, vl⟩ := seven_cells HRB6.out
    obtain ⟨q0, q1, q2, q3, q4, q5, q6, qz, ql⟩ := seven_cells (F6.out.heap HR2.out (fun h => h))
    go_wp2_with fail
    refine (HWHO.out w6 F6.out).mono ?_
    rintro e w7 ⟨rfl, f7⟩
    have F7 := Lib.hid (F6.out.trans f7 (fun _ _ h => h)); have F57 := Lib.hid (F56.out.trans f7 (fun _ _ h => h))
    clear f7 v0 v1 v2 v3 v4 v5 v6 vz vl q0 q1 q2 q3 q4 q5 q6 qz ql HWHO
    obtain ⟨q0, q1, q2, q3, q4, q5, q6, qz, ql⟩ := seven_cells (F7.out.heap HR2.out (fun h => h))
    go_wp2_with fail
    refine (HEN5.out w7 F7.out).mono ?_
    rintro e w8 ⟨f8, C, k, c, rfl, hnb⟩
    have F8 := Lib.hid (F7.out.trans f8 (fun _ _ h => h)); have F58 := Lib.hid (F57.out.trans f8 (fun _ _ h => h)); have HNB5 := Lib.hid hnb
    clear f8 hnb q0 q1 q2 q3 q4 q5 q6 qz ql HEN5
    have hrk := heap_alloc_new w8 BookO
    have halk := (Fr.refl no w8).alloc BookO
    have hszk : (w8.alloc BookO).heap.size = w8.heap.size + 1 := World.size_alloc _ _
    unfold BookO at hrk halk hszk
    go_wp2_with fail
    generalize w8.alloc (.cells #[.slice none 0 0, .slice none 0 0, .slice none 0 0, .slice none 0 0, .slice none 0 0, .slice none 0 0, .slice none 0 0, .slice none 0 0, .slice none 0 0, .slice none 0 0, .slice none 0 0, .slice none 0 0, .slice none 0 0, .slice none 0 0, .slice none 0 0, .slice none 0 0, .slice none 0 0, .slice none 0 0, .slice none 0 0, .slice none 0 0, .slice none 0 0, .slice none 0 0, .slice none 0 0] 63) = w9 at hrk halk hszk ⊢
    have hbc := bcv_nil hrk
    have HBC := Lib.hid hbc; have F89 := Lib.hid halk; have HSK := Lib.hid hszk
    clear hrk halk hszk hbc
    have hs48 : w4.heap.size ≤ w8.heap.size := by have h1 := F45.out.size; have h2 := F58.out.size; omega
    have hs58 := F58.out.size
    have hs4 := F34.out.size
    have HSS := Lib.hid (And.intro hs48 hs58)
    clear hs48 hs58 hs4
    have hoA : Ow w8 5 1 (.slice A n n) n (bvs bs) := (HO.out.kept0 F45.out).kept0 F58.out
    have hoB : Ow w8 5 1 (.slice B m m) m (bvs bs) := HO2.out.kept0 F58.out
    refine (bc_bytes w9 w8.heap.size V0 R0 A _ n HBC.out (by simp) ⟨n, bvs bs, by show n ≤ 140737488351232; have := HN.out; have := HBL.out; omega, hoA.kept0 F89.out⟩ (fun k hk h => by
      have h1 := HO.out.lt k hk; have h2 := bcf_nil h; have h3 := HSS.out.1; omega)).mono ?_
    rintro e w10 ⟨rfl, V1, R1, g1⟩
    have G1 := Lib.hid g1; have FA10 := Lib.hid (g1.fr0 F89.out rfl)
    have HOA := Lib.hid hoA; have HOB := Lib.hid hoB
    clear g1 hoA hoB
    go_wp2_with fail
    refine (bc_bytes w10 w8.heap.size V1 R1 B _ m G1.out.bc (by have := G1.out.len0 0; omega) ⟨m, bvs bs, by show m ≤ 140737488351232; have := HM2.out; have := HBL.out; omega, HOB.out.kept0 FA10.out⟩ (fun k hk => G1.out.far (by have := HSK.out; omega) (by have h1 := HO2.out.lt k hk; have h2 := HSS.out.2; omega) (fun hN => by have h1 := HO.out.lt k hN; have h2 := HK2.out k hk; omega))).mono ?_
    rintro e w11 ⟨rfl, V2, R2, g2⟩
    have g12 := G1.out.trans (Fr.refl _ _) g2
    have G2 := Lib.hid g12; have F811 := Lib.hid (g12.fr0 F89.out rfl)
    clear g2 g12
    go_wp2_with fail
    refine (known5_any w11 (HT.out.kept0 (F2.out.trans (F8.out.trans F811.out (fun _ _ h => h)) (fun _ _ h => h)))).mono ?_
    rintro e w12 ⟨rfl, f12⟩
    have F812 := Lib.hid (F811.out.trans f12 (fun _ _ h => h)); have F1112 := Lib.hid f12
    clear f12
    have hce := HCE.out; have he1 := HE1.out; have he2 := HE2.out
    obtain ⟨q0, q1, q2, q3, q4, q5, q6, qz, ql⟩ := seven_cells ((F8.out.trans F812.out (fun _ _ h => h)).heap HR2.out (fun h => h))
    go_wp2_with fail
    refine (HSZ5.out w12 (F8.out.trans F812.out (fun _ _ h => h))).mono ?_
    rintro e w13 ⟨f13, rfl⟩
    have F813 := Lib.hid (F812.out.trans f13 (fun _ _ h => h)); have F1113 := Lib.hid (F1112.out.trans f13 (fun _ _ h => h))
    clear f13 q0 q1 q2 q3 q4 q5 q6 qz ql HSZ5
    have hsm1 := fun W (f : Fr no w8 W) => same_any W (.slice A n n) (.slice C k c) bs bs (by rw [← HN.out]; exact (HOA.out.kept0 f).sl) (by rw [← HNB5.out.len]; exact (HNB5.out.ow.kept0 f).sl) (by have := HBL.out; omega) (by have := HBL.out; omega)
    have hsm2 := fun W (f : Fr no w8 W) => same_any W (.slice B m m) (.slice C k c) bs bs (by rw [← HM2.out]; exact (HOB.out.kept0 f).sl) (by rw [← HNB5.out.len]; exact (HNB5.out.ow.kept0 f).sl) (by have := HBL.out; omega) (by have := HBL.out; omega)
    have HS1 := Lib.hid hsm1; have HS2 := Lib.hid hsm2
    clear hsm1 hsm2
    go_wp2_with fail
    refine (HS1.out w13 F813.out).mono ?_
    rintro e w14 ⟨rfl, n14, hw14⟩
    first | rw [decide_eq_true (rfl : bs = bs)] | simp only [decide_true]
    have f14 : Fr no w13 w14 := by rw [hw14]; exact Fr.drewN _ _ _
    have F814 := Lib.hid (F813.out.trans f14 (fun _ _ h => h)); have F1114 := Lib.hid (F1113.out.trans f14 (fun _ _ h => h))
    clear hw14 f14
    go_wp2_with fail
    refine (HS2.out w14 F814.out).mono ?_
    rintro e w15 ⟨rfl, n15, hw15⟩
    first | rw [decide_eq_true (rfl : bs = bs)] | simp only [decide_true]
    have f15 : Fr no w14 w15 := by rw [hw15]; exact Fr.drewN _ _ _
    have F815 := Lib.hid (F814.out.trans f15 (fun _ _ h => h)); have F1115 := Lib.hid (F1114.out.trans f15 (fun _ _ h => h))
    clear hw15 f15
    go_wp2_with fail
    refine (bc_own w15 w8.heap.size V2 R2 (G2.out.bc.kept0 F1115.out) (fun i => by have h1 := G2.out.len0 i; omega)).mono ?_
    rintro e w16 ⟨rfl, f16⟩
    have F16 := Lib.hid f16
    clear f16
    go_wp2
    go_ret
    refine ⟨rfl, Fr.since (F2.out.trans (F8.out.trans F815.out (fun _ _ h => h)) (fun _ _ h => h)) F16.out (fun j hj => ?_)⟩
    obtain ⟨j1, _, hj⟩ := hj
    have h0 := F2.out.size
    have h1 := HAL2.out.size
    have h2 := F4.out.size
    have h3 := F8.out.size
    have h4 := HSK.out
    have h5 := F34.out.size
    rcases G2.out.more j (.inr (.inr ⟨j1, hj⟩)) with h | h | h
    · have := bcf_nil h; omega
    · rcases h with h | h
      · have := HK.out j h; omega
      · have := HK2.out j h; omega
    · omega
end Go.Proofs.YtijcleiekafoiaaGreatDoor

/- DocWrites holds, for every input; its tied card. No condition but what its row lists. -/
namespace Go.Proofs.YtijcleiekafoiaaGreatDoor
open Go.ChangeShapes Go.WideShapes Go.ChangeAt Go.RowKit Go.Shelf
namespace RDocWrites
theorem own : ownKnob Tryz.prog.godebug = none := by kernel_rfl
theorem laidOut : laidOutB Tryz.prog = true := by kernel_rfl

/-- A world in which the two tables lie. -/
noncomputable def laidWorld (os : Os) : World :=
  let w0 := World.holding Tryz.prog os ⟨#[], #[], []⟩
  let put (h : Array Obj) (g : Nat) (cs : Array Value) : Array Obj := h.modify g fun
    | .cells _ t frozen => .cells cs t frozen
    | o => o
  let h1 := put w0.heap 0 (Lib.firstTab.map fun z => Value.int .u8 z).toArray
  let h2 := put h1 1 ((List.range 16).flatMap fun i => [Value.int .u8 (Lib.accLo i), Value.int .u8 (Lib.accHi i)]).toArray
  { w0 with heap := h2 }
theorem laid_met (os : Os) (args : Array Value) : laidMet Tryz.prog Rows.docWritesRow.laid ((laidWorld os).forCall (fun _ _ => 0) ⟨#[], args, []⟩).memory :=
  (LaidIn.of_run (l := [("unicode/utf8.acceptRanges", Rows.laid_unicode_utf8_acceptRanges), ("unicode/utf8.first", Rows.laid_unicode_utf8_first)]) [0, 1] 8 (by kernel_rfl) (by kernel_rfl) (by kernel_rfl) (by kernel_rfl)).met

theorem witness_row (os : Os) {H : Type} (enc : TypeId × Value → H) :
    (OpenSpec.ofChange Rows.docWritesSpec).preRow enc Tryz.prog Tryz.f3 Rows.docWritesRow.domain false Rows.docWritesRow.laid ((laidWorld os).forCall (fun _ _ => 0) ⟨#[], #[.agg #[.int .u8 0, .bool false, .int .i64 0, .string ⟨#[]⟩, .slice none 0 0, .slice none 0 0, .slice none 0 0]], []⟩).memory #[.agg #[.int .u8 0, .bool false, .int .i64 0, .string ⟨#[]⟩, .slice none 0 0, .slice none 0 0, .slice none 0 0]] := by
  have hw : (DataW.whole enc Tryz.prog ((laidWorld os).forCall (fun _ _ => 0) ⟨#[], #[.agg #[.int .u8 0, .bool false, .int .i64 0, .string ⟨#[]⟩, .slice none 0 0, .slice none 0 0, .slice none 0 0]], []⟩).memory Tryz.f3.params.toList (OpenSpec.ofChange Rows.docWritesSpec).vars false #[.agg #[.int .u8 0, .bool false, .int .i64 0, .string ⟨#[]⟩, .slice none 0 0, .slice none 0 0, .slice none 0 0]].toList 8).map (fun x => (x.1, x.2.1)) = some ([.agg [.lit (.int .u8 0), .lit (.bool false), .lit (.int .i64 0), .lit (.string []), .nil, .nil, .nil]], []) := by kernel_rfl
  obtain ⟨⟨x1, x2, x3⟩, hx, hx1⟩ := Option.map_eq_some_iff.1 hw
  simp only [Prod.mk.injEq] at hx1
  obtain ⟨rfl, rfl⟩ := hx1
  exact OpenSpec.preRow_of_cond 8 hx (by kernel_rfl) (fun k hk => by cases hk) (by kernel_rfl) (laid_met os _)

set_option maxRecDepth 100000 in
set_option maxHeartbeats 2000000 in
theorem lifted (os : Os) (started : os.Started) (H : Type) (enc : TypeId × Value → H) (F : Stop.Interp) :
    ReturnsInHanded {} Tryz.checked os 3 .any ((OpenSpec.ofChange Rows.docWritesSpec).preRow enc Tryz.prog Tryz.f3 Rows.docWritesRow.domain false Rows.docWritesRow.laid) (((OpenSpec.ofChange Rows.docWritesSpec).at F).post enc Tryz.prog Tryz.f3 false true false false) := by
  refine returnsInHanded_of_row (C := Tryz.checked) (s := (OpenSpec.ofChange Rows.docWritesSpec)) own started (by kernel_rfl) Tryz.func3
    (witness_row_atRef (enc := enc) (C := Tryz.checked) false (laidWorld os) #[.agg #[.int .u8 0, .bool false, .int .i64 0, .string ⟨#[]⟩, .slice none 0 0, .slice none 0 0, .slice none 0 0]] rfl (by kernel_rfl) (by kernel_rfl) (by kernel_rfl) (witness_row os enc)) ?_
  intro W base args ds gs before hval0 hW hcnd hk0 hsz0 hL _ _
  have hval : ∀ (j : Nat) t v, Tryz.f3.params[j]? = some t → args[j]? = some v → Value.okWide Tryz.prog W .any base t v := hval0
  have hW' := hW
  obtain ⟨p, q, hA0, hV, rfl, hfz, hnd⟩ := hW
  have hA : DataW.TrodAll enc Tryz.prog W 0 (fun _ => true) true Tryz.f3.params.toList args.toList ds p := hA0
  have hTd : ∀ (j : Nat) t v, Tryz.f3.params.toList[j]? = some t → args.toList[j]? = some v → Td Tryz.prog W t v.cells.toList := fun j t v h1 h2 => Td.arg hA hsz0 j t v h1 h2
  have htab : Tabs W := utf8Tabs_of_readsT (U8Types.of196 lays_valid) ⟨by kernel_rfl, by kernel_rfl, by kernel_rfl, by kernel_rfl, by kernel_rfl, by kernel_rfl, by kernel_rfl⟩ (Lib.laidMet.reads (d := Rows.laid_unicode_utf8_first) hL (.tail _ (.head _))) (Lib.laidMet.reads (d := Rows.laid_unicode_utf8_acceptRanges) hL (.head _))
  clear hsz0 hcnd hk0
  rw [Tryz.params3] at hA hval hTd
  obtain ⟨v0, vs0, d0, ds0, p0, q0, hargs, rfl, rfl, h0, r0⟩ := trodAll_cons hA
  obtain ⟨rfl, rfl, rfl⟩ := trodAll_nil r0
  obtain rfl : args = #[v0] := by cases args; simp_all
  obtain ⟨rfl, rfl⟩ := trodVars_none hV
  have lt0 : ∀ x ∈ p0, x.block < W.heap.size := by obtain ⟨m, hm⟩ := h0; exact DataW.trod_lt m _ _ _ hm
  obtain ⟨cs0, rfl, _⟩ := okWide_struct Tryz.underlying27 (hval 0 27 v0 rfl rfl)
  obtain ⟨x0, hc0, hx0⟩ := open_value (hTd 0 27 _ rfl rfl)
  obtain rfl : cs0 = x0.cells.toArray := by rw [← hc0]; simp [Value.cells]
  have walk : Calls Tryz.prog 3 #[.agg x0.cells.toArray] W fun e w' => e = .returned (.bool true) ∧ Below W.heap.size W w' := by
    clear hA0 hTd hval hval0 hL
    exact (docwrites_any W x0 hx0 htab).mono fun e w' ⟨h1, f⟩ => ⟨h1, f.below (fun _ _ h => h)⟩
  clear hA0 hval0 hTd
  refine walk.mono fun e W' ⟨he, bel⟩ => ?_
  subst he
  exact ⟨_, rfl, _, _, _, [], _, [], hW', trodAll_mk1 (shut_bool Tryz.underlying4 _), (trodAll_cons_mk (Below.trod laidOut (by kernel_rfl) (of_decide_eq_true (by kernel_rfl)) h0 bel lt0) trodAll_mk0), rfl, bel.frame _, fun h => by cases h⟩

theorem row : Rows.docWritesRow.holds Tryz.pinned (OpenSpec.ofChange Rows.docWritesSpec) :=
  OpenClaim.holds_of_cond 3 Tryz.f3 rfl rfl rfl rfl rfl rfl rfl ⟨rfl, rfl, rfl, rfl, rfl⟩ rfl rfl rfl rfl rfl (by kernel_rfl) Tryz.func3 (by kernel_rfl)
    (of_decide_eq_true (by kernel_rfl)) (by unfold Func.isWrapper; first | (rw [if_pos (by decide +kernel)]; kernel_rfl) | (rw [if_neg (of_decide_eq_false (by kernel_rfl))]; exact ⟨rfl, rfl⟩))
    (fun os started H enc _ F0 => by rw [OpenClaim.pre_eq_preRow]; exact lifted os started H enc F0)
theorem card : Claim7.holds Tryz.pinned (.plain (OpenSpec.ofChange Rows.docWritesSpec)) Rows.docWritesCard :=
  Claim7.holds_tied_plain_at .later [] [.data, .pinned] true Rows.docWritesCard.stood.harness Rows.docWritesCard.stood.looks
    row (fun _ h => by cases h) (by kernel_rfl) (fun _ h => by cases h) docWrites_row_tie rfl ⟨rfl, rfl⟩ (by kernel_rfl) (by kernel_rfl)
    (fun f fn hf hfn => by
      obtain rfl : f = 3 := Option.some.inj ((show Tryz.prog.funcNamed "codicil/codicillaw05.DocWrites" = some 3 by kernel_rfl).symm.trans hf) |>.symm
      obtain rfl : fn = Tryz.f3 := (Option.some.inj (Tryz.func3.symm.trans hfn)).symm
      exact ⟨by kernel_rfl, fun j t ht => by
        have hall : (Tryz.f3.params.toList.all fun t => Tryz.prog.wantsStandIn t == false) = true := by kernel_rfl
        have hm : t ∈ Tryz.f3.params.toList := by
          rw [Array.mem_toList_iff]
          exact Array.mem_of_getElem? ht
        exact (eq_of_beq (List.all_eq_true.1 hall t hm) : Tryz.prog.wantsStandIn t = false)⟩)
    (by kernel_rfl)
end RDocWrites

/-- The card. -/
theorem docWrites_holds : Rows.DocWritesCardSaid := RDocWrites.card
#print axioms docWrites_holds
end Go.Proofs.YtijcleiekafoiaaGreatDoor
