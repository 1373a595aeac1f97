import Derived.Test.YtgcicljklejmjaaGreatDoorMw05
import Derived.Test.YtgcicljklejmjaaGreatDoorMb16
import Derived.Test.YtgcicljklejmjaaGreatDoorMb02
import Derived.Test.YtgcicljklejmjaaGreatDoorMb04

/- WholeValue, WholeValues, WholeField, WholeFields: what was lent is as it was. Printed by mkwholev.py. -/
namespace Go.Proofs.YtgcicljklejmjaaGreatDoor
open Go.RowKit Go.Shelf
open Tr

/-- What the lists need of WholeValue. -/
def WholeOk (y : Tr Mm) : Prop := ∀ (x : Tr Mm) (lo : Nat) (w : World), LT lo w y → Tr.Good w y → Tr.Good w x → bare y = bare x → Calls Tryz.prog 37 #[y.agg, x.agg] w fun e w' => e = .returned (.bool true) ∧ Fr no w w'
def WholeFOk (q : List UInt8 × Tr Mm) : Prop := ∀ (p : List UInt8 × Tr Mm) (lo : Nat) (w : World), LT lo w q.2 → Tr.Good w q.2 → Tr.Good w p.2 → (q.1, bare q.2) = (p.1, bare p.2) → Calls Tryz.prog 101 #[fagg q, fagg p] w fun e w' => e = .returned (.bool true) ∧ Fr no w w'
theorem map_at {α β γ : Type} {f : α → γ} {h : β → γ} {l : List α} {k : List β} (e : l.map f = k.map h) (j : Nat) (h1 : j < l.length) (h2 : j < k.length) : f l[j] = h k[j] := by
  have := congrArg (fun t => t[j]?) e
  simpa only [List.getElem?_map, List.getElem?_eq_getElem h1, List.getElem?_eq_getElem h2, Option.map_some, Option.some.injEq] using this

set_option maxRecDepth 100000 in
set_option maxHeartbeats 4000000 in
theorem wholevs_of (ys l : List (Tr Mm)) (ih : ∀ y ∈ ys, WholeOk y) (lo g : Nat) (w : World) (V Y : Value) (hr : LRow lo w 63 7 V ys.length (ys.flatMap cells) markV g) (hv : In w V ys) (hy : In w Y l) (hlt : ∀ y ∈ ys, LT lo w y) (hb : ys.map bare = l.map bare) :
    Calls Tryz.prog 13 #[V, Y] w fun e w' => e = .returned (.bool true) ∧ Fr no w w' := by
  obtain ⟨B, d, rfl, hd1, hd2⟩ := hy.sl.form
  obtain rfl := hr.v
  have hnl : ys.length ≤ 140737488351232 := hv.n
  have hnk : l.length ≤ 140737488351232 := hy.n
  have hlen : ys.length = l.length := by have := congrArg List.length hb; simpa using this
  have gb : ((ys.length : Int) != (l.length : Int)) = false := by rw [hlen]; simp
  have hmk : w.cell? ⟨g, ys.length * 7 + 2, none⟩ = some (.int .i64 (-777)) := hr.cell 2 _ rfl
  have hgl : g < w.heap.size := hr.ow.lt g rfl
  have HV := Lib.hid hv; have HY := Lib.hid hy; have IH := Lib.hid ih; have HLT := Lib.hid hlt; have HB := Lib.hid hb; have HLEN := Lib.hid hlen
  clear hv hy ih hlt hb hlen hr hd1 hd2
  go_enter Tryz.func13, Tryz.ntmps13
  go_wp2
  clear hmk hgl gb
  go_loopw [5] (fun i wr => ∃ j : Nat, j ≤ l.length ∧ i = .int .i64 j ∧ Fr no w wr) (fun i _ => l.length - (intOf i).toNat)
  case atStart => exact ⟨0, Nat.zero_le _, rfl, Fr.refl _ _⟩
  case round =>
    obtain ⟨j, hj, rfl, hfr⟩ := hrel
    by_cases hlt : j < l.length
    · have hlt2 : j < ys.length := by have := HLEN.out; omega
      have hX := HV.out.kept0 hfr
      have hY := HY.out.kept0 hfr
      obtain ⟨b, o, KB, kb, KL, kl, KF, kf, hgo, hfj, q0, q1, q2, q3, q4, q5, q6, hgl⟩ := In.get hX j hlt2
      simp only [Option.some.injEq, Addr.mk.injEq, and_true] at hgo
      obtain ⟨rfl, rfl⟩ := hgo
      obtain ⟨b', o', LB, lb, LL, ll, LF, lf, rfl, hfj', r0, r1, r2, r3, r4, r5, r6, hgl'⟩ := In.get hY j hlt
      have hcall := fun W (f : Fr no wr W) => IH.out ys[j] (List.getElem_mem _) l[j] lo W ((HLT.out ys[j] (List.getElem_mem _)).kept0 (hfr.trans f (fun _ _ h => h))) ((hX.good _ (List.getElem_mem _)).kept0 f) ((hY.good _ (List.getElem_mem _)).kept0 f) (map_at HB.out j hlt2 hlt)
      rw [hfj.agg, hfj'.agg] at hcall
      have HC := Lib.hid hcall; have HFR := Lib.hid hfr
      simp only [Nat.zero_add] at q0 r0 q1 r1 q2 r2 q3 r3 q4 r4 q5 r5 q6 r6
      clear hcall hfr hX hY hfj hfj'
      go_wp2_with fail
      refine wp_region_ord (List.range 10) (fun i => [Kd.p, Kd.p, Kd.p, Kd.l, Kd.p, Kd.p, Kd.p, Kd.l, Kd.g, Kd.p].getD i .e) (by kernel_rfl) (by kernel_rfl) ?_
      iterate 8
        first | refine wpX_pu rfl rfl rfl (by first | exact pu_move rfl | exact pu_assign rfl | exact pu_nilCheck rfl rfl | exact pu_binInt rfl rfl rfl | exact pu_conv rfl rfl (by kernel_rfl) | exact pu_fld rfl (by kernel_rfl) | exact pu_ix rfl rfl rfl (by kernel_rfl) | exact pu_unOp rfl | exact pu_binStr rfl rfl rfl | exact pu_len rfl rfl | exact pu_lens rfl rfl | exact pu_pick rfl | exact pu_slice rfl rfl) (fun K hK => ?_) | refine wpX_rd rfl rfl rfl (rd_load rfl) (fun K hK => ?_) | refine wpX_gr rfl rfl rfl (by first | exact gr_buildSlice rfl | exact gr_box rfl | exact gr_alloc rfl) (fun K hK => ?_) | refine wpX_ex rfl rfl rfl (fun K hK => ?_)
        try go_wp2
      refine wpX_ca rfl rfl rfl (fun K hK => ?_)
      go_wp2_with fail
      refine (HC.out _ (by (repeat first | exact Fr.refl _ _ | exact Fr.drewN _ _ _ | apply Fr.drew | apply Fr.alloc | apply Fr.setAt | apply Fr.moreN))).mono ?_
      rintro e w5 ⟨rfl, fy⟩
      have FY0 := Lib.hid fy; have FY := Lib.hid ((by (repeat first | exact Fr.refl _ _ | exact Fr.drewN _ _ _ | apply Fr.drew | apply Fr.alloc | apply Fr.setAt | apply Fr.moreN) : Fr no wr _).trans fy (fun _ _ h => h))
      clear fy
      go_wp2
      obtain ⟨⟨xa, xb⟩, hext⟩ := FY0.out.ext
      refine ⟨⟨xa, xb, hext⟩, hK _ _ ?_⟩
      clear hK K hext xa xb
      first | refine wpX_pu rfl rfl rfl (by first | exact pu_move rfl | exact pu_assign rfl | exact pu_nilCheck rfl rfl | exact pu_binInt rfl rfl rfl | exact pu_conv rfl rfl (by kernel_rfl) | exact pu_fld rfl (by kernel_rfl) | exact pu_ix rfl rfl rfl (by kernel_rfl) | exact pu_unOp rfl | exact pu_binStr rfl rfl rfl | exact pu_len rfl rfl | exact pu_lens rfl rfl | exact pu_pick rfl | exact pu_slice rfl rfl) (fun K hK => ?_) | refine wpX_rd rfl rfl rfl (rd_load rfl) (fun K hK => ?_) | refine wpX_gr rfl rfl rfl (by first | exact gr_buildSlice rfl | exact gr_box rfl | exact gr_alloc rfl) (fun K hK => ?_) | refine wpX_ex rfl rfl rfl (fun K hK => ?_)
      try go_wp2
      refine wpX_done ?_
      clear q0 r0 q1 r1 q2 r2 q3 r3 q4 r4 q5 r5 q6 r6 hgl hgl'
      go_wp2
      go_roundw
      case rel => exact ⟨j + 1, by omega, by go_num, HFR.out.trans FY.out (fun _ _ h => h)⟩
      case measure => simp [intOf]; omega
    · obtain rfl : j = l.length := by omega
      have HFR := Lib.hid hfr; clear hfr
      go_wp2
      go_ret
      exact ⟨rfl, HFR.out⟩
set_option maxRecDepth 100000 in
set_option maxHeartbeats 4000000 in
theorem wholefs_of (ys l : List (List UInt8 × Tr Mm)) (ih : ∀ y ∈ ys, WholeFOk y) (lo g : Nat) (w : World) (V Y : Value) (hr : LRow lo w 115 8 V ys.length (ys.flatMap fcells) markF g) (hv : InF w V ys) (hy : InF w Y l) (hlt : ∀ y ∈ ys, LT lo w y.2) (hb : ys.map (fun p : List UInt8 × Tr Mm => (p.1, bare p.2)) = l.map (fun p : List UInt8 × Tr Mm => (p.1, bare p.2))) :
    Calls Tryz.prog 77 #[V, Y] w fun e w' => e = .returned (.bool true) ∧ Fr no w w' := by
  obtain ⟨B, d, rfl, hd1, hd2⟩ := hy.sl.form
  obtain rfl := hr.v
  have hnl : ys.length ≤ 140737488351232 := hv.n
  have hnk : l.length ≤ 140737488351232 := hy.n
  have hlen : ys.length = l.length := by have := congrArg List.length hb; simpa using this
  have gb : ((ys.length : Int) != (l.length : Int)) = false := by rw [hlen]; simp
  have hmk : w.cell? ⟨g, ys.length * 8 , none⟩ = some (.string ⟨#[116, 104, 101, 32, 111, 119, 110, 101, 114, 39, 115]⟩) := hr.cell 0 _ rfl
  have hgl : g < w.heap.size := hr.ow.lt g rfl
  have HV := Lib.hid hv; have HY := Lib.hid hy; have IH := Lib.hid ih; have HLT := Lib.hid hlt; have HB := Lib.hid hb; have HLEN := Lib.hid hlen
  clear hv hy ih hlt hb hlen hr hd1 hd2
  go_enter Tryz.func77, Tryz.ntmps77
  go_wp2
  clear hmk hgl gb
  go_loopw [5] (fun i wr => ∃ j : Nat, j ≤ l.length ∧ i = .int .i64 j ∧ Fr no w wr) (fun i _ => l.length - (intOf i).toNat)
  case atStart => exact ⟨0, Nat.zero_le _, rfl, Fr.refl _ _⟩
  case round =>
    obtain ⟨j, hj, rfl, hfr⟩ := hrel
    by_cases hlt : j < l.length
    · have hlt2 : j < ys.length := by have := HLEN.out; omega
      have hX := HV.out.kept0 hfr
      have hY := HY.out.kept0 hfr
      obtain ⟨b, o, KB, kb, KL, kl, KF, kf, hgo, hfj, q0, q1, q2, q3, q4, q5, q6, q7, hgl⟩ := InF.get hX j hlt2
      simp only [Option.some.injEq, Addr.mk.injEq, and_true] at hgo
      obtain ⟨rfl, rfl⟩ := hgo
      obtain ⟨b', o', LB, lb, LL, ll, LF, lf, rfl, hfj', r0, r1, r2, r3, r4, r5, r6, r7, hgl'⟩ := InF.get hY j hlt
      have hcall := fun W (f : Fr no wr W) => IH.out ys[j] (List.getElem_mem _) l[j] lo W ((HLT.out ys[j] (List.getElem_mem _)).kept0 (hfr.trans f (fun _ _ h => h))) ((hX.good _ (List.getElem_mem _)).kept0 f) ((hY.good _ (List.getElem_mem _)).kept0 f) (map_at HB.out j hlt2 hlt)
      unfold fagg at hcall
      rw [hfj.B, hfj.L, hfj.F, hfj'.B, hfj'.L, hfj'.F] at hcall
      have HC := Lib.hid hcall; have HFR := Lib.hid hfr
      simp only [Nat.zero_add] at q0 r0 q1 r1 q2 r2 q3 r3 q4 r4 q5 r5 q6 r6 q7 r7
      clear hcall hfr hX hY hfj hfj'
      go_wp2_with fail
      refine wp_region_ord (List.range 10) (fun i => [Kd.p, Kd.p, Kd.p, Kd.l, Kd.p, Kd.p, Kd.p, Kd.l, Kd.g, Kd.p].getD i .e) (by kernel_rfl) (by kernel_rfl) ?_
      iterate 8
        first | refine wpX_pu rfl rfl rfl (by first | exact pu_move rfl | exact pu_assign rfl | exact pu_nilCheck rfl rfl | exact pu_binInt rfl rfl rfl | exact pu_conv rfl rfl (by kernel_rfl) | exact pu_fld rfl (by kernel_rfl) | exact pu_ix rfl rfl rfl (by kernel_rfl) | exact pu_unOp rfl | exact pu_binStr rfl rfl rfl | exact pu_len rfl rfl | exact pu_lens rfl rfl | exact pu_pick rfl | exact pu_slice rfl rfl) (fun K hK => ?_) | refine wpX_rd rfl rfl rfl (rd_load rfl) (fun K hK => ?_) | refine wpX_gr rfl rfl rfl (by first | exact gr_buildSlice rfl | exact gr_box rfl | exact gr_alloc rfl) (fun K hK => ?_) | refine wpX_ex rfl rfl rfl (fun K hK => ?_)
        try go_wp2
      refine wpX_ca rfl rfl rfl (fun K hK => ?_)
      go_wp2_with fail
      refine (HC.out _ (by (repeat first | exact Fr.refl _ _ | exact Fr.drewN _ _ _ | apply Fr.drew | apply Fr.alloc | apply Fr.setAt | apply Fr.moreN))).mono ?_
      rintro e w5 ⟨rfl, fy⟩
      have FY0 := Lib.hid fy; have FY := Lib.hid ((by (repeat first | exact Fr.refl _ _ | exact Fr.drewN _ _ _ | apply Fr.drew | apply Fr.alloc | apply Fr.setAt | apply Fr.moreN) : Fr no wr _).trans fy (fun _ _ h => h))
      clear fy
      go_wp2
      obtain ⟨⟨xa, xb⟩, hext⟩ := FY0.out.ext
      refine ⟨⟨xa, xb, hext⟩, hK _ _ ?_⟩
      clear hK K hext xa xb
      first | refine wpX_pu rfl rfl rfl (by first | exact pu_move rfl | exact pu_assign rfl | exact pu_nilCheck rfl rfl | exact pu_binInt rfl rfl rfl | exact pu_conv rfl rfl (by kernel_rfl) | exact pu_fld rfl (by kernel_rfl) | exact pu_ix rfl rfl rfl (by kernel_rfl) | exact pu_unOp rfl | exact pu_binStr rfl rfl rfl | exact pu_len rfl rfl | exact pu_lens rfl rfl | exact pu_pick rfl | exact pu_slice rfl rfl) (fun K hK => ?_) | refine wpX_rd rfl rfl rfl (rd_load rfl) (fun K hK => ?_) | refine wpX_gr rfl rfl rfl (by first | exact gr_buildSlice rfl | exact gr_box rfl | exact gr_alloc rfl) (fun K hK => ?_) | refine wpX_ex rfl rfl rfl (fun K hK => ?_)
      try go_wp2
      refine wpX_done ?_
      clear q0 r0 q1 r1 q2 r2 q3 r3 q4 r4 q5 r5 q6 r6 q7 r7 hgl hgl'
      go_wp2
      go_roundw
      case rel => exact ⟨j + 1, by omega, by go_num, HFR.out.trans FY.out (fun _ _ h => h)⟩
      case measure => simp [intOf]; omega
    · obtain rfl : j = l.length := by omega
      have HFR := Lib.hid hfr; clear hfr
      go_wp2
      go_ret
      exact ⟨rfl, HFR.out⟩

set_option maxRecDepth 100000 in
set_option maxHeartbeats 2000000 in
theorem wholef_of (q : List UInt8 × Tr Mm) (ih : WholeOk q.2) : WholeFOk q := by
  obtain ⟨m, y⟩ := q
  intro p lo w hlt hy hx hb
  obtain ⟨n, x⟩ := p
  simp only [Prod.mk.injEq] at hb
  obtain ⟨rfl, hb⟩ := hb
  obtain ⟨BB, bd, LB, ld, FB, fd, hg⟩ := hy.node.forms
  obtain ⟨BA, bc, LA, lc, FA, fc, hf⟩ := hx.node.forms
  have hcall := fun W (f : Fr no w W) => ih x lo W (hlt.kept0 f) (hy.kept0 f) (hx.kept0 f) hb
  simp only at hf hg hcall
  rw [hf.agg, hg.agg] at hcall
  unfold fagg
  simp only
  rw [hf.B, hf.L, hf.F, hg.B, hg.L, hg.F]
  have gs := strs_same (rfl : m = m)
  have HC := Lib.hid hcall
  clear hx hy ih hf hg hcall hb hlt
  go_enter Tryz.func101, Tryz.ntmps101
  go_wp2_with fail
  refine (HC.out _ (by (repeat first | exact Fr.refl _ _ | exact Fr.drewN _ _ _ | apply Fr.drew | apply Fr.alloc | apply Fr.setAt | apply Fr.moreN))).mono ?_
  rintro e w5 ⟨rfl, fy⟩
  have FY := Lib.hid ((by (repeat first | exact Fr.refl _ _ | exact Fr.drewN _ _ _ | apply Fr.drew | apply Fr.alloc | apply Fr.setAt | apply Fr.moreN) : Fr no w _).trans fy (fun _ _ h => h))
  clear fy
  go_wp2
  go_ret
  exact ⟨rfl, FY.out⟩

set_option maxRecDepth 100000 in
set_option maxHeartbeats 4000000 in
theorem wholev_any (y : Tr Mm) : WholeOk y := by
  induction y using Tr.ind with
  | h y ih =>
    intro x lo w hlt hy hx hb
    obtain ⟨e1, e2, e3, e4, e5, e6, e7⟩ := (bare_same y x).1 hb
    obtain ⟨BA, bc, LA, lc, FA, fc, hf⟩ := hx.node.forms
    obtain ⟨gB, gL, gF, a, b, c, d, e⟩ := hlt.opened
    have hnb : x.bs.length ≤ 140737488351232 := hx.node.bs
    rw [e5] at c
    have hBc := fun W (f : Fr no w W) => whole_lent W gB _ x.bs x.bs (c.kept f (fun h => h)) (hx.kept0 f).node.B hnb hnb
    have hLc := fun W (f : Fr no w W) => wholevs_of y.l x.l (fun z hz => ih z (List.mem_append_left _ hz)) lo gL W _ _ (d.kept f (fun _ _ h => h)) (hy.kept0 f).inL (hx.kept0 f).inL (fun z hz => (hlt.l z hz).kept0 f) e6
    have hFc := fun W (f : Fr no w W) => wholefs_of y.f x.f (fun q hq => wholef_of q (ih q.2 (List.mem_append_right _ (List.mem_map_of_mem hq)))) lo gF W _ _ (e.kept f (fun _ _ h => h)) (hy.kept0 f).inF (hx.kept0 f).inF (fun q hq => (hlt.f q hq).kept0 f) e7
    have hya : y.agg = .agg #[.int .u8 x.k.toNat, .bool x.b, .int .i64 x.i, .string ⟨x.t.toArray⟩, .slice (some ⟨gB, 0, none⟩) x.bs.length (x.bs.length + 2), .slice (some ⟨gL, 0, none⟩) y.l.length (y.l.length + 1), .slice (some ⟨gF, 0, none⟩) y.f.length (y.f.length + 1)] := by unfold Tr.agg; rw [a, d.v, e.v, e1, e2, e3, e4, e5]
    rw [hf.B] at hBc; rw [hf.L, d.v] at hLc; rw [hf.F, e.v] at hFc
    rw [hf.agg, hya]
    have gs := strs_same (rfl : x.t = x.t)
    have HB := Lib.hid hBc; have HL := Lib.hid hLc; have HF := Lib.hid hFc
    clear hBc hLc hFc hf hya a b c d e e1 e2 e3 e4 e5 e6 e7 hx hy ih hlt hb
    go_enter Tryz.func37, Tryz.ntmps37
    go_wp2_with fail
    refine (HB.out _ (by (repeat first | exact Fr.refl _ _ | exact Fr.drewN _ _ _ | apply Fr.drew | apply Fr.alloc | apply Fr.setAt | apply Fr.moreN))).mono ?_
    rintro e w1 ⟨rfl, n1, hw1⟩
    have f1 := (by (repeat first | exact Fr.refl _ _ | exact Fr.drewN _ _ _ | apply Fr.drew | apply Fr.alloc | apply Fr.setAt | apply Fr.moreN) : Fr no w ((w.alloc (.cells #[.int .u8 x.k.toNat, .bool x.b, .int .i64 x.i, .string ⟨x.t.toArray⟩, .slice (some ⟨gB, 0, none⟩) x.bs.length (x.bs.length + 2), .slice (some ⟨gL, 0, none⟩) y.l.length (y.l.length + 1), .slice (some ⟨gF, 0, none⟩) y.f.length (y.f.length + 1)] 63)).alloc (.cells #[.int .u8 x.k.toNat, .bool x.b, .int .i64 x.i, .string ⟨x.t.toArray⟩, .slice BA x.bs.length bc, .slice LA x.l.length lc, .slice FA x.f.length fc] 63))).moreN n1
    rw [← hw1] at f1
    have hA := f1
    have h2 := ((Fr.refl no ((w.alloc (.cells #[.int .u8 x.k.toNat, .bool x.b, .int .i64 x.i, .string ⟨x.t.toArray⟩, .slice (some ⟨gB, 0, none⟩) x.bs.length (x.bs.length + 2), .slice (some ⟨gL, 0, none⟩) y.l.length (y.l.length + 1), .slice (some ⟨gF, 0, none⟩) y.f.length (y.f.length + 1)] 63)).alloc (.cells #[.int .u8 x.k.toNat, .bool x.b, .int .i64 x.i, .string ⟨x.t.toArray⟩, .slice BA x.bs.length bc, .slice LA x.l.length lc, .slice FA x.f.length fc] 63))).moreN n1)
    rw [← hw1] at h2
    obtain ⟨k1, k2⟩ := two_allocs w (.cells #[.int .u8 x.k.toNat, .bool x.b, .int .i64 x.i, .string ⟨x.t.toArray⟩, .slice (some ⟨gB, 0, none⟩) x.bs.length (x.bs.length + 2), .slice (some ⟨gL, 0, none⟩) y.l.length (y.l.length + 1), .slice (some ⟨gF, 0, none⟩) y.f.length (y.f.length + 1)] 63) (.cells #[.int .u8 x.k.toNat, .bool x.b, .int .i64 x.i, .string ⟨x.t.toArray⟩, .slice BA x.bs.length bc, .slice LA x.l.length lc, .slice FA x.f.length fc] 63)
    have k3 := h2.heap k1 (fun h => h); have k4 := h2.heap k2 (fun h => h)
    have F1 := Lib.hid f1; have K3 := Lib.hid k3; have K4 := Lib.hid k4
    obtain ⟨r0, r1, r2, r3, r4, r5, r6, rz, rl⟩ := seven_cells k3
    obtain ⟨q0, q1, q2, q3, q4, q5, q6, qz, ql⟩ := seven_cells k4
    clear f1 hA h2 hw1 k1 k2 k3 k4
    simp only [decide_true]
    go_wp2_with fail
    refine (HL.out _ F1.out).mono ?_
    rintro e w2 ⟨rfl, f2⟩
    have k3 := f2.heap K3.out (fun h => h); have k4 := f2.heap K4.out (fun h => h)
    clear r0 r1 r2 r3 r4 r5 r6 rz rl q0 q1 q2 q3 q4 q5 q6 qz ql
    obtain ⟨r0, r1, r2, r3, r4, r5, r6, rz, rl⟩ := seven_cells k3
    obtain ⟨q0, q1, q2, q3, q4, q5, q6, qz, ql⟩ := seven_cells k4
    have F2 := Lib.hid (F1.out.trans f2 (fun _ _ h => h))
    clear f2 k3 k4
    go_wp2_with fail
    refine (HF.out _ F2.out).mono ?_
    rintro e w3 ⟨rfl, f3⟩
    have F3 := Lib.hid (F2.out.trans f3 (fun _ _ h => h))
    clear f3 r0 r1 r2 r3 r4 r5 r6 rz rl q0 q1 q2 q3 q4 q5 q6 qz ql
    go_wp2
    go_ret
    exact ⟨rfl, F3.out⟩
end Go.Proofs.YtgcicljklejmjaaGreatDoor

/- LentBools, WholeBools, SameBools. -/
namespace Go.Proofs.YtgcicljklejmjaaGreatDoor
open Go.RowKit Go.Shelf
open Tr

theorem tbBool : Tb Tryz.prog 23 4 (.bool false) 1 1 := ⟨by kernel_rfl, by kernel_rfl, rfl, by decide⟩
theorem bls_one (l : List Bool) : ∀ u ∈ bls l, u.oneCell' = true := by
  intro u hu
  obtain ⟨b, _, rfl⟩ := List.mem_map.1 hu
  rfl
theorem bls_len (l : List Bool) : (bls l).length = l.length := by unfold bls; rw [List.length_map]
theorem bls_append (l k : List Bool) : bls (l ++ k) = bls l ++ bls k := by unfold bls; rw [List.map_append]

/-- Bools that were lent: two marks behind. -/
structure LB (w : World) (g : Nat) (l : List Bool) : Prop where
  ow : Ow w 4 1 (.slice (some ⟨g, 0, none⟩) (l.length + 2) (l.length + 2)) (l.length + 2) (bls (l ++ [true, false]))
theorem LB.kept0 {w w1 : World} {g : Nat} {l : List Bool} (h : LB w g l) (f : Fr no w w1) : LB w1 g l := ⟨h.ow.kept0 f⟩
theorem LB.sl {w : World} {g : Nat} {l : List Bool} (h : LB w g l) : Sl w 1 (.slice (some ⟨g, 0, none⟩) l.length (l.length + 2)) l.length (bls l) := by
  have h1 := (h.ow.head l.length (by omega)).sl
  rw [bls_append, List.take_left' (by rw [bls_len, Nat.mul_one])] at h1
  exact h1
theorem LB.cells {w : World} {g : Nat} {l : List Bool} (h : LB w g l) : w.cell? ⟨g, l.length, none⟩ = some (.bool true) ∧ w.cell? ⟨g, l.length + 1, none⟩ = some (.bool false) ∧ g < w.heap.size := by
  obtain ⟨g', c, h1, -, -, hl, -, hc⟩ := h.ow.cells 0 (by omega)
  simp only [Value.slice.injEq, Option.some.injEq, Addr.mk.injEq, and_true, true_and] at h1
  obtain ⟨rfl, _⟩ := h1
  refine ⟨hc _ _ ?_, hc _ _ ?_, hl⟩
  · rw [bls_append, List.getElem?_append_right (by rw [bls_len]; omega), bls_len, Nat.sub_self]; rfl
  · rw [bls_append, List.getElem?_append_right (by rw [bls_len]; omega), bls_len, Nat.add_sub_cancel_left]; rfl

set_option maxRecDepth 100000 in
set_option maxHeartbeats 1000000 in
theorem lentb_any (w : World) (x : Value) (l : List Bool) (hx : Sl w 1 x l.length (bls l)) (hl : l.length ≤ 140737488351232) :
    Calls Tryz.prog 7 #[x] w fun e w' => ∃ g, e = .returned (.slice (some ⟨g, 0, none⟩) l.length (l.length + 2)) ∧ LB w' g l ∧ Fr no w w' := by
  obtain ⟨A, c, rfl, hc1, hc2⟩ := hx.form
  have HX := Lib.hid hx; clear hx hc2
  obtain ⟨inf, hi, hz0, hz1, hz2⟩ := info_parts tbBool.info
  obtain ⟨wm, hmk, hown, hgrow⟩ := run_make_own (P := Tryz.prog) w 0 23 4 inf (.bool false) 1 tbBool.und hi hz0 hz1 .i64 .i64 (l.length + 2) (by rw [hz2]; omega) (by simp only [maxLen]; omega) (Nat.zero_le _)
  rw [show ((l.length + 2 : Nat) : Int) = (l.length : Int) + 2 from by omega] at hmk
  have hfm : Fr no w wm := (Fr.of_grown hgrow).mono (fun k _ h => by cases h)
  have HO := Lib.hid hown; have HFM := Lib.hid hfm; clear hown hfm hgrow hi hz0 hz1 hz2
  go_enter Tryz.func7, Tryz.ntmps7
  go_wp2_with (at_builtin; refine wpList_apr rfl (.tmp 8) (.tmp 9) 23 rfl tbBool HO.out (HX.out.kept0 HFM.out) rfl rfl (bls_one l) (by omega) ?go)
  case go =>
    intro N w1 hN ho1 hf1
    obtain rfl : N = l.length := by omega
    have HO1 := Lib.hid ho1; have HF1 := Lib.hid hf1; clear ho1 hf1 hmk hN
    go_wp2_with (at_builtin; refine wpList_apr rfl (.tmp 11) (.tmp 12) 23 rfl tbBool (own_kept0 HO1.out ?fr) (sl_cells (heap_alloc_new w1 _) 1 2 rfl (by simp [maxLen])) rfl rfl (by intro u hu; simp only [List.mem_cons, List.not_mem_nil, or_false] at hu; rcases hu with rfl | rfl <;> rfl) (by omega) ?go2)
    case fr => (repeat first | exact Fr.refl _ _ | apply Fr.drew | apply Fr.alloc)
    case go2 =>
      intro N w2 hN ho2 hf2
      have HO2 := Lib.hid ho2; have HF2 := Lib.hid hf2; clear ho2 hf2
      obtain rfl : N = l.length + 2 := hN
      go_wp2
      go_ret
      refine ⟨w.heap.size, rfl, ⟨by rw [bls_append]; exact Ow.of_own HO2.out⟩, ?_⟩
      have f1 : Fr no w w1 := HFM.out.trans HF1.out (fun k hk h => by omega)
      exact (f1.alloc _).trans HF2.out (fun k hk h => by omega)

set_option maxRecDepth 100000 in
set_option maxHeartbeats 1000000 in
theorem sameb_any (w : World) (A B : Option Addr) (c d : Nat) (l : List Bool) (hx : Sl w 1 (.slice A l.length c) l.length (bls l)) (hy : Sl w 1 (.slice B l.length d) l.length (bls l)) (hl : l.length ≤ 140737488351232) :
    Calls Tryz.prog 38 #[.slice A l.length c, .slice B l.length d] w fun e w' => e = .returned (.bool true) ∧ Fr no w w' := by
  have HX := Lib.hid hx; have HY := Lib.hid hy
  clear hx hy
  go_enter Tryz.func38, Tryz.ntmps38
  go_wp2
  go_loopw [5] (fun i wr => ∃ j : Nat, j ≤ l.length ∧ i = .int .i64 j ∧ Fr no w wr) (fun i _ => l.length - (intOf i).toNat)
  case atStart => exact ⟨0, Nat.zero_le _, rfl, Fr.refl _ _⟩
  case round =>
    obtain ⟨j, hj, rfl, hfr⟩ := hrel
    by_cases hlt : j < l.length
    · obtain ⟨b, o, rfl, q1⟩ := bls_at (HX.out.kept0 hfr) j hlt
      obtain ⟨b', o', rfl, q2⟩ := bls_at (HY.out.kept0 hfr) j hlt
      have HFR := Lib.hid hfr; clear hfr
      go_wp2_with fail
      refine wp_region_ord (List.range 9) (fun i => [Kd.p, Kd.p, Kd.p, Kd.l, Kd.p, Kd.p, Kd.p, Kd.l, Kd.e].getD i .e) (by kernel_rfl) (by kernel_rfl) ?_
      iterate 8
        first | refine wpX_pu rfl rfl rfl (by first | exact pu_move rfl | exact pu_assign rfl | exact pu_nilCheck rfl rfl | exact pu_binInt rfl rfl rfl | exact pu_conv rfl rfl (by kernel_rfl) | exact pu_fld rfl (by kernel_rfl) | exact pu_ix rfl rfl rfl (by kernel_rfl) | exact pu_unOp rfl | exact pu_binStr rfl rfl rfl | exact pu_len rfl rfl | exact pu_lens rfl rfl | exact pu_pick rfl | exact pu_slice rfl rfl) (fun K hK => ?_) | refine wpX_rd rfl rfl rfl (rd_load rfl) (fun K hK => ?_) | refine wpX_gr rfl rfl rfl (by first | exact gr_buildSlice rfl | exact gr_box rfl | exact gr_alloc rfl) (fun K hK => ?_) | refine wpX_ex rfl rfl rfl (fun K hK => ?_)
        try go_wp2
      refine wpX_ex rfl rfl rfl (fun K hK => ?_)
      go_simp
      refine hK _ _ ?_
      clear hK K
      refine wpX_done ?_
      clear q1 q2
      go_wp2
      go_roundw
      case rel => exact ⟨j + 1, by omega, by go_num, HFR.out.trans (by (repeat first | exact Fr.refl _ _ | exact Fr.drewN _ _ _ | apply Fr.drew | apply Fr.alloc | apply Fr.setAt | apply Fr.moreN)) (fun _ _ h => h)⟩
      case measure => simp [intOf]; omega
    · obtain rfl : j = l.length := by omega
      have HFR := Lib.hid hfr; clear hfr
      go_wp2
      go_ret
      exact ⟨rfl, HFR.out⟩

set_option maxRecDepth 100000 in
set_option maxHeartbeats 1000000 in
theorem wholeb_any (w : World) (g : Nat) (Y : Value) (l : List Bool) (hx : LB w g l) (hy : Sl w 1 Y l.length (bls l)) (hl : l.length ≤ 140737488351232) :
    Calls Tryz.prog 14 #[.slice (some ⟨g, 0, none⟩) l.length (l.length + 2), Y] w fun e w' => e = .returned (.bool true) ∧ Fr no w w' := by
  obtain ⟨B, d, rfl, _, _⟩ := hy.form
  obtain ⟨q1, q2, ql⟩ := hx.cells
  have HX := Lib.hid hx.sl; have HY := Lib.hid hy
  clear hx hy
  go_enter Tryz.func14, Tryz.ntmps14
  go_wp2_with fail
  refine (sameb_any _ _ _ _ _ l HX.out HY.out hl).mono ?_
  rintro e w1 ⟨rfl, f1⟩
  have F1 := Lib.hid f1
  clear f1 q1 q2 ql
  go_wp2
  go_ret
  exact ⟨rfl, F1.out⟩
end Go.Proofs.YtgcicljklejmjaaGreatDoor

/- The book of lists: bytes put into it. -/
namespace Go.Proofs.YtgcicljklejmjaaGreatDoor
open Go.RowKit

theorem tbRows : Tb Tryz.prog 33 27 (.slice none 0 0) 1 24 := ⟨by kernel_rfl, by kernel_rfl, rfl, by decide⟩

def nilS : Value := .slice none 0 0

/-- A book at block b that holds lists of bytes alone. -/
def Bk (w : World) (b : Nat) (v : Value) (rs : List Value) : Prop :=
  w.heap[b]? = some (.cells (#[v] ++ Array.replicate 22 nilS) 57 (0, 0)) ∧ w.ownsRow 0 27 1 v rs.length rs ∧ v.ownBlock ≠ some b

theorem Bk.cells {w : World} {b : Nat} {v : Value} {rs : List Value} (h : Bk w b v rs) : w.cell? ⟨b, 0, none⟩ = some v ∧ (∀ i, i < 22 → w.cell? ⟨b, i + 1, none⟩ = some (.slice none 0 0)) ∧ (∀ o, w.frozen? ⟨b, o, none⟩ = false) ∧ b < w.heap.size := by
  refine ⟨by simp [World.cell?, h.1], fun i hi => ?_, fun o => by simp [World.frozen?, h.1], (Array.getElem?_eq_some_iff.1 h.1).1⟩
  simp only [World.cell?, h.1, Option.isSome_none, Bool.false_eq_true, if_false]
  rw [Array.getElem?_append_right (by simp), Array.getElem?_replicate]
  rw [if_pos (by simp; omega)]; rfl

set_option maxRecDepth 100000 in
set_option maxHeartbeats 400000 in
theorem book_bytes (b : Nat) (w : World) (v : Value) (rs : List Value) (A : Option Addr) (n c : Nat) (h : Bk w b v rs) (hl : rs.length ≤ 1000000) :
    Calls Tryz.prog 9 #[.pointer (some ⟨b, 0, none⟩), .slice A n c] w fun e w' => e = .returned (.tuple #[]) ∧ ∃ v', Bk w' b v' (rs ++ [.slice A n c]) ∧ Fr (fun k => k = b ∨ v.ownBlock = some k) w w' ∧ Moved w w' v v' := by
  obtain ⟨B, d, rfl⟩ := own_form h.2.1
  obtain ⟨hc0, _, hfz, hbs⟩ := h.cells
  have HB := Lib.hid h; clear h
  go_enter Tryz.func9, Tryz.ntmps9
  go_wp2_with (at_builtin; refine wpList_ap rfl (.tmp 8) (.tmp 10) 33 rfl tbRows HB.out.2.1 ?fr ((Sl.built w _ _).kept0 ((Fr.refl no _))) rfl rfl (by simp [Value.oneCell']) ?b1 ?b2 ?go)
  case fr => (repeat first | exact Fr.refl _ _ | apply Fr.drew | apply Fr.alloc)
  case b1 => simp only [maxLen]; omega
  case b2 => omega
  case go =>
    intro A' N c' w2 ho hf2 hm2
    have hg : Fr (fun k => Value.ownBlock (.slice B rs.length d) = some k) w w2 := Fr.trans (S := fun k => Value.ownBlock (.slice B rs.length d) = some k) (by (repeat first | exact Fr.refl _ _ | apply Fr.drew | apply Fr.alloc)) hf2 (fun _ _ h => h)
    have hc1 := hg.cell hc0 HB.out.2.2
    have hf1 := (hg.frozen (a := ⟨b, 0, none⟩) hbs HB.out.2.2).trans (hfz 0)
    have hheap := hg.heap HB.out.1 HB.out.2.2
    have HO := Lib.hid ho; have HG := Lib.hid hg; have HM := Lib.hid hm2; have HH := Lib.hid hheap; clear ho hf2 hm2 hg hheap
    go_wp2
    go_end0
    obtain rfl : N = (rs ++ [Value.slice A n c]).length := by have := HO.out.1; simpa using this.symm
    have hne : Value.ownBlock (.slice A' (rs ++ [Value.slice A n c]).length c') ≠ some b := HM.out.not (by simp; omega) HB.out.2.2
    refine ⟨rfl, _, ⟨?_, own_set HO.out _ _ (by simpa using hne), hne⟩, ?_, ?_⟩
    · rw [hp_same HH.out]; simp
    · exact (HG.out.mono (fun _ _ h => .inr h)).setCell _ _ (fun _ => .inl rfl)
    · exact (HM.out.first (by simp)).later (by simp [World.setCell])
end Go.Proofs.YtgcicljklejmjaaGreatDoor

/- The owner's check on rows of bytes. -/
namespace Go.Proofs.YtgcicljklejmjaaGreatDoor
open Go.RowKit

theorem sl_at {w : World} {A : Option Addr} {n c : Nat} {xs : List Value} (h : Sl w 1 (.slice A n c) n xs) (i : Nat) (hi : i < xs.length) : ∃ b o, A = some ⟨b, o, none⟩ ∧ w.cell? ⟨b, o + i, none⟩ = some xs[i] := by
  rcases h.2 with ⟨_, h1, h2⟩ | ⟨b, o, cap, h1, _, _, h4⟩
  · have := h.1; omega
  · cases h1; exact ⟨b, o, rfl, h4 i _ (List.getElem?_eq_getElem hi)⟩

/-- The outer row, and the rows. -/
structure Two (w : World) (e : TypeId) (sz : Nat) (X : Value) (vs : List Value) (ns : Nat → Nat) (C : Nat → List Value) : Prop where
  out : Sl w 1 X vs.length vs
  away : ∀ b, X.ownBlock = some b → ¬ InRows vs b
  rows : Rws w e sz vs ns C

theorem Two.kept {w w1 : World} {e : TypeId} {sz : Nat} {X : Value} {vs : List Value} {ns : Nat → Nat} {C : Nat → List Value} {S : Nat → Prop} (h : Two w e sz X vs ns C) (f : Fr S w w1) (h1 : ∀ b, X.ownBlock = some b → ¬ S b) (h2 : ∀ b, InRows vs b → ¬ S b) : Two w1 e sz X vs ns C :=
  ⟨h.out.kept f h1, h.away, h.rows.kept f h2⟩

/-- Midway: the rows are marked, and the first of them have grown into rows lvs, that the row L has. -/
structure Ph2 (w1 w : World) (e eo : TypeId) (sz : Nat) (m : Int → Nat → List Value) (gr : Nat) (X L : Value) (vs lvs : List Value) (ns : Nat → Nat) : Prop where
  two : Two w e sz X vs ns (fun j => mks m j (ns j))
  long : Ow w eo 1 L lvs.length lvs
  many : lvs.length ≤ vs.length
  rows : ∀ j (h : j < lvs.length), Ow w e sz lvs[j] (ns j + gr) (mks m j (ns j) ++ mks m (-1 - j) gr)
  from_ : ∀ j (h : j < lvs.length) (h' : j < vs.length) b, lvs[j].ownBlock = some b → vs[j].ownBlock = some b ∨ w1.heap.size ≤ b
  fresh : ∀ b, L.ownBlock = some b → w1.heap.size ≤ b ∧ ∀ v ∈ lvs, v.ownBlock ≠ some b
  fr : Fr (InRows vs) w1 w
  ltX : ∀ b, X.ownBlock = some b → b < w1.heap.size
  lt : ∀ b, InRows vs b → b < w1.heap.size

/-- A row that grows. -/
structure Ph3 (w1 w : World) (e eo : TypeId) (sz : Nat) (m : Int → Nat → List Value) (gr : Nat) (X L x : Value) (vs lvs : List Value) (ns : Nat → Nat) (k : Nat) : Prop where
  ph2 : Ph2 w1 w e eo sz m gr X L vs lvs ns
  lt : lvs.length < vs.length
  row : Ow w e sz x (ns lvs.length + k) (mks m lvs.length (ns lvs.length) ++ mks m (-1 - lvs.length) k)
  place : (∃ A c, vs[lvs.length] = .slice A (ns lvs.length) c ∧ x = .slice A (ns lvs.length + k) c) ∨ ∀ b, x.ownBlock = some b → w1.heap.size ≤ b ∧ (∀ v ∈ lvs, v.ownBlock ≠ some b) ∧ L.ownBlock ≠ some b

namespace Ph3
variable {w1 w w2 : World} {e eo : TypeId} {sz : Nat} {m : Int → Nat → List Value} {gr : Nat} {X L x : Value} {vs lvs : List Value} {ns : Nat → Nat} {k : Nat}

theorem start (h : Ph2 w1 w e eo sz m gr X L vs lvs ns) (hl : lvs.length < vs.length) : Ph3 w1 w e eo sz m gr X L vs[lvs.length] vs lvs ns 0 := by
  refine ⟨h, hl, by simpa [mks] using h.two.rows.row _ hl, .inl ?_⟩
  obtain ⟨A, c, h1, _⟩ := (h.two.rows.row _ hl).form
  exact ⟨A, c, h1, h1⟩

/-- Where the growing row is not: all others. -/
theorem other (h : Ph3 w1 w e eo sz m gr X L x vs lvs ns k) (b : Nat) (hb : x.ownBlock = some b) :
    (∀ b', X.ownBlock = some b' → b' ≠ b) ∧ (∀ j (hj : j < vs.length), j ≠ lvs.length → vs[j].ownBlock ≠ some b) ∧ L.ownBlock ≠ some b ∧ (∀ v ∈ lvs, v.ownBlock ≠ some b) ∧ (b < w1.heap.size → InRows vs b) := by
  rcases h.place with ⟨A, c, h1, h2⟩ | h1
  · have hvb : (vs[lvs.length]'h.lt).ownBlock = some b := by rw [h1]; rw [h2] at hb; cases A <;> exact hb
    have hin : InRows vs b := ⟨_, List.getElem_mem h.lt, hvb⟩
    have hlt := h.ph2.lt b hin
    refine ⟨fun b' h' e => h.ph2.two.away b' h' (e ▸ hin), fun j hj hne => h.ph2.two.rows.apart _ j h.lt hj b (fun e => hne e.symm) hvb, fun h' => ?_, fun v hv h' => ?_, fun _ => hin⟩
    · have := (h.ph2.fresh b h').1; omega
    · obtain ⟨j, hj, rfl⟩ := List.getElem_of_mem hv
      have hj' : j < vs.length := Nat.lt_of_lt_of_le hj h.ph2.many
      rcases h.ph2.from_ j hj hj' b h' with h'' | h''
      · exact h.ph2.two.rows.apart j _ hj' h.lt b (by omega) h'' hvb
      · omega
  · obtain ⟨h3, h4, h5⟩ := h1 b hb
    refine ⟨fun b' h' e => ?_, fun j hj _ h' => ?_, h5, h4, fun h' => by omega⟩
    · have := h.ph2.ltX b' h'; omega
    · have := h.ph2.lt b ⟨_, List.getElem_mem hj, h'⟩; omega

theorem kept0 (h : Ph3 w1 w e eo sz m gr X L x vs lvs ns k) (f : Fr no w w2) : Ph3 w1 w2 e eo sz m gr X L x vs lvs ns k :=
  ⟨⟨h.ph2.two.kept f (fun _ _ h => h) (fun _ _ h => h), h.ph2.long.kept0 f, h.ph2.many, fun j hj => (h.ph2.rows j hj).kept0 f, h.ph2.from_, h.ph2.fresh, h.ph2.fr.trans f (fun _ _ h => h.elim), h.ph2.ltX, h.ph2.lt⟩, h.lt, h.row.kept0 f, h.place⟩

/-- One more mark behind it. -/
theorem more (hm : ∀ i k, (m i k).length = sz) (h : Ph3 w1 w e eo sz m gr X L x vs lvs ns k) {x' : Value} (ho : Ow w2 e sz x' (ns lvs.length + k + 1) (mks m lvs.length (ns lvs.length) ++ mks m (-1 - lvs.length) k ++ m (-1 - lvs.length) k))
    (hold : Ow w2 e sz x (ns lvs.length + k) (mks m lvs.length (ns lvs.length) ++ mks m (-1 - lvs.length) k)) (f : Fr (fun b => x.ownBlock = some b) w w2) (st : Stays w w2 x x' (ns lvs.length + k) (ns lvs.length + k + 1)) :
    Ph3 w1 w2 e eo sz m gr X L x' vs lvs ns (k + 1) := by
  have hkeep : ∀ j (hj : j < vs.length), Ow w2 e sz vs[j] (ns j) (mks m j (ns j)) := by
    intro j hj
    by_cases hji : j = lvs.length
    · subst hji
      rcases h.place with ⟨A, c, h1, h2⟩ | h1
      · rw [h2] at hold
        have := hold.head (ns lvs.length) (by omega)
        rw [List.take_append_of_le_length (by rw [mks_len hm]; exact Nat.le_refl _), List.take_of_length_le (by rw [mks_len hm]; exact Nat.le_refl _)] at this
        rw [h1]; exact this
      · exact (h.ph2.two.rows.row _ hj).kept f (fun b hb hb2 => by have := (h1 b hb2).1; have := h.ph2.lt b ⟨_, List.getElem_mem hj, hb⟩; omega)
    · exact (h.ph2.two.rows.row _ hj).kept f (fun b hb hb2 => (h.other b hb2).2.1 j hj hji hb)
  refine ⟨⟨⟨h.ph2.two.out.kept f (fun b hb hb2 => (h.other b hb2).1 b hb rfl), h.ph2.two.away, hkeep, h.ph2.two.rows.apart⟩, h.ph2.long.kept f (fun b hb hb2 => (h.other b hb2).2.2.1 hb), h.ph2.many,
    fun j hj => (h.ph2.rows j hj).kept f (fun b hb hb2 => (h.other b hb2).2.2.2.1 _ (List.getElem_mem hj) hb), h.ph2.from_, h.ph2.fresh, h.ph2.fr.trans f (fun b hb hb2 => (h.other b hb2).2.2.2.2 hb), h.ph2.ltX, h.ph2.lt⟩, h.lt, ?_, ?_⟩
  · rw [mks_succ, ← List.append_assoc]; exact ho
  · rcases st with ⟨A, c, h1, h2⟩ | st
    · rcases h.place with ⟨A', c', h3, h4⟩ | h3
      · rw [h4] at h1; cases h1
        exact .inl ⟨A, c, h3, h2⟩
      · refine .inr fun b hb => h3 b ?_
        rw [h1]; rw [h2] at hb; cases A <;> exact hb
    · refine .inr fun b hb => ?_
      obtain ⟨h5, h6⟩ := st b hb
      have hs := h.ph2.fr.size
      refine ⟨by omega, fun v hv h' => ?_, fun h' => ?_⟩
      · obtain ⟨j, hj, rfl⟩ := List.getElem_of_mem hv
        have := (h.ph2.rows j hj).lt b h'; omega
      · have := h.ph2.long.lt b h'; omega

/-- The grown row laid into the long one. -/
theorem laid (h : Ph3 w1 w e eo sz m gr X L x vs lvs ns gr) {L' : Value} (ho : Ow w2 eo 1 L' (lvs.length + 1) (lvs ++ [x])) (f : Fr (fun b => L.ownBlock = some b) w w2) (st : Stays w w2 L L' lvs.length (lvs.length + 1)) :
    Ph2 w1 w2 e eo sz m gr X L' vs (lvs ++ [x]) ns := by
  have hL : ∀ b, L.ownBlock = some b → w1.heap.size ≤ b := fun b hb => (h.ph2.fresh b hb).1
  have hxL : ∀ b, x.ownBlock = some b → L.ownBlock ≠ some b := fun b hb => (h.other b hb).2.2.1
  refine ⟨h.ph2.two.kept f (fun b hb hb2 => by have := h.ph2.ltX b hb; have := hL b hb2; omega) (fun b hb hb2 => by have := h.ph2.lt b hb; have := hL b hb2; omega), by simpa using ho, by have := h.lt; simp; omega, ?_, ?_, ?_, h.ph2.fr.trans f (fun b hb hb2 => by have := hL b hb2; omega), h.ph2.ltX, h.ph2.lt⟩
  · intro j hj
    by_cases hj2 : j < lvs.length
    · rw [List.getElem_append_left hj2]
      exact (h.ph2.rows j hj2).kept f (fun b hb hb2 => (h.ph2.fresh b hb2).2 _ (List.getElem_mem hj2) hb)
    · obtain rfl : j = lvs.length := by simp at hj; omega
      simp only [List.getElem_concat_length]
      exact h.row.kept f (fun b hb hb2 => hxL b hb hb2)
  · intro j hj hj' b hb
    by_cases hj2 : j < lvs.length
    · rw [List.getElem_append_left hj2] at hb
      exact h.ph2.from_ j hj2 hj' b hb
    · obtain rfl : j = lvs.length := by simp at hj; omega
      simp only [List.getElem_concat_length] at hb
      rcases h.place with ⟨A, c, h1, h2⟩ | h1
      · left; rw [h1]; rw [h2] at hb; cases A <;> exact hb
      · exact .inr (h1 b hb).1
  · intro b hb
    rcases st with ⟨A, c, h1, h2⟩ | st
    · have hb' : L.ownBlock = some b := by rw [h1]; rw [h2] at hb; cases A <;> exact hb
      refine ⟨hL b hb', fun v hv h' => ?_⟩
      rcases List.mem_append.1 hv with hv | hv
      · exact (h.ph2.fresh b hb').2 v hv h'
      · simp at hv; subst hv; exact hxL b h' hb'
    · obtain ⟨h5, h6⟩ := st b hb
      have hs := h.ph2.fr.size
      refine ⟨by omega, fun v hv h' => ?_⟩
      rcases List.mem_append.1 hv with hv | hv
      · obtain ⟨j, hj, rfl⟩ := List.getElem_of_mem hv
        have := (h.ph2.rows j hj).lt b h'; omega
      · simp at hv; subst hv; have := h.row.lt b h'; omega
end Ph3

/-- The elements off, off + 1, .. of a slice. -/
def Shows (w : World) (sz : Nat) (v : Value) (off n : Nat) (f : Nat → List Value) : Prop :=
  0 < n → ∃ g c N, v = .slice (some ⟨g, 0, none⟩) N c ∧ off + n ≤ N ∧ N ≤ c ∧ ∀ k, k < n → ∀ (t : Nat) u, (f k)[t]? = some u → w.cell? ⟨g, (off + k) * sz + t, none⟩ = some u

theorem Shows.of {w : World} {e : TypeId} {sz n off k : Nat} {v : Value} {xs ys : List Value} {m : Int → Nat → List Value} {i : Int} (hm : ∀ i k, (m i k).length = sz) (h : Ow w e sz v n (xs ++ mks m i k ++ ys)) (hx : xs.length = off * sz) (hn : off + k ≤ n) : Shows w sz v off k (m i) := by
  intro hk
  obtain ⟨g, c, h1, h2, _, _, _, h3⟩ := h.cells 0 (by omega)
  refine ⟨g, c, n, h1, hn, h2, fun k' hk' t u hu => h3 _ _ ?_⟩
  have ht : t < sz := by have := (List.getElem?_eq_some_iff.1 hu).1; rw [hm] at this; exact this
  have hle : k' * sz + t < k * sz := by
    have : (k' + 1) * sz ≤ k * sz := Nat.mul_le_mul_right _ hk'
    rw [Nat.succ_mul] at this; omega
  rw [Nat.add_mul, Nat.add_assoc, List.append_assoc, List.getElem?_append_right (by omega), hx, Nat.add_sub_cancel_left, List.getElem?_append_left (by rw [mks_len hm]; exact hle), mks_get hm i k' k hk' t ht]
  exact hu

theorem Ph2.at {w1 w : World} {e eo : TypeId} {sz : Nat} {m : Int → Nat → List Value} {gr : Nat} {X L : Value} {vs lvs : List Value} {ns : Nat → Nat} (hm : ∀ i k, (m i k).length = sz) (h : Ph2 w1 w e eo sz m gr X L vs lvs ns) (j : Nat) (hj : j < vs.length) (hl : j < lvs.length) :
    Shows w sz vs[j] 0 (ns j) (m j) ∧ Shows w sz lvs[j] 0 (ns j) (m j) ∧ Shows w sz lvs[j] (ns j) gr (m (-1 - j)) := by
  refine ⟨Shows.of (xs := []) (ys := []) hm (by simpa using h.two.rows.row j hj) (by simp) (by omega), Shows.of (xs := []) (ys := mks m (-1 - j) gr) hm (by simpa using h.rows j hl) (by simp) (by omega), Shows.of (ys := []) hm (by simpa using h.rows j hl) (mks_len hm _ _) (Nat.le_refl _)⟩

/-- The marks of bytes. -/
def mB (i : Int) (k : Nat) : List Value := [.int .u8 ((i * 97 + (k : Int) * 13) % 256)]

theorem mB_len (i : Int) (k : Nat) : (mB i k).length = 1 := rfl

theorem take_set_mark {l : List Value} {m : Int → Nat → List Value} {i : Int} {k : Nat} {u : Value} (h : l.take k = mks m i k) (hk : k < l.length) (hu : m i k = [u]) : (l.set k u).take (k + 1) = mks m i (k + 1) := by
  rw [mks_succ, hu, ← h, List.take_succ_eq_append_getElem (by simpa using hk), List.take_set_of_le (Nat.le_refl _)]
  simp

set_option maxRecDepth 100000 in
set_option maxHeartbeats 4000000 in
theorem own_bytes (w : World) (A : Option Addr) (c : Nat) (vs : List Value) (ns : Nat → Nat) (C0 : Nat → List Value) (h : Two w 5 1 (.slice A vs.length c) vs ns C0) (hX : ∀ b, (Value.slice A vs.length c).ownBlock = some b → b < w.heap.size) (hvs : vs.length ≤ 1000000) (hns : ∀ j, ns j ≤ 140737488351232) :
    Calls Tryz.prog 42 #[.slice A vs.length c] w fun e w' => e = .returned (.bool true) ∧ Fr (InRows vs) w w' := by
  have H := Lib.hid h; have HLX := Lib.hid hX; have HNS := Lib.hid hns; clear h hX hns
  go_enter Tryz.func42, Tryz.ntmps42
  go_wp2
  go_loopw [3] (fun s wr => ∃ (i : Nat) (C : Nat → List Value), i ≤ vs.length ∧ s = .int .i64 i ∧ Two wr 5 1 (.slice A vs.length c) vs ns C ∧ Fr (InRows vs) w wr ∧ ∀ j, j < i → C j = mks mB j (ns j)) (fun s _ => vs.length - (intOf s).toNat)
  case atStart => exact ⟨0, C0, Nat.zero_le _, rfl, H.out, Fr.refl _ _, fun j h => by omega⟩
  case round =>
    obtain ⟨i, C, hi, rfl, ht, hf, hm⟩ := hrel
    have HT := Lib.hid ht; have HF := Lib.hid hf; have HM := Lib.hid hm; clear ht hf hm
    by_cases hlt : i < vs.length
    · go_wp2
      go_loopw [4] (fun s wr => ∃ (k : Nat) (C : Nat → List Value), k ≤ ns i ∧ s = .int .i64 k ∧ Two wr 5 1 (.slice A vs.length c) vs ns C ∧ Fr (InRows vs) w wr ∧ (∀ j, j < i → C j = mks mB j (ns j)) ∧ (C i).take k = mks mB i k) (fun s _ => 140737488351232 - (intOf s).toNat)
      case atStart => exact ⟨0, C, Nat.zero_le _, rfl, HT.out, HF.out, HM.out, by simp [mks]⟩
      case round =>
        obtain ⟨k, C, hk, rfl, ht, hf, hm, hmk⟩ := hrel
        have HT := Lib.hid ht; have HF := Lib.hid hf; have HM := Lib.hid hm; have HK := Lib.hid hmk; clear ht hf hm hmk
        have hk9 : ns i ≤ 140737488351232 := HNS.out i
        obtain ⟨b, o, hA, hcell⟩ := sl_at HT.out.out i hlt
        subst hA
        by_cases hkl : k < ns i
        · have hri := HT.out.rows.row i hlt
          obtain ⟨g, c', hv, _, _, hgl, hz, hcs⟩ := hri.cells k hkl
          have hkC : k < (C i).length := by rw [hri.1]; omega
          obtain ⟨cv, hcv⟩ : ∃ cv, (C i)[k]? = some cv := ⟨_, List.getElem?_eq_getElem hkC⟩
          have hc := hcs k _ hcv
          have hz := hz k
          rw [hv] at hcell
          have HV := Lib.hid hv; have HRI := Lib.hid hri; have HKC := Lib.hid hkC; clear hv hri hcs hkC hcv
          go_wp2
          go_roundw
          case rel =>
            obtain ⟨u, hu⟩ : ∃ u : Value, u = .int .u8 (((i : Int) * 97 + (k : Int) * 13) % 256) := ⟨_, rfl⟩
            rw [← hu]
            have hin : InRows vs g := ⟨vs[i], List.getElem_mem _, by rw [HV.out]; rfl⟩
            have hro : Ow (wr.setCell ⟨g, k, none⟩ u) 5 1 vs[i] (ns i) ((C i).set k u) := by
              have h := HRI.out
              rw [HV.out] at h ⊢
              exact h.set HKC.out u
            have hone := HT.out.rows.one i hlt (w1 := wr.setCell ⟨g, k, none⟩ u) ((Fr.refl _ wr).setCell _ _ (fun _ => by rw [HV.out]; rfl)) _ hro
            refine ⟨k + 1, _, hkl, by go_num, ⟨HT.out.out.kept (S := fun b => b = g) ((Fr.refl _ wr).setCell _ _ (fun _ => rfl)) (fun b' hb' e => HT.out.away b' hb' (by subst e; exact hin)), HT.out.away, hone⟩, HF.out.setCell _ _ (fun _ => hin), fun j hj => ?_, ?_⟩
            · simp only [show ¬ j = i by omega, if_false]
              exact HM.out j hj
            · simp only [if_true]
              exact take_set_mark HK.out HKC.out (by rw [hu]; rfl)
          case measure => simp [intOf]; omega
        · have hkk : k = ns i := by omega
          subst hkk
          obtain ⟨Ai, ci, hv, _, _⟩ := (HT.out.rows.row i hlt).form
          rw [hv] at hcell
          have HV := Lib.hid hv; clear hv
          go_wp2
          go_roundw
          case rel =>
            refine ⟨i + 1, C, hlt, by go_num, HT.out, HF.out, fun j hji => ?_⟩
            by_cases h : j = i
            · subst h
              have h2 := HK.out
              rw [List.take_of_length_le (by rw [(HT.out.rows.row j hlt).1]; omega)] at h2
              exact h2
            · exact HM.out j (by omega)
          case measure => simp [intOf]; omega
    · obtain rfl : i = vs.length := by omega
      clear hlt hi
      have HT1 := Lib.hid (show Two wr 5 1 (.slice A vs.length c) vs ns (fun j => mks mB j (ns j)) from ⟨HT.out.out, HT.out.away, HT.out.rows.congr HM.out⟩)
      clear HT HM
      obtain ⟨w1, rfl⟩ : ∃ w1 : World, w1 = wr := ⟨_, rfl⟩
      go_wp2
      go_loopw [5, 6] (fun L s wr => ∃ (lvs : List Value), s = .int .i64 lvs.length ∧ Ph2 w1 wr 5 27 1 mB 16 (.slice A vs.length c) L vs lvs ns) (fun _ s _ => vs.length - (intOf s).toNat)
      case atStart => exact ⟨[], rfl, HT1.out, ⟨rfl, .inl ⟨rfl, rfl⟩⟩, Nat.zero_le _, fun j h => by simp at h, fun j h => by simp at h, fun b h => by simp [Value.ownBlock] at h, Fr.refl _ _, fun b hb => Nat.lt_of_lt_of_le (HLX.out b hb) HF.out.size, HT1.out.rows.lt⟩
      case round =>
        obtain ⟨lvs, rfl, hp⟩ := hrel
        have hmany := hp.many
        have HP := Lib.hid hp; clear hp
        by_cases hlt : lvs.length < vs.length
        · obtain ⟨b, o, hA, hcell⟩ := sl_at HP.out.two.out lvs.length hlt
          subst hA
          have HS := Lib.hid (Ph3.start HP.out hlt)
          go_wp2
          go_loopw [7, 8] (fun x s wr => ∃ k : Nat, k ≤ 16 ∧ s = .int .i64 k ∧ Ph3 w1 wr 5 27 1 mB 16 (.slice (some ⟨b, o, none⟩) vs.length c) u5 x vs lvs ns k) (fun _ s _ => 16 - (intOf s).toNat)
          case atStart => exact ⟨0, Nat.zero_le _, rfl, HS.out⟩
          case round =>
            obtain ⟨k, hk, rfl, hp⟩ := hrel
            have HP := Lib.hid hp; clear hp
            have hn9 := HNS.out lvs.length
            by_cases hk16 : k < 16
            · go_wp2_with (at_builtin; refine wpList_apo rfl (.tmp 54) (.tmp 62) 27 rfl tbB (HP.out.kept0 ((Fr.refl no _).alloc _)).row (Sl.built wr _ _) rfl rfl (by simp [Value.oneCell']) ?b1 ?b2 ?go)
              case b1 => simp only [maxLen]; omega
              case b2 => omega
              case go =>
                intro A' N c' w2 hN ho hold hf2 hst
                subst hN
                have HPP := Lib.hid (Ph3.more mB_len (HP.out.kept0 ((Fr.refl no _).alloc _)) (by rw [← List.append_assoc] at ho; exact ho) hold hf2 hst)
                clear ho hold hf2 hst
                go_wp2
                go_roundw
                case rel => exact ⟨k + 1, by omega, by go_num, HPP.out⟩
                case measure => simp [intOf]; omega
            · obtain rfl : k = 16 := by omega
              obtain ⟨Ax, cx, hx, _, _⟩ := HP.out.row.form
              subst hx
              go_wp2_with (at_builtin; refine wpList_apo rfl (.tmp 64) (.tmp 66) 33 rfl tbRows (HP.out.kept0 ((Fr.refl no _).alloc _)).ph2.long (Sl.built wr _ _) rfl rfl ?b0 ?b1 ?b2 ?go)
              case b0 => simp [Value.oneCell']
              case b1 => simp only [maxLen]; omega
              case b2 => omega
              case go =>
                intro A' N c' w2 hN ho hold hf2 hst
                subst hN
                have HPP := Lib.hid (Ph3.laid (HP.out.kept0 ((Fr.refl no _).alloc _)) ho hf2 hst)
                clear ho hold hf2 hst
                go_wp2
                go_roundw
                case rel => exact ⟨lvs ++ [_], by simp, HPP.out⟩
                case measure => simp [intOf]; omega
        · have hle : lvs.length = vs.length := by omega
          have hrow := fun j (hj : j < vs.length) => Ph2.at mB_len HP.out j hj (by omega)
          have HR := Lib.hid hrow; clear hrow
          obtain ⟨AL, cL, hL, _, _⟩ := HP.out.long.form
          subst hL
          have HLL := Lib.hid HP.out.long.sl
          go_wp2
          go_loop [9] (fun s => ∃ i : Nat, i ≤ vs.length ∧ s = .int .i64 i) (fun s => vs.length - (intOf s).toNat)
          case atStart => exact ⟨0, Nat.zero_le _, rfl⟩
          case round =>
            obtain ⟨i, hi, rfl⟩ := hrel
            by_cases hlt2 : i < vs.length
            · obtain ⟨b, o, hA, hcell⟩ := sl_at HP.out.two.out i hlt2
              obtain ⟨b2, o2, hA2, hcell2⟩ := sl_at HLL.out i (by omega)
              subst hA; subst hA2
              obtain ⟨Ai, ci, hv, hci, _⟩ := (HP.out.two.rows.row i hlt2).form
              rw [hv] at hcell
              have HV := Lib.hid hv
              have hn9 := HNS.out i
              clear hv
              go_wp2
              go_loop [11] (fun s => ∃ k : Nat, k ≤ ns i ∧ s = .int .i64 k) (fun s => ns i - (intOf s).toNat)
              case atStart => exact ⟨0, Nat.zero_le _, rfl⟩
              case round =>
                obtain ⟨k, hk, rfl⟩ := hrel
                by_cases hkl : k < ns i
                · obtain ⟨g, c1, N1, e1, _, _, q1⟩ := (HR.out i hlt2).1 (by omega)
                  obtain ⟨g2, c2, N2, e2, _, _, q2⟩ := (HR.out i hlt2).2.1 (by omega)
                  replace q1 := q1 k hkl 0 _ rfl
                  replace q2 := q2 k hkl 0 _ rfl
                  simp only [Nat.zero_add, Nat.mul_one, Nat.add_zero] at q1 q2
                  rw [HV.out] at e1
                  rw [e2] at hcell2
                  have HV2 := Lib.hid e2; clear e2
                  cases e1
                  go_wp2
                  go_round
                  case rel => exact ⟨k + 1, hkl, by go_num⟩
                  case measure => simp [intOf]; omega
                · obtain rfl : k = ns i := by omega
                  go_wp2
                  go_loop [12] (fun s => ∃ k : Nat, k ≤ 16 ∧ s = .int .i64 k) (fun s => 16 - (intOf s).toNat)
                  case atStart => exact ⟨0, Nat.zero_le _, rfl⟩
                  case round =>
                    obtain ⟨k, hk, rfl⟩ := hrel
                    by_cases hkl : k < 16
                    · obtain ⟨g2, c2, N2, e2, _, _, q2⟩ := (HR.out i hlt2).2.2 (by omega)
                      replace q2 := q2 k hkl 0 _ rfl
                      simp only [Nat.mul_one, Nat.add_zero] at q2
                      rw [e2] at hcell2
                      have HV2 := Lib.hid e2; clear e2
                      go_wp2
                      go_round
                      case rel => exact ⟨k + 1, hkl, by go_num⟩
                      case measure => simp [intOf]; omega
                    · go_wp2
                      go_round
                      case rel => exact ⟨i + 1, hlt2, by go_num⟩
                      case measure => simp [intOf]; omega
            · go_wp2
              go_ret
              exact ⟨rfl, HF.out.trans HP.out.fr (fun _ _ h => h)⟩
end Go.Proofs.YtgcicljklejmjaaGreatDoor
