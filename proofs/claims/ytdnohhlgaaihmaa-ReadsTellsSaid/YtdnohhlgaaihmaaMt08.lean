import Derived.Test.YtdnohhlgaaihmaaMt07
import Derived.Test.YtdnohhlgaaihmaaMt03

/- reads.Set: the walk of Span, x shut. -/
namespace Go.Proofs.Ytdnohhlgaaihmaa
open Go.RowKit

set_option maxRecDepth 100000 in
set_option maxHeartbeats 8000000 in
theorem span_shut (w : World) (p : Nat) (sv : Value) (l : List SpV) (x : SpV) (hs : Se w p sv l) (hx : x.Good w) (ho : x.o = false) (hc : 0 < cb x.t x.f) (hl : l.length ≤ 100000) :
    Calls Try.prog 43 #[.pointer (some ⟨p, 0, none⟩), .agg #[x.F, x.T, .bool x.o]] w fun e w' => Spanned w w' p sv l x e := by
  obtain ⟨F, T, f, t, o⟩ := x
  simp only at ho hc
  subst ho
  obtain ⟨A, c, hsv, hnc, hcm⟩ := hs.row.form
  subst hsv
  have HX := Lib.hid hx; have HS := Lib.hid hs; have HC := Lib.hid (Or.inr hc : false = true ∨ 0 < cb t f)
  have hb : decide (cb t f ≤ 0) = false := by simpa using hc
  have hc1 := one_cells hs.at_
  have hx1 := Lib.hid (cells3_one l hs.good)
  have HPL := Lib.hid hc1.2.2
  clear hx hs hc hc1
  go_enter Try.func43, Try.ntmps43
  go_wp2
  go_step3
  go_wp2_with fail
  refine (cmp_any _ _ _ t f (HX.out.T.kept0 ((Fr.refl no w).alloc _)) (HX.out.F.kept0 ((Fr.refl no w).alloc _))).mono ?_
  rintro e w1 ⟨rfl, rfl⟩
  go_wp2_with fail
  refine wp_region_ord [0, 1, 3, 4, 6, 7, 2, 5, 8, 9] (fun i => [Kd.p, Kd.l, Kd.g, Kd.p, Kd.l, Kd.g, Kd.p, Kd.l, Kd.e, Kd.e].getD i .e) (by kernel_rfl) (by kernel_rfl) ?_
  iterate 6
    first | refine wpX_pu rfl rfl rfl (by first | exact pu_move rfl | exact pu_assign rfl | exact pu_nilCheck rfl rfl | exact pu_binInt rfl rfl rfl | exact pu_conv rfl rfl (by kernel_rfl) | exact pu_fld rfl (by kernel_rfl) | exact pu_ix rfl rfl rfl (by kernel_rfl) | exact pu_unOp rfl | exact pu_binStr rfl rfl rfl | exact pu_len rfl rfl | exact pu_lens rfl rfl | exact pu_pick rfl | exact pu_slice rfl rfl) (fun K hK => ?_) | refine wpX_rd rfl rfl rfl (rd_load rfl) (fun K hK => ?_) | refine wpX_gr rfl rfl rfl (by first | exact gr_buildSlice rfl | exact gr_box rfl | exact gr_alloc rfl) (fun K hK => ?_) | refine wpX_ex rfl rfl rfl (fun K hK => ?_)
    try go_wp2
  refine wpX_ca rfl rfl rfl (fun K hK => ?_)
  go_wp2_with fail
  refine (rown_any _ F f (HX.out.F.kept0 (by (repeat first | exact Fr.refl _ _ | exact Fr.drewN _ _ _ | apply Fr.drew | apply Fr.alloc | apply Fr.setAt | apply Fr.moreN))) HX.out.lf).mono ?_
  rintro e w1 ⟨A1, rfl, h1, h2, h3⟩
  have H1 := Lib.hid h1; have H2 := Lib.hid h2; have H3 := Lib.hid h3; clear h1 h2 h3
  go_wp2
  obtain ⟨⟨xa, xb⟩, hext⟩ := H3.out.ext
  refine ⟨⟨xa, xb, hext⟩, hK _ _ ?_⟩
  clear hK K hext xa xb
  refine wpX_ca rfl rfl rfl (fun K hK => ?_)
  go_wp2_with fail
  refine (rown_any _ T t ((HX.out.T.kept0 (by (repeat first | exact Fr.refl _ _ | exact Fr.drewN _ _ _ | apply Fr.drew | apply Fr.alloc | apply Fr.setAt | apply Fr.moreN))).kept0 H3.out) HX.out.lt).mono ?_
  rintro e w2 ⟨A2, rfl, h1, h2, h3⟩
  have G1 := Lib.hid h1; have G2 := Lib.hid h2; have G3 := Lib.hid h3; clear h1 h2 h3
  go_wp2
  obtain ⟨⟨xa, xb⟩, hext⟩ := G3.out.ext
  refine ⟨⟨xa, xb, hext⟩, hK _ _ ?_⟩
  clear hK K hext xa xb
  refine wpX_ex rfl rfl rfl (fun K hK => ?_)
  go_simp
  refine hK _ _ ?_
  clear hK K
  have hv2 : VarAt w2 w.heap.size ⟨F, T, f, t, false⟩ := VarAt.kept (VarAt.kept (heap_alloc_new w _) (fr_sooner (Fr.drew (Fr.refl no _)) H3.out) (fun h => h)) G3.out (fun h => h)
  obtain ⟨d0, d1, d2, d3, d4⟩ := hv2.cells
  refine wpX_ex rfl rfl rfl (fun K hK => ?_)
  go_simp
  refine hK _ _ ?_
  clear hK K
  refine wpX_done ?_
  generalize hW : World.setCell (World.setCell (World.setCell w2 _ _) _ _) _ _ = w3
  have hv3 : VarAt w3 w.heap.size ⟨.slice A1 f.length f.length, .slice A2 t.length t.length, f, t, false⟩ := by
    rw [← hW]; exact ((hv2.setF _ f).setT _ t).setO false
  have hf3 : Fr (At w.heap.size) w w3 := by
    rw [← hW]; exact ((((fr_sooner (((Fr.refl no w).alloc _).drew.trans H3.out (fun _ _ h => h)) (fr_sooner G3.out (Fr.refl (At w.heap.size) w2))).setAt _ _).setAt _ _).setAt _ _)
  have hk2 : Ow w3 5 1 (.slice A2 t.length t.length) t.length (bvs t) := G1.out.kept (S := At w.heap.size) (by rw [← hW]; exact (((Fr.refl (At w.heap.size) w2).setAt _ _).setAt _ _).setAt _ _) (fun k hk e => by have := G2.out k hk; have := H3.out.size; have : k = w.heap.size := e; simp at *; omega)
  have hk1 : Ow w3 5 1 (.slice A1 f.length f.length) f.length (bvs f) := (H1.out.kept0 G3.out).kept (S := At w.heap.size) (by rw [← hW]; exact (((Fr.refl (At w.heap.size) w2).setAt _ _).setAt _ _).setAt _ _) (fun k hk e => by have := H2.out k hk; have : k = w.heap.size := e; simp at *; omega)
  have hset3 : Se w3 p (.slice A l.length c) l := HS.out.kept hf3 (fun k hk e => by
    have hkk : k = w.heap.size := e
    have h1 := HPL.out
    rcases hk with hk | hk | ⟨y, hy, hk⟩
    · omega
    · have := HS.out.row.lt k hk; omega
    · have := (HS.out.apart y hy k hk).2.2; omega)
  have hsz : w.heap.size < w3.heap.size := by have := hv3.cells.2.2.2.2; omega
  have HM3 := Lib.hid (show Mid w w3 p w.heap.size (.slice A l.length c) l ⟨.slice A1 f.length f.length, .slice A2 t.length t.length, f, t, false⟩ from
    ⟨hv3, hf3, ⟨hk1.sl, hk2.sl, HX.out.lf, HX.out.lt⟩, fun k hk => by
      left
      rcases hk with hk | hk
      · have h1 := H2.out k hk; have h2 := hk1.lt k hk; simp at h1; omega
      · have h1 := G2.out k hk; have h2 := hk2.lt k hk; have h3 := H3.out.size; simp at h3; omega, hset3, rfl⟩)
  clear hW d0 d1 d2 d3 d4 hv2 hv3 hf3 hk1 hk2 hset3 hsz H1 H2 H3 G1 G2 G3
  obtain ⟨d0, d1, d2, d3, d4⟩ := HM3.out.v.cells
  obtain ⟨e0, e1, e2⟩ := one_cells HM3.out.set.at_
  have hpx : ¬ (w.heap.size = p) := by have := HPL.out; omega
  have hpx' : ¬ (p = w.heap.size) := by have := HPL.out; omega
  go_wp2_with fail
  have HM5 := HM3
  clear HM3
  obtain ⟨w5, hw5⟩ : ∃ w5, w5 = w3 := ⟨_, rfl⟩
  rw [← hw5] at HM5 ⊢
  clear hw5 d0 d1 d2 d3 d4 e0 e1 e2
  refine (index_span1 w5 w.heap.size A c l HM5.out.set.row.sl (by omega) (fun y => reach y.o y.t f) (fun w' hf' y hy => span1_any w' w.heap.size y.F y.T (.slice A1 f.length f.length) y.t f y.o (((HM5.out.set.good y hy).T).kept0 hf') (HM5.out.good.F.kept0 hf') ((HM5.out.v.kept hf' (fun h => h)).cells.1))).mono ?_
  rintro e w6 ⟨rfl, hf6⟩
  have HM6 := Lib.hid (HM5.out.kept0 hf6)
  clear hf6 HM5
  have hfl := SpV.fst_le l f
  have hdis : (fits (fun y => reach y.o y.t f) l = -1 ∧ SpV.fst_ l f = l.length) ∨ (fits (fun y => reach y.o y.t f) l = (SpV.fst_ l f : Int) ∧ SpV.fst_ l f < l.length) := SpV.fits_fst l f
  obtain ⟨fi, hfi⟩ : ∃ fi, fi = SpV.fst_ l f := ⟨_, rfl⟩
  rw [← hfi] at hfl hdis
  have HFI := Lib.hid hfi; clear hfi
  obtain ⟨d0, d1, d2, d3, d4⟩ := HM6.out.v.cells
  obtain ⟨e0, e1, e2⟩ := one_cells HM6.out.set.at_
  rcases hdis with ⟨h1, h2⟩ | ⟨h1, h2⟩
  all_goals
    rw [h1]
    have HFE := Lib.hid h2; clear h1 h2
    go_wp2
    go_step3
    go_wp2_with fail
    clear d0 d1 d2 d3 d4 e0 e1 e2
    try rw [show ((l.length : Nat) : Int) = ((fi : Nat) : Int) from congrArg Nat.cast (Eq.symm HFE.out)]
    go_loopw [5] (fun s wr => ∃ (cnt : Nat) (xk : SpV), fi + cnt ≤ l.length ∧ s = .int .i64 ((fi + cnt : Nat) : Int) ∧ Mid w wr p w.heap.size (.slice A l.length c) l xk ∧ SpV.mt (l.drop fi) ⟨(.slice A1 f.length f.length), (.slice A2 t.length t.length), f, t, false⟩ = (cnt + (SpV.mt (l.drop (fi + cnt)) xk).1, (SpV.mt (l.drop (fi + cnt)) xk).2)) (fun s _ => l.length - (intOf s).toNat)
    case atStart => exact ⟨0, _, by omega, by first | rfl | (have := HFE.out; rw [this]; rfl), HM6.out, by simp⟩
    case round =>
      obtain ⟨cnt, ⟨xF, xT, xf, xt, xo⟩, hcl, rfl, hm, hmt⟩ := hrel
      obtain ⟨xA, xc, hxA, _, _⟩ := hm.good.F.form
      obtain ⟨xB, xd, hxB, _, _⟩ := hm.good.T.form
      simp only at hxA hxB
      subst hxA; subst hxB
      have HM := Lib.hid hm; have HMT := Lib.hid hmt; clear hm hmt
      obtain ⟨m, hm⟩ : ∃ m, m = fi + cnt := ⟨_, rfl⟩
      rw [← hm] at hcl HMT ⊢
      have HMM := Lib.hid hm; clear hm
      obtain ⟨d0, d1, d2, d3, d4⟩ := HM.out.v.cells
      obtain ⟨e0, e1, e2⟩ := one_cells HM.out.set.at_
      by_cases hlt : m < l.length
      · obtain ⟨b, o, hA, q0, q1, q2⟩ := Spans.at HM.out.set.row.sl m hlt
        have HA := Lib.hid hA
        subst hA
        obtain ⟨yA, yc, hyA, _, _⟩ := (HM.out.set.good l[m] (List.getElem_mem _)).F.form
        obtain ⟨yB, yd, hyB, _, _⟩ := (HM.out.set.good l[m] (List.getElem_mem _)).T.form
        rw [hyA] at q0; rw [hyB] at q1
        have HYA := Lib.hid hyA; have HYB := Lib.hid hyB; clear hyA hyB
        go_wp2_with fail
        have hy4 : VarAt (wr.alloc (.cells #[.slice yA l[m].f.length yc, .slice yB l[m].t.length yd, .bool l[m].o] 100)) wr.heap.size ⟨.slice yA l[m].f.length yc, .slice yB l[m].t.length yd, l[m].f, l[m].t, l[m].o⟩ := heap_alloc_new _ _
        have hal := (Fr.refl no wr).alloc (.cells #[.slice yA l[m].f.length yc, .slice yB l[m].t.length yd, .bool l[m].o] 100)
        have hyF : Sl wr 1 (.slice yA l[m].f.length yc) l[m].f.length (bvs l[m].f) := by rw [← HYA.out]; exact (HM.out.set.good l[m] (List.getElem_mem _)).F
        refine (reaches_any _ (.slice xA xf.length xc) (.slice xB xt.length xd) (.slice yA l[m].f.length yc) xt l[m].f xo (HM.out.good.T.kept0 hal) (hyF.kept0 hal)).mono ?_
        rintro e w7 ⟨rfl, hf7⟩
        have HM7 := Lib.hid (HM.out.kept0 (hal.trans hf7 (fun _ _ h => h)))
        have HY7 := Lib.hid (hy4.kept hf7 (fun h => h))
        have hne : ¬ (wr.heap.size = w.heap.size) := by have := HM.out.v.cells.2.2.2.2; omega
        have hne' : ¬ (w.heap.size = wr.heap.size) := by omega
        clear hy4 hal hyF hf7 q0 q1 q2 d0 d1 d2 d3 d4 e0 e1 e2 HM
        obtain ⟨d0, d1, d2, d3, d4⟩ := HM7.out.v.cells
        obtain ⟨y0, y1, y2, y3, y4⟩ := HY7.out.cells
        obtain ⟨e0, e1, e2⟩ := one_cells HM7.out.set.at_
        have hyF : Sl w7 1 (.slice yA l[m].f.length yc) l[m].f.length (bvs l[m].f) := by rw [← HYA.out]; exact (HM7.out.set.good l[m] (List.getElem_mem _)).F
        have hyT : Sl w7 1 (.slice yB l[m].t.length yd) l[m].t.length (bvs l[m].t) := by rw [← HYB.out]; exact (HM7.out.set.good l[m] (List.getElem_mem _)).T
        have HYF := Lib.hid hyF; have HYT := Lib.hid hyT; clear hyF hyT
        have HMEM := Lib.hid (List.getElem_mem hlt : l[m] ∈ l)
        cases hr : reach xo xt l[m].f with
        | false =>
          have HR := Lib.hid hr; clear hr
          go_wp2_with fail
          refine wp_region_ord (List.range 13) (fun i => [Kd.p, Kd.p, Kd.p, Kd.p, Kd.l, Kd.p, Kd.p, Kd.l, Kd.g, Kd.e, Kd.e, Kd.e, Kd.e].getD i .e) (by kernel_rfl) (by kernel_rfl) ?_
          iterate 9
            first | refine wpX_pu rfl rfl rfl (by first | exact pu_move rfl | exact pu_assign rfl | exact pu_nilCheck rfl rfl | exact pu_binInt rfl rfl rfl | exact pu_conv rfl rfl (by kernel_rfl) | exact pu_fld rfl (by kernel_rfl) | exact pu_ix rfl rfl rfl (by kernel_rfl) | exact pu_unOp rfl | exact pu_binStr rfl rfl rfl | exact pu_len rfl rfl | exact pu_lens rfl rfl | exact pu_pick rfl | exact pu_slice rfl rfl) (fun K hK => ?_) | refine wpX_rd rfl rfl rfl (rd_load rfl) (fun K hK => ?_) | refine wpX_gr rfl rfl rfl (by first | exact gr_buildSlice rfl | exact gr_box rfl | exact gr_alloc rfl) (fun K hK => ?_) | refine wpX_ex rfl rfl rfl (fun K hK => ?_)
            try go_wp2
          refine wpX_ex rfl rfl rfl (fun K hK => ?_)
          go_wp2_with fail
          have HHAS := Lib.hid (show Has (w7.alloc (.cells #[.slice xA xf.length xc, .slice xB xt.length xd, .bool xo] 100)).drew w7.heap.size 100 [.slice xA xf.length xc, .slice xB xt.length xd, .bool xo] from heap_alloc_new w7 _)
          have HAL := Lib.hid (show Fr no w7 (w7.alloc (.cells #[.slice xA xf.length xc, .slice xB xt.length xd, .bool xo] 100)).drew from Fr.drew ((Fr.refl no w7).alloc _))
          with_reducible refine (replaceSpan _ _ l.length c fi m w7.heap.size (l.flatMap SpV.cells) [.slice xA xf.length xc, .slice xB xt.length xd, .bool xo] (HM7.out.kept0 HAL.out).set.row (by have := HMM.out; omega) (by omega) rfl HHAS.out (fun k hk => by have := HM7.out.set.row.lt k hk; omega) hx1.out (by simp [Value.oneCell']) (by omega)).mono ?_
          rintro e w10 ⟨A', c', rfl, ho, hf, hmv⟩
          have hfin := span_fin (xk := ⟨.slice xA xf.length xc, .slice xB xt.length xd, xf, xt, xo⟩) HS.out HM7.out HAL.out (by have := HMM.out; omega) (by omega) rfl ho hf hmv
          have hz := hf.cell ((HM7.out.kept0 HAL.out).set.at_ |> fun h => (one_cells h).1) (HS.out.ne)
          have hz2 := (hf.frozen (a := ⟨p, 0, none⟩) ((one_cells (HM7.out.kept0 HAL.out).set.at_).2.2) (HS.out.ne)).trans ((one_cells (HM7.out.kept0 HAL.out).set.at_).2.1 0)
          have HFIN := Lib.hid hfin
          clear ho hf hmv hfin
          go_simp
          refine hK _ _ ?_
          clear hK K
          iterate 3
            refine wpX_ex rfl rfl rfl (fun K hK => ?_)
            go_simp
            refine hK _ _ ?_
            clear hK K
          refine wpX_done ?_
          rw [Exit.noGoto_normal]
          refine bodyPost_end (results_none rfl _ _ _) rfl ?_
          exact ⟨rfl, _, _, (.slice A1 f.length f.length), (.slice A2 t.length t.length), HFIN.out.1, .inr ⟨by simpa using HC.out, add_is (x := ⟨(.slice A1 f.length f.length), (.slice A2 t.length t.length), f, t, false⟩) HFI.out HMM.out HMT.out (mt_stop hlt HR.out)⟩, HFIN.out.2.1, HFIN.out.2.2⟩
        | true =>
          have HR := Lib.hid hr; clear hr
          go_wp2_with fail
          refine (cmp_any w7 _ _ l[m].f xf HYF.out HM7.out.good.F).mono ?_
          rintro e w8 ⟨rfl, rfl⟩
          have hsF := ((Fr.refl (At w.heap.size) w8).setAt 0 (.slice yA l[m].f.length yc))
          have hbF : ∀ k, (Value.slice xB xt.length xd).ownBlock = some k → ¬ At w.heap.size k := fun k hk e => by
            have e2 : k = w.heap.size := e
            rcases HM7.out.new k (.inr hk) with h | ⟨y, hy, h⟩
            · omega
            · have := (HS.out.apart y hy k h).2.2; omega
          have hbY : ∀ k, (Value.slice yB l[m].t.length yd).ownBlock = some k → ¬ At w.heap.size k := fun k hk e => by
            have e2 : k = w.heap.size := e
            have := (HS.out.apart l[m] HMEM.out k (.inr (by rw [HYB.out]; exact hk))).2.2; omega
          have HTF := Lib.hid (HM7.out.good.T.kept hsF hbF); have HYTF := Lib.hid (HYT.out.kept hsF hbY); clear hsF hbF hbY
          by_cases h1 : cb l[m].f xf < 0
          · have H1 := Lib.hid h1
            cases xo with
            | true =>
              go_wp2_with fail
              go_roundw
              case rel =>
                have hmg : SpV.merge ⟨.slice xA xf.length xc, .slice xB xt.length xd, xf, xt, true⟩ l[m] = ⟨.slice yA l[m].f.length yc, .slice xB xt.length xd, l[m].f, xt, true⟩ := by simp [SpV.merge, H1.out, HYA.out]
                have hst := mt_step (x := ⟨.slice xA xf.length xc, .slice xB xt.length xd, xf, xt, true⟩) hlt HR.out
                rw [hmg] at hst
                refine ⟨cnt + 1, ⟨.slice yA l[m].f.length yc, .slice xB xt.length xd, l[m].f, xt, true⟩, by have := HMM.out; omega, by have := HMM.out; first | (rw [this]; rfl) | (congr 1; omega), HM7.out.turn HS.out ((Fr.refl (At w.heap.size) w8).setAt _ _) (HM7.out.v.setF _ l[m].f) (.inr ⟨l[m], HMEM.out, HYA.out.symm, rfl⟩) (.inl ⟨rfl, rfl⟩), ?_⟩
                rw [HMT.out, hst, show fi + (cnt + 1) = m + 1 by have := HMM.out; omega]
                simp; omega
              case measure => simp [intOf]; omega
            | false =>
              cases hyo : l[m].o with
              | true =>
                rw [hyo] at y2
                have HYO := Lib.hid hyo; clear hyo
                go_wp2_with fail
                go_roundw
                case rel =>
                  have hmg : SpV.merge ⟨.slice xA xf.length xc, .slice xB xt.length xd, xf, xt, false⟩ l[m] = ⟨.slice yA l[m].f.length yc, .slice none 0 0, l[m].f, [], true⟩ := by simp [SpV.merge, H1.out, HYA.out, HYO.out]
                  have hst := mt_step (x := ⟨.slice xA xf.length xc, .slice xB xt.length xd, xf, xt, false⟩) hlt HR.out
                  rw [hmg] at hst
                  refine ⟨cnt + 1, ⟨.slice yA l[m].f.length yc, .slice none 0 0, l[m].f, [], true⟩, by have := HMM.out; omega, by have := HMM.out; first | (rw [this]; rfl) | (congr 1; omega), HM7.out.turn HS.out ((((Fr.refl (At w.heap.size) w8).setAt _ _).setAt _ _).setAt _ _) (((HM7.out.v.setF _ l[m].f).setO true).setT _ []) (.inr ⟨l[m], HMEM.out, HYA.out.symm, rfl⟩) (.inr (.inl ⟨rfl, rfl⟩)), ?_⟩
                  rw [HMT.out, hst, show fi + (cnt + 1) = m + 1 by have := HMM.out; omega]
                  simp; omega
                case measure => simp [intOf]; omega
              | false =>
                rw [hyo] at y2
                have HYO := Lib.hid hyo; clear hyo
                go_wp2_with fail
                refine (cmp_any _ _ _ l[m].t xt HYTF.out HTF.out).mono ?_
                rintro e w9 ⟨rfl, rfl⟩
                by_cases h2 : 0 < cb l[m].t xt
                · have H2 := Lib.hid h2
                  go_wp2_with fail
                  go_roundw
                  case rel =>
                    have hmg : SpV.merge ⟨.slice xA xf.length xc, .slice xB xt.length xd, xf, xt, false⟩ l[m] = ⟨.slice yA l[m].f.length yc, .slice yB l[m].t.length yd, l[m].f, l[m].t, false⟩ := by simp [SpV.merge, H1.out, H2.out, HYA.out, HYB.out, HYO.out]
                    have hst := mt_step (x := ⟨.slice xA xf.length xc, .slice xB xt.length xd, xf, xt, false⟩) hlt HR.out
                    rw [hmg] at hst
                    refine ⟨cnt + 1, ⟨.slice yA l[m].f.length yc, .slice yB l[m].t.length yd, l[m].f, l[m].t, false⟩, by have := HMM.out; omega, by have := HMM.out; first | (rw [this]; rfl) | (congr 1; omega), HM7.out.turn HS.out (((Fr.refl (At w.heap.size) w8).setAt _ _).setAt _ _) ((HM7.out.v.setF _ l[m].f).setT _ l[m].t) (.inr ⟨l[m], HMEM.out, HYA.out.symm, rfl⟩) (.inr (.inr ⟨l[m], HMEM.out, HYB.out.symm, rfl⟩)), ?_⟩
                    rw [HMT.out, hst, show fi + (cnt + 1) = m + 1 by have := HMM.out; omega]
                    simp; omega
                  case measure => simp [intOf]; omega
                · have H2 := Lib.hid h2
                  go_wp2_with fail
                  go_roundw
                  case rel =>
                    have hmg : SpV.merge ⟨.slice xA xf.length xc, .slice xB xt.length xd, xf, xt, false⟩ l[m] = ⟨.slice yA l[m].f.length yc, .slice xB xt.length xd, l[m].f, xt, false⟩ := by simp [SpV.merge, H1.out, (show ¬ (0 < cb l[m].t xt) by have := H2.out; omega), HYA.out, HYO.out]
                    have hst := mt_step (x := ⟨.slice xA xf.length xc, .slice xB xt.length xd, xf, xt, false⟩) hlt HR.out
                    rw [hmg] at hst
                    refine ⟨cnt + 1, ⟨.slice yA l[m].f.length yc, .slice xB xt.length xd, l[m].f, xt, false⟩, by have := HMM.out; omega, by have := HMM.out; first | (rw [this]; rfl) | (congr 1; omega), HM7.out.turn HS.out ((Fr.refl (At w.heap.size) w8).setAt _ _) (HM7.out.v.setF _ l[m].f) (.inr ⟨l[m], HMEM.out, HYA.out.symm, rfl⟩) (.inl ⟨rfl, rfl⟩), ?_⟩
                    rw [HMT.out, hst, show fi + (cnt + 1) = m + 1 by have := HMM.out; omega]
                    simp; omega
                  case measure => simp [intOf]; omega
          · have H1 := Lib.hid h1
            cases xo with
            | true =>
              go_wp2_with fail
              go_roundw
              case rel =>
                have hmg : SpV.merge ⟨.slice xA xf.length xc, .slice xB xt.length xd, xf, xt, true⟩ l[m] = ⟨.slice xA xf.length xc, .slice xB xt.length xd, xf, xt, true⟩ := by simp [SpV.merge, (show ¬ (cb l[m].f xf < 0) by have := H1.out; omega)]
                have hst := mt_step (x := ⟨.slice xA xf.length xc, .slice xB xt.length xd, xf, xt, true⟩) hlt HR.out
                rw [hmg] at hst
                refine ⟨cnt + 1, ⟨.slice xA xf.length xc, .slice xB xt.length xd, xf, xt, true⟩, by have := HMM.out; omega, by have := HMM.out; first | (rw [this]; rfl) | (congr 1; omega), HM7.out.turn HS.out (Fr.refl _ _) HM7.out.v (.inl ⟨rfl, rfl⟩) (.inl ⟨rfl, rfl⟩), ?_⟩
                rw [HMT.out, hst, show fi + (cnt + 1) = m + 1 by have := HMM.out; omega]
                simp; omega
              case measure => simp [intOf]; omega
            | false =>
              cases hyo : l[m].o with
              | true =>
                rw [hyo] at y2
                have HYO := Lib.hid hyo; clear hyo
                go_wp2_with fail
                go_roundw
                case rel =>
                  have hmg : SpV.merge ⟨.slice xA xf.length xc, .slice xB xt.length xd, xf, xt, false⟩ l[m] = ⟨.slice xA xf.length xc, .slice none 0 0, xf, [], true⟩ := by simp [SpV.merge, (show ¬ (cb l[m].f xf < 0) by have := H1.out; omega), HYO.out]
                  have hst := mt_step (x := ⟨.slice xA xf.length xc, .slice xB xt.length xd, xf, xt, false⟩) hlt HR.out
                  rw [hmg] at hst
                  refine ⟨cnt + 1, ⟨.slice xA xf.length xc, .slice none 0 0, xf, [], true⟩, by have := HMM.out; omega, by have := HMM.out; first | (rw [this]; rfl) | (congr 1; omega), HM7.out.turn HS.out (((Fr.refl (At w.heap.size) w8).setAt _ _).setAt _ _) ((HM7.out.v.setO true).setT _ []) (.inl ⟨rfl, rfl⟩) (.inr (.inl ⟨rfl, rfl⟩)), ?_⟩
                  rw [HMT.out, hst, show fi + (cnt + 1) = m + 1 by have := HMM.out; omega]
                  simp; omega
                case measure => simp [intOf]; omega
              | false =>
                rw [hyo] at y2
                have HYO := Lib.hid hyo; clear hyo
                go_wp2_with fail
                refine (cmp_any _ _ _ l[m].t xt HYT.out HM7.out.good.T).mono ?_
                rintro e w9 ⟨rfl, rfl⟩
                by_cases h2 : 0 < cb l[m].t xt
                · have H2 := Lib.hid h2
                  go_wp2_with fail
                  go_roundw
                  case rel =>
                    have hmg : SpV.merge ⟨.slice xA xf.length xc, .slice xB xt.length xd, xf, xt, false⟩ l[m] = ⟨.slice xA xf.length xc, .slice yB l[m].t.length yd, xf, l[m].t, false⟩ := by simp [SpV.merge, (show ¬ (cb l[m].f xf < 0) by have := H1.out; omega), H2.out, HYB.out, HYO.out]
                    have hst := mt_step (x := ⟨.slice xA xf.length xc, .slice xB xt.length xd, xf, xt, false⟩) hlt HR.out
                    rw [hmg] at hst
                    refine ⟨cnt + 1, ⟨.slice xA xf.length xc, .slice yB l[m].t.length yd, xf, l[m].t, false⟩, by have := HMM.out; omega, by have := HMM.out; first | (rw [this]; rfl) | (congr 1; omega), HM7.out.turn HS.out ((Fr.refl (At w.heap.size) w9).setAt _ _) (HM7.out.v.setT _ l[m].t) (.inl ⟨rfl, rfl⟩) (.inr (.inr ⟨l[m], HMEM.out, HYB.out.symm, rfl⟩)), ?_⟩
                    rw [HMT.out, hst, show fi + (cnt + 1) = m + 1 by have := HMM.out; omega]
                    simp; omega
                  case measure => simp [intOf]; omega
                · have H2 := Lib.hid h2
                  go_wp2_with fail
                  go_roundw
                  case rel =>
                    have hmg : SpV.merge ⟨.slice xA xf.length xc, .slice xB xt.length xd, xf, xt, false⟩ l[m] = ⟨.slice xA xf.length xc, .slice xB xt.length xd, xf, xt, false⟩ := by simp [SpV.merge, (show ¬ (cb l[m].f xf < 0) by have := H1.out; omega), (show ¬ (0 < cb l[m].t xt) by have := H2.out; omega), HYO.out]
                    have hst := mt_step (x := ⟨.slice xA xf.length xc, .slice xB xt.length xd, xf, xt, false⟩) hlt HR.out
                    rw [hmg] at hst
                    refine ⟨cnt + 1, ⟨.slice xA xf.length xc, .slice xB xt.length xd, xf, xt, false⟩, by have := HMM.out; omega, by have := HMM.out; first | (rw [this]; rfl) | (congr 1; omega), HM7.out.turn HS.out (Fr.refl _ _) HM7.out.v (.inl ⟨rfl, rfl⟩) (.inl ⟨rfl, rfl⟩), ?_⟩
                    rw [HMT.out, hst, show fi + (cnt + 1) = m + 1 by have := HMM.out; omega]
                    simp; omega
                  case measure => simp [intOf]; omega
      · obtain rfl : m = l.length := by omega
        obtain ⟨b, hA⟩ : ∃ b, b = A := ⟨_, rfl⟩
        clear hA b
        go_wp2_with fail
        refine wp_region_ord (List.range 13) (fun i => [Kd.p, Kd.p, Kd.p, Kd.p, Kd.l, Kd.p, Kd.p, Kd.l, Kd.g, Kd.e, Kd.e, Kd.e, Kd.e].getD i .e) (by kernel_rfl) (by kernel_rfl) ?_
        iterate 9
          first | refine wpX_pu rfl rfl rfl (by first | exact pu_move rfl | exact pu_assign rfl | exact pu_nilCheck rfl rfl | exact pu_binInt rfl rfl rfl | exact pu_conv rfl rfl (by kernel_rfl) | exact pu_fld rfl (by kernel_rfl) | exact pu_ix rfl rfl rfl (by kernel_rfl) | exact pu_unOp rfl | exact pu_binStr rfl rfl rfl | exact pu_len rfl rfl | exact pu_lens rfl rfl | exact pu_pick rfl | exact pu_slice rfl rfl) (fun K hK => ?_) | refine wpX_rd rfl rfl rfl (rd_load rfl) (fun K hK => ?_) | refine wpX_gr rfl rfl rfl (by first | exact gr_buildSlice rfl | exact gr_box rfl | exact gr_alloc rfl) (fun K hK => ?_) | refine wpX_ex rfl rfl rfl (fun K hK => ?_)
          try go_wp2
        refine wpX_ex rfl rfl rfl (fun K hK => ?_)
        go_wp2_with fail
        have HHAS := Lib.hid (show Has (wr.alloc (.cells #[.slice xA xf.length xc, .slice xB xt.length xd, .bool xo] 100)).drew wr.heap.size 100 [.slice xA xf.length xc, .slice xB xt.length xd, .bool xo] from heap_alloc_new wr _)
        have HAL := Lib.hid (show Fr no wr (wr.alloc (.cells #[.slice xA xf.length xc, .slice xB xt.length xd, .bool xo] 100)).drew from Fr.drew ((Fr.refl no wr).alloc _))
        with_reducible refine (replaceSpan _ _ l.length c fi l.length wr.heap.size (l.flatMap SpV.cells) [.slice xA xf.length xc, .slice xB xt.length xd, .bool xo] (HM.out.kept0 HAL.out).set.row (by have := HMM.out; omega) (by omega) rfl HHAS.out (fun k hk => by have := HM.out.set.row.lt k hk; omega) hx1.out (by simp [Value.oneCell']) (by omega)).mono ?_
        rintro e w10 ⟨A', c', rfl, ho, hf, hmv⟩
        have hfin := span_fin (xk := ⟨.slice xA xf.length xc, .slice xB xt.length xd, xf, xt, xo⟩) HS.out HM.out HAL.out (by have := HMM.out; omega) (by omega) rfl ho hf hmv
        have hz := hf.cell ((HM.out.kept0 HAL.out).set.at_ |> fun h => (one_cells h).1) (HS.out.ne)
        have hz2 := (hf.frozen (a := ⟨p, 0, none⟩) ((one_cells (HM.out.kept0 HAL.out).set.at_).2.2) (HS.out.ne)).trans ((one_cells (HM.out.kept0 HAL.out).set.at_).2.1 0)
        have HFIN := Lib.hid hfin
        clear ho hf hmv hfin
        go_simp
        refine hK _ _ ?_
        clear hK K
        iterate 3
          refine wpX_ex rfl rfl rfl (fun K hK => ?_)
          go_simp
          refine hK _ _ ?_
          clear hK K
        refine wpX_done ?_
        rw [Exit.noGoto_normal]
        refine bodyPost_end (results_none rfl _ _ _) rfl ?_
        exact ⟨rfl, _, _, (.slice A1 f.length f.length), (.slice A2 t.length t.length), HFIN.out.1, .inr ⟨by simpa using HC.out, add_is (x := ⟨(.slice A1 f.length f.length), (.slice A2 t.length t.length), f, t, false⟩) HFI.out HMM.out HMT.out (by simp [SpV.mt])⟩, HFIN.out.2.1, HFIN.out.2.2⟩
end Go.Proofs.Ytdnohhlgaaihmaa

/- The book of lists: bytes put into it. -/
namespace Go.Proofs.Ytdnohhlgaaihmaa
open Go.RowKit

theorem tbRows : Tb Try.prog 63 34 (.slice none 0 0) 1 24 := ⟨by kernel_rfl, by kernel_rfl, rfl, by decide⟩

def nilS : Value := .slice none 0 0

/-- A book at block b that holds lists of bytes alone. -/
def Bk (w : World) (b : Nat) (v : Value) (rs : List Value) : Prop :=
  w.heap[b]? = some (.cells (#[v] ++ Array.replicate 22 nilS) 87 (0, 0)) ∧ w.ownsRow 0 34 1 v rs.length rs ∧ v.ownBlock ≠ some b

theorem Bk.cells {w : World} {b : Nat} {v : Value} {rs : List Value} (h : Bk w b v rs) : w.cell? ⟨b, 0, none⟩ = some v ∧ (∀ i, i < 22 → w.cell? ⟨b, i + 1, none⟩ = some (.slice none 0 0)) ∧ (∀ o, w.frozen? ⟨b, o, none⟩ = false) ∧ b < w.heap.size := by
  refine ⟨by simp [World.cell?, h.1], fun i hi => ?_, fun o => by simp [World.frozen?, h.1], (Array.getElem?_eq_some_iff.1 h.1).1⟩
  simp only [World.cell?, h.1, Option.isSome_none, Bool.false_eq_true, if_false]
  rw [Array.getElem?_append_right (by simp), Array.getElem?_replicate]
  rw [if_pos (by simp; omega)]; rfl

set_option maxRecDepth 100000 in
set_option maxHeartbeats 400000 in
theorem book_bytes (b : Nat) (w : World) (v : Value) (rs : List Value) (A : Option Addr) (n c : Nat) (h : Bk w b v rs) (hl : rs.length ≤ 1000000) :
    Calls Try.prog 82 #[.pointer (some ⟨b, 0, none⟩), .slice A n c] w fun e w' => e = .returned (.tuple #[]) ∧ ∃ v', Bk w' b v' (rs ++ [.slice A n c]) ∧ Fr (fun k => k = b ∨ v.ownBlock = some k) w w' ∧ Moved w w' v v' := by
  obtain ⟨B, d, rfl⟩ := own_form h.2.1
  obtain ⟨hc0, _, hfz, hbs⟩ := h.cells
  have HB := Lib.hid h; clear h
  go_enter Try.func82, Try.ntmps82
  go_wp2_with (at_builtin; refine wpList_ap rfl (.tmp 8) (.tmp 10) 63 rfl tbRows HB.out.2.1 ?fr ((Sl.built w _ _).kept0 ((Fr.refl no _))) rfl rfl (by simp [Value.oneCell']) ?b1 ?b2 ?go)
  case fr => (repeat first | exact Fr.refl _ _ | apply Fr.drew | apply Fr.alloc)
  case b1 => simp only [maxLen]; omega
  case b2 => omega
  case go =>
    intro A' N c' w2 ho hf2 hm2
    have hg : Fr (fun k => Value.ownBlock (.slice B rs.length d) = some k) w w2 := Fr.trans (S := fun k => Value.ownBlock (.slice B rs.length d) = some k) (by (repeat first | exact Fr.refl _ _ | apply Fr.drew | apply Fr.alloc)) hf2 (fun _ _ h => h)
    have hc1 := hg.cell hc0 HB.out.2.2
    have hf1 := (hg.frozen (a := ⟨b, 0, none⟩) hbs HB.out.2.2).trans (hfz 0)
    have hheap := hg.heap HB.out.1 HB.out.2.2
    have HO := Lib.hid ho; have HG := Lib.hid hg; have HM := Lib.hid hm2; have HH := Lib.hid hheap; clear ho hf2 hm2 hg hheap
    go_wp2
    go_end0
    obtain rfl : N = (rs ++ [Value.slice A n c]).length := by have := HO.out.1; simpa using this.symm
    have hne : Value.ownBlock (.slice A' (rs ++ [Value.slice A n c]).length c') ≠ some b := HM.out.not (by simp; omega) HB.out.2.2
    refine ⟨rfl, _, ⟨?_, own_set HO.out _ _ (by simpa using hne), hne⟩, ?_, ?_⟩
    · rw [hp_same HH.out]; simp
    · exact (HG.out.mono (fun _ _ h => .inr h)).setCell _ _ (fun _ => .inl rfl)
    · exact (HM.out.first (by simp)).later (by simp [World.setCell])
end Go.Proofs.Ytdnohhlgaaihmaa
