import Derived.Test.YtgcicljklejmjaaDoorMt03

/- KeyTakes, a part: bytes that are a tuple, the first falls or not. Printed by mktakes.py. -/
namespace Go.Proofs.YtgcicljklejmjaaDoor
open Go.RowKit Go.Shelf
open Tr

set_option maxRecDepth 100000 in
set_option maxHeartbeats 24000000 in
theorem takes_od (w : World) (X D : Value) (b : List UInt8) (dl : List Bool) (hx : Sl w 1 X b.length (bvs b)) (hbn : b.length ≤ reachBytes) (hd : Sl w 1 D dl.length (bls dl)) (hdn : dl.length ≤ reachBytes) (hX : ∀ k, X.ownBlock = some k → k < w.heap.size) (hT : Tabs w) (hdl : 0 < dl.length) (hdc : ∃ l, decT (fallsB dl) b.length 0 b = .ok l) :
    Calls Tryd.prog 7 #[X, D] w fun e w' => e = .returned (.bool true) ∧ Fr no w w' := by
  obtain ⟨XA, xc, rfl, _, _⟩ := hx.form
  obtain ⟨DA, dc, rfl, _, _⟩ := hd.form
  have lbn : b.length ≤ 140737488351232 := hbn
  have ldn : dl.length ≤ 140737488351232 := hdn
  have hd0 := hdl
  clear hdl
  obtain ⟨dec, hdec⟩ := hdc
  have HDEC := Lib.hid hdec
  clear hdec
  have HX := Lib.hid hx; have HD := Lib.hid hd; have HDN := Lib.hid hdn; have HT := Lib.hid hT; have HXO := Lib.hid hX
  clear hx hd hbn hdn hT hX
  obtain ⟨dw, hdw⟩ : ∃ dw, dw = fallsB dl 0 := ⟨_, rfl⟩
  have HDW := Lib.hid hdw
  clear hdw
  go_enter Tryd.func7, Tryd.ntmps7
  by_cases hbl : b.length ≤ 20000
  rotate_left
  · go_wp2
    go_ret
    exact ⟨rfl, by (repeat first | exact Fr.refl _ _ | exact Fr.drewN _ _ _ | apply Fr.drew | apply Fr.alloc | apply Fr.setAt | apply Fr.moreN)⟩
  by_cases hdl2 : dl.length ≤ 20000
  rotate_left
  · first
    | (exfalso; omega)
    | (go_wp2; go_ret; exact ⟨rfl, by (repeat first | exact Fr.refl _ _ | exact Fr.drewN _ _ _ | apply Fr.drew | apply Fr.alloc | apply Fr.setAt | apply Fr.moreN)⟩)
  go_wp2_with fail
  refine (decode_any w _ _ b dl HX.out (by omega) HXO.out HD.out HDN.out HT.out).mono ?_
  rintro e w1 ⟨f1, ⟨ys, M, nm, hdt, hnm, hn4, rfl, hvr⟩ | ⟨q, hdt, hq, rfl⟩⟩
  · have hin := hvr.inn (by omega)
    rw [← hnm] at hin
    obtain ⟨hbe, hte⟩ := takes_ok hdt
    rw [bare_tup] at hte
    rw [bare_encT] at hbe
    have HBE := Lib.hid hbe; have HTE := Lib.hid hte; have HIN := Lib.hid hin; have HDT := Lib.hid hdt; have F1 := Lib.hid f1
    clear hin hbe hte hdt hvr hnm f1
    obtain ⟨db, dob, rfl, hdc⟩ := bls_at HD.out 0 hd0
    have hde : dl[0] = dw := by rw [HDW.out]; unfold fallsB; simp [hd0]
    rw [hde, Nat.add_zero] at hdc
    have HDC := Lib.hid hdc
    clear hde hdc
    have hdc := F1.out.cell HDC.out (fun h => h)
    go_wp2_with fail
    refine (split_any w1 _ b dw (HX.out.kept0 F1.out) (by omega) (HT.out.kept0 F1.out) (fun k hk => Nat.lt_of_lt_of_le (HXO.out k hk) F1.out.size)).mono ?_
    rintro e w2 ⟨f2, ⟨x, s, T, nt, hse, hnt, rfl, hox, hgx, hbx, hot, hon⟩ | ⟨hse, rfl⟩⟩
    all_goals clear hdc
    · obtain ⟨hbe1, hc0, hone⟩ := takes_one hse
      obtain ⟨XB, xb, XL, xl, XF, xf, hfx⟩ := hgx.node.forms
      have hag := hfx.agg
      rw [hag]
      have hp : parts x ≤ 1000000 := by have := (check_zero.1 hc0).2.1; omega
      have F2 := Lib.hid (F1.out.trans f2 (fun _ _ h => h)); have F21 := Lib.hid f2; have HAG := Lib.hid hag; have HGX := Lib.hid hgx; have HOT := Lib.hid hot; have HNT := Lib.hid hnt; have HC0 := Lib.hid hc0; have HONE := Lib.hid hone; have HB1 := Lib.hid hbe1; have HP := Lib.hid hp
      clear f2 hag hfx hgx hot hnt hc0 hone hbe1 hp hse hox hbx hon
      go_wp2_with fail
      refine (known_any _ (HT.out.kept0 (F2.out.trans (by (repeat first | exact Fr.refl _ _ | exact Fr.drewN _ _ _ | apply Fr.drew | apply Fr.alloc | apply Fr.setAt | apply Fr.moreN)) (fun _ _ h => h)))).mono ?_
      rintro e w3 ⟨rfl, f3⟩
      have hb0 := f3.heap (heap_alloc_new w2 (.cells #[.int .u8 x.k.toNat, .bool x.b, .int .i64 x.i, .string ⟨x.t.toArray⟩, .slice XB x.bs.length xb, .slice XL x.l.length xl, .slice XF x.f.length xf] 33)) (fun h => h)
      obtain ⟨q0, q1, q2, q3, q4, q5, q6, qz, ql⟩ := seven_cells hb0
      have F3 := Lib.hid ((by (repeat first | exact Fr.refl _ _ | exact Fr.drewN _ _ _ | apply Fr.drew | apply Fr.alloc | apply Fr.setAt | apply Fr.moreN) : Fr no w2 _).trans f3 (fun _ _ h => h))
      have HB0 := Lib.hid hb0
      clear f3 hb0 q0 q1 q2 q3 q4 q5 q6 qz
      have FN := Lib.hid (F2.out.trans F3.out (fun _ _ h => h))
      go_wp2_with fail
      refine (encode_any w3 _ _ ys dl (HIN.out.kept0 (F21.out.trans F3.out (fun _ _ h => h))) (HD.out.kept0 FN.out) HDN.out (HT.out.kept0 FN.out)).mono ?_
      rintro e w4 ⟨f4, ⟨ht, A, n, rfl, hna, hoa, -⟩ | ⟨ht, rfl⟩⟩
      · have FN4 := Lib.hid (FN.out.trans f4 (fun _ _ h => h)); have FW4 := Lib.hid f4
        have hsm := same_any w4 (.slice A n n) (.slice XA b.length xc) (encT (fallsB dl) 0 ys) b (by rw [← hna]; exact hoa.sl) (HX.out.kept0 FN4.out) (by rw [← HBE.out]; omega) (by omega)
        rw [← HBE.out, decide_eq_true rfl] at hsm
        have HSM := Lib.hid hsm
        clear f4 hsm hoa hna ht FN
        go_wp2_with fail
        refine HSM.out.mono ?_
        rintro e w5 ⟨rfl, n5, hw5⟩
        have fn5 : Fr no w w5 := by rw [hw5]; exact FN4.out.moreN n5
        have fw5 : Fr no w3 w5 := by rw [hw5]; exact FW4.out.moreN n5
        have FN := Lib.hid fn5; have FW := Lib.hid fw5
        clear fn5 fw5
        clear HSM FN4 FW4 HBE HTE HIN hw5
        have hb0 := FW.out.heap HB0.out (fun h => h)
        obtain ⟨q0, q1, q2, q3, q4, q5, q6, qz, ql⟩ := seven_cells hb0
        have F2W := Lib.hid (F3.out.trans FW.out (fun _ _ h => h))
        have hone := fun W' (f : Fr no w5 W') => one_any W' x dw (HGX.out.kept0 (F2W.out.trans f (fun _ _ h => h))) (HT.out.kept0 (FN.out.trans f (fun _ _ h => h)))
        rw [HAG.out] at hone
        have HO := Lib.hid hone; have HB := Lib.hid hb0
        clear hone hb0 HB0 qz
        have hdc := FN.out.cell HDC.out (fun h => h)
        go_wp2_with fail
        refine wp_region_ord (List.range 15) (fun i => [Kd.l, Kd.p, Kd.p, Kd.p, Kd.p, Kd.p, Kd.p, Kd.l, Kd.p, Kd.g, Kd.p, Kd.p, Kd.p, Kd.p, Kd.p].getD i .e) (by kernel_rfl) (by kernel_rfl) ?_
        iterate 9
          first | (refine wpX_un rfl rfl ?_; go_simp) | first | refine wpX_pu rfl rfl rfl (by first | exact pu_move rfl | exact pu_assign rfl | exact pu_nilCheck rfl rfl | exact pu_binInt rfl rfl rfl | exact pu_conv rfl rfl (by kernel_rfl) | exact pu_fld rfl (by kernel_rfl) | exact pu_ix rfl rfl rfl (by kernel_rfl) | exact pu_unOp rfl | exact pu_binStr rfl rfl rfl | exact pu_len rfl rfl | exact pu_lens rfl rfl | exact pu_pick rfl | exact pu_slice rfl rfl) (fun K hK => ?_) | refine wpX_rd rfl rfl rfl (rd_load rfl) (fun K hK => ?_) | refine wpX_gr rfl rfl rfl (by first | exact gr_buildSlice rfl | exact gr_box rfl | exact gr_alloc rfl) (fun K hK => ?_) | refine wpX_ex rfl rfl rfl (fun K hK => ?_)
          try go_wp2
        refine wpX_ca rfl rfl rfl (fun K hK => ?_)
        go_wp2_with fail
        refine (HO.out _ (by (repeat first | exact Fr.refl _ _ | exact Fr.drewN _ _ _ | apply Fr.drew | apply Fr.alloc | apply Fr.setAt | apply Fr.moreN))).mono ?_
        rintro e w6 ⟨f6, ⟨hoe, B, nb, rfl, hnb, hob, hobn⟩ | ⟨hoe, rfl⟩⟩
        · have F6W := Lib.hid ((by (repeat first | exact Fr.refl _ _ | exact Fr.drewN _ _ _ | apply Fr.drew | apply Fr.alloc | apply Fr.setAt | apply Fr.moreN) : Fr no w5 _).trans f6 (fun _ _ h => h)); have F60 := Lib.hid f6; have HNB := Lib.hid hnb; have hobn2 : ∀ k, Value.ownBlock (.slice B nb nb) = some k → w5.heap.size ≤ k := hobn
          have HOB := Lib.hid hob; have HOBN := Lib.hid hobn2
          have hle : nb + nt = b.length := by
            have h := congrArg List.length HB1.out
            rw [List.length_append, ← hnb, ← HNT.out] at h
            exact h.symm
          have HLE := Lib.hid hle
          have hnbl : nb ≤ 20000 := by omega
          have htl : nt ≤ 20000 := by omega
          clear f6 hnb hob hobn hobn2 hoe hle q0 q1 q2 q3 q4 q5 q6
          go_wp2
          obtain ⟨⟨ea, eb⟩, hext⟩ := F60.out.ext
          refine ⟨⟨ea, eb, hext⟩, hK _ _ ?_⟩
          clear hK K hext ea eb
          first | refine wpX_pu rfl rfl rfl (by first | exact pu_move rfl | exact pu_assign rfl | exact pu_nilCheck rfl rfl | exact pu_binInt rfl rfl rfl | exact pu_conv rfl rfl (by kernel_rfl) | exact pu_fld rfl (by kernel_rfl) | exact pu_ix rfl rfl rfl (by kernel_rfl) | exact pu_unOp rfl | exact pu_binStr rfl rfl rfl | exact pu_len rfl rfl | exact pu_lens rfl rfl | exact pu_pick rfl | exact pu_slice rfl rfl) (fun K hK => ?_) | refine wpX_rd rfl rfl rfl (rd_load rfl) (fun K hK => ?_) | refine wpX_gr rfl rfl rfl (by first | exact gr_buildSlice rfl | exact gr_box rfl | exact gr_alloc rfl) (fun K hK => ?_) | refine wpX_ex rfl rfl rfl (fun K hK => ?_)
          try go_wp2
          refine wpX_pv (.slice B nb nb) rfl rfl rfl (fun w' => by first | rfl | simp [execOp, Act.eval]) ?_
          refine wpX_pv (.int .u16 0) rfl rfl rfl (fun w' => by first | rfl | simp [execOp, Act.eval]) ?_
          go_simp
          iterate 2
            first | refine wpX_pu rfl rfl rfl (by first | exact pu_move rfl | exact pu_assign rfl | exact pu_nilCheck rfl rfl | exact pu_binInt rfl rfl rfl | exact pu_conv rfl rfl (by kernel_rfl) | exact pu_fld rfl (by kernel_rfl) | exact pu_ix rfl rfl rfl (by kernel_rfl) | exact pu_unOp rfl | exact pu_binStr rfl rfl rfl | exact pu_len rfl rfl | exact pu_lens rfl rfl | exact pu_pick rfl | exact pu_slice rfl rfl) (fun K hK => ?_) | refine wpX_rd rfl rfl rfl (rd_load rfl) (fun K hK => ?_) | refine wpX_gr rfl rfl rfl (by first | exact gr_buildSlice rfl | exact gr_box rfl | exact gr_alloc rfl) (fun K hK => ?_) | refine wpX_ex rfl rfl rfl (fun K hK => ?_)
            try go_wp2
          refine wpX_done ?_
          have hot := HOT.out.kept0 (F2W.out.trans F6W.out (fun _ _ h => h))
          have HOT6 := Lib.hid hot; clear hot
          go_wp2_with (at_builtin; refine wpList_apo (n := nb) (xs := bvs (encD dw x)) (m := nt) (news := bvs s) rfl (.tmp 107) (.tmp 108) 22 rfl tbB HOB.out HOT6.out.sl rfl rfl (bvs_one s) ?xaq1 ?xbq1 ?xcq1)
          case xaq1 => simp only [maxLen]; omega
          case xbq1 => omega
          case xcq1 =>
            intro P N pc w7 hN ho7 _ hf7 hs7
            subst hN
            have f67 : Fr no w5 w7 := F6W.out.trans hf7 (fun k hk h => by
              have h1 := HOB.out.lt k h
              have h2 := HOBN.out k h
              omega)
            have hsl : Sl w7 1 (.slice P (nb + nt) pc) b.length (bvs b) := by
              rw [← HLE.out, HB1.out, bvs_append]
              exact ho7.sl
            have hb7 := f67.heap HB.out (fun h => h)
            obtain ⟨q0, q1, q2, q3, q4, q5, q6, qz, ql⟩ := seven_cells hb7
            have hchk := fun W8 (f : Fr no w7 W8) => check3_any own3_any x W8 (HGX.out.kept0 ((F2W.out.trans f67 (fun _ _ h => h)).trans f (fun _ _ h => h))) HP.out
            rw [HAG.out, HC0.out] at hchk
            have HCK := Lib.hid hchk; have F7 := Lib.hid (FN.out.trans f67 (fun _ _ h => h))
            have hsm := fun W8 (f : Fr no w7 W8) => same_any W8 (.slice P (nb + nt) pc) (.slice XA b.length xc) b b (hsl.kept0 f) (HX.out.kept0 (F7.out.trans f (fun _ _ h => h))) (by omega) (by omega)
            have HSM := Lib.hid hsm
            clear hchk f67 hsl hsm ho7 hf7 hs7 hb7 qz
            go_wp2_with fail
            refine (HCK.out _ (by (repeat first | exact Fr.refl _ _ | exact Fr.drewN _ _ _ | apply Fr.drew | apply Fr.alloc | apply Fr.setAt | apply Fr.moreN))).mono ?_
            rintro e w8 ⟨rfl, f8⟩
            have F78 := Lib.hid ((by (repeat first | exact Fr.refl _ _ | exact Fr.drewN _ _ _ | apply Fr.drew | apply Fr.alloc | apply Fr.setAt | apply Fr.moreN) : Fr no w7 _).trans f8 (fun _ _ h => h))
            clear f8 q0 q1 q2 q3 q4 q5 q6
            go_wp2_with fail
            refine (HSM.out w8 F78.out).mono ?_
            rintro e w9 ⟨rfl, n9, rfl⟩
            simp only [decide_true]
            go_wp2
            go_ret
            exact ⟨rfl, (F7.out.trans F78.out (fun _ _ h => h)).moreN n9⟩
        · have h42 : oneErr x = 42 := (HONE.out.resolve_left hoe).1
          have hl6 : 160 < b.length := (HONE.out.resolve_left hoe).2
          have gl6 : decide ((160 : Int) < (b.length : Int)) = true := decide_eq_true (by omega)
          have htl : nt ≤ 20000 := by
            have h := congrArg List.length HB1.out
            rw [List.length_append, ← HNT.out] at h
            omega
          rw [h42]
          have F6W := Lib.hid ((by (repeat first | exact Fr.refl _ _ | exact Fr.drewN _ _ _ | apply Fr.drew | apply Fr.alloc | apply Fr.setAt | apply Fr.moreN) : Fr no w5 _).trans f6 (fun _ _ h => h)); have F60 := Lib.hid f6
          clear f6 hoe h42 q0 q1 q2 q3 q4 q5 q6
          go_wp2
          obtain ⟨⟨ea, eb⟩, hext⟩ := F60.out.ext
          refine ⟨⟨ea, eb, hext⟩, hK _ _ ?_⟩
          clear hK K hext ea eb
          first | refine wpX_pu rfl rfl rfl (by first | exact pu_move rfl | exact pu_assign rfl | exact pu_nilCheck rfl rfl | exact pu_binInt rfl rfl rfl | exact pu_conv rfl rfl (by kernel_rfl) | exact pu_fld rfl (by kernel_rfl) | exact pu_ix rfl rfl rfl (by kernel_rfl) | exact pu_unOp rfl | exact pu_binStr rfl rfl rfl | exact pu_len rfl rfl | exact pu_lens rfl rfl | exact pu_pick rfl | exact pu_slice rfl rfl) (fun K hK => ?_) | refine wpX_rd rfl rfl rfl (rd_load rfl) (fun K hK => ?_) | refine wpX_gr rfl rfl rfl (by first | exact gr_buildSlice rfl | exact gr_box rfl | exact gr_alloc rfl) (fun K hK => ?_) | refine wpX_ex rfl rfl rfl (fun K hK => ?_)
          try go_wp2
          refine wpX_pv (.slice none 0 0) rfl rfl rfl (fun w' => by first | rfl | simp [execOp, Act.eval]) ?_
          refine wpX_pv (.int .u16 42) rfl rfl rfl (fun w' => by first | rfl | simp [execOp, Act.eval]) ?_
          go_simp
          iterate 2
            first | refine wpX_pu rfl rfl rfl (by first | exact pu_move rfl | exact pu_assign rfl | exact pu_nilCheck rfl rfl | exact pu_binInt rfl rfl rfl | exact pu_conv rfl rfl (by kernel_rfl) | exact pu_fld rfl (by kernel_rfl) | exact pu_ix rfl rfl rfl (by kernel_rfl) | exact pu_unOp rfl | exact pu_binStr rfl rfl rfl | exact pu_len rfl rfl | exact pu_lens rfl rfl | exact pu_pick rfl | exact pu_slice rfl rfl) (fun K hK => ?_) | refine wpX_rd rfl rfl rfl (rd_load rfl) (fun K hK => ?_) | refine wpX_gr rfl rfl rfl (by first | exact gr_buildSlice rfl | exact gr_box rfl | exact gr_alloc rfl) (fun K hK => ?_) | refine wpX_ex rfl rfl rfl (fun K hK => ?_)
            try go_wp2
          refine wpX_done ?_
          have hot := HOT.out.kept0 (F2W.out.trans F6W.out (fun _ _ h => h))
          have HOT6 := Lib.hid hot; clear hot
          go_wp2_with (at_builtin; refine wpList_apo (n := 0) (xs := bvs []) (m := nt) (news := bvs s) rfl (.tmp 107) (.tmp 108) 22 rfl tbB (ow_nilb _) HOT6.out.sl rfl rfl (bvs_one s) ?yaq1 ?ybq1 ?ycq1)
          case yaq1 => simp only [maxLen]; omega
          case ybq1 => omega
          case ycq1 =>
            intro P N pc w7 hN ho7 _ hf7 hs7
            subst hN
            have f67 : Fr no w5 w7 := F6W.out.trans hf7 (fun k hk h => by simp [Value.ownBlock] at h)
            have hb7 := f67.heap HB.out (fun h => h)
            obtain ⟨q0, q1, q2, q3, q4, q5, q6, qz, ql⟩ := seven_cells hb7
            have hchk := fun W8 (f : Fr no w7 W8) => check3_any own3_any x W8 (HGX.out.kept0 ((F2W.out.trans f67 (fun _ _ h => h)).trans f (fun _ _ h => h))) HP.out
            rw [HAG.out, HC0.out] at hchk
            have HCK := Lib.hid hchk; have F7 := Lib.hid (FN.out.trans f67 (fun _ _ h => h))
            clear hchk f67 ho7 hf7 hs7 hb7 qz
            go_wp2_with fail
            refine (HCK.out _ (by (repeat first | exact Fr.refl _ _ | exact Fr.drewN _ _ _ | apply Fr.drew | apply Fr.alloc | apply Fr.setAt | apply Fr.moreN))).mono ?_
            rintro e w8 ⟨rfl, f8⟩
            have F78 := Lib.hid ((by (repeat first | exact Fr.refl _ _ | exact Fr.drewN _ _ _ | apply Fr.drew | apply Fr.alloc | apply Fr.setAt | apply Fr.moreN) : Fr no w7 _).trans f8 (fun _ _ h => h))
            clear f8 q0 q1 q2 q3 q4 q5 q6
            go_wp2
            go_ret
            exact ⟨rfl, F7.out.trans F78.out (fun _ _ h => h)⟩
      · have h42 : tupErr ys = 42 := (HTE.out.resolve_left ht).1
        have hl16 : 160 < b.length := (HTE.out.resolve_left ht).2
        rw [h42]
        have FN4 := Lib.hid (FN.out.trans f4 (fun _ _ h => h)); have FW := Lib.hid f4
        clear FN
        have FN := FN4
        clear f4 ht h42 FN4 HBE HTE HIN
        have hb0 := FW.out.heap HB0.out (fun h => h)
        obtain ⟨q0, q1, q2, q3, q4, q5, q6, qz, ql⟩ := seven_cells hb0
        have F2W := Lib.hid (F3.out.trans FW.out (fun _ _ h => h))
        have hone := fun W' (f : Fr no w4 W') => one_any W' x dw (HGX.out.kept0 (F2W.out.trans f (fun _ _ h => h))) (HT.out.kept0 (FN.out.trans f (fun _ _ h => h)))
        rw [HAG.out] at hone
        have HO := Lib.hid hone; have HB := Lib.hid hb0
        clear hone hb0 HB0 qz
        have hdc := FN.out.cell HDC.out (fun h => h)
        go_wp2_with fail
        refine wp_region_ord (List.range 15) (fun i => [Kd.l, Kd.p, Kd.p, Kd.p, Kd.p, Kd.p, Kd.p, Kd.l, Kd.p, Kd.g, Kd.p, Kd.p, Kd.p, Kd.p, Kd.p].getD i .e) (by kernel_rfl) (by kernel_rfl) ?_
        iterate 9
          first | (refine wpX_un rfl rfl ?_; go_simp) | first | refine wpX_pu rfl rfl rfl (by first | exact pu_move rfl | exact pu_assign rfl | exact pu_nilCheck rfl rfl | exact pu_binInt rfl rfl rfl | exact pu_conv rfl rfl (by kernel_rfl) | exact pu_fld rfl (by kernel_rfl) | exact pu_ix rfl rfl rfl (by kernel_rfl) | exact pu_unOp rfl | exact pu_binStr rfl rfl rfl | exact pu_len rfl rfl | exact pu_lens rfl rfl | exact pu_pick rfl | exact pu_slice rfl rfl) (fun K hK => ?_) | refine wpX_rd rfl rfl rfl (rd_load rfl) (fun K hK => ?_) | refine wpX_gr rfl rfl rfl (by first | exact gr_buildSlice rfl | exact gr_box rfl | exact gr_alloc rfl) (fun K hK => ?_) | refine wpX_ex rfl rfl rfl (fun K hK => ?_)
          try go_wp2
        refine wpX_ca rfl rfl rfl (fun K hK => ?_)
        go_wp2_with fail
        refine (HO.out _ (by (repeat first | exact Fr.refl _ _ | exact Fr.drewN _ _ _ | apply Fr.drew | apply Fr.alloc | apply Fr.setAt | apply Fr.moreN))).mono ?_
        rintro e w6 ⟨f6, ⟨hoe, B, nb, rfl, hnb, hob, hobn⟩ | ⟨hoe, rfl⟩⟩
        · have F6W := Lib.hid ((by (repeat first | exact Fr.refl _ _ | exact Fr.drewN _ _ _ | apply Fr.drew | apply Fr.alloc | apply Fr.setAt | apply Fr.moreN) : Fr no w4 _).trans f6 (fun _ _ h => h)); have F60 := Lib.hid f6; have HNB := Lib.hid hnb; have hobn2 : ∀ k, Value.ownBlock (.slice B nb nb) = some k → w4.heap.size ≤ k := hobn
          have HOB := Lib.hid hob; have HOBN := Lib.hid hobn2
          have hle : nb + nt = b.length := by
            have h := congrArg List.length HB1.out
            rw [List.length_append, ← hnb, ← HNT.out] at h
            exact h.symm
          have HLE := Lib.hid hle
          have hnbl : nb ≤ 20000 := by omega
          have htl : nt ≤ 20000 := by omega
          clear f6 hnb hob hobn hobn2 hoe hle q0 q1 q2 q3 q4 q5 q6
          go_wp2
          obtain ⟨⟨ea, eb⟩, hext⟩ := F60.out.ext
          refine ⟨⟨ea, eb, hext⟩, hK _ _ ?_⟩
          clear hK K hext ea eb
          first | refine wpX_pu rfl rfl rfl (by first | exact pu_move rfl | exact pu_assign rfl | exact pu_nilCheck rfl rfl | exact pu_binInt rfl rfl rfl | exact pu_conv rfl rfl (by kernel_rfl) | exact pu_fld rfl (by kernel_rfl) | exact pu_ix rfl rfl rfl (by kernel_rfl) | exact pu_unOp rfl | exact pu_binStr rfl rfl rfl | exact pu_len rfl rfl | exact pu_lens rfl rfl | exact pu_pick rfl | exact pu_slice rfl rfl) (fun K hK => ?_) | refine wpX_rd rfl rfl rfl (rd_load rfl) (fun K hK => ?_) | refine wpX_gr rfl rfl rfl (by first | exact gr_buildSlice rfl | exact gr_box rfl | exact gr_alloc rfl) (fun K hK => ?_) | refine wpX_ex rfl rfl rfl (fun K hK => ?_)
          try go_wp2
          refine wpX_pv (.slice B nb nb) rfl rfl rfl (fun w' => by first | rfl | simp [execOp, Act.eval]) ?_
          refine wpX_pv (.int .u16 0) rfl rfl rfl (fun w' => by first | rfl | simp [execOp, Act.eval]) ?_
          go_simp
          iterate 2
            first | refine wpX_pu rfl rfl rfl (by first | exact pu_move rfl | exact pu_assign rfl | exact pu_nilCheck rfl rfl | exact pu_binInt rfl rfl rfl | exact pu_conv rfl rfl (by kernel_rfl) | exact pu_fld rfl (by kernel_rfl) | exact pu_ix rfl rfl rfl (by kernel_rfl) | exact pu_unOp rfl | exact pu_binStr rfl rfl rfl | exact pu_len rfl rfl | exact pu_lens rfl rfl | exact pu_pick rfl | exact pu_slice rfl rfl) (fun K hK => ?_) | refine wpX_rd rfl rfl rfl (rd_load rfl) (fun K hK => ?_) | refine wpX_gr rfl rfl rfl (by first | exact gr_buildSlice rfl | exact gr_box rfl | exact gr_alloc rfl) (fun K hK => ?_) | refine wpX_ex rfl rfl rfl (fun K hK => ?_)
            try go_wp2
          refine wpX_done ?_
          have hot := HOT.out.kept0 (F2W.out.trans F6W.out (fun _ _ h => h))
          have HOT6 := Lib.hid hot; clear hot
          go_wp2_with (at_builtin; refine wpList_apo (n := nb) (xs := bvs (encD dw x)) (m := nt) (news := bvs s) rfl (.tmp 107) (.tmp 108) 22 rfl tbB HOB.out HOT6.out.sl rfl rfl (bvs_one s) ?xaq2 ?xbq2 ?xcq2)
          case xaq2 => simp only [maxLen]; omega
          case xbq2 => omega
          case xcq2 =>
            intro P N pc w7 hN ho7 _ hf7 hs7
            subst hN
            have f67 : Fr no w4 w7 := F6W.out.trans hf7 (fun k hk h => by
              have h1 := HOB.out.lt k h
              have h2 := HOBN.out k h
              omega)
            have hsl : Sl w7 1 (.slice P (nb + nt) pc) b.length (bvs b) := by
              rw [← HLE.out, HB1.out, bvs_append]
              exact ho7.sl
            have hb7 := f67.heap HB.out (fun h => h)
            obtain ⟨q0, q1, q2, q3, q4, q5, q6, qz, ql⟩ := seven_cells hb7
            have hchk := fun W8 (f : Fr no w7 W8) => check3_any own3_any x W8 (HGX.out.kept0 ((F2W.out.trans f67 (fun _ _ h => h)).trans f (fun _ _ h => h))) HP.out
            rw [HAG.out, HC0.out] at hchk
            have HCK := Lib.hid hchk; have F7 := Lib.hid (FN.out.trans f67 (fun _ _ h => h))
            have hsm := fun W8 (f : Fr no w7 W8) => same_any W8 (.slice P (nb + nt) pc) (.slice XA b.length xc) b b (hsl.kept0 f) (HX.out.kept0 (F7.out.trans f (fun _ _ h => h))) (by omega) (by omega)
            have HSM := Lib.hid hsm
            clear hchk f67 hsl hsm ho7 hf7 hs7 hb7 qz
            go_wp2_with fail
            refine (HCK.out _ (by (repeat first | exact Fr.refl _ _ | exact Fr.drewN _ _ _ | apply Fr.drew | apply Fr.alloc | apply Fr.setAt | apply Fr.moreN))).mono ?_
            rintro e w8 ⟨rfl, f8⟩
            have F78 := Lib.hid ((by (repeat first | exact Fr.refl _ _ | exact Fr.drewN _ _ _ | apply Fr.drew | apply Fr.alloc | apply Fr.setAt | apply Fr.moreN) : Fr no w7 _).trans f8 (fun _ _ h => h))
            clear f8 q0 q1 q2 q3 q4 q5 q6
            go_wp2_with fail
            refine (HSM.out w8 F78.out).mono ?_
            rintro e w9 ⟨rfl, n9, rfl⟩
            simp only [decide_true]
            go_wp2
            go_ret
            exact ⟨rfl, (F7.out.trans F78.out (fun _ _ h => h)).moreN n9⟩
        · have h42 : oneErr x = 42 := (HONE.out.resolve_left hoe).1
          have hl6 : 160 < b.length := (HONE.out.resolve_left hoe).2
          have gl6 : decide ((160 : Int) < (b.length : Int)) = true := decide_eq_true (by omega)
          have htl : nt ≤ 20000 := by
            have h := congrArg List.length HB1.out
            rw [List.length_append, ← HNT.out] at h
            omega
          rw [h42]
          have F6W := Lib.hid ((by (repeat first | exact Fr.refl _ _ | exact Fr.drewN _ _ _ | apply Fr.drew | apply Fr.alloc | apply Fr.setAt | apply Fr.moreN) : Fr no w4 _).trans f6 (fun _ _ h => h)); have F60 := Lib.hid f6
          clear f6 hoe h42 q0 q1 q2 q3 q4 q5 q6
          go_wp2
          obtain ⟨⟨ea, eb⟩, hext⟩ := F60.out.ext
          refine ⟨⟨ea, eb, hext⟩, hK _ _ ?_⟩
          clear hK K hext ea eb
          first | refine wpX_pu rfl rfl rfl (by first | exact pu_move rfl | exact pu_assign rfl | exact pu_nilCheck rfl rfl | exact pu_binInt rfl rfl rfl | exact pu_conv rfl rfl (by kernel_rfl) | exact pu_fld rfl (by kernel_rfl) | exact pu_ix rfl rfl rfl (by kernel_rfl) | exact pu_unOp rfl | exact pu_binStr rfl rfl rfl | exact pu_len rfl rfl | exact pu_lens rfl rfl | exact pu_pick rfl | exact pu_slice rfl rfl) (fun K hK => ?_) | refine wpX_rd rfl rfl rfl (rd_load rfl) (fun K hK => ?_) | refine wpX_gr rfl rfl rfl (by first | exact gr_buildSlice rfl | exact gr_box rfl | exact gr_alloc rfl) (fun K hK => ?_) | refine wpX_ex rfl rfl rfl (fun K hK => ?_)
          try go_wp2
          refine wpX_pv (.slice none 0 0) rfl rfl rfl (fun w' => by first | rfl | simp [execOp, Act.eval]) ?_
          refine wpX_pv (.int .u16 42) rfl rfl rfl (fun w' => by first | rfl | simp [execOp, Act.eval]) ?_
          go_simp
          iterate 2
            first | refine wpX_pu rfl rfl rfl (by first | exact pu_move rfl | exact pu_assign rfl | exact pu_nilCheck rfl rfl | exact pu_binInt rfl rfl rfl | exact pu_conv rfl rfl (by kernel_rfl) | exact pu_fld rfl (by kernel_rfl) | exact pu_ix rfl rfl rfl (by kernel_rfl) | exact pu_unOp rfl | exact pu_binStr rfl rfl rfl | exact pu_len rfl rfl | exact pu_lens rfl rfl | exact pu_pick rfl | exact pu_slice rfl rfl) (fun K hK => ?_) | refine wpX_rd rfl rfl rfl (rd_load rfl) (fun K hK => ?_) | refine wpX_gr rfl rfl rfl (by first | exact gr_buildSlice rfl | exact gr_box rfl | exact gr_alloc rfl) (fun K hK => ?_) | refine wpX_ex rfl rfl rfl (fun K hK => ?_)
            try go_wp2
          refine wpX_done ?_
          have hot := HOT.out.kept0 (F2W.out.trans F6W.out (fun _ _ h => h))
          have HOT6 := Lib.hid hot; clear hot
          go_wp2_with (at_builtin; refine wpList_apo (n := 0) (xs := bvs []) (m := nt) (news := bvs s) rfl (.tmp 107) (.tmp 108) 22 rfl tbB (ow_nilb _) HOT6.out.sl rfl rfl (bvs_one s) ?yaq2 ?ybq2 ?ycq2)
          case yaq2 => simp only [maxLen]; omega
          case ybq2 => omega
          case ycq2 =>
            intro P N pc w7 hN ho7 _ hf7 hs7
            subst hN
            have f67 : Fr no w4 w7 := F6W.out.trans hf7 (fun k hk h => by simp [Value.ownBlock] at h)
            have hb7 := f67.heap HB.out (fun h => h)
            obtain ⟨q0, q1, q2, q3, q4, q5, q6, qz, ql⟩ := seven_cells hb7
            have hchk := fun W8 (f : Fr no w7 W8) => check3_any own3_any x W8 (HGX.out.kept0 ((F2W.out.trans f67 (fun _ _ h => h)).trans f (fun _ _ h => h))) HP.out
            rw [HAG.out, HC0.out] at hchk
            have HCK := Lib.hid hchk; have F7 := Lib.hid (FN.out.trans f67 (fun _ _ h => h))
            clear hchk f67 ho7 hf7 hs7 hb7 qz
            go_wp2_with fail
            refine (HCK.out _ (by (repeat first | exact Fr.refl _ _ | exact Fr.drewN _ _ _ | apply Fr.drew | apply Fr.alloc | apply Fr.setAt | apply Fr.moreN))).mono ?_
            rintro e w8 ⟨rfl, f8⟩
            have F78 := Lib.hid ((by (repeat first | exact Fr.refl _ _ | exact Fr.drewN _ _ _ | apply Fr.drew | apply Fr.alloc | apply Fr.setAt | apply Fr.moreN) : Fr no w7 _).trans f8 (fun _ _ h => h))
            clear f8 q0 q1 q2 q3 q4 q5 q6
            go_wp2
            go_ret
            exact ⟨rfl, F7.out.trans F78.out (fun _ _ h => h)⟩
    · have F2 := Lib.hid (F1.out.trans f2 (fun _ _ h => h)); have F21 := Lib.hid f2
      have hbz : b = [] := by
        by_cases h : b = []
        · exact h
        · have h2 := takes_none (d := fallsB dl) (by rw [← HDW.out]; exact hse) h
          rw [HDT.out] at h2; cases h2
      have gbz : ((b.length : Int) == 0) = true := by rw [hbz]; rfl
      clear hbz
      clear f2 hse
      go_wp2_with fail
      refine (known_any _ (HT.out.kept0 (F2.out.trans (by (repeat first | exact Fr.refl _ _ | exact Fr.drewN _ _ _ | apply Fr.drew | apply Fr.alloc | apply Fr.setAt | apply Fr.moreN)) (fun _ _ h => h)))).mono ?_
      rintro e w3 ⟨rfl, f3⟩
      have hb0 := f3.heap (heap_alloc_new w2 (.cells #[.int .u8 0, .bool false, .int .i64 0, .string ⟨#[]⟩, .slice none 0 0, .slice none 0 0, .slice none 0 0] 33)) (fun h => h)
      obtain ⟨q0, q1, q2, q3, q4, q5, q6, qz, ql⟩ := seven_cells hb0
      have F3 := Lib.hid ((by (repeat first | exact Fr.refl _ _ | exact Fr.drewN _ _ _ | apply Fr.drew | apply Fr.alloc | apply Fr.setAt | apply Fr.moreN) : Fr no w2 _).trans f3 (fun _ _ h => h))
      have HB0 := Lib.hid hb0
      clear f3 hb0 q0 q1 q2 q3 q4 q5 q6 qz
      have FN := Lib.hid (F2.out.trans F3.out (fun _ _ h => h))
      go_wp2_with fail
      refine (encode_any w3 _ _ ys dl (HIN.out.kept0 (F21.out.trans F3.out (fun _ _ h => h))) (HD.out.kept0 FN.out) HDN.out (HT.out.kept0 FN.out)).mono ?_
      rintro e w4 ⟨f4, ⟨ht, A, n, rfl, hna, hoa, -⟩ | ⟨ht, rfl⟩⟩
      · have FN4 := Lib.hid (FN.out.trans f4 (fun _ _ h => h)); have FW4 := Lib.hid f4
        have hsm := same_any w4 (.slice A n n) (.slice XA b.length xc) (encT (fallsB dl) 0 ys) b (by rw [← hna]; exact hoa.sl) (HX.out.kept0 FN4.out) (by rw [← HBE.out]; omega) (by omega)
        rw [← HBE.out, decide_eq_true rfl] at hsm
        have HSM := Lib.hid hsm
        clear f4 hsm hoa hna ht FN
        go_wp2_with fail
        refine HSM.out.mono ?_
        rintro e w5 ⟨rfl, n5, hw5⟩
        have fn5 : Fr no w w5 := by rw [hw5]; exact FN4.out.moreN n5
        have fw5 : Fr no w3 w5 := by rw [hw5]; exact FW4.out.moreN n5
        have FN := Lib.hid fn5; have FW := Lib.hid fw5
        clear fn5 fw5
        clear HSM FN4 FW4 HBE HTE HIN hw5
        have hb0 := FW.out.heap HB0.out (fun h => h)
        obtain ⟨q0, q1, q2, q3, q4, q5, q6, qz, ql⟩ := seven_cells hb0
        clear hb0 qz
        go_wp2_with fail
        refine (same_zero _).mono ?_
        rintro e w6 ⟨rfl, f6⟩
        have F6 := Lib.hid (FN.out.trans ((by (repeat first | exact Fr.refl _ _ | exact Fr.drewN _ _ _ | apply Fr.drew | apply Fr.alloc | apply Fr.setAt | apply Fr.moreN) : Fr no w5 _).trans f6 (fun _ _ h => h)) (fun _ _ h => h))
        clear f6 q0 q1 q2 q3 q4 q5 q6
        go_wp2
        go_ret
        exact ⟨rfl, F6.out⟩
      · have h42 : tupErr ys = 42 := (HTE.out.resolve_left ht).1
        have hl16 : 160 < b.length := (HTE.out.resolve_left ht).2
        rw [h42]
        have FN4 := Lib.hid (FN.out.trans f4 (fun _ _ h => h)); have FW := Lib.hid f4
        clear FN
        have FN := FN4
        clear f4 ht h42 FN4 HBE HTE HIN
        have hb0 := FW.out.heap HB0.out (fun h => h)
        obtain ⟨q0, q1, q2, q3, q4, q5, q6, qz, ql⟩ := seven_cells hb0
        clear hb0 qz
        go_wp2_with fail
        refine (same_zero _).mono ?_
        rintro e w6 ⟨rfl, f6⟩
        have F6 := Lib.hid (FN.out.trans ((by (repeat first | exact Fr.refl _ _ | exact Fr.drewN _ _ _ | apply Fr.drew | apply Fr.alloc | apply Fr.setAt | apply Fr.moreN) : Fr no w4 _).trans f6 (fun _ _ h => h)) (fun _ _ h => h))
        clear f6 q0 q1 q2 q3 q4 q5 q6
        go_wp2
        go_ret
        exact ⟨rfl, F6.out⟩
  · rw [HDEC.out] at hdt; cases hdt
end Go.Proofs.YtgcicljklejmjaaDoor
