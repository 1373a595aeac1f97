import Derived.Test.YtgcicljklejmjaaDoorMb16
import Derived.Test.YtgcicljklejmjaaDoorMb17
import Derived.Test.YtgcicljklejmjaaDoorMb11
import Derived.Test.YtgcicljklejmjaaDoorRows
import Derived.Test.YtgcicljklejmjaaDoorCards
import Derived.Test.YtgcicljklejmjaaDoorTie
import Derived.Test.YtgcicljklejmjaaDoorMb15
import Derived.Test.YtgcicljklejmjaaDoorMb07
import Derived.WalkKit
import Derived.ProofKit
import Derived.OpenShut
import Derived.ChangeOld
import Derived.Below
import Derived.SizedLaws
import Derived.Lib.LaidIn
import Derived.Lib.LaidU8T
import Derived.Deep.DeepHandedRow
import Derived.Deep.DeepWitnessRowRef
import Derived.SevenTiedAt

/- KeyBack: a tuple that is written is read as it was. Printed by mkback.py. -/
namespace Go.Proofs.YtgcicljklejmjaaDoor
open Go.RowKit Go.Shelf
open Tr

theorem falls_head (dl : List Bool) : fallsB dl 0 = (decide (0 < dl.length) && dl.getD 0 false) := by
  unfold fallsB
  cases dl <;> simp

set_option maxRecDepth 100000 in
set_option maxHeartbeats 8000000 in
theorem back_any (w : World) (X D Z : Value) (l : List (Tr Mm)) (dl : List Bool) (h : List UInt8) (hx : In w X l) (hd : Sl w 1 D dl.length (bls dl)) (hdn : dl.length ≤ reachBytes) (hz : Sl w 1 Z h.length (bvs h)) (hzn : h.length ≤ reachBytes) (hT : Tabs w) :
    Calls Tryd.prog 5 #[X, D, Z] w fun e w' => e = .returned (.bool true) ∧ Fr no w w' := by
  obtain ⟨XA, xc, rfl, _, _⟩ := hx.sl.form
  obtain ⟨DA, dc, rfl, _, _⟩ := hd.form
  obtain ⟨ZA, zc, rfl, _, _⟩ := hz.form
  have lx : l.length ≤ 140737488351232 := hx.n
  have ldn : dl.length ≤ 140737488351232 := hdn
  have lzn : h.length ≤ 140737488351232 := hzn
  have HX := Lib.hid hx; have HZ := Lib.hid hz; have HD := Lib.hid hd; have HDN := Lib.hid hdn; have HT := Lib.hid hT
  clear hx hz hd hdn hT hzn
  go_enter Tryd.func5, Tryd.ntmps5
  go_wp2_with fail
  refine (much_any l w _ HX.out).mono ?_
  rintro e w1 ⟨f1, b1, rfl, hb1⟩
  have F1 := Lib.hid f1; have HB1 := Lib.hid hb1
  clear f1 hb1
  cases b1 with
  | true =>
    go_wp2
    go_ret
    exact ⟨rfl, F1.out⟩
  | false =>
    by_cases hdl : dl.length ≤ 20000
    rotate_left
    · go_wp2
      go_ret
      exact ⟨rfl, F1.out⟩
    by_cases hhl : h.length ≤ 20000
    rotate_left
    · go_wp2
      go_ret
      exact ⟨rfl, F1.out⟩
    have hl1 : l.length ≤ 20000 := by have h : l.length + wgtL l ≤ 20000 := (by first | exact HB1.out rfl | exact HB1.out trivial); omega
    go_wp2_with fail
    refine (encode_any w1 _ _ l dl (HX.out.kept0 F1.out) (HD.out.kept0 F1.out) HDN.out (HT.out.kept0 F1.out)).mono ?_
    rintro e w2 ⟨f2, he2⟩
    have F2 := Lib.hid (F1.out.trans f2 (fun _ _ h => h)); have HE2 := Lib.hid he2
    clear f2 he2
    rcases HE2.out with ⟨ht, A, n, rfl, hna, hoa, _⟩ | ⟨ht, rfl⟩
    rotate_left
    · have gt : ((tupErr l : Int) != 0) = true := by rw [bne_iff_ne]; omega
      go_wp2_with fail
      refine (known_any w2 (HT.out.kept0 F2.out)).mono ?_
      rintro e w3 ⟨rfl, f3⟩
      have F3 := Lib.hid (F2.out.trans f3 (fun _ _ h => h))
      clear f3
      go_wp2
      go_ret
      exact ⟨rfl, F3.out⟩
    have htz := tupErr_zero.1 ht
    have hdt := decT_enc (fallsB dl) l n 0 htz.2.1 (fun x hx => good_nums (HX.out.good x hx)) (by omega) (by omega)
    have hel := encT_le (fallsB dl) l htz.2.1 0
    have HDT := Lib.hid hdt; have HNA := Lib.hid hna; have HOA := Lib.hid hoa; have HTZ := Lib.hid htz.2.1
    have hn6 : n ≤ 640 := by omega
    clear ht htz hdt hel hna hoa
    go_wp2_with fail
    refine (known_any w2 (HT.out.kept0 F2.out)).mono ?_
    rintro e w3 ⟨rfl, f3⟩
    have F3 := Lib.hid (F2.out.trans f3 (fun _ _ h => h)); have HO3 := Lib.hid (HOA.out.kept0 f3)
    clear f3
    have hdc := decode_any w3 (.slice A n n) (.slice DA dl.length dc) (encT (fallsB dl) 0 l) dl (by have h := HO3.out.sl; rw [HNA.out] at h ⊢; exact h) (by have := HNA.out; omega) (fun k hk => HO3.out.lt k hk) (HD.out.kept0 F3.out) HDN.out (HT.out.kept0 F3.out)
    have HDC := Lib.hid hdc; clear hdc
    go_wp2_with fail
    refine HDC.out.mono ?_
    rintro e w4 ⟨f4, ⟨ys, M, nm, hdt, hnm, hn4, rfl, hvr⟩ | ⟨q, hdt, _⟩⟩
    rotate_left
    · rw [← HNA.out, HDT.out] at hdt; cases hdt
    have hys : ys.map bare = l.map bare := by rw [← HNA.out, HDT.out] at hdt; exact (Except.ok.inj hdt).symm
    have hin := hvr.inn (by omega)
    rw [← hnm] at hin
    have F4 := Lib.hid (F3.out.trans f4 (fun _ _ h => h)); have HYS := Lib.hid hys; have HIN := Lib.hid hin; have HO4 := Lib.hid (HO3.out.kept0 f4)
    clear f4 hdt hys hin hvr hnm
    go_wp2_with fail
    refine (samevs_any l ys w4 _ _ (HX.out.kept0 F4.out) HIN.out).mono ?_
    rintro e w5 ⟨⟨v, rfl, hv⟩, f5⟩
    obtain rfl : v = true := hv.2 HYS.out.symm
    have F5 := Lib.hid (F4.out.trans f5 (fun _ _ h => h)); have HO5 := Lib.hid (HO4.out.kept0 f5)
    clear f5 hv
    cases l with
    | nil =>
      have hn0 : n = 0 := by have := HNA.out; simpa [encT] using this
      subst hn0
      go_wp2
      go_ret
      exact ⟨rfl, F5.out⟩
    | cons x l =>
      have hxi := HX.out.kept0 F5.out
      obtain ⟨b, o, XB, xb, XL, xl, XF, xf, rfl, hfx, q0, q1, q2, q3, q4, q5, q6, hgl⟩ := In.get hxi 0 (by simp)
      have hgx : Tr.Good w x := HX.out.good x (.head _)
      have hoe : oneErr x = 0 := HTZ.out x (.head _)
      have hag : x.agg = .agg #[.int .u8 x.k.toNat, .bool x.b, .int .i64 x.i, .string ⟨x.t.toArray⟩, .slice XB x.bs.length xb, .slice XL x.l.length xl, .slice XF x.f.length xf] := hfx.agg
      simp only [List.getElem_cons_zero, Nat.zero_mul, Nat.add_zero] at q0 q1 q2 q3 q4 q5 q6
      obtain ⟨dw, hdw⟩ : ∃ dw, dw = fallsB dl 0 := ⟨_, rfl⟩
      have hone := fun W (f : Fr no w W) => one_any W x dw (hgx.kept0 f) (HT.out.kept0 f)
      rw [hag] at hone
      have HONE := Lib.hid hone; have HGX := Lib.hid hgx; have HOE := Lib.hid hoe; have HAG := Lib.hid hag; have HDW := Lib.hid hdw
      have hlen : ((((x :: l).length : Nat) : Int) == 0) = false := by rw [beq_eq_false_iff_ne]; simp only [List.length_cons]; omega
      clear hone hxi hfx hgx hoe hag hdw
      simp only [List.length_cons] at hlen lx hl1
      by_cases hd0 : 0 < dl.length
      · obtain ⟨db, dob, rfl, hdc⟩ := bls_at (HD.out.kept0 F5.out) 0 hd0
        have hde : dl[0] = dw := by rw [HDW.out]; unfold fallsB; simp [hd0]
        rw [hde, Nat.add_zero] at hdc
        have hdc0 := fun W (f : Fr no w5 W) => f.cell hdc (fun h => h)
        have HDC0 := Lib.hid hdc0
        clear hde hdc0
        go_wp2_with fail
        refine wp_region_ord (List.range 17) (fun i => [Kd.p, Kd.p, Kd.l, Kd.p, Kd.p, Kd.p, Kd.p, Kd.p, Kd.p, Kd.l, Kd.p, Kd.g, Kd.p, Kd.p, Kd.p, Kd.p, Kd.p].getD i .e) (by kernel_rfl) (by kernel_rfl) ?_
        iterate 11
          first | (refine wpX_un rfl rfl ?_; go_simp) | first | refine wpX_pu rfl rfl rfl (by first | exact pu_move rfl | exact pu_assign rfl | exact pu_nilCheck rfl rfl | exact pu_binInt rfl rfl rfl | exact pu_conv rfl rfl (by kernel_rfl) | exact pu_fld rfl (by kernel_rfl) | exact pu_ix rfl rfl rfl (by kernel_rfl) | exact pu_unOp rfl | exact pu_binStr rfl rfl rfl | exact pu_len rfl rfl | exact pu_lens rfl rfl | exact pu_pick rfl | exact pu_slice rfl rfl) (fun K hK => ?_) | refine wpX_rd rfl rfl rfl (rd_load rfl) (fun K hK => ?_) | refine wpX_gr rfl rfl rfl (by first | exact gr_buildSlice rfl | exact gr_box rfl | exact gr_alloc rfl) (fun K hK => ?_) | refine wpX_ex rfl rfl rfl (fun K hK => ?_)
          try go_wp2
        refine wpX_ca rfl rfl rfl (fun K hK => ?_)
        go_wp2_with fail
        refine (HONE.out _ (Fr.drew F5.out)).mono ?_
        rintro e w6 ⟨f6, ⟨_, B, nb, rfl, hnb, hob, hobn⟩ | ⟨hne, _⟩⟩
        rotate_left
        · exact absurd HOE.out hne
        have F56 := Lib.hid ((Fr.drew (Fr.refl no w5)).trans f6 (fun _ _ h => h)); have F60 := Lib.hid f6; have HNB := Lib.hid hnb; have hobn : ∀ k, Value.ownBlock (.slice B nb nb) = some k → w5.heap.size ≤ k := hobn
        have HOB := Lib.hid hob; have HOBN := Lib.hid hobn
        have hnbl : nb ≤ 160 := by rw [hnb, encD_len]; exact (oneErr_zero.1 HOE.out).2.2
        have hnb1 : 0 < nb := by
          obtain ⟨c, r, hcr⟩ := encD_ne (one_ok HOE.out (good_nums HGX.out)).1.here dw
          rw [hnb, hcr]; simp
        clear f6 hnb hob hobn
        go_wp2
        obtain ⟨⟨ea, eb⟩, hext⟩ := F60.out.ext
        refine ⟨⟨ea, eb, hext⟩, hK _ _ ?_⟩
        clear hK K hext ea eb
        first | refine wpX_pu rfl rfl rfl (by first | exact pu_move rfl | exact pu_assign rfl | exact pu_nilCheck rfl rfl | exact pu_binInt rfl rfl rfl | exact pu_conv rfl rfl (by kernel_rfl) | exact pu_fld rfl (by kernel_rfl) | exact pu_ix rfl rfl rfl (by kernel_rfl) | exact pu_unOp rfl | exact pu_binStr rfl rfl rfl | exact pu_len rfl rfl | exact pu_lens rfl rfl | exact pu_pick rfl | exact pu_slice rfl rfl) (fun K hK => ?_) | refine wpX_rd rfl rfl rfl (rd_load rfl) (fun K hK => ?_) | refine wpX_gr rfl rfl rfl (by first | exact gr_buildSlice rfl | exact gr_box rfl | exact gr_alloc rfl) (fun K hK => ?_) | refine wpX_ex rfl rfl rfl (fun K hK => ?_)
        try go_wp2
        refine wpX_pv (.slice B nb nb) rfl rfl rfl (fun w' => by first | rfl | simp [execOp, Act.eval]) ?_
        refine wpX_pv (.int .u16 0) rfl rfl rfl (fun w' => by first | rfl | simp [execOp, Act.eval]) ?_
        go_simp
        iterate 2
          first | refine wpX_pu rfl rfl rfl (by first | exact pu_move rfl | exact pu_assign rfl | exact pu_nilCheck rfl rfl | exact pu_binInt rfl rfl rfl | exact pu_conv rfl rfl (by kernel_rfl) | exact pu_fld rfl (by kernel_rfl) | exact pu_ix rfl rfl rfl (by kernel_rfl) | exact pu_unOp rfl | exact pu_binStr rfl rfl rfl | exact pu_len rfl rfl | exact pu_lens rfl rfl | exact pu_pick rfl | exact pu_slice rfl rfl) (fun K hK => ?_) | refine wpX_rd rfl rfl rfl (rd_load rfl) (fun K hK => ?_) | refine wpX_gr rfl rfl rfl (by first | exact gr_buildSlice rfl | exact gr_box rfl | exact gr_alloc rfl) (fun K hK => ?_) | refine wpX_ex rfl rfl rfl (fun K hK => ?_)
          try go_wp2
        refine wpX_done ?_
        have F6 := Lib.hid (F5.out.trans F56.out (fun _ _ h => h))
        go_wp2_with (at_builtin; refine wpList_apo (n := nb) (xs := bvs (encD dw x)) (m := h.length) (news := bvs h) rfl (.tmp 83) (.tmp 84) 22 rfl tbB HOB.out (HZ.out.kept0 F6.out) rfl rfl (bvs_one h) ?xAa ?xAb ?xAc)
        case xAa => simp only [maxLen]; omega
        case xAb => omega
        case xAc =>
          intro P N pc w7 hN ho7 _ hf7 hs7
          subst hN
          have f57 : Fr no w5 w7 := F56.out.trans hf7 (fun k hk h => by
            have h1 := HOB.out.lt k h
            have h2 := HOBN.out k h
            omega)
          have hle : (encD dw x ++ h).length = nb + h.length := by rw [List.length_append, HNB.out]
          have hsl : Sl w7 1 (.slice P (nb + h.length) pc) (encD dw x ++ h).length (bvs (encD dw x ++ h)) := by rw [hle, bvs_append]; exact ho7.sl
          have hsp := split_any w7 (.slice P (nb + h.length) pc) (encD dw x ++ h) dw hsl (by rw [hle]; omega) (HT.out.kept0 (F5.out.trans f57 (fun _ _ h => h))) (fun k hk => ho7.lt k hk)
          have hse := splitE_enc dw x h HOE.out (good_nums HGX.out)
          have HSP := Lib.hid hsp; have F57 := Lib.hid f57; have HSE := Lib.hid hse
          clear ho7 hf7 hs7 f57 hle hsl hsp hse
          have hdc := (HDC0.out w7 F57.out)
          go_wp2_with fail
          refine HSP.out.mono ?_
          rintro e w8 ⟨f8, ⟨y, s, T, nt, hse, hnt, rfl, hoy, hgy, hby, hot, _⟩ | ⟨hse, _⟩⟩
          rotate_left
          · rw [HSE.out] at hse; cases hse
          rw [HSE.out] at hse
          simp only [Option.some.injEq, Prod.mk.injEq] at hse
          obtain ⟨hbx, rfl⟩ := hse
          obtain ⟨YB, yb, YL, yl, YF, yf, hfy⟩ := hgy.node.forms
          have f58 := F57.out.trans f8 (fun _ _ h => h)
          have q0 := f58.cell q0 (fun h => h); have q1 := f58.cell q1 (fun h => h); have q2 := f58.cell q2 (fun h => h); have q3 := f58.cell q3 (fun h => h); have q4 := f58.cell q4 (fun h => h); have q5 := f58.cell q5 (fun h => h); have q6 := f58.cell q6 (fun h => h)
          have hgl8 := Nat.lt_of_lt_of_le hgl f58.size
          have hsv := fun W (f : Fr no w8 W) => samev_any y x W (hgy.kept0 f) (HGX.out.kept0 ((F5.out.trans f58 (fun _ _ h => h)).trans f (fun _ _ h => h)))
          have hag := hfy.agg
          rw [hag, HAG.out] at hsv
          rw [hag]
          have HSV := Lib.hid hsv; have F8 := Lib.hid (F5.out.trans f58 (fun _ _ h => h)); have HBX := Lib.hid hbx; have HNT := Lib.hid hnt; have HOT := Lib.hid hot
          clear hsv hag f58 f8 hbx hnt hot hoy hgy hby hfy hgl
          have gn : decide (0 < nb) = true := decide_eq_true hnb1
          go_wp2_with fail
          refine wp_region_ord (List.range 23) (fun i => [Kd.p, Kd.p, Kd.p, Kd.p, Kd.p, Kd.p, Kd.p, Kd.p, Kd.p, Kd.p, Kd.p, Kd.l, Kd.p, Kd.p, Kd.l, Kd.g, Kd.p, Kd.p, Kd.p, Kd.p, Kd.g, Kd.p, Kd.p].getD i .e) (by kernel_rfl) (by kernel_rfl) ?_
          iterate 15
            first | (refine wpX_un rfl rfl ?_; go_simp) | first | refine wpX_pu rfl rfl rfl (by first | exact pu_move rfl | exact pu_assign rfl | exact pu_nilCheck rfl rfl | exact pu_binInt rfl rfl rfl | exact pu_conv rfl rfl (by kernel_rfl) | exact pu_fld rfl (by kernel_rfl) | exact pu_ix rfl rfl rfl (by kernel_rfl) | exact pu_unOp rfl | exact pu_binStr rfl rfl rfl | exact pu_len rfl rfl | exact pu_lens rfl rfl | exact pu_pick rfl | exact pu_slice rfl rfl) (fun K hK => ?_) | refine wpX_rd rfl rfl rfl (rd_load rfl) (fun K hK => ?_) | refine wpX_gr rfl rfl rfl (by first | exact gr_buildSlice rfl | exact gr_box rfl | exact gr_alloc rfl) (fun K hK => ?_) | refine wpX_ex rfl rfl rfl (fun K hK => ?_)
            try go_wp2
          refine wpX_ca rfl rfl rfl (fun K hK => ?_)
          go_wp2_with fail
          refine (HSV.out _ (by (repeat first | exact Fr.refl _ _ | exact Fr.drewN _ _ _ | apply Fr.drew | apply Fr.alloc | apply Fr.setAt | apply Fr.moreN))).mono ?_
          rintro e w9 ⟨⟨v, rfl, hv⟩, f9⟩
          obtain rfl : v = true := hv.2 HBX.out.symm
          have F90 := Lib.hid f9; have F9 := Lib.hid ((by (repeat first | exact Fr.refl _ _ | exact Fr.drewN _ _ _ | apply Fr.drew | apply Fr.alloc | apply Fr.setAt | apply Fr.moreN) : Fr no w8 _).trans f9 (fun _ _ h => h))
          clear hv f9
          go_wp2
          obtain ⟨⟨ea, eb⟩, hext⟩ := F90.out.ext
          refine ⟨⟨ea, eb, hext⟩, hK _ _ ?_⟩
          clear hK K hext ea eb
          iterate 4
            first | (refine wpX_un rfl rfl ?_; go_simp) | first | refine wpX_pu rfl rfl rfl (by first | exact pu_move rfl | exact pu_assign rfl | exact pu_nilCheck rfl rfl | exact pu_binInt rfl rfl rfl | exact pu_conv rfl rfl (by kernel_rfl) | exact pu_fld rfl (by kernel_rfl) | exact pu_ix rfl rfl rfl (by kernel_rfl) | exact pu_unOp rfl | exact pu_binStr rfl rfl rfl | exact pu_len rfl rfl | exact pu_lens rfl rfl | exact pu_pick rfl | exact pu_slice rfl rfl) (fun K hK => ?_) | refine wpX_rd rfl rfl rfl (rd_load rfl) (fun K hK => ?_) | refine wpX_gr rfl rfl rfl (by first | exact gr_buildSlice rfl | exact gr_box rfl | exact gr_alloc rfl) (fun K hK => ?_) | refine wpX_ex rfl rfl rfl (fun K hK => ?_)
            try go_wp2
          refine wpX_ca rfl rfl rfl (fun K hK => ?_)
          go_wp2_with fail
          have hsm := same_any w9 (.slice T nt nt) (.slice ZA h.length zc) h h (by rw [← HNT.out]; exact (HOT.out.kept0 F9.out).sl) ((HZ.out.kept0 F8.out).kept0 F9.out) (by omega) (by omega)
          refine hsm.mono ?_
          clear hsm
          rintro e wa ⟨rfl, na, rfl⟩
          rw [decide_eq_true rfl]
          go_wp2
          obtain ⟨⟨ea, eb⟩, hext⟩ := (Fr.drewN no w9 na).ext
          refine ⟨⟨ea, eb, hext⟩, hK _ _ ?_⟩
          clear hK K hext ea eb
          iterate 2
            first | (refine wpX_un rfl rfl ?_; go_simp) | first | refine wpX_pu rfl rfl rfl (by first | exact pu_move rfl | exact pu_assign rfl | exact pu_nilCheck rfl rfl | exact pu_binInt rfl rfl rfl | exact pu_conv rfl rfl (by kernel_rfl) | exact pu_fld rfl (by kernel_rfl) | exact pu_ix rfl rfl rfl (by kernel_rfl) | exact pu_unOp rfl | exact pu_binStr rfl rfl rfl | exact pu_len rfl rfl | exact pu_lens rfl rfl | exact pu_pick rfl | exact pu_slice rfl rfl) (fun K hK => ?_) | refine wpX_rd rfl rfl rfl (rd_load rfl) (fun K hK => ?_) | refine wpX_gr rfl rfl rfl (by first | exact gr_buildSlice rfl | exact gr_box rfl | exact gr_alloc rfl) (fun K hK => ?_) | refine wpX_ex rfl rfl rfl (fun K hK => ?_)
            try go_wp2
          refine wpX_done ?_
          go_wp2
          go_ret
          exact ⟨rfl, (F8.out.trans F9.out (fun _ _ h => h)).moreN na⟩
      · have hde : dw = false := by rw [HDW.out]; unfold fallsB; simp [List.eq_nil_of_length_eq_zero (show dl.length = 0 by omega)]
        have hdl0 : dl.length = 0 := by omega
        subst hde
        go_wp2_with fail
        refine wp_region_ord (List.range 17) (fun i => [Kd.p, Kd.p, Kd.l, Kd.p, Kd.p, Kd.p, Kd.p, Kd.p, Kd.p, Kd.l, Kd.p, Kd.g, Kd.p, Kd.p, Kd.p, Kd.p, Kd.p].getD i .e) (by kernel_rfl) (by kernel_rfl) ?_
        iterate 11
          first | (refine wpX_un rfl rfl ?_; go_simp) | first | refine wpX_pu rfl rfl rfl (by first | exact pu_move rfl | exact pu_assign rfl | exact pu_nilCheck rfl rfl | exact pu_binInt rfl rfl rfl | exact pu_conv rfl rfl (by kernel_rfl) | exact pu_fld rfl (by kernel_rfl) | exact pu_ix rfl rfl rfl (by kernel_rfl) | exact pu_unOp rfl | exact pu_binStr rfl rfl rfl | exact pu_len rfl rfl | exact pu_lens rfl rfl | exact pu_pick rfl | exact pu_slice rfl rfl) (fun K hK => ?_) | refine wpX_rd rfl rfl rfl (rd_load rfl) (fun K hK => ?_) | refine wpX_gr rfl rfl rfl (by first | exact gr_buildSlice rfl | exact gr_box rfl | exact gr_alloc rfl) (fun K hK => ?_) | refine wpX_ex rfl rfl rfl (fun K hK => ?_)
          try go_wp2
        refine wpX_ca rfl rfl rfl (fun K hK => ?_)
        go_wp2_with fail
        refine (HONE.out _ (Fr.drew F5.out)).mono ?_
        rintro e w6 ⟨f6, ⟨_, B, nb, rfl, hnb, hob, hobn⟩ | ⟨hne, _⟩⟩
        rotate_left
        · exact absurd HOE.out hne
        have F56 := Lib.hid ((Fr.drew (Fr.refl no w5)).trans f6 (fun _ _ h => h)); have F60 := Lib.hid f6; have HNB := Lib.hid hnb; have hobn : ∀ k, Value.ownBlock (.slice B nb nb) = some k → w5.heap.size ≤ k := hobn
        have HOB := Lib.hid hob; have HOBN := Lib.hid hobn
        have hnbl : nb ≤ 160 := by rw [hnb, encD_len]; exact (oneErr_zero.1 HOE.out).2.2
        have hnb1 : 0 < nb := by
          obtain ⟨c, r, hcr⟩ := encD_ne (one_ok HOE.out (good_nums HGX.out)).1.here false
          rw [hnb, hcr]; simp
        clear f6 hnb hob hobn
        go_wp2
        obtain ⟨⟨ea, eb⟩, hext⟩ := F60.out.ext
        refine ⟨⟨ea, eb, hext⟩, hK _ _ ?_⟩
        clear hK K hext ea eb
        first | refine wpX_pu rfl rfl rfl (by first | exact pu_move rfl | exact pu_assign rfl | exact pu_nilCheck rfl rfl | exact pu_binInt rfl rfl rfl | exact pu_conv rfl rfl (by kernel_rfl) | exact pu_fld rfl (by kernel_rfl) | exact pu_ix rfl rfl rfl (by kernel_rfl) | exact pu_unOp rfl | exact pu_binStr rfl rfl rfl | exact pu_len rfl rfl | exact pu_lens rfl rfl | exact pu_pick rfl | exact pu_slice rfl rfl) (fun K hK => ?_) | refine wpX_rd rfl rfl rfl (rd_load rfl) (fun K hK => ?_) | refine wpX_gr rfl rfl rfl (by first | exact gr_buildSlice rfl | exact gr_box rfl | exact gr_alloc rfl) (fun K hK => ?_) | refine wpX_ex rfl rfl rfl (fun K hK => ?_)
        try go_wp2
        refine wpX_pv (.slice B nb nb) rfl rfl rfl (fun w' => by first | rfl | simp [execOp, Act.eval]) ?_
        refine wpX_pv (.int .u16 0) rfl rfl rfl (fun w' => by first | rfl | simp [execOp, Act.eval]) ?_
        go_simp
        iterate 2
          first | refine wpX_pu rfl rfl rfl (by first | exact pu_move rfl | exact pu_assign rfl | exact pu_nilCheck rfl rfl | exact pu_binInt rfl rfl rfl | exact pu_conv rfl rfl (by kernel_rfl) | exact pu_fld rfl (by kernel_rfl) | exact pu_ix rfl rfl rfl (by kernel_rfl) | exact pu_unOp rfl | exact pu_binStr rfl rfl rfl | exact pu_len rfl rfl | exact pu_lens rfl rfl | exact pu_pick rfl | exact pu_slice rfl rfl) (fun K hK => ?_) | refine wpX_rd rfl rfl rfl (rd_load rfl) (fun K hK => ?_) | refine wpX_gr rfl rfl rfl (by first | exact gr_buildSlice rfl | exact gr_box rfl | exact gr_alloc rfl) (fun K hK => ?_) | refine wpX_ex rfl rfl rfl (fun K hK => ?_)
          try go_wp2
        refine wpX_done ?_
        have F6 := Lib.hid (F5.out.trans F56.out (fun _ _ h => h))
        go_wp2_with (at_builtin; refine wpList_apo (n := nb) (xs := bvs (encD false x)) (m := h.length) (news := bvs h) rfl (.tmp 83) (.tmp 84) 22 rfl tbB HOB.out (HZ.out.kept0 F6.out) rfl rfl (bvs_one h) ?xBa ?xBb ?xBc)
        case xBa => simp only [maxLen]; omega
        case xBb => omega
        case xBc =>
          intro P N pc w7 hN ho7 _ hf7 hs7
          subst hN
          have f57 : Fr no w5 w7 := F56.out.trans hf7 (fun k hk h => by
            have h1 := HOB.out.lt k h
            have h2 := HOBN.out k h
            omega)
          have hle : (encD false x ++ h).length = nb + h.length := by rw [List.length_append, HNB.out]
          have hsl : Sl w7 1 (.slice P (nb + h.length) pc) (encD false x ++ h).length (bvs (encD false x ++ h)) := by rw [hle, bvs_append]; exact ho7.sl
          have hsp := split_any w7 (.slice P (nb + h.length) pc) (encD false x ++ h) false hsl (by rw [hle]; omega) (HT.out.kept0 (F5.out.trans f57 (fun _ _ h => h))) (fun k hk => ho7.lt k hk)
          have hse := splitE_enc false x h HOE.out (good_nums HGX.out)
          have HSP := Lib.hid hsp; have F57 := Lib.hid f57; have HSE := Lib.hid hse
          clear ho7 hf7 hs7 f57 hle hsl hsp hse
          go_wp2_with fail
          refine HSP.out.mono ?_
          rintro e w8 ⟨f8, ⟨y, s, T, nt, hse, hnt, rfl, hoy, hgy, hby, hot, _⟩ | ⟨hse, _⟩⟩
          rotate_left
          · rw [HSE.out] at hse; cases hse
          rw [HSE.out] at hse
          simp only [Option.some.injEq, Prod.mk.injEq] at hse
          obtain ⟨hbx, rfl⟩ := hse
          obtain ⟨YB, yb, YL, yl, YF, yf, hfy⟩ := hgy.node.forms
          have f58 := F57.out.trans f8 (fun _ _ h => h)
          have q0 := f58.cell q0 (fun h => h); have q1 := f58.cell q1 (fun h => h); have q2 := f58.cell q2 (fun h => h); have q3 := f58.cell q3 (fun h => h); have q4 := f58.cell q4 (fun h => h); have q5 := f58.cell q5 (fun h => h); have q6 := f58.cell q6 (fun h => h)
          have hgl8 := Nat.lt_of_lt_of_le hgl f58.size
          have hsv := fun W (f : Fr no w8 W) => samev_any y x W (hgy.kept0 f) (HGX.out.kept0 ((F5.out.trans f58 (fun _ _ h => h)).trans f (fun _ _ h => h)))
          have hag := hfy.agg
          rw [hag, HAG.out] at hsv
          rw [hag]
          have HSV := Lib.hid hsv; have F8 := Lib.hid (F5.out.trans f58 (fun _ _ h => h)); have HBX := Lib.hid hbx; have HNT := Lib.hid hnt; have HOT := Lib.hid hot
          clear hsv hag f58 f8 hbx hnt hot hoy hgy hby hfy hgl
          have gn : decide (0 < nb) = true := decide_eq_true hnb1
          go_wp2_with fail
          refine wp_region_ord (List.range 23) (fun i => [Kd.p, Kd.p, Kd.p, Kd.p, Kd.p, Kd.p, Kd.p, Kd.p, Kd.p, Kd.p, Kd.p, Kd.l, Kd.p, Kd.p, Kd.l, Kd.g, Kd.p, Kd.p, Kd.p, Kd.p, Kd.g, Kd.p, Kd.p].getD i .e) (by kernel_rfl) (by kernel_rfl) ?_
          iterate 15
            first | (refine wpX_un rfl rfl ?_; go_simp) | first | refine wpX_pu rfl rfl rfl (by first | exact pu_move rfl | exact pu_assign rfl | exact pu_nilCheck rfl rfl | exact pu_binInt rfl rfl rfl | exact pu_conv rfl rfl (by kernel_rfl) | exact pu_fld rfl (by kernel_rfl) | exact pu_ix rfl rfl rfl (by kernel_rfl) | exact pu_unOp rfl | exact pu_binStr rfl rfl rfl | exact pu_len rfl rfl | exact pu_lens rfl rfl | exact pu_pick rfl | exact pu_slice rfl rfl) (fun K hK => ?_) | refine wpX_rd rfl rfl rfl (rd_load rfl) (fun K hK => ?_) | refine wpX_gr rfl rfl rfl (by first | exact gr_buildSlice rfl | exact gr_box rfl | exact gr_alloc rfl) (fun K hK => ?_) | refine wpX_ex rfl rfl rfl (fun K hK => ?_)
            try go_wp2
          refine wpX_ca rfl rfl rfl (fun K hK => ?_)
          go_wp2_with fail
          refine (HSV.out _ (by (repeat first | exact Fr.refl _ _ | exact Fr.drewN _ _ _ | apply Fr.drew | apply Fr.alloc | apply Fr.setAt | apply Fr.moreN))).mono ?_
          rintro e w9 ⟨⟨v, rfl, hv⟩, f9⟩
          obtain rfl : v = true := hv.2 HBX.out.symm
          have F90 := Lib.hid f9; have F9 := Lib.hid ((by (repeat first | exact Fr.refl _ _ | exact Fr.drewN _ _ _ | apply Fr.drew | apply Fr.alloc | apply Fr.setAt | apply Fr.moreN) : Fr no w8 _).trans f9 (fun _ _ h => h))
          clear hv f9
          go_wp2
          obtain ⟨⟨ea, eb⟩, hext⟩ := F90.out.ext
          refine ⟨⟨ea, eb, hext⟩, hK _ _ ?_⟩
          clear hK K hext ea eb
          iterate 4
            first | (refine wpX_un rfl rfl ?_; go_simp) | first | refine wpX_pu rfl rfl rfl (by first | exact pu_move rfl | exact pu_assign rfl | exact pu_nilCheck rfl rfl | exact pu_binInt rfl rfl rfl | exact pu_conv rfl rfl (by kernel_rfl) | exact pu_fld rfl (by kernel_rfl) | exact pu_ix rfl rfl rfl (by kernel_rfl) | exact pu_unOp rfl | exact pu_binStr rfl rfl rfl | exact pu_len rfl rfl | exact pu_lens rfl rfl | exact pu_pick rfl | exact pu_slice rfl rfl) (fun K hK => ?_) | refine wpX_rd rfl rfl rfl (rd_load rfl) (fun K hK => ?_) | refine wpX_gr rfl rfl rfl (by first | exact gr_buildSlice rfl | exact gr_box rfl | exact gr_alloc rfl) (fun K hK => ?_) | refine wpX_ex rfl rfl rfl (fun K hK => ?_)
            try go_wp2
          refine wpX_ca rfl rfl rfl (fun K hK => ?_)
          go_wp2_with fail
          have hsm := same_any w9 (.slice T nt nt) (.slice ZA h.length zc) h h (by rw [← HNT.out]; exact (HOT.out.kept0 F9.out).sl) ((HZ.out.kept0 F8.out).kept0 F9.out) (by omega) (by omega)
          refine hsm.mono ?_
          clear hsm
          rintro e wa ⟨rfl, na, rfl⟩
          rw [decide_eq_true rfl]
          go_wp2
          obtain ⟨⟨ea, eb⟩, hext⟩ := (Fr.drewN no w9 na).ext
          refine ⟨⟨ea, eb, hext⟩, hK _ _ ?_⟩
          clear hK K hext ea eb
          iterate 2
            first | (refine wpX_un rfl rfl ?_; go_simp) | first | refine wpX_pu rfl rfl rfl (by first | exact pu_move rfl | exact pu_assign rfl | exact pu_nilCheck rfl rfl | exact pu_binInt rfl rfl rfl | exact pu_conv rfl rfl (by kernel_rfl) | exact pu_fld rfl (by kernel_rfl) | exact pu_ix rfl rfl rfl (by kernel_rfl) | exact pu_unOp rfl | exact pu_binStr rfl rfl rfl | exact pu_len rfl rfl | exact pu_lens rfl rfl | exact pu_pick rfl | exact pu_slice rfl rfl) (fun K hK => ?_) | refine wpX_rd rfl rfl rfl (rd_load rfl) (fun K hK => ?_) | refine wpX_gr rfl rfl rfl (by first | exact gr_buildSlice rfl | exact gr_box rfl | exact gr_alloc rfl) (fun K hK => ?_) | refine wpX_ex rfl rfl rfl (fun K hK => ?_)
            try go_wp2
          refine wpX_done ?_
          go_wp2
          go_ret
          exact ⟨rfl, (F8.out.trans F9.out (fun _ _ h => h)).moreN na⟩
end Go.Proofs.YtgcicljklejmjaaDoor

/- KeyBack holds, for every input; its tied card. No condition but what its row lists. -/
namespace Go.Proofs.YtgcicljklejmjaaDoor
open Go.ChangeShapes Go.WideShapes Go.ChangeAt Go.RowKit Go.Shelf
namespace RKeyBack
theorem own : ownKnob Tryd.prog.godebug = none := by kernel_rfl
theorem laidOut : laidOutB Tryd.prog = true := by kernel_rfl

/-- A world in which the two tables lie. -/
noncomputable def laidWorld (os : Os) : World :=
  let w0 := World.holding Tryd.prog os ⟨#[], #[], []⟩
  let put (h : Array Obj) (g : Nat) (cs : Array Value) : Array Obj := h.modify g fun
    | .cells _ t frozen => .cells cs t frozen
    | o => o
  let h1 := put w0.heap 0 (Lib.firstTab.map fun z => Value.int .u8 z).toArray
  let h2 := put h1 1 ((List.range 16).flatMap fun i => [Value.int .u8 (Lib.accLo i), Value.int .u8 (Lib.accHi i)]).toArray
  { w0 with heap := h2 }
theorem laid_met (os : Os) (args : Array Value) : laidMet Tryd.prog Rows.keyBackRow.laid ((laidWorld os).forCall (fun _ _ => 0) ⟨#[], args, []⟩).memory :=
  (LaidIn.of_run (l := [("unicode/utf8.acceptRanges", Rows.laid_unicode_utf8_acceptRanges), ("unicode/utf8.first", Rows.laid_unicode_utf8_first)]) [0, 1] 8 (by kernel_rfl) (by kernel_rfl) (by kernel_rfl) (by kernel_rfl)).met

theorem witness_row (os : Os) {H : Type} (enc : TypeId × Value → H) :
    (OpenSpec.ofChange Rows.keyBackSpec).preRow enc Tryd.prog Tryd.f5 Rows.keyBackRow.domain false Rows.keyBackRow.laid ((laidWorld os).forCall (fun _ _ => 0) ⟨#[], #[.slice none 0 0, .slice none 0 0, .slice none 0 0], []⟩).memory #[.slice none 0 0, .slice none 0 0, .slice none 0 0] := by
  have hw : (DataW.whole enc Tryd.prog ((laidWorld os).forCall (fun _ _ => 0) ⟨#[], #[.slice none 0 0, .slice none 0 0, .slice none 0 0], []⟩).memory Tryd.f5.params.toList (OpenSpec.ofChange Rows.keyBackSpec).vars false #[.slice none 0 0, .slice none 0 0, .slice none 0 0].toList 8).map (fun x => (x.1, x.2.1)) = some ([.nil, .nil, .nil], []) := by kernel_rfl
  obtain ⟨⟨x1, x2, x3⟩, hx, hx1⟩ := Option.map_eq_some_iff.1 hw
  simp only [Prod.mk.injEq] at hx1
  obtain ⟨rfl, rfl⟩ := hx1
  exact OpenSpec.preRow_of_cond 8 hx (by kernel_rfl) (fun k hk => by cases hk) (by kernel_rfl) (laid_met os _)

set_option maxRecDepth 100000 in
set_option maxHeartbeats 2000000 in
theorem lifted (os : Os) (started : os.Started) (H : Type) (enc : TypeId × Value → H) (F : Stop.Interp) :
    ReturnsInHanded {} Tryd.checked os 5 .any ((OpenSpec.ofChange Rows.keyBackSpec).preRow enc Tryd.prog Tryd.f5 Rows.keyBackRow.domain false Rows.keyBackRow.laid) (((OpenSpec.ofChange Rows.keyBackSpec).at F).post enc Tryd.prog Tryd.f5 false true false false) := by
  refine returnsInHanded_of_row (C := Tryd.checked) (s := (OpenSpec.ofChange Rows.keyBackSpec)) own started (by kernel_rfl) Tryd.func5
    (witness_row_atRef (enc := enc) (C := Tryd.checked) false (laidWorld os) #[.slice none 0 0, .slice none 0 0, .slice none 0 0] rfl (by kernel_rfl) (by kernel_rfl) (by kernel_rfl) (witness_row os enc)) ?_
  intro W base args ds gs before hval0 hW hcnd hk0 hsz0 hL _ _
  have hval : ∀ (j : Nat) t v, Tryd.f5.params[j]? = some t → args[j]? = some v → Value.okWide Tryd.prog W .any base t v := hval0
  have hW' := hW
  obtain ⟨p, q, hA0, hV, rfl, hfz, hnd⟩ := hW
  have hA : DataW.TrodAll enc Tryd.prog W 0 (fun _ => true) true Tryd.f5.params.toList args.toList ds p := hA0
  have hTd : ∀ (j : Nat) t v, Tryd.f5.params.toList[j]? = some t → args.toList[j]? = some v → Td Tryd.prog W t v.cells.toList := fun j t v h1 h2 => Td.arg hA hsz0 j t v h1 h2
  have htab : Tabs W := utf8Tabs_of_readsT (U8Types.of196 lays_valid) ⟨by kernel_rfl, by kernel_rfl, by kernel_rfl, by kernel_rfl, by kernel_rfl, by kernel_rfl, by kernel_rfl⟩ (Lib.laidMet.reads (d := Rows.laid_unicode_utf8_first) hL (.tail _ (.head _))) (Lib.laidMet.reads (d := Rows.laid_unicode_utf8_acceptRanges) hL (.head _))
  clear hsz0 hcnd hk0
  rw [Tryd.params5] at hA hval hTd
  obtain ⟨v0, vs0, d0, ds0, p0, q0, hargs, rfl, rfl, h0, r0⟩ := trodAll_cons hA
  obtain ⟨v1, vs1, d1, ds1, p1, q1, rfl, rfl, rfl, h1, r1⟩ := trodAll_cons r0
  obtain ⟨v2, vs2, d2, ds2, p2, q2, rfl, rfl, rfl, h2, r2⟩ := trodAll_cons r1
  obtain ⟨rfl, rfl, rfl⟩ := trodAll_nil r2
  obtain rfl : args = #[v0, v1, v2] := by cases args; simp_all
  obtain ⟨rfl, rfl⟩ := trodVars_none hV
  have lt0 : ∀ x ∈ p0, x.block < W.heap.size := by obtain ⟨m, hm⟩ := h0; exact DataW.trod_lt m _ _ _ hm
  obtain ⟨a0, n0, c0, rfl⟩ := okWide_slice Tryd.underlying25 (hval 0 25 v0 rfl rfl)
  have lo0 : ∀ k, (Value.slice a0 n0 c0).ownBlock = some k → k < W.heap.size := okWide_lt Tryd.underlying25 (hval 0 25 _ rfl rfl)
  have td0 : Td Tryd.prog W 25 [.slice a0 n0 c0] := hTd 0 25 _ rfl rfl
  have lt1 : ∀ x ∈ p1, x.block < W.heap.size := by obtain ⟨m, hm⟩ := h1; exact DataW.trod_lt m _ _ _ hm
  obtain ⟨a1, n1, c1, rfl⟩ := okWide_slice Tryd.underlying23 (hval 1 23 v1 rfl rfl)
  have lo1 : ∀ k, (Value.slice a1 n1 c1).ownBlock = some k → k < W.heap.size := okWide_lt Tryd.underlying23 (hval 1 23 _ rfl rfl)
  have td1 : Td Tryd.prog W 23 [.slice a1 n1 c1] := hTd 1 23 _ rfl rfl
  have lt2 : ∀ x ∈ p2, x.block < W.heap.size := by obtain ⟨m, hm⟩ := h2; exact DataW.trod_lt m _ _ _ hm
  obtain ⟨a2, n2, c2, rfl⟩ := okWide_slice Tryd.underlying22 (hval 2 22 v2 rfl rfl)
  have lo2 : ∀ k, (Value.slice a2 n2 c2).ownBlock = some k → k < W.heap.size := okWide_lt Tryd.underlying22 (hval 2 22 _ rfl rfl)
  have td2 : Td Tryd.prog W 22 [.slice a2 n2 c2] := hTd 2 22 _ rfl rfl
  have walk : Calls Tryd.prog 5 #[.slice a0 n0 c0, .slice a1 n1 c1, .slice a2 n2 c2] W fun e w' => e = .returned (.bool true) ∧ Below W.heap.size W w' := by
    clear hA0 hTd hval hval0 hL
    obtain ⟨x0, l0, e0, s0⟩ := open_values td0
    obtain rfl := (List.cons.inj e0).1
    obtain ⟨x1, l1, e1, s1, h1⟩ := open_bools td1
    obtain rfl := (List.cons.inj e1).1
    obtain ⟨x2, l2, e2, s2, h2⟩ := td_bytes td2
    obtain rfl := (List.cons.inj e2).1
    exact (back_any W _ _ _ l0 l1 l2 s0 s1 h1 s2 h2 htab).mono fun e w' ⟨h1, f⟩ => ⟨h1, f.below (fun _ _ h => h)⟩
  clear hA0 hval0 hTd
  refine walk.mono fun e W' ⟨he, bel⟩ => ?_
  subst he
  exact ⟨_, rfl, _, _, _, [], _, [], hW', trodAll_mk1 (shut_bool Tryd.underlying4 _), (trodAll_cons_mk (Below.trod laidOut (by kernel_rfl) (of_decide_eq_true (by kernel_rfl)) h0 bel lt0) (trodAll_cons_mk (Below.trod laidOut (by kernel_rfl) (of_decide_eq_true (by kernel_rfl)) h1 bel lt1) (trodAll_cons_mk (Below.trod laidOut (by kernel_rfl) (of_decide_eq_true (by kernel_rfl)) h2 bel lt2) trodAll_mk0))), rfl, bel.frame _, fun h => by cases h⟩

theorem row : Rows.keyBackRow.holds Tryd.pinned (OpenSpec.ofChange Rows.keyBackSpec) :=
  OpenClaim.holds_of_cond 5 Tryd.f5 rfl rfl rfl rfl rfl rfl rfl ⟨rfl, rfl, rfl, rfl, rfl⟩ rfl rfl rfl rfl rfl (by kernel_rfl) Tryd.func5 (by kernel_rfl)
    (of_decide_eq_true (by kernel_rfl)) (by unfold Func.isWrapper; first | (rw [if_pos (by decide +kernel)]; kernel_rfl) | (rw [if_neg (of_decide_eq_false (by kernel_rfl))]; exact ⟨rfl, rfl⟩))
    (fun os started H enc _ F0 => by rw [OpenClaim.pre_eq_preRow]; exact lifted os started H enc F0)
theorem card : Claim7.holds Tryd.pinned (.plain (OpenSpec.ofChange Rows.keyBackSpec)) Rows.keyBackCard :=
  Claim7.holds_tied_plain_at .later [] [.data, .pinned] true Rows.keyBackCard.stood.harness Rows.keyBackCard.stood.looks
    row (fun _ h => by cases h) (by kernel_rfl) (fun _ h => by cases h) keyBack_row_tie rfl ⟨rfl, rfl⟩ (by kernel_rfl) (by kernel_rfl)
    (fun f fn hf hfn => by
      obtain rfl : f = 5 := Option.some.inj ((show Tryd.prog.funcNamed "codicil/codicillaw04.KeyBack" = some 5 by kernel_rfl).symm.trans hf) |>.symm
      obtain rfl : fn = Tryd.f5 := (Option.some.inj (Tryd.func5.symm.trans hfn)).symm
      exact ⟨by kernel_rfl, fun j t ht => by
        have hall : (Tryd.f5.params.toList.all fun t => Tryd.prog.wantsStandIn t == false) = true := by kernel_rfl
        have hm : t ∈ Tryd.f5.params.toList := by
          rw [Array.mem_toList_iff]
          exact Array.mem_of_getElem? ht
        exact (eq_of_beq (List.all_eq_true.1 hall t hm) : Tryd.prog.wantsStandIn t = false)⟩)
    (by kernel_rfl)
end RKeyBack

/-- The card. -/
theorem keyBack_holds : Rows.KeyBackCardSaid := RKeyBack.card
#print axioms keyBack_holds
end Go.Proofs.YtgcicljklejmjaaDoor
