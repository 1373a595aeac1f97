import Derived.Test.YtgcicljklejmjaaDoorMt03
import Derived.Test.YtgcicljklejmjaaDoorMt04
import Derived.Test.YtgcicljklejmjaaDoorMt05
import Derived.Test.YtgcicljklejmjaaDoorRows
import Derived.Test.YtgcicljklejmjaaDoorCards
import Derived.Test.YtgcicljklejmjaaDoorTie
import Derived.Test.YtgcicljklejmjaaDoorMb15
import Derived.Test.YtgcicljklejmjaaDoorMb07
import Derived.WalkKit
import Derived.ProofKit
import Derived.OpenShut
import Derived.ChangeOld
import Derived.Below
import Derived.SizedLaws
import Derived.Lib.LaidIn
import Derived.Lib.LaidU8T
import Derived.Deep.DeepHandedRow
import Derived.Deep.DeepWitnessRowRef
import Derived.SevenTiedAt

/- KeyTakes, a part: bytes that are none, nothing said of what falls. Printed by mktakes.py. -/
namespace Go.Proofs.YtgcicljklejmjaaDoor
open Go.RowKit Go.Shelf
open Tr

set_option maxRecDepth 100000 in
set_option maxHeartbeats 24000000 in
theorem takes_en (w : World) (X D : Value) (b : List UInt8) (dl : List Bool) (hx : Sl w 1 X b.length (bvs b)) (hbn : b.length ≤ reachBytes) (hd : Sl w 1 D dl.length (bls dl)) (hdn : dl.length ≤ reachBytes) (hX : ∀ k, X.ownBlock = some k → k < w.heap.size) (hT : Tabs w) (hdl : ¬ 0 < dl.length) (hdc : ∃ q, decT (fallsB dl) b.length 0 b = .error q) :
    Calls Tryd.prog 7 #[X, D] w fun e w' => e = .returned (.bool true) ∧ Fr no w w' := by
  obtain ⟨XA, xc, rfl, _, _⟩ := hx.form
  obtain ⟨DA, dc, rfl, _, _⟩ := hd.form
  have lbn : b.length ≤ 140737488351232 := hbn
  have ldn : dl.length ≤ 140737488351232 := hdn
  have hd0 := hdl
  clear hdl
  obtain ⟨dec, hdec⟩ := hdc
  have HDEC := Lib.hid hdec
  clear hdec
  have HX := Lib.hid hx; have HD := Lib.hid hd; have HDN := Lib.hid hdn; have HT := Lib.hid hT; have HXO := Lib.hid hX
  clear hx hd hbn hdn hT hX
  obtain ⟨dw, hdw⟩ : ∃ dw, dw = fallsB dl 0 := ⟨_, rfl⟩
  have HDW := Lib.hid hdw
  clear hdw
  go_enter Tryd.func7, Tryd.ntmps7
  by_cases hbl : b.length ≤ 20000
  rotate_left
  · go_wp2
    go_ret
    exact ⟨rfl, by (repeat first | exact Fr.refl _ _ | exact Fr.drewN _ _ _ | apply Fr.drew | apply Fr.alloc | apply Fr.setAt | apply Fr.moreN)⟩
  by_cases hdl2 : dl.length ≤ 20000
  rotate_left
  · first
    | (exfalso; omega)
    | (go_wp2; go_ret; exact ⟨rfl, by (repeat first | exact Fr.refl _ _ | exact Fr.drewN _ _ _ | apply Fr.drew | apply Fr.alloc | apply Fr.setAt | apply Fr.moreN)⟩)
  go_wp2_with fail
  refine (decode_any w _ _ b dl HX.out (by omega) HXO.out HD.out HDN.out HT.out).mono ?_
  rintro e w1 ⟨f1, ⟨ys, M, nm, hdt, hnm, hn4, rfl, hvr⟩ | ⟨q, hdt, hq, rfl⟩⟩
  · rw [HDEC.out] at hdt; cases hdt
  · have F1 := Lib.hid f1
    clear f1 hdt
    have hde : dw = false := by rw [HDW.out]; unfold fallsB; simp [List.eq_nil_of_length_eq_zero (show dl.length = 0 by omega)]
    have hdl0 : dl.length = 0 := by omega
    subst hde
    go_wp2_with fail
    refine (split_any w1 _ b false (HX.out.kept0 F1.out) (by omega) (HT.out.kept0 F1.out) (fun k hk => Nat.lt_of_lt_of_le (HXO.out k hk) F1.out.size)).mono ?_
    rintro e w2 ⟨f2, ⟨x, s, T, nt, hse, hnt, rfl, hox, hgx, hbx, hot, hon⟩ | ⟨hse, rfl⟩⟩
    · obtain ⟨hbe1, hc0, hone⟩ := takes_one hse
      obtain ⟨XB, xb, XL, xl, XF, xf, hfx⟩ := hgx.node.forms
      have hag := hfx.agg
      rw [hag]
      have hp : parts x ≤ 1000000 := by have := (check_zero.1 hc0).2.1; omega
      have F2 := Lib.hid (F1.out.trans f2 (fun _ _ h => h)); have F21 := Lib.hid f2; have HAG := Lib.hid hag; have HGX := Lib.hid hgx; have HOT := Lib.hid hot; have HNT := Lib.hid hnt; have HC0 := Lib.hid hc0; have HONE := Lib.hid hone; have HB1 := Lib.hid hbe1; have HP := Lib.hid hp
      clear f2 hag hfx hgx hot hnt hc0 hone hbe1 hp hse hox hbx hon
      go_wp2_with fail
      refine (known_any _ (HT.out.kept0 (F2.out.trans (by (repeat first | exact Fr.refl _ _ | exact Fr.drewN _ _ _ | apply Fr.drew | apply Fr.alloc | apply Fr.setAt | apply Fr.moreN)) (fun _ _ h => h)))).mono ?_
      rintro e w3 ⟨rfl, f3⟩
      have hb0 := f3.heap (heap_alloc_new w2 (.cells #[.int .u8 x.k.toNat, .bool x.b, .int .i64 x.i, .string ⟨x.t.toArray⟩, .slice XB x.bs.length xb, .slice XL x.l.length xl, .slice XF x.f.length xf] 33)) (fun h => h)
      obtain ⟨q0, q1, q2, q3, q4, q5, q6, qz, ql⟩ := seven_cells hb0
      have F3 := Lib.hid ((by (repeat first | exact Fr.refl _ _ | exact Fr.drewN _ _ _ | apply Fr.drew | apply Fr.alloc | apply Fr.setAt | apply Fr.moreN) : Fr no w2 _).trans f3 (fun _ _ h => h))
      have HB0 := Lib.hid hb0
      clear f3 hb0 q0 q1 q2 q3 q4 q5 q6 qz
      have FN := Lib.hid (F2.out.trans F3.out (fun _ _ h => h))
      have FW := Lib.hid (Fr.refl no w3)
      have hb0 := FW.out.heap HB0.out (fun h => h)
      obtain ⟨q0, q1, q2, q3, q4, q5, q6, qz, ql⟩ := seven_cells hb0
      have F2W := Lib.hid (F3.out.trans FW.out (fun _ _ h => h))
      have hone := fun W' (f : Fr no w3 W') => one_any W' x false (HGX.out.kept0 (F2W.out.trans f (fun _ _ h => h))) (HT.out.kept0 (FN.out.trans f (fun _ _ h => h)))
      rw [HAG.out] at hone
      have HO := Lib.hid hone; have HB := Lib.hid hb0
      clear hone hb0 HB0 qz
      go_wp2_with fail
      refine wp_region_ord (List.range 15) (fun i => [Kd.l, Kd.p, Kd.p, Kd.p, Kd.p, Kd.p, Kd.p, Kd.l, Kd.p, Kd.g, Kd.p, Kd.p, Kd.p, Kd.p, Kd.p].getD i .e) (by kernel_rfl) (by kernel_rfl) ?_
      iterate 9
        first | (refine wpX_un rfl rfl ?_; go_simp) | first | refine wpX_pu rfl rfl rfl (by first | exact pu_move rfl | exact pu_assign rfl | exact pu_nilCheck rfl rfl | exact pu_binInt rfl rfl rfl | exact pu_conv rfl rfl (by kernel_rfl) | exact pu_fld rfl (by kernel_rfl) | exact pu_ix rfl rfl rfl (by kernel_rfl) | exact pu_unOp rfl | exact pu_binStr rfl rfl rfl | exact pu_len rfl rfl | exact pu_lens rfl rfl | exact pu_pick rfl | exact pu_slice rfl rfl) (fun K hK => ?_) | refine wpX_rd rfl rfl rfl (rd_load rfl) (fun K hK => ?_) | refine wpX_gr rfl rfl rfl (by first | exact gr_buildSlice rfl | exact gr_box rfl | exact gr_alloc rfl) (fun K hK => ?_) | refine wpX_ex rfl rfl rfl (fun K hK => ?_)
        try go_wp2
      refine wpX_ca rfl rfl rfl (fun K hK => ?_)
      go_wp2_with fail
      refine (HO.out _ (by (repeat first | exact Fr.refl _ _ | exact Fr.drewN _ _ _ | apply Fr.drew | apply Fr.alloc | apply Fr.setAt | apply Fr.moreN))).mono ?_
      rintro e w6 ⟨f6, ⟨hoe, B, nb, rfl, hnb, hob, hobn⟩ | ⟨hoe, rfl⟩⟩
      · have F6W := Lib.hid ((by (repeat first | exact Fr.refl _ _ | exact Fr.drewN _ _ _ | apply Fr.drew | apply Fr.alloc | apply Fr.setAt | apply Fr.moreN) : Fr no w3 _).trans f6 (fun _ _ h => h)); have F60 := Lib.hid f6; have HNB := Lib.hid hnb; have hobn2 : ∀ k, Value.ownBlock (.slice B nb nb) = some k → w3.heap.size ≤ k := hobn
        have HOB := Lib.hid hob; have HOBN := Lib.hid hobn2
        have hle : nb + nt = b.length := by
          have h := congrArg List.length HB1.out
          rw [List.length_append, ← hnb, ← HNT.out] at h
          exact h.symm
        have HLE := Lib.hid hle
        have hnbl : nb ≤ 20000 := by omega
        have htl : nt ≤ 20000 := by omega
        clear f6 hnb hob hobn hobn2 hoe hle q0 q1 q2 q3 q4 q5 q6
        go_wp2
        obtain ⟨⟨ea, eb⟩, hext⟩ := F60.out.ext
        refine ⟨⟨ea, eb, hext⟩, hK _ _ ?_⟩
        clear hK K hext ea eb
        first | refine wpX_pu rfl rfl rfl (by first | exact pu_move rfl | exact pu_assign rfl | exact pu_nilCheck rfl rfl | exact pu_binInt rfl rfl rfl | exact pu_conv rfl rfl (by kernel_rfl) | exact pu_fld rfl (by kernel_rfl) | exact pu_ix rfl rfl rfl (by kernel_rfl) | exact pu_unOp rfl | exact pu_binStr rfl rfl rfl | exact pu_len rfl rfl | exact pu_lens rfl rfl | exact pu_pick rfl | exact pu_slice rfl rfl) (fun K hK => ?_) | refine wpX_rd rfl rfl rfl (rd_load rfl) (fun K hK => ?_) | refine wpX_gr rfl rfl rfl (by first | exact gr_buildSlice rfl | exact gr_box rfl | exact gr_alloc rfl) (fun K hK => ?_) | refine wpX_ex rfl rfl rfl (fun K hK => ?_)
        try go_wp2
        refine wpX_pv (.slice B nb nb) rfl rfl rfl (fun w' => by first | rfl | simp [execOp, Act.eval]) ?_
        refine wpX_pv (.int .u16 0) rfl rfl rfl (fun w' => by first | rfl | simp [execOp, Act.eval]) ?_
        go_simp
        iterate 2
          first | refine wpX_pu rfl rfl rfl (by first | exact pu_move rfl | exact pu_assign rfl | exact pu_nilCheck rfl rfl | exact pu_binInt rfl rfl rfl | exact pu_conv rfl rfl (by kernel_rfl) | exact pu_fld rfl (by kernel_rfl) | exact pu_ix rfl rfl rfl (by kernel_rfl) | exact pu_unOp rfl | exact pu_binStr rfl rfl rfl | exact pu_len rfl rfl | exact pu_lens rfl rfl | exact pu_pick rfl | exact pu_slice rfl rfl) (fun K hK => ?_) | refine wpX_rd rfl rfl rfl (rd_load rfl) (fun K hK => ?_) | refine wpX_gr rfl rfl rfl (by first | exact gr_buildSlice rfl | exact gr_box rfl | exact gr_alloc rfl) (fun K hK => ?_) | refine wpX_ex rfl rfl rfl (fun K hK => ?_)
          try go_wp2
        refine wpX_done ?_
        have hot := HOT.out.kept0 (F2W.out.trans F6W.out (fun _ _ h => h))
        have HOT6 := Lib.hid hot; clear hot
        go_wp2_with (at_builtin; refine wpList_apo (n := nb) (xs := bvs (encD false x)) (m := nt) (news := bvs s) rfl (.tmp 107) (.tmp 108) 22 rfl tbB HOB.out HOT6.out.sl rfl rfl (bvs_one s) ?xaq6 ?xbq6 ?xcq6)
        case xaq6 => simp only [maxLen]; omega
        case xbq6 => omega
        case xcq6 =>
          intro P N pc w7 hN ho7 _ hf7 hs7
          subst hN
          have f67 : Fr no w3 w7 := F6W.out.trans hf7 (fun k hk h => by
            have h1 := HOB.out.lt k h
            have h2 := HOBN.out k h
            omega)
          have hsl : Sl w7 1 (.slice P (nb + nt) pc) b.length (bvs b) := by
            rw [← HLE.out, HB1.out, bvs_append]
            exact ho7.sl
          have hb7 := f67.heap HB.out (fun h => h)
          obtain ⟨q0, q1, q2, q3, q4, q5, q6, qz, ql⟩ := seven_cells hb7
          have hchk := fun W8 (f : Fr no w7 W8) => check3_any own3_any x W8 (HGX.out.kept0 ((F2W.out.trans f67 (fun _ _ h => h)).trans f (fun _ _ h => h))) HP.out
          rw [HAG.out, HC0.out] at hchk
          have HCK := Lib.hid hchk; have F7 := Lib.hid (FN.out.trans f67 (fun _ _ h => h))
          have hsm := fun W8 (f : Fr no w7 W8) => same_any W8 (.slice P (nb + nt) pc) (.slice XA b.length xc) b b (hsl.kept0 f) (HX.out.kept0 (F7.out.trans f (fun _ _ h => h))) (by omega) (by omega)
          have HSM := Lib.hid hsm
          clear hchk f67 hsl hsm ho7 hf7 hs7 hb7 qz
          go_wp2_with fail
          refine (HCK.out _ (by (repeat first | exact Fr.refl _ _ | exact Fr.drewN _ _ _ | apply Fr.drew | apply Fr.alloc | apply Fr.setAt | apply Fr.moreN))).mono ?_
          rintro e w8 ⟨rfl, f8⟩
          have F78 := Lib.hid ((by (repeat first | exact Fr.refl _ _ | exact Fr.drewN _ _ _ | apply Fr.drew | apply Fr.alloc | apply Fr.setAt | apply Fr.moreN) : Fr no w7 _).trans f8 (fun _ _ h => h))
          clear f8 q0 q1 q2 q3 q4 q5 q6
          go_wp2_with fail
          refine (HSM.out w8 F78.out).mono ?_
          rintro e w9 ⟨rfl, n9, rfl⟩
          simp only [decide_true]
          go_wp2
          go_ret
          exact ⟨rfl, (F7.out.trans F78.out (fun _ _ h => h)).moreN n9⟩
      · have h42 : oneErr x = 42 := (HONE.out.resolve_left hoe).1
        have hl6 : 160 < b.length := (HONE.out.resolve_left hoe).2
        have gl6 : decide ((160 : Int) < (b.length : Int)) = true := decide_eq_true (by omega)
        have htl : nt ≤ 20000 := by
          have h := congrArg List.length HB1.out
          rw [List.length_append, ← HNT.out] at h
          omega
        rw [h42]
        have F6W := Lib.hid ((by (repeat first | exact Fr.refl _ _ | exact Fr.drewN _ _ _ | apply Fr.drew | apply Fr.alloc | apply Fr.setAt | apply Fr.moreN) : Fr no w3 _).trans f6 (fun _ _ h => h)); have F60 := Lib.hid f6
        clear f6 hoe h42 q0 q1 q2 q3 q4 q5 q6
        go_wp2
        obtain ⟨⟨ea, eb⟩, hext⟩ := F60.out.ext
        refine ⟨⟨ea, eb, hext⟩, hK _ _ ?_⟩
        clear hK K hext ea eb
        first | refine wpX_pu rfl rfl rfl (by first | exact pu_move rfl | exact pu_assign rfl | exact pu_nilCheck rfl rfl | exact pu_binInt rfl rfl rfl | exact pu_conv rfl rfl (by kernel_rfl) | exact pu_fld rfl (by kernel_rfl) | exact pu_ix rfl rfl rfl (by kernel_rfl) | exact pu_unOp rfl | exact pu_binStr rfl rfl rfl | exact pu_len rfl rfl | exact pu_lens rfl rfl | exact pu_pick rfl | exact pu_slice rfl rfl) (fun K hK => ?_) | refine wpX_rd rfl rfl rfl (rd_load rfl) (fun K hK => ?_) | refine wpX_gr rfl rfl rfl (by first | exact gr_buildSlice rfl | exact gr_box rfl | exact gr_alloc rfl) (fun K hK => ?_) | refine wpX_ex rfl rfl rfl (fun K hK => ?_)
        try go_wp2
        refine wpX_pv (.slice none 0 0) rfl rfl rfl (fun w' => by first | rfl | simp [execOp, Act.eval]) ?_
        refine wpX_pv (.int .u16 42) rfl rfl rfl (fun w' => by first | rfl | simp [execOp, Act.eval]) ?_
        go_simp
        iterate 2
          first | refine wpX_pu rfl rfl rfl (by first | exact pu_move rfl | exact pu_assign rfl | exact pu_nilCheck rfl rfl | exact pu_binInt rfl rfl rfl | exact pu_conv rfl rfl (by kernel_rfl) | exact pu_fld rfl (by kernel_rfl) | exact pu_ix rfl rfl rfl (by kernel_rfl) | exact pu_unOp rfl | exact pu_binStr rfl rfl rfl | exact pu_len rfl rfl | exact pu_lens rfl rfl | exact pu_pick rfl | exact pu_slice rfl rfl) (fun K hK => ?_) | refine wpX_rd rfl rfl rfl (rd_load rfl) (fun K hK => ?_) | refine wpX_gr rfl rfl rfl (by first | exact gr_buildSlice rfl | exact gr_box rfl | exact gr_alloc rfl) (fun K hK => ?_) | refine wpX_ex rfl rfl rfl (fun K hK => ?_)
          try go_wp2
        refine wpX_done ?_
        have hot := HOT.out.kept0 (F2W.out.trans F6W.out (fun _ _ h => h))
        have HOT6 := Lib.hid hot; clear hot
        go_wp2_with (at_builtin; refine wpList_apo (n := 0) (xs := bvs []) (m := nt) (news := bvs s) rfl (.tmp 107) (.tmp 108) 22 rfl tbB (ow_nilb _) HOT6.out.sl rfl rfl (bvs_one s) ?yaq6 ?ybq6 ?ycq6)
        case yaq6 => simp only [maxLen]; omega
        case ybq6 => omega
        case ycq6 =>
          intro P N pc w7 hN ho7 _ hf7 hs7
          subst hN
          have f67 : Fr no w3 w7 := F6W.out.trans hf7 (fun k hk h => by simp [Value.ownBlock] at h)
          have hb7 := f67.heap HB.out (fun h => h)
          obtain ⟨q0, q1, q2, q3, q4, q5, q6, qz, ql⟩ := seven_cells hb7
          have hchk := fun W8 (f : Fr no w7 W8) => check3_any own3_any x W8 (HGX.out.kept0 ((F2W.out.trans f67 (fun _ _ h => h)).trans f (fun _ _ h => h))) HP.out
          rw [HAG.out, HC0.out] at hchk
          have HCK := Lib.hid hchk; have F7 := Lib.hid (FN.out.trans f67 (fun _ _ h => h))
          clear hchk f67 ho7 hf7 hs7 hb7 qz
          go_wp2_with fail
          refine (HCK.out _ (by (repeat first | exact Fr.refl _ _ | exact Fr.drewN _ _ _ | apply Fr.drew | apply Fr.alloc | apply Fr.setAt | apply Fr.moreN))).mono ?_
          rintro e w8 ⟨rfl, f8⟩
          have F78 := Lib.hid ((by (repeat first | exact Fr.refl _ _ | exact Fr.drewN _ _ _ | apply Fr.drew | apply Fr.alloc | apply Fr.setAt | apply Fr.moreN) : Fr no w7 _).trans f8 (fun _ _ h => h))
          clear f8 q0 q1 q2 q3 q4 q5 q6
          go_wp2
          go_ret
          exact ⟨rfl, F7.out.trans F78.out (fun _ _ h => h)⟩
    · have F2 := Lib.hid (F1.out.trans f2 (fun _ _ h => h)); have F21 := Lib.hid f2
      clear f2 hse
      go_wp2_with fail
      refine (known_any _ (HT.out.kept0 (F2.out.trans (by (repeat first | exact Fr.refl _ _ | exact Fr.drewN _ _ _ | apply Fr.drew | apply Fr.alloc | apply Fr.setAt | apply Fr.moreN)) (fun _ _ h => h)))).mono ?_
      rintro e w3 ⟨rfl, f3⟩
      have hb0 := f3.heap (heap_alloc_new w2 (.cells #[.int .u8 0, .bool false, .int .i64 0, .string ⟨#[]⟩, .slice none 0 0, .slice none 0 0, .slice none 0 0] 33)) (fun h => h)
      obtain ⟨q0, q1, q2, q3, q4, q5, q6, qz, ql⟩ := seven_cells hb0
      have F3 := Lib.hid ((by (repeat first | exact Fr.refl _ _ | exact Fr.drewN _ _ _ | apply Fr.drew | apply Fr.alloc | apply Fr.setAt | apply Fr.moreN) : Fr no w2 _).trans f3 (fun _ _ h => h))
      have HB0 := Lib.hid hb0
      clear f3 hb0 q0 q1 q2 q3 q4 q5 q6 qz
      have FN := Lib.hid (F2.out.trans F3.out (fun _ _ h => h))
      have FW := Lib.hid (Fr.refl no w3)
      have hb0 := FW.out.heap HB0.out (fun h => h)
      obtain ⟨q0, q1, q2, q3, q4, q5, q6, qz, ql⟩ := seven_cells hb0
      clear hb0 qz
      go_wp2_with fail
      refine (same_zero _).mono ?_
      rintro e w6 ⟨rfl, f6⟩
      have F6 := Lib.hid (FN.out.trans ((by (repeat first | exact Fr.refl _ _ | exact Fr.drewN _ _ _ | apply Fr.drew | apply Fr.alloc | apply Fr.setAt | apply Fr.moreN) : Fr no w3 _).trans f6 (fun _ _ h => h)) (fun _ _ h => h))
      clear f6 q0 q1 q2 q3 q4 q5 q6
      go_wp2
      go_ret
      exact ⟨rfl, F6.out⟩
end Go.Proofs.YtgcicljklejmjaaDoor

/- KeyTakes: bytes that are read as a tuple are the bytes of that tuple; so are those that a value was split off. Printed by mktakes.py. -/
namespace Go.Proofs.YtgcicljklejmjaaDoor
open Go.RowKit Go.Shelf
open Tr

theorem takes_any (w : World) (X D : Value) (b : List UInt8) (dl : List Bool) (hx : Sl w 1 X b.length (bvs b)) (hbn : b.length ≤ reachBytes) (hd : Sl w 1 D dl.length (bls dl)) (hdn : dl.length ≤ reachBytes) (hX : ∀ k, X.ownBlock = some k → k < w.heap.size) (hT : Tabs w) :
    Calls Tryd.prog 7 #[X, D] w fun e w' => e = .returned (.bool true) ∧ Fr no w w' := by
  have hdc : (∃ l, decT (fallsB dl) b.length 0 b = .ok l) ∨ ∃ q, decT (fallsB dl) b.length 0 b = .error q := by
    cases decT (fallsB dl) b.length 0 b with
    | ok l => exact .inl ⟨l, rfl⟩
    | error q => exact .inr ⟨q, rfl⟩
  rcases hdc with hdc | hdc <;> by_cases hd0 : 0 < dl.length
  · exact takes_od w X D b dl hx hbn hd hdn hX hT hd0 hdc
  · exact takes_on w X D b dl hx hbn hd hdn hX hT hd0 hdc
  · exact takes_ed w X D b dl hx hbn hd hdn hX hT hd0 hdc
  · exact takes_en w X D b dl hx hbn hd hdn hX hT hd0 hdc
end Go.Proofs.YtgcicljklejmjaaDoor

/- KeyTakes holds, for every input; its tied card. No condition but what its row lists. -/
namespace Go.Proofs.YtgcicljklejmjaaDoor
open Go.ChangeShapes Go.WideShapes Go.ChangeAt Go.RowKit Go.Shelf
namespace RKeyTakes
theorem own : ownKnob Tryd.prog.godebug = none := by kernel_rfl
theorem laidOut : laidOutB Tryd.prog = true := by kernel_rfl

/-- A world in which the two tables lie. -/
noncomputable def laidWorld (os : Os) : World :=
  let w0 := World.holding Tryd.prog os ⟨#[], #[], []⟩
  let put (h : Array Obj) (g : Nat) (cs : Array Value) : Array Obj := h.modify g fun
    | .cells _ t frozen => .cells cs t frozen
    | o => o
  let h1 := put w0.heap 0 (Lib.firstTab.map fun z => Value.int .u8 z).toArray
  let h2 := put h1 1 ((List.range 16).flatMap fun i => [Value.int .u8 (Lib.accLo i), Value.int .u8 (Lib.accHi i)]).toArray
  { w0 with heap := h2 }
theorem laid_met (os : Os) (args : Array Value) : laidMet Tryd.prog Rows.keyTakesRow.laid ((laidWorld os).forCall (fun _ _ => 0) ⟨#[], args, []⟩).memory :=
  (LaidIn.of_run (l := [("unicode/utf8.acceptRanges", Rows.laid_unicode_utf8_acceptRanges), ("unicode/utf8.first", Rows.laid_unicode_utf8_first)]) [0, 1] 8 (by kernel_rfl) (by kernel_rfl) (by kernel_rfl) (by kernel_rfl)).met

theorem witness_row (os : Os) {H : Type} (enc : TypeId × Value → H) :
    (OpenSpec.ofChange Rows.keyTakesSpec).preRow enc Tryd.prog Tryd.f7 Rows.keyTakesRow.domain false Rows.keyTakesRow.laid ((laidWorld os).forCall (fun _ _ => 0) ⟨#[], #[.slice none 0 0, .slice none 0 0], []⟩).memory #[.slice none 0 0, .slice none 0 0] := by
  have hw : (DataW.whole enc Tryd.prog ((laidWorld os).forCall (fun _ _ => 0) ⟨#[], #[.slice none 0 0, .slice none 0 0], []⟩).memory Tryd.f7.params.toList (OpenSpec.ofChange Rows.keyTakesSpec).vars false #[.slice none 0 0, .slice none 0 0].toList 8).map (fun x => (x.1, x.2.1)) = some ([.nil, .nil], []) := by kernel_rfl
  obtain ⟨⟨x1, x2, x3⟩, hx, hx1⟩ := Option.map_eq_some_iff.1 hw
  simp only [Prod.mk.injEq] at hx1
  obtain ⟨rfl, rfl⟩ := hx1
  exact OpenSpec.preRow_of_cond 8 hx (by kernel_rfl) (fun k hk => by cases hk) (by kernel_rfl) (laid_met os _)

set_option maxRecDepth 100000 in
set_option maxHeartbeats 2000000 in
theorem lifted (os : Os) (started : os.Started) (H : Type) (enc : TypeId × Value → H) (F : Stop.Interp) :
    ReturnsInHanded {} Tryd.checked os 7 .any ((OpenSpec.ofChange Rows.keyTakesSpec).preRow enc Tryd.prog Tryd.f7 Rows.keyTakesRow.domain false Rows.keyTakesRow.laid) (((OpenSpec.ofChange Rows.keyTakesSpec).at F).post enc Tryd.prog Tryd.f7 false true false false) := by
  refine returnsInHanded_of_row (C := Tryd.checked) (s := (OpenSpec.ofChange Rows.keyTakesSpec)) own started (by kernel_rfl) Tryd.func7
    (witness_row_atRef (enc := enc) (C := Tryd.checked) false (laidWorld os) #[.slice none 0 0, .slice none 0 0] rfl (by kernel_rfl) (by kernel_rfl) (by kernel_rfl) (witness_row os enc)) ?_
  intro W base args ds gs before hval0 hW hcnd hk0 hsz0 hL _ _
  have hval : ∀ (j : Nat) t v, Tryd.f7.params[j]? = some t → args[j]? = some v → Value.okWide Tryd.prog W .any base t v := hval0
  have hW' := hW
  obtain ⟨p, q, hA0, hV, rfl, hfz, hnd⟩ := hW
  have hA : DataW.TrodAll enc Tryd.prog W 0 (fun _ => true) true Tryd.f7.params.toList args.toList ds p := hA0
  have hTd : ∀ (j : Nat) t v, Tryd.f7.params.toList[j]? = some t → args.toList[j]? = some v → Td Tryd.prog W t v.cells.toList := fun j t v h1 h2 => Td.arg hA hsz0 j t v h1 h2
  have htab : Tabs W := utf8Tabs_of_readsT (U8Types.of196 lays_valid) ⟨by kernel_rfl, by kernel_rfl, by kernel_rfl, by kernel_rfl, by kernel_rfl, by kernel_rfl, by kernel_rfl⟩ (Lib.laidMet.reads (d := Rows.laid_unicode_utf8_first) hL (.tail _ (.head _))) (Lib.laidMet.reads (d := Rows.laid_unicode_utf8_acceptRanges) hL (.head _))
  clear hsz0 hcnd hk0
  rw [Tryd.params7] at hA hval hTd
  obtain ⟨v0, vs0, d0, ds0, p0, q0, hargs, rfl, rfl, h0, r0⟩ := trodAll_cons hA
  obtain ⟨v1, vs1, d1, ds1, p1, q1, rfl, rfl, rfl, h1, r1⟩ := trodAll_cons r0
  obtain ⟨rfl, rfl, rfl⟩ := trodAll_nil r1
  obtain rfl : args = #[v0, v1] := by cases args; simp_all
  obtain ⟨rfl, rfl⟩ := trodVars_none hV
  have lt0 : ∀ x ∈ p0, x.block < W.heap.size := by obtain ⟨m, hm⟩ := h0; exact DataW.trod_lt m _ _ _ hm
  obtain ⟨a0, n0, c0, rfl⟩ := okWide_slice Tryd.underlying22 (hval 0 22 v0 rfl rfl)
  have lo0 : ∀ k, (Value.slice a0 n0 c0).ownBlock = some k → k < W.heap.size := okWide_lt Tryd.underlying22 (hval 0 22 _ rfl rfl)
  have td0 : Td Tryd.prog W 22 [.slice a0 n0 c0] := hTd 0 22 _ rfl rfl
  have lt1 : ∀ x ∈ p1, x.block < W.heap.size := by obtain ⟨m, hm⟩ := h1; exact DataW.trod_lt m _ _ _ hm
  obtain ⟨a1, n1, c1, rfl⟩ := okWide_slice Tryd.underlying23 (hval 1 23 v1 rfl rfl)
  have lo1 : ∀ k, (Value.slice a1 n1 c1).ownBlock = some k → k < W.heap.size := okWide_lt Tryd.underlying23 (hval 1 23 _ rfl rfl)
  have td1 : Td Tryd.prog W 23 [.slice a1 n1 c1] := hTd 1 23 _ rfl rfl
  have walk : Calls Tryd.prog 7 #[.slice a0 n0 c0, .slice a1 n1 c1] W fun e w' => e = .returned (.bool true) ∧ Below W.heap.size W w' := by
    clear hA0 hTd hval hval0 hL
    obtain ⟨x0, l0, e0, s0, h0⟩ := td_bytes td0
    obtain rfl := (List.cons.inj e0).1
    obtain ⟨x1, l1, e1, s1, h1⟩ := open_bools td1
    obtain rfl := (List.cons.inj e1).1
    exact (takes_any W _ _ l0 l1 s0 h0 s1 h1 lo0 htab).mono fun e w' ⟨h1, f⟩ => ⟨h1, f.below (fun _ _ h => h)⟩
  clear hA0 hval0 hTd
  refine walk.mono fun e W' ⟨he, bel⟩ => ?_
  subst he
  exact ⟨_, rfl, _, _, _, [], _, [], hW', trodAll_mk1 (shut_bool Tryd.underlying4 _), (trodAll_cons_mk (Below.trod laidOut (by kernel_rfl) (of_decide_eq_true (by kernel_rfl)) h0 bel lt0) (trodAll_cons_mk (Below.trod laidOut (by kernel_rfl) (of_decide_eq_true (by kernel_rfl)) h1 bel lt1) trodAll_mk0)), rfl, bel.frame _, fun h => by cases h⟩

theorem row : Rows.keyTakesRow.holds Tryd.pinned (OpenSpec.ofChange Rows.keyTakesSpec) :=
  OpenClaim.holds_of_cond 7 Tryd.f7 rfl rfl rfl rfl rfl rfl rfl ⟨rfl, rfl, rfl, rfl, rfl⟩ rfl rfl rfl rfl rfl (by kernel_rfl) Tryd.func7 (by kernel_rfl)
    (of_decide_eq_true (by kernel_rfl)) (by unfold Func.isWrapper; first | (rw [if_pos (by decide +kernel)]; kernel_rfl) | (rw [if_neg (of_decide_eq_false (by kernel_rfl))]; exact ⟨rfl, rfl⟩))
    (fun os started H enc _ F0 => by rw [OpenClaim.pre_eq_preRow]; exact lifted os started H enc F0)
theorem card : Claim7.holds Tryd.pinned (.plain (OpenSpec.ofChange Rows.keyTakesSpec)) Rows.keyTakesCard :=
  Claim7.holds_tied_plain_at .later [] [.data, .pinned] true Rows.keyTakesCard.stood.harness Rows.keyTakesCard.stood.looks
    row (fun _ h => by cases h) (by kernel_rfl) (fun _ h => by cases h) keyTakes_row_tie rfl ⟨rfl, rfl⟩ (by kernel_rfl) (by kernel_rfl)
    (fun f fn hf hfn => by
      obtain rfl : f = 7 := Option.some.inj ((show Tryd.prog.funcNamed "codicil/codicillaw04.KeyTakes" = some 7 by kernel_rfl).symm.trans hf) |>.symm
      obtain rfl : fn = Tryd.f7 := (Option.some.inj (Tryd.func7.symm.trans hfn)).symm
      exact ⟨by kernel_rfl, fun j t ht => by
        have hall : (Tryd.f7.params.toList.all fun t => Tryd.prog.wantsStandIn t == false) = true := by kernel_rfl
        have hm : t ∈ Tryd.f7.params.toList := by
          rw [Array.mem_toList_iff]
          exact Array.mem_of_getElem? ht
        exact (eq_of_beq (List.all_eq_true.1 hall t hm) : Tryd.prog.wantsStandIn t = false)⟩)
    (by kernel_rfl)
end RKeyTakes

/-- The card. -/
theorem keyTakes_holds : Rows.KeyTakesCardSaid := RKeyTakes.card
#print axioms keyTakes_holds
end Go.Proofs.YtgcicljklejmjaaDoor
