import Derived.Test.YtgcicljklejmjaaDoorMb16
import Derived.Test.YtgcicljklejmjaaDoorRows
import Derived.Test.YtgcicljklejmjaaDoorCards
import Derived.Test.YtgcicljklejmjaaDoorTie
import Derived.Test.YtgcicljklejmjaaDoorMb15
import Derived.Test.YtgcicljklejmjaaDoorMb07
import Derived.WalkKit
import Derived.ProofKit
import Derived.OpenShut
import Derived.ChangeOld
import Derived.Below
import Derived.SizedLaws
import Derived.Lib.LaidIn
import Derived.Lib.LaidU8T
import Derived.Deep.DeepHandedRow
import Derived.Deep.DeepWitnessRowRef
import Derived.SevenTiedAt

/- KeyBegins: what begins with b lies from b up to After. Printed by mkbegins.py. -/
namespace Go.Proofs.YtgcicljklejmjaaDoor
open Go.RowKit Go.Shelf
open Tr

theorem all_take {b : List UInt8} {j : Nat} (h : j < b.length) : ((b.take (j + 1)).all fun c => c == 255) = (((b.take j).all fun c => c == 255) && (b[j] == 255)) := by
  rw [List.take_succ_eq_append_getElem h, List.all_append]
  simp
theorem full_none {b : List UInt8} (h : after b = none) : (b.all fun c => c == 255) = true := by
  rcases after_cases b with ⟨_, h1⟩ | ⟨p, c, m, _, _, h2⟩
  · rw [List.all_eq_true]
    intro c hc
    obtain ⟨i, hi, rfl⟩ := List.getElem_of_mem hc
    simp [h1 i hi]
  · rw [h] at h2; cases h2
theorem full_some {b a : List UInt8} (h : after b = some a) : (b.all fun c => c == 255) = false := by
  rcases after_cases b with ⟨h1, _⟩ | ⟨p, c, m, hc, hb, _⟩
  · rw [h] at h1; cases h1
  · rw [Bool.eq_false_iff]
    intro h2
    rw [List.all_eq_true] at h2
    have := h2 c (by rw [hb]; simp)
    exact hc (by simpa using this)
theorem pre_take {b x : List UInt8} : b <+: x ↔ b.length ≤ x.length ∧ x.take b.length = b := by
  constructor
  · intro h
    exact ⟨h.length_le, (List.prefix_iff_eq_take.1 h).symm⟩
  · rintro ⟨_, h⟩
    exact List.prefix_iff_eq_take.2 h.symm

set_option maxRecDepth 100000 in
set_option maxHeartbeats 40000000 in
theorem begins_any (w : World) (X Y Z : Value) (b d o : List UInt8) (hx : Sl w 1 X b.length (bvs b)) (hy : Sl w 1 Y d.length (bvs d)) (hz : Sl w 1 Z o.length (bvs o)) (lb : b.length ≤ reachBytes) (ld : d.length ≤ reachBytes) (lo : o.length ≤ reachBytes) (hT : Tabs w) :
    Calls Tryd.prog 6 #[X, Y, Z] w fun e w' => e = .returned (.bool true) ∧ Fr no w w' := by
  have lb : b.length ≤ 140737488351232 := lb
  have ld : d.length ≤ 140737488351232 := ld
  have lo : o.length ≤ 140737488351232 := lo
  obtain ⟨XA, xc, rfl, hxc, _⟩ := hx.form
  obtain ⟨YA, yc, rfl, _, _⟩ := hy.form
  obtain ⟨ZA, zc, rfl, hzc, _⟩ := hz.form
  have HX := Lib.hid hx; have HY := Lib.hid hy; have HZ := Lib.hid hz; have HT := Lib.hid hT
  clear hx hy hz hT
  by_cases h1 : b.length ≤ 20000
  rotate_left
  · go_enter Tryd.func6, Tryd.ntmps6
    go_wp2
    go_ret
    exact ⟨rfl, Fr.refl _ _⟩
  by_cases h2 : d.length ≤ 20000
  rotate_left
  · go_enter Tryd.func6, Tryd.ntmps6
    go_wp2
    go_ret
    exact ⟨rfl, Fr.refl _ _⟩
  by_cases h3 : o.length ≤ 20000
  rotate_left
  · go_enter Tryd.func6, Tryd.ntmps6
    go_wp2
    go_ret
    exact ⟨rfl, Fr.refl _ _⟩
  have hab := after_begins b o
  have hal := after_begins b (b ++ d)
  have hpr : b <+: b ++ d := List.prefix_append _ _
  have HAB := Lib.hid hab; have HAL := Lib.hid (hal.1 hpr)
  clear hab hal hpr
  go_enter Tryd.func6, Tryd.ntmps6
  go_wp2_with fail
  refine (after_any w _ b HX.out (by omega)).mono ?_
  rintro e w2 ⟨f2, ⟨hno, rfl⟩ | ⟨a, A, n, hsa, rfl, hn, hao, _⟩⟩
  · skip
    have HAF := Lib.hid hno; have F2 := Lib.hid f2
    clear f2 hno
    go_wp2_with (at_builtin; refine wpList_apo (n := 0) (xs := []) rfl (.tmp 32) (.tmp 33) 22 rfl tbB (ow_none _ _ _) (HX.out.kept0 F2.out) rfl rfl (bvs_one b) ?Na1 ?Na2 ?Na3)
    case Na1 => simp only [maxLen]; omega
    case Na2 => omega
    case Na3 =>
      intro P N1 pc w3 hN ho3 _ hf3 hs3
      obtain rfl : N1 = b.length := by omega
      have f3 := F2.out.trans hf3 (fun _ _ h => nomatch h)
      have f23 : Fr no w2 w3 := hf3.mono (fun _ _ h => nomatch h)
      have hnew : ∀ k, Value.ownBlock (.slice P b.length pc) = some k → w2.heap.size ≤ k := fun k hk => (stays_own hs3 k hk).elim (fun h => nomatch h) id
      have F3 := Lib.hid f3; have F23 := Lib.hid f23; have HO3 := Lib.hid ho3; have HN3 := Lib.hid hnew
      clear f3 f23 hf3 ho3 hs3 hnew
      go_wp2_with (at_builtin; refine wpList_apo (n := b.length) (xs := [] ++ bvs b) rfl (.tmp 35) (.tmp 36) 22 rfl tbB HO3.out (HY.out.kept0 F3.out) rfl rfl (bvs_one d) ?Nb1 ?Nb2 ?Nb3)
      case Nb1 => simp only [maxLen]; omega
      case Nb2 => omega
      case Nb3 =>
        intro R N2 rc w4 hN2 ho4 _ hf4 hs4
        subst hN2
        have f24 : Fr no w2 w4 := F23.out.trans hf4 (fun k hk h => by have := HN3.out k h; omega)
        have ho4 : Ow w4 5 1 (.slice R (b.length + d.length) rc) (b.length + d.length) (bvs (b ++ d)) := by rw [bvs_append]; simpa using ho4
        have F24 := Lib.hid f24; have F4 := Lib.hid (F2.out.trans f24 (fun _ _ h => h)); have HO4 := Lib.hid ho4
        clear f24 hf4 hs4 ho4
        go_wp2_with fail
        refine (known_any w4 (HT.out.kept0 F4.out)).mono ?_
        rintro e w5 ⟨rfl, f5⟩
        have F25 := Lib.hid (F24.out.trans f5 (fun _ _ h => h)); have F5 := Lib.hid (F4.out.trans f5 (fun _ _ h => h)); have HO5 := Lib.hid (HO4.out.kept0 f5)
        clear f5
        have hor := fun W (f : Fr no w5 W) => order_any W (.slice ZA o.length zc) (.slice XA b.length xc) o b ((HZ.out.kept0 F5.out).kept0 f) ((HX.out.kept0 F5.out).kept0 f)
        have HOR := Lib.hid hor; clear hor
        have hcr := cb_range o b
        by_cases hbe : b <+: o
        · have hge : 0 ≤ cb o b := (HAB.out.1 hbe).1
          have hle : b.length ≤ o.length := (pre_take.1 hbe).1
          have htk : decide (o.take b.length = b) = true := decide_eq_true (pre_take.1 hbe).2
          have HTK := Lib.hid htk
          clear hbe htk
          have hsm := same_any w5 (.slice ZA b.length zc) (.slice XA b.length xc) (o.take b.length) b (by
            have h := (HZ.out.kept0 F5.out).head b.length hle
            rw [bvs_take] at h
            have hl : (o.take b.length).length = b.length := by rw [List.length_take]; omega
            rw [hl]; exact h) (HX.out.kept0 F5.out) (by rw [List.length_take]; omega) (by omega)
          have HSM := Lib.hid hsm; clear hsm
          go_wp2_with fail
          refine HSM.out.mono ?_
          rintro e w6 ⟨rfl, n6, rfl⟩
          rw [HTK.out]
          go_wp2_with fail
          refine (HOR.out _ (by (repeat first | exact Fr.refl _ _ | exact Fr.drewN _ _ _ | apply Fr.drew | apply Fr.alloc | apply Fr.setAt | apply Fr.moreN))).mono ?_
          rintro e w7 ⟨rfl, hw⟩
          subst w7
          go_wp2
          try clear HOR
          try clear HOA
          try clear HSM
          try clear HTK
          try clear HAB
          try clear HY
          try clear HZ
          try clear HT
          try clear F2
          try clear F3
          try clear F4
          try clear F23
          try clear F24
          try clear HO3
          try clear HO4
          try clear HN3
          try clear hcr
          try clear hxc
          try clear hzc
          try clear ld
          try clear lo
          try clear h1
          try clear h2
          try clear h3
          try clear lb
          try clear hge
          try clear hin
          try clear hlt
          try clear hle
          go_loopw [12, 13] (fun fv iv wr => ∃ j : Nat, j ≤ b.length ∧ iv = .int .i64 j ∧ fv = .bool ((b.take j).all fun c => c == 255) ∧ (w5.drewN n6) = wr) (fun _ iv _ => b.length - (intOf iv).toNat)
          case atStart => exact ⟨0, Nat.zero_le _, rfl, by simp, rfl⟩
          case round =>
            obtain ⟨j, hj, rfl, rfl, hwr⟩ := hrel
            subst wr
            by_cases hlt : j < b.length
            · obtain ⟨q, r, rfl, hc⟩ := (HX.out.kept0 (F5.out.trans (by (repeat first | exact Fr.refl _ _ | exact Fr.drewN _ _ _ | apply Fr.drew | apply Fr.alloc | apply Fr.setAt | apply Fr.moreN) : Fr no w5 (w5.drewN n6)) (fun _ _ h => h))).byte j hlt
              have hat := all_take hlt
              have HAT := Lib.hid hat; clear hat
              cases hv : ((b.take j).all fun c => c == 255) with
              | false =>
                rw [hv] at HAT
                go_wp2
                go_roundw
                case rel => exact ⟨j + 1, by omega, by go_num, by rw [HAT.out]; rfl, by first | rfl | trivial⟩
                case measure => simp [intOf]; omega
              | true =>
                rw [hv] at HAT
                by_cases h255 : b[j] = 255
                · have g1 : ((b[j].toNat : Int) == 255) = true := by rw [h255]; rfl
                  have H255 := Lib.hid h255; clear h255
                  go_wp2
                  go_roundw
                  case rel => exact ⟨j + 1, by omega, by go_num, by rw [HAT.out, H255.out]; rfl, by first | rfl | trivial⟩
                  case measure => simp [intOf]; omega
                · have g1 : ((b[j].toNat : Int) == 255) = false := byte_ne h255 rfl
                  have g2 : (b[j] == 255) = false := by simpa using h255
                  have G2 := Lib.hid g2; clear g2 h255
                  go_wp2
                  go_roundw
                  case rel => exact ⟨j + 1, by omega, by go_num, by rw [HAT.out, G2.out]; rfl, by first | rfl | trivial⟩
                  case measure => simp [intOf]; omega
            · obtain rfl : j = b.length := by omega
              rw [List.take_length, full_none HAF.out]
              go_wp2
              go_ret
              exact ⟨rfl, F5.out.trans (by (repeat first | exact Fr.refl _ _ | exact Fr.drewN _ _ _ | apply Fr.drew | apply Fr.alloc | apply Fr.setAt | apply Fr.moreN) : Fr no w5 (w5.drewN n6)) (fun _ _ h => h)⟩
        · have hin : cb o b < 0 := by
            have h5 : ¬ 0 ≤ cb o b := fun h => hbe (HAB.out.2 ⟨h, fun a' ha' => by rw [HAF.out] at ha'; cases ha'⟩)
            omega
          by_cases hle : b.length ≤ o.length
          · have htk : decide (o.take b.length = b) = false := decide_eq_false (fun h => hbe (pre_take.2 ⟨hle, h⟩))
            have HTK := Lib.hid htk
            clear hbe htk
            have hsm := same_any w5 (.slice ZA b.length zc) (.slice XA b.length xc) (o.take b.length) b (by
              have h := (HZ.out.kept0 F5.out).head b.length hle
              rw [bvs_take] at h
              have hl : (o.take b.length).length = b.length := by rw [List.length_take]; omega
              rw [hl]; exact h) (HX.out.kept0 F5.out) (by rw [List.length_take]; omega) (by omega)
            have HSM := Lib.hid hsm; clear hsm
            go_wp2_with fail
            refine HSM.out.mono ?_
            rintro e w6 ⟨rfl, n6, rfl⟩
            rw [HTK.out]
            go_wp2_with fail
            refine (HOR.out _ (by (repeat first | exact Fr.refl _ _ | exact Fr.drewN _ _ _ | apply Fr.drew | apply Fr.alloc | apply Fr.setAt | apply Fr.moreN))).mono ?_
            rintro e w7 ⟨rfl, hw⟩
            subst w7
            go_wp2
            try clear HOR
            try clear HOA
            try clear HSM
            try clear HTK
            try clear HAB
            try clear HY
            try clear HZ
            try clear HT
            try clear F2
            try clear F3
            try clear F4
            try clear F23
            try clear F24
            try clear HO3
            try clear HO4
            try clear HN3
            try clear hcr
            try clear hxc
            try clear hzc
            try clear ld
            try clear lo
            try clear h1
            try clear h2
            try clear h3
            try clear lb
            try clear hge
            try clear hin
            try clear hlt
            try clear hle
            go_loopw [12, 13] (fun fv iv wr => ∃ j : Nat, j ≤ b.length ∧ iv = .int .i64 j ∧ fv = .bool ((b.take j).all fun c => c == 255) ∧ (w5.drewN n6) = wr) (fun _ iv _ => b.length - (intOf iv).toNat)
            case atStart => exact ⟨0, Nat.zero_le _, rfl, by simp, rfl⟩
            case round =>
              obtain ⟨j, hj, rfl, rfl, hwr⟩ := hrel
              subst wr
              by_cases hlt : j < b.length
              · obtain ⟨q, r, rfl, hc⟩ := (HX.out.kept0 (F5.out.trans (by (repeat first | exact Fr.refl _ _ | exact Fr.drewN _ _ _ | apply Fr.drew | apply Fr.alloc | apply Fr.setAt | apply Fr.moreN) : Fr no w5 (w5.drewN n6)) (fun _ _ h => h))).byte j hlt
                have hat := all_take hlt
                have HAT := Lib.hid hat; clear hat
                cases hv : ((b.take j).all fun c => c == 255) with
                | false =>
                  rw [hv] at HAT
                  go_wp2
                  go_roundw
                  case rel => exact ⟨j + 1, by omega, by go_num, by rw [HAT.out]; rfl, by first | rfl | trivial⟩
                  case measure => simp [intOf]; omega
                | true =>
                  rw [hv] at HAT
                  by_cases h255 : b[j] = 255
                  · have g1 : ((b[j].toNat : Int) == 255) = true := by rw [h255]; rfl
                    have H255 := Lib.hid h255; clear h255
                    go_wp2
                    go_roundw
                    case rel => exact ⟨j + 1, by omega, by go_num, by rw [HAT.out, H255.out]; rfl, by first | rfl | trivial⟩
                    case measure => simp [intOf]; omega
                  · have g1 : ((b[j].toNat : Int) == 255) = false := byte_ne h255 rfl
                    have g2 : (b[j] == 255) = false := by simpa using h255
                    have G2 := Lib.hid g2; clear g2 h255
                    go_wp2
                    go_roundw
                    case rel => exact ⟨j + 1, by omega, by go_num, by rw [HAT.out, G2.out]; rfl, by first | rfl | trivial⟩
                    case measure => simp [intOf]; omega
              · obtain rfl : j = b.length := by omega
                rw [List.take_length, full_none HAF.out]
                go_wp2
                go_ret
                exact ⟨rfl, F5.out.trans (by (repeat first | exact Fr.refl _ _ | exact Fr.drewN _ _ _ | apply Fr.drew | apply Fr.alloc | apply Fr.setAt | apply Fr.moreN) : Fr no w5 (w5.drewN n6)) (fun _ _ h => h)⟩
          · clear hbe
            go_wp2_with fail
            refine (HOR.out _ (by (repeat first | exact Fr.refl _ _ | exact Fr.drewN _ _ _ | apply Fr.drew | apply Fr.alloc | apply Fr.setAt | apply Fr.moreN))).mono ?_
            rintro e w7 ⟨rfl, hw⟩
            subst w7
            go_wp2
            try clear HOR
            try clear HOA
            try clear HSM
            try clear HTK
            try clear HAB
            try clear HY
            try clear HZ
            try clear HT
            try clear F2
            try clear F3
            try clear F4
            try clear F23
            try clear F24
            try clear HO3
            try clear HO4
            try clear HN3
            try clear hcr
            try clear hxc
            try clear hzc
            try clear ld
            try clear lo
            try clear h1
            try clear h2
            try clear h3
            try clear lb
            try clear hge
            try clear hin
            try clear hlt
            try clear hle
            go_loopw [12, 13] (fun fv iv wr => ∃ j : Nat, j ≤ b.length ∧ iv = .int .i64 j ∧ fv = .bool ((b.take j).all fun c => c == 255) ∧ w5 = wr) (fun _ iv _ => b.length - (intOf iv).toNat)
            case atStart => exact ⟨0, Nat.zero_le _, rfl, by simp, rfl⟩
            case round =>
              obtain ⟨j, hj, rfl, rfl, hwr⟩ := hrel
              subst wr
              by_cases hlt : j < b.length
              · obtain ⟨q, r, rfl, hc⟩ := (HX.out.kept0 (F5.out.trans (by (repeat first | exact Fr.refl _ _ | exact Fr.drewN _ _ _ | apply Fr.drew | apply Fr.alloc | apply Fr.setAt | apply Fr.moreN) : Fr no w5 w5) (fun _ _ h => h))).byte j hlt
                have hat := all_take hlt
                have HAT := Lib.hid hat; clear hat
                cases hv : ((b.take j).all fun c => c == 255) with
                | false =>
                  rw [hv] at HAT
                  go_wp2
                  go_roundw
                  case rel => exact ⟨j + 1, by omega, by go_num, by rw [HAT.out]; rfl, by first | rfl | trivial⟩
                  case measure => simp [intOf]; omega
                | true =>
                  rw [hv] at HAT
                  by_cases h255 : b[j] = 255
                  · have g1 : ((b[j].toNat : Int) == 255) = true := by rw [h255]; rfl
                    have H255 := Lib.hid h255; clear h255
                    go_wp2
                    go_roundw
                    case rel => exact ⟨j + 1, by omega, by go_num, by rw [HAT.out, H255.out]; rfl, by first | rfl | trivial⟩
                    case measure => simp [intOf]; omega
                  · have g1 : ((b[j].toNat : Int) == 255) = false := byte_ne h255 rfl
                    have g2 : (b[j] == 255) = false := by simpa using h255
                    have G2 := Lib.hid g2; clear g2 h255
                    go_wp2
                    go_roundw
                    case rel => exact ⟨j + 1, by omega, by go_num, by rw [HAT.out, G2.out]; rfl, by first | rfl | trivial⟩
                    case measure => simp [intOf]; omega
              · obtain rfl : j = b.length := by omega
                rw [List.take_length, full_none HAF.out]
                go_wp2
                go_ret
                exact ⟨rfl, F5.out.trans (by (repeat first | exact Fr.refl _ _ | exact Fr.drewN _ _ _ | apply Fr.drew | apply Fr.alloc | apply Fr.setAt | apply Fr.moreN) : Fr no w5 w5) (fun _ _ h => h)⟩
  · skip
    have HAF := Lib.hid hsa; have F2 := Lib.hid f2; have HAO := Lib.hid hao; have HNN := Lib.hid hn
    clear f2 hsa hao hn
    go_wp2_with (at_builtin; refine wpList_apo (n := 0) (xs := []) rfl (.tmp 32) (.tmp 33) 22 rfl tbB (ow_none _ _ _) (HX.out.kept0 F2.out) rfl rfl (bvs_one b) ?Sa1 ?Sa2 ?Sa3)
    case Sa1 => simp only [maxLen]; omega
    case Sa2 => omega
    case Sa3 =>
      intro P N1 pc w3 hN ho3 _ hf3 hs3
      obtain rfl : N1 = b.length := by omega
      have f3 := F2.out.trans hf3 (fun _ _ h => nomatch h)
      have f23 : Fr no w2 w3 := hf3.mono (fun _ _ h => nomatch h)
      have hnew : ∀ k, Value.ownBlock (.slice P b.length pc) = some k → w2.heap.size ≤ k := fun k hk => (stays_own hs3 k hk).elim (fun h => nomatch h) id
      have F3 := Lib.hid f3; have F23 := Lib.hid f23; have HO3 := Lib.hid ho3; have HN3 := Lib.hid hnew
      clear f3 f23 hf3 ho3 hs3 hnew
      go_wp2_with (at_builtin; refine wpList_apo (n := b.length) (xs := [] ++ bvs b) rfl (.tmp 35) (.tmp 36) 22 rfl tbB HO3.out (HY.out.kept0 F3.out) rfl rfl (bvs_one d) ?Sb1 ?Sb2 ?Sb3)
      case Sb1 => simp only [maxLen]; omega
      case Sb2 => omega
      case Sb3 =>
        intro R N2 rc w4 hN2 ho4 _ hf4 hs4
        subst hN2
        have f24 : Fr no w2 w4 := F23.out.trans hf4 (fun k hk h => by have := HN3.out k h; omega)
        have ho4 : Ow w4 5 1 (.slice R (b.length + d.length) rc) (b.length + d.length) (bvs (b ++ d)) := by rw [bvs_append]; simpa using ho4
        have F24 := Lib.hid f24; have F4 := Lib.hid (F2.out.trans f24 (fun _ _ h => h)); have HO4 := Lib.hid ho4
        clear f24 hf4 hs4 ho4
        go_wp2_with fail
        refine (known_any w4 (HT.out.kept0 F4.out)).mono ?_
        rintro e w5 ⟨rfl, f5⟩
        have F25 := Lib.hid (F24.out.trans f5 (fun _ _ h => h)); have F5 := Lib.hid (F4.out.trans f5 (fun _ _ h => h)); have HO5 := Lib.hid (HO4.out.kept0 f5)
        clear f5
        have hor := fun W (f : Fr no w5 W) => order_any W (.slice ZA o.length zc) (.slice XA b.length xc) o b ((HZ.out.kept0 F5.out).kept0 f) ((HX.out.kept0 F5.out).kept0 f)
        have HOR := Lib.hid hor; clear hor
        have hcr := cb_range o b
        by_cases hbe : b <+: o
        · have hge : 0 ≤ cb o b := (HAB.out.1 hbe).1
          have hle : b.length ≤ o.length := (pre_take.1 hbe).1
          have htk : decide (o.take b.length = b) = true := decide_eq_true (pre_take.1 hbe).2
          have HTK := Lib.hid htk
          have hlt : cb o a < 0 := (HAB.out.1 hbe).2 a HAF.out
          clear hbe htk
          have hsm := same_any w5 (.slice ZA b.length zc) (.slice XA b.length xc) (o.take b.length) b (by
            have h := (HZ.out.kept0 F5.out).head b.length hle
            rw [bvs_take] at h
            have hl : (o.take b.length).length = b.length := by rw [List.length_take]; omega
            rw [hl]; exact h) (HX.out.kept0 F5.out) (by rw [List.length_take]; omega) (by omega)
          have HSM := Lib.hid hsm; clear hsm
          go_wp2_with fail
          refine HSM.out.mono ?_
          rintro e w6 ⟨rfl, n6, rfl⟩
          rw [HTK.out]
          go_wp2_with fail
          refine (HOR.out _ (by (repeat first | exact Fr.refl _ _ | exact Fr.drewN _ _ _ | apply Fr.drew | apply Fr.alloc | apply Fr.setAt | apply Fr.moreN))).mono ?_
          rintro e w7 ⟨rfl, hw⟩
          subst w7
          have hoa := order_any (w5.drewN n6) (.slice ZA o.length zc) (.slice A n n) o a ((HZ.out.kept0 F5.out).kept0 (by (repeat first | exact Fr.refl _ _ | exact Fr.drewN _ _ _ | apply Fr.drew | apply Fr.alloc | apply Fr.setAt | apply Fr.moreN))) (by have h := ((HAO.out.kept0 F25.out).kept0 (by (repeat first | exact Fr.refl _ _ | exact Fr.drewN _ _ _ | apply Fr.drew | apply Fr.alloc | apply Fr.setAt | apply Fr.moreN) : Fr no w5 (w5.drewN n6))).sl; rw [HNN.out] at h ⊢; exact h)
          have HOA := Lib.hid hoa; clear hoa
          go_wp2_with fail
          refine HOA.out.mono ?_
          rintro e w8 ⟨rfl, hw⟩
          subst w8
          go_wp2
          try clear HOR
          try clear HOA
          try clear HSM
          try clear HTK
          try clear HAB
          try clear HY
          try clear HZ
          try clear HT
          try clear F2
          try clear F3
          try clear F4
          try clear F23
          try clear F24
          try clear HO3
          try clear HO4
          try clear HN3
          try clear hcr
          try clear hxc
          try clear hzc
          try clear ld
          try clear lo
          try clear h1
          try clear h2
          try clear h3
          try clear lb
          try clear hge
          try clear hin
          try clear hlt
          try clear hle
          go_loopw [12, 13] (fun fv iv wr => ∃ j : Nat, j ≤ b.length ∧ iv = .int .i64 j ∧ fv = .bool ((b.take j).all fun c => c == 255) ∧ (w5.drewN n6) = wr) (fun _ iv _ => b.length - (intOf iv).toNat)
          case atStart => exact ⟨0, Nat.zero_le _, rfl, by simp, rfl⟩
          case round =>
            obtain ⟨j, hj, rfl, rfl, hwr⟩ := hrel
            subst wr
            by_cases hlt : j < b.length
            · obtain ⟨q, r, rfl, hc⟩ := (HX.out.kept0 (F5.out.trans (by (repeat first | exact Fr.refl _ _ | exact Fr.drewN _ _ _ | apply Fr.drew | apply Fr.alloc | apply Fr.setAt | apply Fr.moreN) : Fr no w5 (w5.drewN n6)) (fun _ _ h => h))).byte j hlt
              have hat := all_take hlt
              have HAT := Lib.hid hat; clear hat
              cases hv : ((b.take j).all fun c => c == 255) with
              | false =>
                rw [hv] at HAT
                go_wp2
                go_roundw
                case rel => exact ⟨j + 1, by omega, by go_num, by rw [HAT.out]; rfl, by first | rfl | trivial⟩
                case measure => simp [intOf]; omega
              | true =>
                rw [hv] at HAT
                by_cases h255 : b[j] = 255
                · have g1 : ((b[j].toNat : Int) == 255) = true := by rw [h255]; rfl
                  have H255 := Lib.hid h255; clear h255
                  go_wp2
                  go_roundw
                  case rel => exact ⟨j + 1, by omega, by go_num, by rw [HAT.out, H255.out]; rfl, by first | rfl | trivial⟩
                  case measure => simp [intOf]; omega
                · have g1 : ((b[j].toNat : Int) == 255) = false := byte_ne h255 rfl
                  have g2 : (b[j] == 255) = false := by simpa using h255
                  have G2 := Lib.hid g2; clear g2 h255
                  go_wp2
                  go_roundw
                  case rel => exact ⟨j + 1, by omega, by go_num, by rw [HAT.out, G2.out]; rfl, by first | rfl | trivial⟩
                  case measure => simp [intOf]; omega
            · obtain rfl : j = b.length := by omega
              rw [List.take_length, full_some HAF.out]
              have hcall := order_any (w5.drewN n6) (.slice R (b.length + d.length) rc) (.slice A n n) (b ++ d) a (by rw [List.length_append]; exact (HO5.out.kept0 (by (repeat first | exact Fr.refl _ _ | exact Fr.drewN _ _ _ | apply Fr.drew | apply Fr.alloc | apply Fr.setAt | apply Fr.moreN) : Fr no w5 (w5.drewN n6))).sl) (by have h := ((HAO.out.kept0 F25.out).kept0 (by (repeat first | exact Fr.refl _ _ | exact Fr.drewN _ _ _ | apply Fr.drew | apply Fr.alloc | apply Fr.setAt | apply Fr.moreN) : Fr no w5 (w5.drewN n6))).sl; rw [HNN.out] at h ⊢; exact h)
              have hla : cb (b ++ d) a < 0 := HAL.out.2 a HAF.out
              have HCA := Lib.hid hcall; clear hcall
              go_wp2_with fail
              refine HCA.out.mono ?_
              rintro e w9 ⟨rfl, hw⟩
              subst w9
              go_wp2
              go_ret
              refine ⟨?_, F5.out.trans (by (repeat first | exact Fr.refl _ _ | exact Fr.drewN _ _ _ | apply Fr.drew | apply Fr.alloc | apply Fr.setAt | apply Fr.moreN) : Fr no w5 (w5.drewN n6)) (fun _ _ h => h)⟩
              first | rfl | (have hq : decide (cb o a < 0) = false := decide_eq_false (by omega)
                             simp only [hq]
                             rfl)
        · have hin : cb o b < 0 ∨ (0 ≤ cb o b ∧ 0 ≤ cb o a) := by
            by_cases h : 0 ≤ cb o b
            · right
              refine ⟨h, ?_⟩
              have h5 : ¬ cb o a < 0 := fun h6 => hbe (HAB.out.2 ⟨h, fun a' ha' => by
                have := HAF.out.symm.trans ha'
                simp only [Option.some.injEq] at this
                rw [← this]; exact h6⟩)
              omega
            · left; omega
          by_cases hle : b.length ≤ o.length
          · have htk : decide (o.take b.length = b) = false := decide_eq_false (fun h => hbe (pre_take.2 ⟨hle, h⟩))
            have HTK := Lib.hid htk
            clear hbe htk
            rcases hin with hin | ⟨hin, hia⟩
            · skip
              have hsm := same_any w5 (.slice ZA b.length zc) (.slice XA b.length xc) (o.take b.length) b (by
                have h := (HZ.out.kept0 F5.out).head b.length hle
                rw [bvs_take] at h
                have hl : (o.take b.length).length = b.length := by rw [List.length_take]; omega
                rw [hl]; exact h) (HX.out.kept0 F5.out) (by rw [List.length_take]; omega) (by omega)
              have HSM := Lib.hid hsm; clear hsm
              go_wp2_with fail
              refine HSM.out.mono ?_
              rintro e w6 ⟨rfl, n6, rfl⟩
              rw [HTK.out]
              go_wp2_with fail
              refine (HOR.out _ (by (repeat first | exact Fr.refl _ _ | exact Fr.drewN _ _ _ | apply Fr.drew | apply Fr.alloc | apply Fr.setAt | apply Fr.moreN))).mono ?_
              rintro e w7 ⟨rfl, hw⟩
              subst w7
              go_wp2
              try clear HOR
              try clear HOA
              try clear HSM
              try clear HTK
              try clear HAB
              try clear HY
              try clear HZ
              try clear HT
              try clear F2
              try clear F3
              try clear F4
              try clear F23
              try clear F24
              try clear HO3
              try clear HO4
              try clear HN3
              try clear hcr
              try clear hxc
              try clear hzc
              try clear ld
              try clear lo
              try clear h1
              try clear h2
              try clear h3
              try clear lb
              try clear hge
              try clear hin
              try clear hlt
              try clear hle
              go_loopw [12, 13] (fun fv iv wr => ∃ j : Nat, j ≤ b.length ∧ iv = .int .i64 j ∧ fv = .bool ((b.take j).all fun c => c == 255) ∧ (w5.drewN n6) = wr) (fun _ iv _ => b.length - (intOf iv).toNat)
              case atStart => exact ⟨0, Nat.zero_le _, rfl, by simp, rfl⟩
              case round =>
                obtain ⟨j, hj, rfl, rfl, hwr⟩ := hrel
                subst wr
                by_cases hlt : j < b.length
                · obtain ⟨q, r, rfl, hc⟩ := (HX.out.kept0 (F5.out.trans (by (repeat first | exact Fr.refl _ _ | exact Fr.drewN _ _ _ | apply Fr.drew | apply Fr.alloc | apply Fr.setAt | apply Fr.moreN) : Fr no w5 (w5.drewN n6)) (fun _ _ h => h))).byte j hlt
                  have hat := all_take hlt
                  have HAT := Lib.hid hat; clear hat
                  cases hv : ((b.take j).all fun c => c == 255) with
                  | false =>
                    rw [hv] at HAT
                    go_wp2
                    go_roundw
                    case rel => exact ⟨j + 1, by omega, by go_num, by rw [HAT.out]; rfl, by first | rfl | trivial⟩
                    case measure => simp [intOf]; omega
                  | true =>
                    rw [hv] at HAT
                    by_cases h255 : b[j] = 255
                    · have g1 : ((b[j].toNat : Int) == 255) = true := by rw [h255]; rfl
                      have H255 := Lib.hid h255; clear h255
                      go_wp2
                      go_roundw
                      case rel => exact ⟨j + 1, by omega, by go_num, by rw [HAT.out, H255.out]; rfl, by first | rfl | trivial⟩
                      case measure => simp [intOf]; omega
                    · have g1 : ((b[j].toNat : Int) == 255) = false := byte_ne h255 rfl
                      have g2 : (b[j] == 255) = false := by simpa using h255
                      have G2 := Lib.hid g2; clear g2 h255
                      go_wp2
                      go_roundw
                      case rel => exact ⟨j + 1, by omega, by go_num, by rw [HAT.out, G2.out]; rfl, by first | rfl | trivial⟩
                      case measure => simp [intOf]; omega
                · obtain rfl : j = b.length := by omega
                  rw [List.take_length, full_some HAF.out]
                  have hcall := order_any (w5.drewN n6) (.slice R (b.length + d.length) rc) (.slice A n n) (b ++ d) a (by rw [List.length_append]; exact (HO5.out.kept0 (by (repeat first | exact Fr.refl _ _ | exact Fr.drewN _ _ _ | apply Fr.drew | apply Fr.alloc | apply Fr.setAt | apply Fr.moreN) : Fr no w5 (w5.drewN n6))).sl) (by have h := ((HAO.out.kept0 F25.out).kept0 (by (repeat first | exact Fr.refl _ _ | exact Fr.drewN _ _ _ | apply Fr.drew | apply Fr.alloc | apply Fr.setAt | apply Fr.moreN) : Fr no w5 (w5.drewN n6))).sl; rw [HNN.out] at h ⊢; exact h)
                  have hla : cb (b ++ d) a < 0 := HAL.out.2 a HAF.out
                  have HCA := Lib.hid hcall; clear hcall
                  go_wp2_with fail
                  refine HCA.out.mono ?_
                  rintro e w9 ⟨rfl, hw⟩
                  subst w9
                  go_wp2
                  go_ret
                  refine ⟨?_, F5.out.trans (by (repeat first | exact Fr.refl _ _ | exact Fr.drewN _ _ _ | apply Fr.drew | apply Fr.alloc | apply Fr.setAt | apply Fr.moreN) : Fr no w5 (w5.drewN n6)) (fun _ _ h => h)⟩
                  first | rfl | (have hq : decide (cb o a < 0) = false := decide_eq_false (by omega)
                                 simp only [hq]
                                 rfl)
            · skip
              have hsm := same_any w5 (.slice ZA b.length zc) (.slice XA b.length xc) (o.take b.length) b (by
                have h := (HZ.out.kept0 F5.out).head b.length hle
                rw [bvs_take] at h
                have hl : (o.take b.length).length = b.length := by rw [List.length_take]; omega
                rw [hl]; exact h) (HX.out.kept0 F5.out) (by rw [List.length_take]; omega) (by omega)
              have HSM := Lib.hid hsm; clear hsm
              go_wp2_with fail
              refine HSM.out.mono ?_
              rintro e w6 ⟨rfl, n6, rfl⟩
              rw [HTK.out]
              go_wp2_with fail
              refine (HOR.out _ (by (repeat first | exact Fr.refl _ _ | exact Fr.drewN _ _ _ | apply Fr.drew | apply Fr.alloc | apply Fr.setAt | apply Fr.moreN))).mono ?_
              rintro e w7 ⟨rfl, hw⟩
              subst w7
              have hoa := order_any (w5.drewN n6) (.slice ZA o.length zc) (.slice A n n) o a ((HZ.out.kept0 F5.out).kept0 (by (repeat first | exact Fr.refl _ _ | exact Fr.drewN _ _ _ | apply Fr.drew | apply Fr.alloc | apply Fr.setAt | apply Fr.moreN))) (by have h := ((HAO.out.kept0 F25.out).kept0 (by (repeat first | exact Fr.refl _ _ | exact Fr.drewN _ _ _ | apply Fr.drew | apply Fr.alloc | apply Fr.setAt | apply Fr.moreN) : Fr no w5 (w5.drewN n6))).sl; rw [HNN.out] at h ⊢; exact h)
              have HOA := Lib.hid hoa; clear hoa
              go_wp2_with fail
              refine HOA.out.mono ?_
              rintro e w8 ⟨rfl, hw⟩
              subst w8
              go_wp2
              try clear HOR
              try clear HOA
              try clear HSM
              try clear HTK
              try clear HAB
              try clear HY
              try clear HZ
              try clear HT
              try clear F2
              try clear F3
              try clear F4
              try clear F23
              try clear F24
              try clear HO3
              try clear HO4
              try clear HN3
              try clear hcr
              try clear hxc
              try clear hzc
              try clear ld
              try clear lo
              try clear h1
              try clear h2
              try clear h3
              try clear lb
              try clear hge
              try clear hin
              try clear hlt
              try clear hle
              go_loopw [12, 13] (fun fv iv wr => ∃ j : Nat, j ≤ b.length ∧ iv = .int .i64 j ∧ fv = .bool ((b.take j).all fun c => c == 255) ∧ (w5.drewN n6) = wr) (fun _ iv _ => b.length - (intOf iv).toNat)
              case atStart => exact ⟨0, Nat.zero_le _, rfl, by simp, rfl⟩
              case round =>
                obtain ⟨j, hj, rfl, rfl, hwr⟩ := hrel
                subst wr
                by_cases hlt : j < b.length
                · obtain ⟨q, r, rfl, hc⟩ := (HX.out.kept0 (F5.out.trans (by (repeat first | exact Fr.refl _ _ | exact Fr.drewN _ _ _ | apply Fr.drew | apply Fr.alloc | apply Fr.setAt | apply Fr.moreN) : Fr no w5 (w5.drewN n6)) (fun _ _ h => h))).byte j hlt
                  have hat := all_take hlt
                  have HAT := Lib.hid hat; clear hat
                  cases hv : ((b.take j).all fun c => c == 255) with
                  | false =>
                    rw [hv] at HAT
                    go_wp2
                    go_roundw
                    case rel => exact ⟨j + 1, by omega, by go_num, by rw [HAT.out]; rfl, by first | rfl | trivial⟩
                    case measure => simp [intOf]; omega
                  | true =>
                    rw [hv] at HAT
                    by_cases h255 : b[j] = 255
                    · have g1 : ((b[j].toNat : Int) == 255) = true := by rw [h255]; rfl
                      have H255 := Lib.hid h255; clear h255
                      go_wp2
                      go_roundw
                      case rel => exact ⟨j + 1, by omega, by go_num, by rw [HAT.out, H255.out]; rfl, by first | rfl | trivial⟩
                      case measure => simp [intOf]; omega
                    · have g1 : ((b[j].toNat : Int) == 255) = false := byte_ne h255 rfl
                      have g2 : (b[j] == 255) = false := by simpa using h255
                      have G2 := Lib.hid g2; clear g2 h255
                      go_wp2
                      go_roundw
                      case rel => exact ⟨j + 1, by omega, by go_num, by rw [HAT.out, G2.out]; rfl, by first | rfl | trivial⟩
                      case measure => simp [intOf]; omega
                · obtain rfl : j = b.length := by omega
                  rw [List.take_length, full_some HAF.out]
                  have hcall := order_any (w5.drewN n6) (.slice R (b.length + d.length) rc) (.slice A n n) (b ++ d) a (by rw [List.length_append]; exact (HO5.out.kept0 (by (repeat first | exact Fr.refl _ _ | exact Fr.drewN _ _ _ | apply Fr.drew | apply Fr.alloc | apply Fr.setAt | apply Fr.moreN) : Fr no w5 (w5.drewN n6))).sl) (by have h := ((HAO.out.kept0 F25.out).kept0 (by (repeat first | exact Fr.refl _ _ | exact Fr.drewN _ _ _ | apply Fr.drew | apply Fr.alloc | apply Fr.setAt | apply Fr.moreN) : Fr no w5 (w5.drewN n6))).sl; rw [HNN.out] at h ⊢; exact h)
                  have hla : cb (b ++ d) a < 0 := HAL.out.2 a HAF.out
                  have HCA := Lib.hid hcall; clear hcall
                  go_wp2_with fail
                  refine HCA.out.mono ?_
                  rintro e w9 ⟨rfl, hw⟩
                  subst w9
                  go_wp2
                  go_ret
                  refine ⟨?_, F5.out.trans (by (repeat first | exact Fr.refl _ _ | exact Fr.drewN _ _ _ | apply Fr.drew | apply Fr.alloc | apply Fr.setAt | apply Fr.moreN) : Fr no w5 (w5.drewN n6)) (fun _ _ h => h)⟩
                  first | rfl | (have hq : decide (cb o a < 0) = false := decide_eq_false (by omega)
                                 simp only [hq]
                                 rfl)
          · clear hbe
            rcases hin with hin | ⟨hin, hia⟩
            · skip
              go_wp2_with fail
              refine (HOR.out _ (by (repeat first | exact Fr.refl _ _ | exact Fr.drewN _ _ _ | apply Fr.drew | apply Fr.alloc | apply Fr.setAt | apply Fr.moreN))).mono ?_
              rintro e w7 ⟨rfl, hw⟩
              subst w7
              go_wp2
              try clear HOR
              try clear HOA
              try clear HSM
              try clear HTK
              try clear HAB
              try clear HY
              try clear HZ
              try clear HT
              try clear F2
              try clear F3
              try clear F4
              try clear F23
              try clear F24
              try clear HO3
              try clear HO4
              try clear HN3
              try clear hcr
              try clear hxc
              try clear hzc
              try clear ld
              try clear lo
              try clear h1
              try clear h2
              try clear h3
              try clear lb
              try clear hge
              try clear hin
              try clear hlt
              try clear hle
              go_loopw [12, 13] (fun fv iv wr => ∃ j : Nat, j ≤ b.length ∧ iv = .int .i64 j ∧ fv = .bool ((b.take j).all fun c => c == 255) ∧ w5 = wr) (fun _ iv _ => b.length - (intOf iv).toNat)
              case atStart => exact ⟨0, Nat.zero_le _, rfl, by simp, rfl⟩
              case round =>
                obtain ⟨j, hj, rfl, rfl, hwr⟩ := hrel
                subst wr
                by_cases hlt : j < b.length
                · obtain ⟨q, r, rfl, hc⟩ := (HX.out.kept0 (F5.out.trans (by (repeat first | exact Fr.refl _ _ | exact Fr.drewN _ _ _ | apply Fr.drew | apply Fr.alloc | apply Fr.setAt | apply Fr.moreN) : Fr no w5 w5) (fun _ _ h => h))).byte j hlt
                  have hat := all_take hlt
                  have HAT := Lib.hid hat; clear hat
                  cases hv : ((b.take j).all fun c => c == 255) with
                  | false =>
                    rw [hv] at HAT
                    go_wp2
                    go_roundw
                    case rel => exact ⟨j + 1, by omega, by go_num, by rw [HAT.out]; rfl, by first | rfl | trivial⟩
                    case measure => simp [intOf]; omega
                  | true =>
                    rw [hv] at HAT
                    by_cases h255 : b[j] = 255
                    · have g1 : ((b[j].toNat : Int) == 255) = true := by rw [h255]; rfl
                      have H255 := Lib.hid h255; clear h255
                      go_wp2
                      go_roundw
                      case rel => exact ⟨j + 1, by omega, by go_num, by rw [HAT.out, H255.out]; rfl, by first | rfl | trivial⟩
                      case measure => simp [intOf]; omega
                    · have g1 : ((b[j].toNat : Int) == 255) = false := byte_ne h255 rfl
                      have g2 : (b[j] == 255) = false := by simpa using h255
                      have G2 := Lib.hid g2; clear g2 h255
                      go_wp2
                      go_roundw
                      case rel => exact ⟨j + 1, by omega, by go_num, by rw [HAT.out, G2.out]; rfl, by first | rfl | trivial⟩
                      case measure => simp [intOf]; omega
                · obtain rfl : j = b.length := by omega
                  rw [List.take_length, full_some HAF.out]
                  have hcall := order_any w5 (.slice R (b.length + d.length) rc) (.slice A n n) (b ++ d) a (by rw [List.length_append]; exact (HO5.out.kept0 (by (repeat first | exact Fr.refl _ _ | exact Fr.drewN _ _ _ | apply Fr.drew | apply Fr.alloc | apply Fr.setAt | apply Fr.moreN) : Fr no w5 w5)).sl) (by have h := ((HAO.out.kept0 F25.out).kept0 (by (repeat first | exact Fr.refl _ _ | exact Fr.drewN _ _ _ | apply Fr.drew | apply Fr.alloc | apply Fr.setAt | apply Fr.moreN) : Fr no w5 w5)).sl; rw [HNN.out] at h ⊢; exact h)
                  have hla : cb (b ++ d) a < 0 := HAL.out.2 a HAF.out
                  have HCA := Lib.hid hcall; clear hcall
                  go_wp2_with fail
                  refine HCA.out.mono ?_
                  rintro e w9 ⟨rfl, hw⟩
                  subst w9
                  go_wp2
                  go_ret
                  refine ⟨?_, F5.out.trans (by (repeat first | exact Fr.refl _ _ | exact Fr.drewN _ _ _ | apply Fr.drew | apply Fr.alloc | apply Fr.setAt | apply Fr.moreN) : Fr no w5 w5) (fun _ _ h => h)⟩
                  first | rfl | (have hq : decide (cb o a < 0) = false := decide_eq_false (by omega)
                                 simp only [hq]
                                 rfl)
            · skip
              go_wp2_with fail
              refine (HOR.out _ (by (repeat first | exact Fr.refl _ _ | exact Fr.drewN _ _ _ | apply Fr.drew | apply Fr.alloc | apply Fr.setAt | apply Fr.moreN))).mono ?_
              rintro e w7 ⟨rfl, hw⟩
              subst w7
              have hoa := order_any w5 (.slice ZA o.length zc) (.slice A n n) o a ((HZ.out.kept0 F5.out).kept0 (by (repeat first | exact Fr.refl _ _ | exact Fr.drewN _ _ _ | apply Fr.drew | apply Fr.alloc | apply Fr.setAt | apply Fr.moreN))) (by have h := ((HAO.out.kept0 F25.out).kept0 (by (repeat first | exact Fr.refl _ _ | exact Fr.drewN _ _ _ | apply Fr.drew | apply Fr.alloc | apply Fr.setAt | apply Fr.moreN) : Fr no w5 w5)).sl; rw [HNN.out] at h ⊢; exact h)
              have HOA := Lib.hid hoa; clear hoa
              go_wp2_with fail
              refine HOA.out.mono ?_
              rintro e w8 ⟨rfl, hw⟩
              subst w8
              go_wp2
              try clear HOR
              try clear HOA
              try clear HSM
              try clear HTK
              try clear HAB
              try clear HY
              try clear HZ
              try clear HT
              try clear F2
              try clear F3
              try clear F4
              try clear F23
              try clear F24
              try clear HO3
              try clear HO4
              try clear HN3
              try clear hcr
              try clear hxc
              try clear hzc
              try clear ld
              try clear lo
              try clear h1
              try clear h2
              try clear h3
              try clear lb
              try clear hge
              try clear hin
              try clear hlt
              try clear hle
              go_loopw [12, 13] (fun fv iv wr => ∃ j : Nat, j ≤ b.length ∧ iv = .int .i64 j ∧ fv = .bool ((b.take j).all fun c => c == 255) ∧ w5 = wr) (fun _ iv _ => b.length - (intOf iv).toNat)
              case atStart => exact ⟨0, Nat.zero_le _, rfl, by simp, rfl⟩
              case round =>
                obtain ⟨j, hj, rfl, rfl, hwr⟩ := hrel
                subst wr
                by_cases hlt : j < b.length
                · obtain ⟨q, r, rfl, hc⟩ := (HX.out.kept0 (F5.out.trans (by (repeat first | exact Fr.refl _ _ | exact Fr.drewN _ _ _ | apply Fr.drew | apply Fr.alloc | apply Fr.setAt | apply Fr.moreN) : Fr no w5 w5) (fun _ _ h => h))).byte j hlt
                  have hat := all_take hlt
                  have HAT := Lib.hid hat; clear hat
                  cases hv : ((b.take j).all fun c => c == 255) with
                  | false =>
                    rw [hv] at HAT
                    go_wp2
                    go_roundw
                    case rel => exact ⟨j + 1, by omega, by go_num, by rw [HAT.out]; rfl, by first | rfl | trivial⟩
                    case measure => simp [intOf]; omega
                  | true =>
                    rw [hv] at HAT
                    by_cases h255 : b[j] = 255
                    · have g1 : ((b[j].toNat : Int) == 255) = true := by rw [h255]; rfl
                      have H255 := Lib.hid h255; clear h255
                      go_wp2
                      go_roundw
                      case rel => exact ⟨j + 1, by omega, by go_num, by rw [HAT.out, H255.out]; rfl, by first | rfl | trivial⟩
                      case measure => simp [intOf]; omega
                    · have g1 : ((b[j].toNat : Int) == 255) = false := byte_ne h255 rfl
                      have g2 : (b[j] == 255) = false := by simpa using h255
                      have G2 := Lib.hid g2; clear g2 h255
                      go_wp2
                      go_roundw
                      case rel => exact ⟨j + 1, by omega, by go_num, by rw [HAT.out, G2.out]; rfl, by first | rfl | trivial⟩
                      case measure => simp [intOf]; omega
                · obtain rfl : j = b.length := by omega
                  rw [List.take_length, full_some HAF.out]
                  have hcall := order_any w5 (.slice R (b.length + d.length) rc) (.slice A n n) (b ++ d) a (by rw [List.length_append]; exact (HO5.out.kept0 (by (repeat first | exact Fr.refl _ _ | exact Fr.drewN _ _ _ | apply Fr.drew | apply Fr.alloc | apply Fr.setAt | apply Fr.moreN) : Fr no w5 w5)).sl) (by have h := ((HAO.out.kept0 F25.out).kept0 (by (repeat first | exact Fr.refl _ _ | exact Fr.drewN _ _ _ | apply Fr.drew | apply Fr.alloc | apply Fr.setAt | apply Fr.moreN) : Fr no w5 w5)).sl; rw [HNN.out] at h ⊢; exact h)
                  have hla : cb (b ++ d) a < 0 := HAL.out.2 a HAF.out
                  have HCA := Lib.hid hcall; clear hcall
                  go_wp2_with fail
                  refine HCA.out.mono ?_
                  rintro e w9 ⟨rfl, hw⟩
                  subst w9
                  go_wp2
                  go_ret
                  refine ⟨?_, F5.out.trans (by (repeat first | exact Fr.refl _ _ | exact Fr.drewN _ _ _ | apply Fr.drew | apply Fr.alloc | apply Fr.setAt | apply Fr.moreN) : Fr no w5 w5) (fun _ _ h => h)⟩
                  first | rfl | (have hq : decide (cb o a < 0) = false := decide_eq_false (by omega)
                                 simp only [hq]
                                 rfl)
end Go.Proofs.YtgcicljklejmjaaDoor

/- KeyBegins holds, for every input; its tied card. No condition but what its row lists. -/
namespace Go.Proofs.YtgcicljklejmjaaDoor
open Go.ChangeShapes Go.WideShapes Go.ChangeAt Go.RowKit Go.Shelf
namespace RKeyBegins
theorem own : ownKnob Tryd.prog.godebug = none := by kernel_rfl
theorem laidOut : laidOutB Tryd.prog = true := by kernel_rfl

/-- A world in which the two tables lie. -/
noncomputable def laidWorld (os : Os) : World :=
  let w0 := World.holding Tryd.prog os ⟨#[], #[], []⟩
  let put (h : Array Obj) (g : Nat) (cs : Array Value) : Array Obj := h.modify g fun
    | .cells _ t frozen => .cells cs t frozen
    | o => o
  let h1 := put w0.heap 0 (Lib.firstTab.map fun z => Value.int .u8 z).toArray
  let h2 := put h1 1 ((List.range 16).flatMap fun i => [Value.int .u8 (Lib.accLo i), Value.int .u8 (Lib.accHi i)]).toArray
  { w0 with heap := h2 }
theorem laid_met (os : Os) (args : Array Value) : laidMet Tryd.prog Rows.keyBeginsRow.laid ((laidWorld os).forCall (fun _ _ => 0) ⟨#[], args, []⟩).memory :=
  (LaidIn.of_run (l := [("unicode/utf8.acceptRanges", Rows.laid_unicode_utf8_acceptRanges), ("unicode/utf8.first", Rows.laid_unicode_utf8_first)]) [0, 1] 8 (by kernel_rfl) (by kernel_rfl) (by kernel_rfl) (by kernel_rfl)).met

theorem witness_row (os : Os) {H : Type} (enc : TypeId × Value → H) :
    (OpenSpec.ofChange Rows.keyBeginsSpec).preRow enc Tryd.prog Tryd.f6 Rows.keyBeginsRow.domain false Rows.keyBeginsRow.laid ((laidWorld os).forCall (fun _ _ => 0) ⟨#[], #[.slice none 0 0, .slice none 0 0, .slice none 0 0], []⟩).memory #[.slice none 0 0, .slice none 0 0, .slice none 0 0] := by
  have hw : (DataW.whole enc Tryd.prog ((laidWorld os).forCall (fun _ _ => 0) ⟨#[], #[.slice none 0 0, .slice none 0 0, .slice none 0 0], []⟩).memory Tryd.f6.params.toList (OpenSpec.ofChange Rows.keyBeginsSpec).vars false #[.slice none 0 0, .slice none 0 0, .slice none 0 0].toList 8).map (fun x => (x.1, x.2.1)) = some ([.nil, .nil, .nil], []) := by kernel_rfl
  obtain ⟨⟨x1, x2, x3⟩, hx, hx1⟩ := Option.map_eq_some_iff.1 hw
  simp only [Prod.mk.injEq] at hx1
  obtain ⟨rfl, rfl⟩ := hx1
  exact OpenSpec.preRow_of_cond 8 hx (by kernel_rfl) (fun k hk => by cases hk) (by kernel_rfl) (laid_met os _)

set_option maxRecDepth 100000 in
set_option maxHeartbeats 2000000 in
theorem lifted (os : Os) (started : os.Started) (H : Type) (enc : TypeId × Value → H) (F : Stop.Interp) :
    ReturnsInHanded {} Tryd.checked os 6 .any ((OpenSpec.ofChange Rows.keyBeginsSpec).preRow enc Tryd.prog Tryd.f6 Rows.keyBeginsRow.domain false Rows.keyBeginsRow.laid) (((OpenSpec.ofChange Rows.keyBeginsSpec).at F).post enc Tryd.prog Tryd.f6 false true false false) := by
  refine returnsInHanded_of_row (C := Tryd.checked) (s := (OpenSpec.ofChange Rows.keyBeginsSpec)) own started (by kernel_rfl) Tryd.func6
    (witness_row_atRef (enc := enc) (C := Tryd.checked) false (laidWorld os) #[.slice none 0 0, .slice none 0 0, .slice none 0 0] rfl (by kernel_rfl) (by kernel_rfl) (by kernel_rfl) (witness_row os enc)) ?_
  intro W base args ds gs before hval0 hW hcnd hk0 hsz0 hL _ _
  have hval : ∀ (j : Nat) t v, Tryd.f6.params[j]? = some t → args[j]? = some v → Value.okWide Tryd.prog W .any base t v := hval0
  have hW' := hW
  obtain ⟨p, q, hA0, hV, rfl, hfz, hnd⟩ := hW
  have hA : DataW.TrodAll enc Tryd.prog W 0 (fun _ => true) true Tryd.f6.params.toList args.toList ds p := hA0
  have hTd : ∀ (j : Nat) t v, Tryd.f6.params.toList[j]? = some t → args.toList[j]? = some v → Td Tryd.prog W t v.cells.toList := fun j t v h1 h2 => Td.arg hA hsz0 j t v h1 h2
  have htab : Tabs W := utf8Tabs_of_readsT (U8Types.of196 lays_valid) ⟨by kernel_rfl, by kernel_rfl, by kernel_rfl, by kernel_rfl, by kernel_rfl, by kernel_rfl, by kernel_rfl⟩ (Lib.laidMet.reads (d := Rows.laid_unicode_utf8_first) hL (.tail _ (.head _))) (Lib.laidMet.reads (d := Rows.laid_unicode_utf8_acceptRanges) hL (.head _))
  clear hsz0 hcnd hk0
  rw [Tryd.params6] at hA hval hTd
  obtain ⟨v0, vs0, d0, ds0, p0, q0, hargs, rfl, rfl, h0, r0⟩ := trodAll_cons hA
  obtain ⟨v1, vs1, d1, ds1, p1, q1, rfl, rfl, rfl, h1, r1⟩ := trodAll_cons r0
  obtain ⟨v2, vs2, d2, ds2, p2, q2, rfl, rfl, rfl, h2, r2⟩ := trodAll_cons r1
  obtain ⟨rfl, rfl, rfl⟩ := trodAll_nil r2
  obtain rfl : args = #[v0, v1, v2] := by cases args; simp_all
  obtain ⟨rfl, rfl⟩ := trodVars_none hV
  have lt0 : ∀ x ∈ p0, x.block < W.heap.size := by obtain ⟨m, hm⟩ := h0; exact DataW.trod_lt m _ _ _ hm
  obtain ⟨a0, n0, c0, rfl⟩ := okWide_slice Tryd.underlying22 (hval 0 22 v0 rfl rfl)
  have lo0 : ∀ k, (Value.slice a0 n0 c0).ownBlock = some k → k < W.heap.size := okWide_lt Tryd.underlying22 (hval 0 22 _ rfl rfl)
  have td0 : Td Tryd.prog W 22 [.slice a0 n0 c0] := hTd 0 22 _ rfl rfl
  have lt1 : ∀ x ∈ p1, x.block < W.heap.size := by obtain ⟨m, hm⟩ := h1; exact DataW.trod_lt m _ _ _ hm
  obtain ⟨a1, n1, c1, rfl⟩ := okWide_slice Tryd.underlying22 (hval 1 22 v1 rfl rfl)
  have lo1 : ∀ k, (Value.slice a1 n1 c1).ownBlock = some k → k < W.heap.size := okWide_lt Tryd.underlying22 (hval 1 22 _ rfl rfl)
  have td1 : Td Tryd.prog W 22 [.slice a1 n1 c1] := hTd 1 22 _ rfl rfl
  have lt2 : ∀ x ∈ p2, x.block < W.heap.size := by obtain ⟨m, hm⟩ := h2; exact DataW.trod_lt m _ _ _ hm
  obtain ⟨a2, n2, c2, rfl⟩ := okWide_slice Tryd.underlying22 (hval 2 22 v2 rfl rfl)
  have lo2 : ∀ k, (Value.slice a2 n2 c2).ownBlock = some k → k < W.heap.size := okWide_lt Tryd.underlying22 (hval 2 22 _ rfl rfl)
  have td2 : Td Tryd.prog W 22 [.slice a2 n2 c2] := hTd 2 22 _ rfl rfl
  have walk : Calls Tryd.prog 6 #[.slice a0 n0 c0, .slice a1 n1 c1, .slice a2 n2 c2] W fun e w' => e = .returned (.bool true) ∧ Below W.heap.size W w' := by
    clear hA0 hTd hval hval0 hL
    obtain ⟨x0, l0, e0, s0, h0⟩ := td_bytes td0
    obtain rfl := (List.cons.inj e0).1
    obtain ⟨x1, l1, e1, s1, h1⟩ := td_bytes td1
    obtain rfl := (List.cons.inj e1).1
    obtain ⟨x2, l2, e2, s2, h2⟩ := td_bytes td2
    obtain rfl := (List.cons.inj e2).1
    exact (begins_any W _ _ _ l0 l1 l2 s0 s1 s2 h0 h1 h2 htab).mono fun e w' ⟨h1, f⟩ => ⟨h1, f.below (fun _ _ h => h)⟩
  clear hA0 hval0 hTd
  refine walk.mono fun e W' ⟨he, bel⟩ => ?_
  subst he
  exact ⟨_, rfl, _, _, _, [], _, [], hW', trodAll_mk1 (shut_bool Tryd.underlying4 _), (trodAll_cons_mk (Below.trod laidOut (by kernel_rfl) (of_decide_eq_true (by kernel_rfl)) h0 bel lt0) (trodAll_cons_mk (Below.trod laidOut (by kernel_rfl) (of_decide_eq_true (by kernel_rfl)) h1 bel lt1) (trodAll_cons_mk (Below.trod laidOut (by kernel_rfl) (of_decide_eq_true (by kernel_rfl)) h2 bel lt2) trodAll_mk0))), rfl, bel.frame _, fun h => by cases h⟩

theorem row : Rows.keyBeginsRow.holds Tryd.pinned (OpenSpec.ofChange Rows.keyBeginsSpec) :=
  OpenClaim.holds_of_cond 6 Tryd.f6 rfl rfl rfl rfl rfl rfl rfl ⟨rfl, rfl, rfl, rfl, rfl⟩ rfl rfl rfl rfl rfl (by kernel_rfl) Tryd.func6 (by kernel_rfl)
    (of_decide_eq_true (by kernel_rfl)) (by unfold Func.isWrapper; first | (rw [if_pos (by decide +kernel)]; kernel_rfl) | (rw [if_neg (of_decide_eq_false (by kernel_rfl))]; exact ⟨rfl, rfl⟩))
    (fun os started H enc _ F0 => by rw [OpenClaim.pre_eq_preRow]; exact lifted os started H enc F0)
theorem card : Claim7.holds Tryd.pinned (.plain (OpenSpec.ofChange Rows.keyBeginsSpec)) Rows.keyBeginsCard :=
  Claim7.holds_tied_plain_at .later [] [.data, .pinned] true Rows.keyBeginsCard.stood.harness Rows.keyBeginsCard.stood.looks
    row (fun _ h => by cases h) (by kernel_rfl) (fun _ h => by cases h) keyBegins_row_tie rfl ⟨rfl, rfl⟩ (by kernel_rfl) (by kernel_rfl)
    (fun f fn hf hfn => by
      obtain rfl : f = 6 := Option.some.inj ((show Tryd.prog.funcNamed "codicil/codicillaw04.KeyBegins" = some 6 by kernel_rfl).symm.trans hf) |>.symm
      obtain rfl : fn = Tryd.f6 := (Option.some.inj (Tryd.func6.symm.trans hfn)).symm
      exact ⟨by kernel_rfl, fun j t ht => by
        have hall : (Tryd.f6.params.toList.all fun t => Tryd.prog.wantsStandIn t == false) = true := by kernel_rfl
        have hm : t ∈ Tryd.f6.params.toList := by
          rw [Array.mem_toList_iff]
          exact Array.mem_of_getElem? ht
        exact (eq_of_beq (List.all_eq_true.1 hall t hm) : Tryd.prog.wantsStandIn t = false)⟩)
    (by kernel_rfl)
end RKeyBegins

/-- The card. -/
theorem keyBegins_holds : Rows.KeyBeginsCardSaid := RKeyBegins.card
#print axioms keyBegins_holds
end Go.Proofs.YtgcicljklejmjaaDoor
