import Derived.Test.YtgcicljklejmjaaDoorMb17
import Derived.Test.YtgcicljklejmjaaDoorRows
import Derived.Test.YtgcicljklejmjaaDoorCards
import Derived.Test.YtgcicljklejmjaaDoorTie
import Derived.Test.YtgcicljklejmjaaDoorMb15
import Derived.Test.YtgcicljklejmjaaDoorMb07
import Derived.WalkKit
import Derived.ProofKit
import Derived.OpenShut
import Derived.ChangeOld
import Derived.Below
import Derived.SizedLaws
import Derived.Lib.LaidIn
import Derived.Lib.LaidU8T
import Derived.Deep.DeepHandedRow
import Derived.Deep.DeepWitnessRowRef
import Derived.SevenTiedAt

/- codicilref04.Cmp; KeyOrder: the bytes of two tuples compare as the tuples do. -/
namespace Go.Proofs.YtgcicljklejmjaaDoor
open Go.RowKit Go.Shelf
open Tr

theorem cmpL_range (l : List (Tr Mm)) : ∀ (k : List (Tr Mm)), (∀ x ∈ l, ∀ y : Tr Mm, -1 ≤ cmp x y ∧ cmp x y ≤ 1) → -1 ≤ cmpL l k ∧ cmpL l k ≤ 1 := by
  induction l with
  | nil => intro k _; cases k <;> (rw [cmpL]; omega)
  | cons x l ih =>
    intro k h
    cases k with
    | nil => rw [cmpL]; omega
    | cons y k =>
      rw [cmpL]
      split
      · exact h x (.head _) y
      · exact ih k (fun z hz => h z (.tail _ hz))
theorem cmpF_range (l : List (List UInt8 × Tr Mm)) : ∀ (k : List (List UInt8 × Tr Mm)), (∀ p ∈ l, ∀ y : Tr Mm, -1 ≤ cmp p.2 y ∧ cmp p.2 y ≤ 1) → -1 ≤ cmpF l k ∧ cmpF l k ≤ 1 := by
  induction l with
  | nil => intro k _; cases k <;> (rw [cmpF]; omega)
  | cons p l ih =>
    intro k h
    obtain ⟨n, x⟩ := p
    cases k with
    | nil => rw [cmpF]; omega
    | cons q k =>
      obtain ⟨m, y⟩ := q
      rw [cmpF]
      split
      · have := cb_range n m; omega
      · split
        · exact h (n, x) (.head _) y
        · exact ih k (fun z hz => h z (.tail _ hz))
theorem cmp_range (x : Tr Mm) : ∀ y : Tr Mm, -1 ≤ cmp x y ∧ cmp x y ≤ 1 := by
  induction x using Tr.ind with
  | h x ih =>
    intro y
    have hL := cmpL_range x.l y.l (fun z hz => ih z (List.mem_append_left _ hz))
    have hF := cmpF_range x.f y.f (fun p hp => ih p.2 (List.mem_append_right _ (List.mem_map_of_mem hp)))
    have h1 := cb_range x.t y.t
    have h2 := cb_range x.bs y.bs
    rw [cmp]
    repeat' split
    all_goals omega

set_option maxRecDepth 100000 in
set_option maxHeartbeats 400000 in
theorem falls4_any (w : World) (D : Value) (dl : List Bool) (i : Nat) (hd : Sl w 1 D dl.length (bls dl)) (hn : dl.length ≤ reachBytes) :
    Calls Tryd.prog 39 #[D, .int .i64 (i : Int)] w fun e w' => e = .returned (.bool (fallsB dl i)) ∧ w' = w := by
  obtain ⟨A, c, rfl, hc1, hc2⟩ := hd.form
  have hn : dl.length ≤ 140737488351232 := hn
  by_cases h : i < dl.length
  · obtain ⟨b, o, rfl, h1⟩ := bls_at hd i h
    have he : fallsB dl i = dl[i] := by unfold fallsB; simp [h]
    rw [he]
    have HD := Lib.hid hd; clear hd he
    go_enter Tryd.func39, Tryd.ntmps39
    go_wp2
    go_ret
    exact ⟨rfl, rfl⟩
  · have he : fallsB dl i = false := by unfold fallsB; simp [List.getElem?_eq_none (Nat.le_of_not_lt h)]
    rw [he]
    have HD := Lib.hid hd; clear hd he
    go_enter Tryd.func39, Tryd.ntmps39
    go_wp2
    go_ret
    exact ⟨rfl, rfl⟩

theorem cmpT_step (d : Nat → Bool) {l k : List (Tr Mm)} {j : Nat} (h1 : j < l.length) (h2 : j < k.length) : cmpT d j (l.drop j) (k.drop j) = if cmp l[j] k[j] ≠ 0 then (if d j then - cmp l[j] k[j] else cmp l[j] k[j]) else cmpT d (j + 1) (l.drop (j + 1)) (k.drop (j + 1)) := by
  rw [List.drop_eq_getElem_cons h1, List.drop_eq_getElem_cons h2, cmpT]
theorem cmpT_end (d : Nat → Bool) {l k : List (Tr Mm)} {j : Nat} (h1 : j ≤ l.length) (h2 : j ≤ k.length) (h : j = l.length ∨ j = k.length) : cmpT d j (l.drop j) (k.drop j) = numC l.length k.length := by
  have hl : (l.drop j).length = l.length - j := List.length_drop
  have hk : (k.drop j).length = k.length - j := List.length_drop
  unfold numC
  match e1 : l.drop j, e2 : k.drop j with
  | [], [] => rw [e1] at hl; rw [e2] at hk; simp only [List.length_nil] at hl hk; rw [cmpT, if_neg (by omega), if_neg (by omega)]
  | [], _ :: _ => rw [e1] at hl; rw [e2] at hk; simp only [List.length_nil, List.length_cons] at hl hk; rw [cmpT, if_pos (by omega)]
  | _ :: _, [] => rw [e1] at hl; rw [e2] at hk; simp only [List.length_nil, List.length_cons] at hl hk; rw [cmpT, if_neg (by omega), if_pos (by omega)]
  | _ :: _, _ :: _ => rw [e1] at hl; rw [e2] at hk; simp only [List.length_cons] at hl hk; omega

set_option maxRecDepth 100000 in
set_option maxHeartbeats 4000000 in
theorem cmp4_any (w : World) (X Y D : Value) (l k : List (Tr Mm)) (dl : List Bool) (hx : In w X l) (hy : In w Y k) (hd : Sl w 1 D dl.length (bls dl)) (hdn : dl.length ≤ reachBytes) :
    Calls Tryd.prog 28 #[X, Y, D] w fun e w' => e = .returned (.int .i64 (cmpT (fallsB dl) 0 l k)) ∧ Fr no w w' := by
  obtain ⟨A, c, rfl, _, _⟩ := hx.sl.form
  obtain ⟨B, bc, rfl, _, _⟩ := hy.sl.form
  obtain ⟨DA, dc, rfl, _, _⟩ := hd.form
  have hnl : l.length ≤ 140737488351232 := hx.n
  have hnk : k.length ≤ 140737488351232 := hy.n
  have HX := Lib.hid hx; have HY := Lib.hid hy; have HD := Lib.hid hd; have HDN := Lib.hid hdn
  clear hx hy hd hdn
  go_enter Tryd.func28, Tryd.ntmps28
  go_wp2
  go_loopw [7] (fun iv wr => ∃ j : Nat, j ≤ l.length ∧ j ≤ k.length ∧ iv = .int .i64 j ∧ Fr no w wr ∧ cmpT (fallsB dl) 0 l k = cmpT (fallsB dl) j (l.drop j) (k.drop j)) (fun iv _ => l.length - (intOf iv).toNat)
  case atStart => exact ⟨0, Nat.zero_le _, Nat.zero_le _, rfl, Fr.refl _ _, rfl⟩
  case round =>
    obtain ⟨j, hj, hj2, rfl, hfr, hcm⟩ := hrel
    have FR := Lib.hid hfr; have HCM := Lib.hid hcm
    clear hfr hcm
    by_cases hlt : j < l.length ∧ j < k.length
    · obtain ⟨hlt, hlt2⟩ := hlt
      have h1 := HX.out.kept0 FR.out
      have h2 := HY.out.kept0 FR.out
      obtain ⟨xb, xo, KB, kb, KL, kl, KF, kf, rfl, hfj, a0, a1, a2, a3, a4, a5, a6, hgl⟩ := In.get h1 j hlt
      obtain ⟨yb, yo, MB, mb, ML, ml, MF, mf, rfl, hgj, b0, b1, b2, b3, b4, b5, b6, hgm⟩ := In.get h2 j hlt2
      have hcall := fun W (f : Fr no wr W) => cmp_any l[j] k[j] W ((h1.good _ (List.getElem_mem _)).kept0 f) ((h2.good _ (List.getElem_mem _)).kept0 f)
      have hrg := cmp_range l[j] k[j]
      rw [hfj.agg, hgj.agg] at hcall
      have hst := cmpT_step (fallsB dl) hlt hlt2
      have hneg : IntKind.i64.wrap (- cmp l[j] k[j]) = - cmp l[j] k[j] := IntWalk.i64_in _ ⟨by omega, by omega⟩
      have HC := Lib.hid hcall; have HST := Lib.hid hst
      clear hcall hst h1 h2 hfj hgj hrg
      go_wp2_with fail
      refine wp_region_ord (List.range 10) (fun i => [Kd.p, Kd.p, Kd.p, Kd.l, Kd.p, Kd.p, Kd.p, Kd.l, Kd.g, Kd.p].getD i .e) (by kernel_rfl) (by kernel_rfl) ?_
      iterate 8
        first | refine wpX_pu rfl rfl rfl (by first | exact pu_move rfl | exact pu_assign rfl | exact pu_nilCheck rfl rfl | exact pu_binInt rfl rfl rfl | exact pu_conv rfl rfl (by kernel_rfl) | exact pu_fld rfl (by kernel_rfl) | exact pu_ix rfl rfl rfl (by kernel_rfl) | exact pu_unOp rfl | exact pu_binStr rfl rfl rfl | exact pu_len rfl rfl | exact pu_lens rfl rfl | exact pu_pick rfl | exact pu_slice rfl rfl) (fun K hK => ?_) | refine wpX_rd rfl rfl rfl (rd_load rfl) (fun K hK => ?_) | refine wpX_gr rfl rfl rfl (by first | exact gr_buildSlice rfl | exact gr_box rfl | exact gr_alloc rfl) (fun K hK => ?_) | refine wpX_ex rfl rfl rfl (fun K hK => ?_)
        try go_wp2
      refine wpX_ca rfl rfl rfl (fun K hK => ?_)
      go_wp2_with fail
      refine (HC.out _ (by (repeat first | exact Fr.refl _ _ | exact Fr.drewN _ _ _ | apply Fr.drew | apply Fr.alloc | apply Fr.setAt | apply Fr.moreN))).mono ?_
      rintro e w5 ⟨rfl, fy⟩
      have F50 := Lib.hid fy; have F5 := Lib.hid (FR.out.trans ((by (repeat first | exact Fr.refl _ _ | exact Fr.drewN _ _ _ | apply Fr.drew | apply Fr.alloc | apply Fr.setAt | apply Fr.moreN) : Fr no wr _).trans fy (fun _ _ h => h)) (fun _ _ h => h))
      clear fy
      by_cases hc : cmp l[j] k[j] = 0
      · have hst : cmpT (fallsB dl) 0 l k = cmpT (fallsB dl) (j + 1) (l.drop (j + 1)) (k.drop (j + 1)) := by rw [HCM.out, HST.out, if_neg (by simpa using hc)]
        have HS2 := Lib.hid hst
        rw [hc] at hneg ⊢
        clear hst hc hneg
        go_wp2
        obtain ⟨⟨ea, eb⟩, hext⟩ := F50.out.ext
        refine ⟨⟨ea, eb, hext⟩, hK _ _ ?_⟩
        clear hK K hext ea eb
        first | refine wpX_pu rfl rfl rfl (by first | exact pu_move rfl | exact pu_assign rfl | exact pu_nilCheck rfl rfl | exact pu_binInt rfl rfl rfl | exact pu_conv rfl rfl (by kernel_rfl) | exact pu_fld rfl (by kernel_rfl) | exact pu_ix rfl rfl rfl (by kernel_rfl) | exact pu_unOp rfl | exact pu_binStr rfl rfl rfl | exact pu_len rfl rfl | exact pu_lens rfl rfl | exact pu_pick rfl | exact pu_slice rfl rfl) (fun K hK => ?_) | refine wpX_rd rfl rfl rfl (rd_load rfl) (fun K hK => ?_) | refine wpX_gr rfl rfl rfl (by first | exact gr_buildSlice rfl | exact gr_box rfl | exact gr_alloc rfl) (fun K hK => ?_) | refine wpX_ex rfl rfl rfl (fun K hK => ?_)
        try go_wp2
        refine wpX_done ?_
        clear a0 a1 a2 a3 a4 a5 a6 b0 b1 b2 b3 b4 b5 b6 hgl hgm
        go_wp2
        go_roundw
        case rel => exact ⟨j + 1, by omega, by omega, by go_num, F5.out, HS2.out⟩
        case measure => simp [intOf]; omega
      · have hst : cmpT (fallsB dl) 0 l k = if fallsB dl j then - cmp l[j] k[j] else cmp l[j] k[j] := by rw [HCM.out, HST.out, if_pos hc]
        have gc : (cmp l[j] k[j] != 0) = true := by rw [bne_iff_ne]; exact hc
        have HS2 := Lib.hid hst
        clear hst hc
        go_wp2
        obtain ⟨⟨ea, eb⟩, hext⟩ := F50.out.ext
        refine ⟨⟨ea, eb, hext⟩, hK _ _ ?_⟩
        clear hK K hext ea eb
        first | refine wpX_pu rfl rfl rfl (by first | exact pu_move rfl | exact pu_assign rfl | exact pu_nilCheck rfl rfl | exact pu_binInt rfl rfl rfl | exact pu_conv rfl rfl (by kernel_rfl) | exact pu_fld rfl (by kernel_rfl) | exact pu_ix rfl rfl rfl (by kernel_rfl) | exact pu_unOp rfl | exact pu_binStr rfl rfl rfl | exact pu_len rfl rfl | exact pu_lens rfl rfl | exact pu_pick rfl | exact pu_slice rfl rfl) (fun K hK => ?_) | refine wpX_rd rfl rfl rfl (rd_load rfl) (fun K hK => ?_) | refine wpX_gr rfl rfl rfl (by first | exact gr_buildSlice rfl | exact gr_box rfl | exact gr_alloc rfl) (fun K hK => ?_) | refine wpX_ex rfl rfl rfl (fun K hK => ?_)
        try go_wp2
        refine wpX_done ?_
        clear a0 a1 a2 a3 a4 a5 a6 b0 b1 b2 b3 b4 b5 b6 hgl hgm
        go_wp2_with fail
        refine (falls4_any w5 _ dl j (HD.out.kept0 F5.out) HDN.out).mono ?_
        rintro e w6 ⟨rfl, hw⟩
        subst w6
        cases hf : fallsB dl j with
        | true =>
          rw [hf, if_pos rfl] at HS2
          go_wp2
          go_ret
          exact ⟨by rw [HS2.out]; rfl, F5.out⟩
        | false =>
          rw [hf, if_neg (by simp)] at HS2
          go_wp2
          go_ret
          exact ⟨by rw [HS2.out]; rfl, F5.out⟩
    · have hen := cmpT_end (fallsB dl) hj hj2 (by omega)
      have HEN := Lib.hid (HCM.out.trans hen)
      clear hen
      have hn : ∀ a b : Int, (a < b ∧ numC a b = -1) ∨ (¬ a < b ∧ b < a ∧ numC a b = 1) ∨ (¬ a < b ∧ ¬ b < a ∧ numC a b = 0) := fun a b => by
        unfold numC
        by_cases h1 : a < b
        · left; exact ⟨h1, if_pos h1⟩
        · by_cases h2 : b < a
          · right; left; exact ⟨h1, h2, by rw [if_neg h1, if_pos h2]⟩
          · right; right; exact ⟨h1, h2, by rw [if_neg h1, if_neg h2]⟩
      rcases hn l.length k.length with ⟨h1, h2⟩ | ⟨h1, h2, h3⟩ | ⟨h1, h2, h3⟩
      · have HV := Lib.hid (HEN.out.trans h2)
        have hA1 : ¬ (j < l.length ∧ j < k.length) := hlt
        have hA2 : ¬ j < l.length := by omega
        clear h2 hlt hA1 hn
        go_wp2
        go_ret
        exact ⟨by rw [HV.out]; rfl, FR.out⟩
      · have HV := Lib.hid (HEN.out.trans h3)
        have hA1 : j < l.length := by omega
        have hA2 : ¬ j < k.length := by omega
        clear h3 hlt hn
        go_wp2
        go_ret
        exact ⟨by rw [HV.out]; rfl, FR.out⟩
      · have HV := Lib.hid (HEN.out.trans h3)
        have hA2 : ¬ j < l.length := by omega
        clear h3 hlt hn
        go_wp2
        go_ret
        exact ⟨by rw [HV.out]; rfl, FR.out⟩

set_option maxRecDepth 100000 in
set_option maxHeartbeats 8000000 in
theorem korder_any (w : World) (X Y D : Value) (l m : List (Tr Mm)) (dl : List Bool) (hx : In w X l) (hy : In w Y m) (hd : Sl w 1 D dl.length (bls dl)) (hdn : dl.length ≤ reachBytes) (hT : Tabs w) :
    Calls Tryd.prog 4 #[X, Y, D] w fun e w' => e = .returned (.bool true) ∧ Fr no w w' := by
  obtain ⟨XA, xc, rfl, _, _⟩ := hx.sl.form
  obtain ⟨YA, yc, rfl, _, _⟩ := hy.sl.form
  obtain ⟨DA, dc, rfl, _, _⟩ := hd.form
  have ldn : dl.length ≤ 140737488351232 := hdn
  have HX := Lib.hid hx; have HY := Lib.hid hy; have HD := Lib.hid hd; have HDN := Lib.hid hdn; have HT := Lib.hid hT
  clear hx hy hd hdn hT
  go_enter Tryd.func4, Tryd.ntmps4
  go_wp2_with fail
  refine (much_any l w _ HX.out).mono ?_
  rintro e w1 ⟨f1, b1, rfl, _⟩
  have F1 := Lib.hid f1
  clear f1
  cases b1 with
  | true =>
    go_wp2
    go_ret
    exact ⟨rfl, F1.out⟩
  | false =>
    go_wp2_with fail
    refine (much_any m w1 _ (HY.out.kept0 F1.out)).mono ?_
    rintro e w2 ⟨f2, b2, rfl, _⟩
    have F2 := Lib.hid (F1.out.trans f2 (fun _ _ h => h))
    clear f2
    cases b2 with
    | true =>
      go_wp2
      go_ret
      exact ⟨rfl, F2.out⟩
    | false =>
      by_cases hdl : dl.length ≤ 20000
      rotate_left
      · go_wp2
        go_ret
        exact ⟨rfl, F2.out⟩
      go_wp2_with fail
      refine (encode_any w2 _ _ l dl (HX.out.kept0 F2.out) (HD.out.kept0 F2.out) HDN.out (HT.out.kept0 F2.out)).mono ?_
      rintro e w3 ⟨f3, he3⟩
      have F3 := Lib.hid (F2.out.trans f3 (fun _ _ h => h)); have HE3 := Lib.hid he3
      clear f3 he3
      rcases HE3.out with ⟨ht, A, na, rfl, hna, hoa, _⟩ | ⟨ht, rfl⟩
      · have HTL := Lib.hid ht; have HNA := Lib.hid hna; have HOA := Lib.hid hoa
        clear ht hna hoa
        go_wp2_with fail
        refine (encode_any w3 _ _ m dl (HY.out.kept0 F3.out) (HD.out.kept0 F3.out) HDN.out (HT.out.kept0 F3.out)).mono ?_
        rintro e w4 ⟨f4, he4⟩
        have F34 := Lib.hid f4; have F4 := Lib.hid (F3.out.trans f4 (fun _ _ h => h)); have HE4 := Lib.hid he4
        clear f4 he4
        rcases HE4.out with ⟨ht, B, nb, rfl, hnb, hob, _⟩ | ⟨ht, rfl⟩
        · have HTM := Lib.hid ht; have HNB := Lib.hid hnb; have HOB := Lib.hid hob
          clear ht hnb hob
          go_wp2_with fail
          refine (known_any w4 (HT.out.kept0 F4.out)).mono ?_
          rintro e w5 ⟨rfl, f5⟩
          have F45 := Lib.hid f5; have F5 := Lib.hid (F4.out.trans f5 (fun _ _ h => h))
          clear f5
          have ho := order_any w5 (.slice A na na) (.slice B nb nb) (encT (fallsB dl) 0 l) (encT (fallsB dl) 0 m) (by rw [← HNA.out]; exact ((HOA.out.kept0 F34.out).kept0 F45.out).sl) (by rw [← HNB.out]; exact (HOB.out.kept0 F45.out).sl)
          have hc := cmp4_any w5 _ _ (.slice DA dl.length dc) l m dl (HX.out.kept0 F5.out) (HY.out.kept0 F5.out) (HD.out.kept0 F5.out) HDN.out
          have heq := encT_cmp (fallsB dl) 0 l m (fun x hx => (one_ok ((tupErr_zero.1 HTL.out).2.1 x hx) (good_nums (HX.out.good x hx))).1) (fun x hx => (one_ok ((tupErr_zero.1 HTM.out).2.1 x hx) (good_nums (HY.out.good x hx))).1)
          have HO := Lib.hid ho; have HC := Lib.hid hc; have HEQ := Lib.hid heq
          clear ho hc heq
          go_wp2_with fail
          refine HO.out.mono ?_
          rintro e w6 ⟨rfl, hw⟩
          subst w6
          go_wp2_with fail
          refine HC.out.mono ?_
          rintro e w7 ⟨rfl, f7⟩
          have F7 := Lib.hid (F5.out.trans f7 (fun _ _ h => h))
          clear f7
          go_wp2
          go_ret
          refine ⟨?_, F7.out⟩
          have h : (cb (encT (fallsB dl) 0 l) (encT (fallsB dl) 0 m) == cmpT (fallsB dl) 0 l m) = true := by rw [HEQ.out]; simp
          exact congrArg (fun b => Ending.returned (Value.bool b)) h
        · have gt : ((tupErr m : Int) != 0) = true := by rw [bne_iff_ne]; omega
          have gt2 : ((tupErr m : Int) == 0) = false := by rw [beq_eq_false_iff_ne]; omega
          clear ht
          go_wp2_with fail
          refine (known_any w4 (HT.out.kept0 F4.out)).mono ?_
          rintro e w5 ⟨rfl, f5⟩
          have F5 := Lib.hid (F4.out.trans f5 (fun _ _ h => h))
          clear f5
          go_wp2
          go_ret
          exact ⟨rfl, F5.out⟩
      · have gt : ((tupErr l : Int) != 0) = true := by rw [bne_iff_ne]; omega
        have gt2 : ((tupErr l : Int) == 0) = false := by rw [beq_eq_false_iff_ne]; omega
        clear ht
        go_wp2_with fail
        refine (encode_any w3 _ _ m dl (HY.out.kept0 F3.out) (HD.out.kept0 F3.out) HDN.out (HT.out.kept0 F3.out)).mono ?_
        rintro e w4 ⟨f4, he4⟩
        have F4 := Lib.hid (F3.out.trans f4 (fun _ _ h => h)); have HE4 := Lib.hid he4
        clear f4 he4
        rcases HE4.out with ⟨ht, B, nb, rfl, hnb, hob, _⟩ | ⟨ht, rfl⟩
        · clear ht hnb hob
          go_wp2_with fail
          refine (known_any w4 (HT.out.kept0 F4.out)).mono ?_
          rintro e w5 ⟨rfl, f5⟩
          have F5 := Lib.hid (F4.out.trans f5 (fun _ _ h => h))
          clear f5
          go_wp2
          go_ret
          exact ⟨rfl, F5.out⟩
        · have gt3 : ((tupErr m : Int) == 0) = false := by rw [beq_eq_false_iff_ne]; omega
          clear ht
          go_wp2_with fail
          refine (known_any w4 (HT.out.kept0 F4.out)).mono ?_
          rintro e w5 ⟨rfl, f5⟩
          have F5 := Lib.hid (F4.out.trans f5 (fun _ _ h => h))
          clear f5
          go_wp2
          go_ret
          exact ⟨rfl, F5.out⟩
end Go.Proofs.YtgcicljklejmjaaDoor

/- KeyOrder holds, for every input; its tied card. No condition but what its row lists. -/
namespace Go.Proofs.YtgcicljklejmjaaDoor
open Go.ChangeShapes Go.WideShapes Go.ChangeAt Go.RowKit Go.Shelf
namespace RKeyOrder
theorem own : ownKnob Tryd.prog.godebug = none := by kernel_rfl
theorem laidOut : laidOutB Tryd.prog = true := by kernel_rfl

/-- A world in which the two tables lie. -/
noncomputable def laidWorld (os : Os) : World :=
  let w0 := World.holding Tryd.prog os ⟨#[], #[], []⟩
  let put (h : Array Obj) (g : Nat) (cs : Array Value) : Array Obj := h.modify g fun
    | .cells _ t frozen => .cells cs t frozen
    | o => o
  let h1 := put w0.heap 0 (Lib.firstTab.map fun z => Value.int .u8 z).toArray
  let h2 := put h1 1 ((List.range 16).flatMap fun i => [Value.int .u8 (Lib.accLo i), Value.int .u8 (Lib.accHi i)]).toArray
  { w0 with heap := h2 }
theorem laid_met (os : Os) (args : Array Value) : laidMet Tryd.prog Rows.keyOrderRow.laid ((laidWorld os).forCall (fun _ _ => 0) ⟨#[], args, []⟩).memory :=
  (LaidIn.of_run (l := [("unicode/utf8.acceptRanges", Rows.laid_unicode_utf8_acceptRanges), ("unicode/utf8.first", Rows.laid_unicode_utf8_first)]) [0, 1] 8 (by kernel_rfl) (by kernel_rfl) (by kernel_rfl) (by kernel_rfl)).met

theorem witness_row (os : Os) {H : Type} (enc : TypeId × Value → H) :
    (OpenSpec.ofChange Rows.keyOrderSpec).preRow enc Tryd.prog Tryd.f4 Rows.keyOrderRow.domain false Rows.keyOrderRow.laid ((laidWorld os).forCall (fun _ _ => 0) ⟨#[], #[.slice none 0 0, .slice none 0 0, .slice none 0 0], []⟩).memory #[.slice none 0 0, .slice none 0 0, .slice none 0 0] := by
  have hw : (DataW.whole enc Tryd.prog ((laidWorld os).forCall (fun _ _ => 0) ⟨#[], #[.slice none 0 0, .slice none 0 0, .slice none 0 0], []⟩).memory Tryd.f4.params.toList (OpenSpec.ofChange Rows.keyOrderSpec).vars false #[.slice none 0 0, .slice none 0 0, .slice none 0 0].toList 8).map (fun x => (x.1, x.2.1)) = some ([.nil, .nil, .nil], []) := by kernel_rfl
  obtain ⟨⟨x1, x2, x3⟩, hx, hx1⟩ := Option.map_eq_some_iff.1 hw
  simp only [Prod.mk.injEq] at hx1
  obtain ⟨rfl, rfl⟩ := hx1
  exact OpenSpec.preRow_of_cond 8 hx (by kernel_rfl) (fun k hk => by cases hk) (by kernel_rfl) (laid_met os _)

set_option maxRecDepth 100000 in
set_option maxHeartbeats 2000000 in
theorem lifted (os : Os) (started : os.Started) (H : Type) (enc : TypeId × Value → H) (F : Stop.Interp) :
    ReturnsInHanded {} Tryd.checked os 4 .any ((OpenSpec.ofChange Rows.keyOrderSpec).preRow enc Tryd.prog Tryd.f4 Rows.keyOrderRow.domain false Rows.keyOrderRow.laid) (((OpenSpec.ofChange Rows.keyOrderSpec).at F).post enc Tryd.prog Tryd.f4 false true false false) := by
  refine returnsInHanded_of_row (C := Tryd.checked) (s := (OpenSpec.ofChange Rows.keyOrderSpec)) own started (by kernel_rfl) Tryd.func4
    (witness_row_atRef (enc := enc) (C := Tryd.checked) false (laidWorld os) #[.slice none 0 0, .slice none 0 0, .slice none 0 0] rfl (by kernel_rfl) (by kernel_rfl) (by kernel_rfl) (witness_row os enc)) ?_
  intro W base args ds gs before hval0 hW hcnd hk0 hsz0 hL _ _
  have hval : ∀ (j : Nat) t v, Tryd.f4.params[j]? = some t → args[j]? = some v → Value.okWide Tryd.prog W .any base t v := hval0
  have hW' := hW
  obtain ⟨p, q, hA0, hV, rfl, hfz, hnd⟩ := hW
  have hA : DataW.TrodAll enc Tryd.prog W 0 (fun _ => true) true Tryd.f4.params.toList args.toList ds p := hA0
  have hTd : ∀ (j : Nat) t v, Tryd.f4.params.toList[j]? = some t → args.toList[j]? = some v → Td Tryd.prog W t v.cells.toList := fun j t v h1 h2 => Td.arg hA hsz0 j t v h1 h2
  have htab : Tabs W := utf8Tabs_of_readsT (U8Types.of196 lays_valid) ⟨by kernel_rfl, by kernel_rfl, by kernel_rfl, by kernel_rfl, by kernel_rfl, by kernel_rfl, by kernel_rfl⟩ (Lib.laidMet.reads (d := Rows.laid_unicode_utf8_first) hL (.tail _ (.head _))) (Lib.laidMet.reads (d := Rows.laid_unicode_utf8_acceptRanges) hL (.head _))
  clear hsz0 hcnd hk0
  rw [Tryd.params4] at hA hval hTd
  obtain ⟨v0, vs0, d0, ds0, p0, q0, hargs, rfl, rfl, h0, r0⟩ := trodAll_cons hA
  obtain ⟨v1, vs1, d1, ds1, p1, q1, rfl, rfl, rfl, h1, r1⟩ := trodAll_cons r0
  obtain ⟨v2, vs2, d2, ds2, p2, q2, rfl, rfl, rfl, h2, r2⟩ := trodAll_cons r1
  obtain ⟨rfl, rfl, rfl⟩ := trodAll_nil r2
  obtain rfl : args = #[v0, v1, v2] := by cases args; simp_all
  obtain ⟨rfl, rfl⟩ := trodVars_none hV
  have lt0 : ∀ x ∈ p0, x.block < W.heap.size := by obtain ⟨m, hm⟩ := h0; exact DataW.trod_lt m _ _ _ hm
  obtain ⟨a0, n0, c0, rfl⟩ := okWide_slice Tryd.underlying25 (hval 0 25 v0 rfl rfl)
  have lo0 : ∀ k, (Value.slice a0 n0 c0).ownBlock = some k → k < W.heap.size := okWide_lt Tryd.underlying25 (hval 0 25 _ rfl rfl)
  have td0 : Td Tryd.prog W 25 [.slice a0 n0 c0] := hTd 0 25 _ rfl rfl
  have lt1 : ∀ x ∈ p1, x.block < W.heap.size := by obtain ⟨m, hm⟩ := h1; exact DataW.trod_lt m _ _ _ hm
  obtain ⟨a1, n1, c1, rfl⟩ := okWide_slice Tryd.underlying25 (hval 1 25 v1 rfl rfl)
  have lo1 : ∀ k, (Value.slice a1 n1 c1).ownBlock = some k → k < W.heap.size := okWide_lt Tryd.underlying25 (hval 1 25 _ rfl rfl)
  have td1 : Td Tryd.prog W 25 [.slice a1 n1 c1] := hTd 1 25 _ rfl rfl
  have lt2 : ∀ x ∈ p2, x.block < W.heap.size := by obtain ⟨m, hm⟩ := h2; exact DataW.trod_lt m _ _ _ hm
  obtain ⟨a2, n2, c2, rfl⟩ := okWide_slice Tryd.underlying23 (hval 2 23 v2 rfl rfl)
  have lo2 : ∀ k, (Value.slice a2 n2 c2).ownBlock = some k → k < W.heap.size := okWide_lt Tryd.underlying23 (hval 2 23 _ rfl rfl)
  have td2 : Td Tryd.prog W 23 [.slice a2 n2 c2] := hTd 2 23 _ rfl rfl
  have walk : Calls Tryd.prog 4 #[.slice a0 n0 c0, .slice a1 n1 c1, .slice a2 n2 c2] W fun e w' => e = .returned (.bool true) ∧ Below W.heap.size W w' := by
    clear hA0 hTd hval hval0 hL
    obtain ⟨x0, l0, e0, s0⟩ := open_values td0
    obtain rfl := (List.cons.inj e0).1
    obtain ⟨x1, l1, e1, s1⟩ := open_values td1
    obtain rfl := (List.cons.inj e1).1
    obtain ⟨x2, l2, e2, s2, h2⟩ := open_bools td2
    obtain rfl := (List.cons.inj e2).1
    exact (korder_any W _ _ _ l0 l1 l2 s0 s1 s2 h2 htab).mono fun e w' ⟨h1, f⟩ => ⟨h1, f.below (fun _ _ h => h)⟩
  clear hA0 hval0 hTd
  refine walk.mono fun e W' ⟨he, bel⟩ => ?_
  subst he
  exact ⟨_, rfl, _, _, _, [], _, [], hW', trodAll_mk1 (shut_bool Tryd.underlying4 _), (trodAll_cons_mk (Below.trod laidOut (by kernel_rfl) (of_decide_eq_true (by kernel_rfl)) h0 bel lt0) (trodAll_cons_mk (Below.trod laidOut (by kernel_rfl) (of_decide_eq_true (by kernel_rfl)) h1 bel lt1) (trodAll_cons_mk (Below.trod laidOut (by kernel_rfl) (of_decide_eq_true (by kernel_rfl)) h2 bel lt2) trodAll_mk0))), rfl, bel.frame _, fun h => by cases h⟩

theorem row : Rows.keyOrderRow.holds Tryd.pinned (OpenSpec.ofChange Rows.keyOrderSpec) :=
  OpenClaim.holds_of_cond 4 Tryd.f4 rfl rfl rfl rfl rfl rfl rfl ⟨rfl, rfl, rfl, rfl, rfl⟩ rfl rfl rfl rfl rfl (by kernel_rfl) Tryd.func4 (by kernel_rfl)
    (of_decide_eq_true (by kernel_rfl)) (by unfold Func.isWrapper; first | (rw [if_pos (by decide +kernel)]; kernel_rfl) | (rw [if_neg (of_decide_eq_false (by kernel_rfl))]; exact ⟨rfl, rfl⟩))
    (fun os started H enc _ F0 => by rw [OpenClaim.pre_eq_preRow]; exact lifted os started H enc F0)
theorem card : Claim7.holds Tryd.pinned (.plain (OpenSpec.ofChange Rows.keyOrderSpec)) Rows.keyOrderCard :=
  Claim7.holds_tied_plain_at .later [] [.data, .pinned] true Rows.keyOrderCard.stood.harness Rows.keyOrderCard.stood.looks
    row (fun _ h => by cases h) (by kernel_rfl) (fun _ h => by cases h) keyOrder_row_tie rfl ⟨rfl, rfl⟩ (by kernel_rfl) (by kernel_rfl)
    (fun f fn hf hfn => by
      obtain rfl : f = 4 := Option.some.inj ((show Tryd.prog.funcNamed "codicil/codicillaw04.KeyOrder" = some 4 by kernel_rfl).symm.trans hf) |>.symm
      obtain rfl : fn = Tryd.f4 := (Option.some.inj (Tryd.func4.symm.trans hfn)).symm
      exact ⟨by kernel_rfl, fun j t ht => by
        have hall : (Tryd.f4.params.toList.all fun t => Tryd.prog.wantsStandIn t == false) = true := by kernel_rfl
        have hm : t ∈ Tryd.f4.params.toList := by
          rw [Array.mem_toList_iff]
          exact Array.mem_of_getElem? ht
        exact (eq_of_beq (List.all_eq_true.1 hall t hm) : Tryd.prog.wantsStandIn t = false)⟩)
    (by kernel_rfl)
end RKeyOrder

/-- The card. -/
theorem keyOrder_holds : Rows.KeyOrderCardSaid := RKeyOrder.card
#print axioms keyOrder_holds
end Go.Proofs.YtgcicljklejmjaaDoor
