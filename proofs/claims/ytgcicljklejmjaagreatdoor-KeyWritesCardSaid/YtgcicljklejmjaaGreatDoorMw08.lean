import Derived.Test.YtgcicljklejmjaaGreatDoorMw07
import Derived.Test.YtgcicljklejmjaaGreatDoorMb17
import Derived.Test.YtgcicljklejmjaaGreatDoorRows
import Derived.Test.YtgcicljklejmjaaGreatDoorCards
import Derived.Test.YtgcicljklejmjaaGreatDoorTie
import Derived.Test.YtgcicljklejmjaaGreatDoorMb15
import Derived.Test.YtgcicljklejmjaaGreatDoorMb07
import Derived.WalkKit
import Derived.ProofKit
import Derived.OpenShut
import Derived.ChangeOld
import Derived.Below
import Derived.SizedLaws
import Derived.Lib.LaidIn
import Derived.Lib.LaidU8T
import Derived.Deep.DeepHandedRow
import Derived.Deep.DeepWitnessRowRef
import Derived.SevenTiedAt

/- KeyWrites: each tuple has the bytes that the chapter says, or is refused. Printed by mkwrites4.py. -/
namespace Go.Proofs.YtgcicljklejmjaaGreatDoor
open Go.RowKit Go.Shelf
open Tr

set_option maxRecDepth 100000 in
set_option maxHeartbeats 16000000 in
theorem writes4_any (w : World) (X D : Value) (l : List (Tr Mm)) (dl : List Bool) (hx : In w X l) (hd : Sl w 1 D dl.length (bls dl)) (hdn : dl.length ≤ reachBytes) (hT : Tabs w) :
    Calls Tryz.prog 3 #[X, D] w fun e w' => e = .returned (.bool true) ∧ Fr no w w' := by
  obtain ⟨XA, xc, rfl, _, _⟩ := hx.sl.form
  obtain ⟨DA, dc, rfl, _, _⟩ := hd.form
  have lxn : l.length ≤ 140737488351232 := hx.n
  have ldn : dl.length ≤ 140737488351232 := hdn
  have HX := Lib.hid hx; have HD := Lib.hid hd; have HDN := Lib.hid hdn; have HT := Lib.hid hT
  clear hx hd hdn hT
  have hte := conv_err (tupErr l) (tupErr_le l)
  have htb := tb4_len dl l
  obtain ⟨te, hteq⟩ : ∃ te, te = tupErr l := ⟨_, rfl⟩
  obtain ⟨tb, htbq⟩ : ∃ tb, tb = tb4 dl l := ⟨_, rfl⟩
  rw [← hteq] at hte
  rw [← htbq] at htb
  have HTE := Lib.hid hteq; have HTB := Lib.hid htbq; have HCV := Lib.hid hte; have HTL := Lib.hid htb
  clear hteq htbq hte htb
  go_enter Tryz.func3, Tryz.ntmps3
  go_wp2_with fail
  refine (much_any l w _ HX.out).mono ?_
  rintro e w1 ⟨f1, b1, rfl, hb1⟩
  have F1 := Lib.hid f1; have HMU := Lib.hid hb1
  clear f1 hb1
  cases b1 with
  | true =>
    go_wp2
    go_ret
    exact ⟨rfl, F1.out⟩
  | false =>
  by_cases hdl2 : dl.length ≤ 20000
  rotate_left
  · go_wp2
    go_ret
    exact ⟨rfl, F1.out⟩
  have hpa : ∀ x ∈ l, parts x ≤ 1000000 := fun x hx => by
    have h1 : l.length + wgtL l ≤ 20000 := (by first | exact HMU.out rfl | exact HMU.out trivial)
    have h2 := parts_wgtL hx
    omega
  have hl2 : l.length ≤ 20000 := by
    have h1 : l.length + wgtL l ≤ 20000 := (by first | exact HMU.out rfl | exact HMU.out trivial)
    omega
  have HPA := Lib.hid hpa
  clear hpa HMU
  go_wp2_with fail
  refine (lentvs_of l (fun x _ => lentv_any x) w1 _ (HX.out.kept0 F1.out)).mono ?_
  rintro e w2 ⟨V, g, ys, rfl, hR, hyb, hys, f2⟩
  have hin := lent_in hR hys hyb (HX.out.kept0 F1.out)
  obtain rfl := hR.v
  have hyl : ys.length = l.length := by have := congrArg List.length hyb; simpa using this
  have F2 := Lib.hid (F1.out.trans f2 (fun _ _ h => h)); have HR := Lib.hid hR; have HYB := Lib.hid hyb; have HYS := Lib.hid hys; have HIN := Lib.hid hin; have HYL := Lib.hid hyl
  clear f2 hR hyb hys hin hyl F1
  go_wp2_with fail
  refine (lentb_any w2 _ dl (HD.out.kept0 F2.out) ldn).mono ?_
  rintro e w3 ⟨gb, rfl, hlb, f3⟩
  have F3 := Lib.hid (F2.out.trans f3 (fun _ _ h => h)); have F23 := Lib.hid f3; have HLB := Lib.hid hlb
  clear f3 hlb
  go_wp2_with fail
  refine (enc_u w3 _ _ ys l dl HYB.out (HIN.out.kept0 F23.out) HLB.out.sl HDN.out (HT.out.kept0 F3.out)).mono ?_
  rintro e w4 ⟨f4, A, n, rfl, hn, hoa, hka⟩
  rw [← HTE.out]
  rw [← HTB.out] at hn hoa
  have F4 := Lib.hid (F3.out.trans f4 (fun _ _ h => h)); have F34 := Lib.hid f4; have HN := Lib.hid hn; have HOA := Lib.hid hoa; have HKA := Lib.hid hka
  have hna : n ≤ 160 := by rw [hn]; exact HTL.out
  clear f4 hn hoa hka
  go_wp2_with fail
  refine (enc_u w4 _ _ ys l dl HYB.out (HIN.out.kept0 (F23.out.trans F34.out (fun _ _ h => h))) (HLB.out.kept0 F34.out).sl HDN.out (HT.out.kept0 F4.out)).mono ?_
  rintro e w5 ⟨f5, B, m, rfl, hm, hob, hkb⟩
  rw [← HTE.out]
  rw [← HTB.out] at hm hob
  have F5 := Lib.hid (F4.out.trans f5 (fun _ _ h => h)); have F45 := Lib.hid f5; have F35 := Lib.hid (F34.out.trans f5 (fun _ _ h => h)); have F25 := Lib.hid (F23.out.trans (F34.out.trans f5 (fun _ _ h => h)) (fun _ _ h => h)); have HM := Lib.hid hm; have HOB := Lib.hid hob; have HKB := Lib.hid hkb
  have hmb : m ≤ 160 := by rw [hm]; exact HTL.out
  clear f5 hm hob hkb F23 F34
  have hs5 := F5.out.size; have hs45 := F45.out.size; have hs4 := F4.out.size; have hs35 := F35.out.size; have hs3 := F3.out.size
  have HS := Lib.hid (And.intro hs5 (And.intro hs45 (And.intro hs4 (And.intro hs35 hs3))))
  clear hs5 hs45 hs4 hs35 hs3
  go_wp2_with fail
  have hbk0 : Bk (w5.alloc (.cells #[.slice none 0 0, .slice none 0 0, .slice none 0 0, .slice none 0 0, .slice none 0 0, .slice none 0 0, .slice none 0 0, .slice none 0 0, .slice none 0 0, .slice none 0 0, .slice none 0 0, .slice none 0 0, .slice none 0 0, .slice none 0 0, .slice none 0 0, .slice none 0 0, .slice none 0 0, .slice none 0 0, .slice none 0 0, .slice none 0 0, .slice none 0 0, .slice none 0 0, .slice none 0 0] 57)) w5.heap.size (.slice none 0 0) [] := ⟨heap_alloc_new _ _, ⟨rfl, .inl ⟨rfl, rfl⟩⟩, by simp [Value.ownBlock]⟩
  have hbs0 := BS.first (w := w5) (lo := w.heap.size) hbk0 (Nat.le_refl _)
  have HBS0 := Lib.hid hbs0
  clear hbs0
  refine (book_bytes w5.heap.size _ (.slice none 0 0) [] A n n hbk0 (by simp)).mono ?_
  rintro e w6 ⟨rfl, v6, hb6, f6, m6⟩
  have hal : Fr no w5 (w5.alloc (.cells #[.slice none 0 0, .slice none 0 0, .slice none 0 0, .slice none 0 0, .slice none 0 0, .slice none 0 0, .slice none 0 0, .slice none 0 0, .slice none 0 0, .slice none 0 0, .slice none 0 0, .slice none 0 0, .slice none 0 0, .slice none 0 0, .slice none 0 0, .slice none 0 0, .slice none 0 0, .slice none 0 0, .slice none 0 0, .slice none 0 0, .slice none 0 0, .slice none 0 0, .slice none 0 0] 57)) := by (repeat first | exact Fr.refl _ _ | exact Fr.drewN _ _ _ | apply Fr.drew | apply Fr.alloc | apply Fr.setAt | apply Fr.moreN)
  have hbs6 := HBS0.out.add (n := n) (by omega) ((HOA.out.kept0 F45.out).kept0 hal) (fun k hk => by
      have h1 := HOA.out.lt k hk
      have h7 := HKA.out k hk
      obtain ⟨h2, h3, h4, h5, h6⟩ := HS.out
      refine ⟨fun h => ?_, fun h => ?_, by omega⟩
      · rcases h with h | h
        · omega
        · simp [Value.ownBlock] at h
      · obtain ⟨v, hv, _⟩ := h
        cases hv) hb6 f6 m6 hal.size
  have f56 : Fr no w5 w6 := hal.trans f6 (fun k hk h => by
    rcases h with h | h
    · omega
    · simp [Value.ownBlock] at h)
  have HBS6 := Lib.hid hbs6; have F56 := Lib.hid f56
  clear hb6 f6 m6 hal hbs6 f56 hbk0 HBS0
  go_wp2_with fail
  refine (book_bytes w5.heap.size w6 v6 _ B m m HBS6.out.bk (by simp)).mono ?_
  rintro e w7 ⟨rfl, v7, hb7, f7, m7⟩
  have hbs7 := HBS6.out.add (n := m) (by omega) (HOB.out.kept0 F56.out) (fun k hk => by
      have h1 := HOB.out.lt k hk
      have h7 := HKB.out k hk
      obtain ⟨h2, h3, h4, h5, h6⟩ := HS.out
      refine ⟨fun h => ?_, fun h => ?_, by omega⟩
      · have h8 := HBS6.out.hi k h
        omega
      · obtain ⟨v, hv, hvk⟩ := h
        simp only [List.nil_append, List.mem_cons, List.not_mem_nil, or_false] at hv
        subst hv
        have h8 := HOA.out.lt k hvk
        omega) hb7 f7 m7 F56.out.size
  have f57 : Fr no w5 w7 := F56.out.trans f7 (fun k hk h => by
    have h2 := HBS6.out.hi k h
    omega)
  have hoa7 := HOA.out.kept0 (F45.out.trans f57 (fun _ _ h => h))
  have hob7 := HOB.out.kept0 f57
  have HBS7 := Lib.hid hbs7; have F57 := Lib.hid f57; have HOA7 := Lib.hid hoa7; have HOB7 := Lib.hid hob7
  clear hb7 f7 m7 hbs7 f57 hoa7 hob7 HBS6 F56
  go_wp2_with fail
  go_loopw [12] (fun iv wr => ∃ (j : Nat) (bv : Value) (rs : List Value), j ≤ l.length ∧ j ≤ 6 ∧ iv = .int .i64 (j : Int) ∧ BS w.heap.size w5.heap.size wr w5.heap.size bv rs ∧ rs.length = 2 + j ∧ .slice A n n ∈ rs ∧ .slice B m m ∈ rs ∧ Ow wr 5 1 (.slice A n n) n (bvs tb) ∧ Ow wr 5 1 (.slice B m m) m (bvs tb) ∧ Fr no w5 wr) (fun iv _ => 7 - (intOf iv).toNat)
  case atStart => exact ⟨0, v7, _, Nat.zero_le _, Nat.zero_le _, rfl, HBS7.out, rfl, by simp, by simp, HOA7.out, HOB7.out, F57.out⟩
  case round =>
    obtain ⟨j, bv, rs, hj, hj6, rfl, hbs, hrl, hma, hmb2, hoa, hob, hfr⟩ := hrel
    have HBS := Lib.hid hbs; have HRL := Lib.hid hrl; have HMA := Lib.hid hma; have HMB := Lib.hid hmb2; have HA := Lib.hid hoa; have HB := Lib.hid hob; have FR := Lib.hid hfr
    clear hbs hrl hma hmb2 hoa hob hfr
    by_cases hlt : j < l.length ∧ j < 6
    · obtain ⟨hlt, hlt6⟩ := hlt
      have hlty : j < ys.length := by have := HYL.out; omega
      have hXi := HX.out.kept0 (F5.out.trans FR.out (fun _ _ h => h))
      have hYi := HIN.out.kept0 (F25.out.trans FR.out (fun _ _ h => h))
      obtain ⟨b, o, KB, kb, KL, kl, KF, kf, hgo, hfj, q0, q1, q2, q3, q4, q5, q6, hgl⟩ := In.get hYi j hlty
      simp only [Option.some.injEq, Addr.mk.injEq, and_true] at hgo
      obtain ⟨rfl, rfl⟩ := hgo
      obtain ⟨b', o', LB', lb, LL, ll, LF, lf, rfl, hfj', r0, r1, r2, r3, r4, r5, r6, hgl'⟩ := In.get hXi j hlt
      have hbj := map_at HYB.out j hlty hlt
      have hoe := conv_err (oneErr l[j]) (oneErr_le l[j])
      have hol := ob4_len (fallsB dl j) l[j]
      have h1 := fun W (f : Fr no wr W) => one_u W ys[j] l[j] (fallsB dl j) hbj ((hYi.good _ (List.getElem_mem _)).kept0 f) (HT.out.kept0 ((F5.out.trans FR.out (fun _ _ h => h)).trans f (fun _ _ h => h)))
      have h2 := fun W (f : Fr no wr W) => one4_u W l[j] (fallsB dl j) ((hXi.good _ (List.getElem_mem _)).kept0 f) (HPA.out _ (List.getElem_mem _))
      rw [hfj.agg] at h1
      rw [hfj'.agg] at h2
      obtain ⟨oe, hoq⟩ : ∃ oe, oe = oneErr l[j] := ⟨_, rfl⟩
      obtain ⟨obj, hobq⟩ : ∃ ob, ob = ob4 (fallsB dl j) l[j] := ⟨_, rfl⟩
      rw [← hoq] at h1 h2 hoe
      rw [← hobq] at h1 h2 hol
      simp only [Nat.zero_add] at q0 q1 q2 q3 q4 q5 q6
      have H1 := Lib.hid h1; have H2 := Lib.hid h2; have HOL := Lib.hid hol
      clear h1 h2 hol hfj hfj' hbj hXi hYi hoq hobq
      by_cases hdj : j < dl.length
      · obtain ⟨db, dob, rfl, hdc⟩ := bls_at (HD.out.kept0 (F5.out.trans FR.out (fun _ _ h => h))) j hdj
        have hde : dl[j] = fallsB dl j := by unfold fallsB; simp [hdj]
        rw [hde] at hdc
        clear hde
        go_wp2_with fail
        refine wp_region_ord (List.range 20) (fun i => [Kd.p, Kd.p, Kd.p, Kd.l, Kd.p, Kd.p, Kd.p, Kd.p, Kd.p, Kd.p, Kd.p, Kd.p, Kd.l, Kd.p, Kd.g, Kd.p, Kd.p, Kd.p, Kd.p, Kd.p].getD i .e) (by kernel_rfl) (by kernel_rfl) ?_
        iterate 14
          first | (refine wpX_un rfl rfl ?_; go_simp) | first | refine wpX_pu rfl rfl rfl (by first | exact pu_move rfl | exact pu_assign rfl | exact pu_nilCheck rfl rfl | exact pu_binInt rfl rfl rfl | exact pu_conv rfl rfl (by kernel_rfl) | exact pu_fld rfl (by kernel_rfl) | exact pu_ix rfl rfl rfl (by kernel_rfl) | exact pu_unOp rfl | exact pu_binStr rfl rfl rfl | exact pu_len rfl rfl | exact pu_lens rfl rfl | exact pu_pick rfl | exact pu_slice rfl rfl) (fun K hK => ?_) | refine wpX_rd rfl rfl rfl (rd_load rfl) (fun K hK => ?_) | refine wpX_gr rfl rfl rfl (by first | exact gr_buildSlice rfl | exact gr_box rfl | exact gr_alloc rfl) (fun K hK => ?_) | refine wpX_ex rfl rfl rfl (fun K hK => ?_)
          try go_wp2
        refine wpX_ca rfl rfl rfl (fun K hK => ?_)
        go_wp2_with fail
        refine (H1.out _ (by (repeat first | exact Fr.refl _ _ | exact Fr.drewN _ _ _ | apply Fr.drew | apply Fr.alloc | apply Fr.setAt | apply Fr.moreN))).mono ?_
        rintro e u1 ⟨f1, P, np, rfl, hpn, hop, hkp⟩
        have G10 := Lib.hid f1; have G1 := Lib.hid ((by (repeat first | exact Fr.refl _ _ | exact Fr.drewN _ _ _ | apply Fr.drew | apply Fr.alloc | apply Fr.setAt | apply Fr.moreN) : Fr no wr _).trans f1 (fun _ _ h => h)); have HPN := Lib.hid hpn; have HOP := Lib.hid hop
        have hkp2 : ∀ k, Value.ownBlock (.slice P np np) = some k → wr.heap.size ≤ k := hkp
        have HKP := Lib.hid hkp2
        have hnp : np ≤ 160 := by rw [hpn]; exact HOL.out
        clear f1 hpn hop hkp hkp2
        go_wp2
        obtain ⟨⟨ea, eb⟩, hext⟩ := G10.out.ext
        refine ⟨⟨ea, eb, hext⟩, hK _ _ ?_⟩
        clear hK K hext ea eb
        first | refine wpX_pu rfl rfl rfl (by first | exact pu_move rfl | exact pu_assign rfl | exact pu_nilCheck rfl rfl | exact pu_binInt rfl rfl rfl | exact pu_conv rfl rfl (by kernel_rfl) | exact pu_fld rfl (by kernel_rfl) | exact pu_ix rfl rfl rfl (by kernel_rfl) | exact pu_unOp rfl | exact pu_binStr rfl rfl rfl | exact pu_len rfl rfl | exact pu_lens rfl rfl | exact pu_pick rfl | exact pu_slice rfl rfl) (fun K hK => ?_) | refine wpX_rd rfl rfl rfl (rd_load rfl) (fun K hK => ?_) | refine wpX_gr rfl rfl rfl (by first | exact gr_buildSlice rfl | exact gr_box rfl | exact gr_alloc rfl) (fun K hK => ?_) | refine wpX_ex rfl rfl rfl (fun K hK => ?_)
        try go_wp2
        refine wpX_pv (.slice P np np) rfl rfl rfl (fun w' => by first | rfl | simp [execOp, Act.eval]) ?_
        refine wpX_pv (.int .u16 oe) rfl rfl rfl (fun w' => by first | rfl | simp [execOp, Act.eval]) ?_
        go_simp
        iterate 2
          first | refine wpX_pu rfl rfl rfl (by first | exact pu_move rfl | exact pu_assign rfl | exact pu_nilCheck rfl rfl | exact pu_binInt rfl rfl rfl | exact pu_conv rfl rfl (by kernel_rfl) | exact pu_fld rfl (by kernel_rfl) | exact pu_ix rfl rfl rfl (by kernel_rfl) | exact pu_unOp rfl | exact pu_binStr rfl rfl rfl | exact pu_len rfl rfl | exact pu_lens rfl rfl | exact pu_pick rfl | exact pu_slice rfl rfl) (fun K hK => ?_) | refine wpX_rd rfl rfl rfl (rd_load rfl) (fun K hK => ?_) | refine wpX_gr rfl rfl rfl (by first | exact gr_buildSlice rfl | exact gr_box rfl | exact gr_alloc rfl) (fun K hK => ?_) | refine wpX_ex rfl rfl rfl (fun K hK => ?_)
          try go_wp2
        refine wpX_done ?_
        have r0 := G1.out.cell r0 (fun h => h); have r1 := G1.out.cell r1 (fun h => h); have r2 := G1.out.cell r2 (fun h => h); have r3 := G1.out.cell r3 (fun h => h); have r4 := G1.out.cell r4 (fun h => h); have r5 := G1.out.cell r5 (fun h => h); have r6 := G1.out.cell r6 (fun h => h)
        have hgl' := Nat.lt_of_lt_of_le hgl' G1.out.size
        have hdc := G1.out.cell hdc (fun h => h)
        clear q0 q1 q2 q3 q4 q5 q6 hgl
        go_wp2_with fail
        refine wp_region_ord (List.range 20) (fun i => [Kd.p, Kd.p, Kd.p, Kd.l, Kd.p, Kd.p, Kd.p, Kd.p, Kd.p, Kd.p, Kd.p, Kd.p, Kd.l, Kd.p, Kd.g, Kd.p, Kd.p, Kd.p, Kd.p, Kd.p].getD i .e) (by kernel_rfl) (by kernel_rfl) ?_
        iterate 14
          first | (refine wpX_un rfl rfl ?_; go_simp) | first | refine wpX_pu rfl rfl rfl (by first | exact pu_move rfl | exact pu_assign rfl | exact pu_nilCheck rfl rfl | exact pu_binInt rfl rfl rfl | exact pu_conv rfl rfl (by kernel_rfl) | exact pu_fld rfl (by kernel_rfl) | exact pu_ix rfl rfl rfl (by kernel_rfl) | exact pu_unOp rfl | exact pu_binStr rfl rfl rfl | exact pu_len rfl rfl | exact pu_lens rfl rfl | exact pu_pick rfl | exact pu_slice rfl rfl) (fun K hK => ?_) | refine wpX_rd rfl rfl rfl (rd_load rfl) (fun K hK => ?_) | refine wpX_gr rfl rfl rfl (by first | exact gr_buildSlice rfl | exact gr_box rfl | exact gr_alloc rfl) (fun K hK => ?_) | refine wpX_ex rfl rfl rfl (fun K hK => ?_)
          try go_wp2
        refine wpX_ca rfl rfl rfl (fun K hK => ?_)
        go_wp2_with fail
        refine (H2.out _ (G1.out.trans (by (repeat first | exact Fr.refl _ _ | exact Fr.drewN _ _ _ | apply Fr.drew | apply Fr.alloc | apply Fr.setAt | apply Fr.moreN) : Fr no u1 _) (fun _ _ h => h))).mono ?_
        rintro e u2 ⟨f2, Q, nq, cq, rfl, hqn, hoq, hkq⟩
        have hkq2 : ∀ k, Value.ownBlock (.slice Q nq cq) = some k → u1.heap.size ≤ k := hkq
        have HKQ := Lib.hid hkq2
        clear hkq hkq2
        have G20 := Lib.hid f2; have G12 := Lib.hid ((by (repeat first | exact Fr.refl _ _ | exact Fr.drewN _ _ _ | apply Fr.drew | apply Fr.alloc | apply Fr.setAt | apply Fr.moreN) : Fr no u1 _).trans f2 (fun _ _ h => h)); have HQN := Lib.hid hqn; have HOQ := Lib.hid hoq
        have hnq : nq ≤ 160 := by rw [hqn]; exact HOL.out
        clear f2 hqn hoq
        go_wp2
        obtain ⟨⟨ea, eb⟩, hext⟩ := G20.out.ext
        refine ⟨⟨ea, eb, hext⟩, hK _ _ ?_⟩
        clear hK K hext ea eb
        first | refine wpX_pu rfl rfl rfl (by first | exact pu_move rfl | exact pu_assign rfl | exact pu_nilCheck rfl rfl | exact pu_binInt rfl rfl rfl | exact pu_conv rfl rfl (by kernel_rfl) | exact pu_fld rfl (by kernel_rfl) | exact pu_ix rfl rfl rfl (by kernel_rfl) | exact pu_unOp rfl | exact pu_binStr rfl rfl rfl | exact pu_len rfl rfl | exact pu_lens rfl rfl | exact pu_pick rfl | exact pu_slice rfl rfl) (fun K hK => ?_) | refine wpX_rd rfl rfl rfl (rd_load rfl) (fun K hK => ?_) | refine wpX_gr rfl rfl rfl (by first | exact gr_buildSlice rfl | exact gr_box rfl | exact gr_alloc rfl) (fun K hK => ?_) | refine wpX_ex rfl rfl rfl (fun K hK => ?_)
        try go_wp2
        refine wpX_pv (.slice Q nq cq) rfl rfl rfl (fun w' => by first | rfl | simp [execOp, Act.eval]) ?_
        refine wpX_pv (.int .i64 oe) rfl rfl rfl (fun w' => by first | rfl | simp [execOp, Act.eval]) ?_
        go_simp
        iterate 2
          first | refine wpX_pu rfl rfl rfl (by first | exact pu_move rfl | exact pu_assign rfl | exact pu_nilCheck rfl rfl | exact pu_binInt rfl rfl rfl | exact pu_conv rfl rfl (by kernel_rfl) | exact pu_fld rfl (by kernel_rfl) | exact pu_ix rfl rfl rfl (by kernel_rfl) | exact pu_unOp rfl | exact pu_binStr rfl rfl rfl | exact pu_len rfl rfl | exact pu_lens rfl rfl | exact pu_pick rfl | exact pu_slice rfl rfl) (fun K hK => ?_) | refine wpX_rd rfl rfl rfl (rd_load rfl) (fun K hK => ?_) | refine wpX_gr rfl rfl rfl (by first | exact gr_buildSlice rfl | exact gr_box rfl | exact gr_alloc rfl) (fun K hK => ?_) | refine wpX_ex rfl rfl rfl (fun K hK => ?_)
          try go_wp2
        refine wpX_done ?_
        clear r0 r1 r2 r3 r4 r5 r6 hgl' hdc
        have g2 := G1.out.trans G12.out (fun _ _ h => h)
        have hbs2 := HBS.out.kept0 g2
        have G2 := Lib.hid g2; have HBS2 := Lib.hid hbs2
        clear g2 hbs2
        go_wp2_with fail
        refine (book_bytes w5.heap.size u2 bv rs P np np HBS2.out.bk (by have := HRL.out; omega)).mono ?_
        rintro e u3 ⟨rfl, v3, hb3, f3, m3⟩
        have hop2 := HOP.out.kept0 G12.out
        have hs5r := FR.out.size
        have hbs3 := HBS2.out.add (n := np) (by omega) hop2 (fun k hk => by
            have h1 := HKP.out k hk
            obtain ⟨h2, h3, h4, h5, h6⟩ := HS.out
            refine ⟨fun h => ?_, fun h => ?_, by omega⟩
            · have h2 := HBS.out.lt.2 k h
              omega
            · have h2 := HBS.out.lt.1 k h
              omega) hb3 f3 m3 (Nat.le_trans hs5r G2.out.size)
        have f53 : Fr no w5 u3 := (FR.out.trans G2.out (fun _ _ h => h)).trans f3 (fun k hk h => by
          have h2 := HBS2.out.hi k h
          omega)
        have hsp : Sl u3 1 (.slice P np np) obj.length (bvs obj) := by
          rw [← HPN.out]
          exact (hop2.kept f3 (fun k hk h => by
            have h1 := HKP.out k hk
            have h2 := HBS.out.lt.2 k h
            omega)).sl
        have hsq : Sl u3 1 (.slice Q nq cq) obj.length (bvs obj) := by
          rw [← HQN.out]
          exact (HOQ.out.kept f3 (fun k hk h => by
            have h1 := HKQ.out k hk
            have h2 := HBS.out.lt.2 k h
            have h3 := G1.out.size
            omega)).sl
        have ha3 := (HA.out.kept0 G2.out).kept f3 (fun k hk h => HBS2.out.dj k h ⟨_, HMA.out, hk⟩)
        have hb4 := (HB.out.kept0 G2.out).kept f3 (fun k hk h => HBS2.out.dj k h ⟨_, HMB.out, hk⟩)
        have hsm := same_any u3 (.slice P np np) (.slice Q nq cq) obj obj hsp hsq (by have := HOL.out; omega) (by have := HOL.out; omega)
        have HSM := Lib.hid hsm; have HBS3 := Lib.hid hbs3; have F53 := Lib.hid f53; have HA3 := Lib.hid ha3; have HB3 := Lib.hid hb4
        clear hb3 f3 m3 hop2 hbs3 f53 hsp hsq ha3 hb4 hsm hs5r
        go_wp2_with fail
        refine HSM.out.mono ?_
        rintro e u4 ⟨rfl, n4, hu4⟩
        have f4 : Fr no u3 u4 := by rw [hu4]; exact Fr.drewN no u3 n4
        have G4 := Lib.hid f4
        clear f4 hu4 HSM
        simp only [decide_true]
        go_wp2
        go_roundw
        case rel => exact ⟨j + 1, v3, rs ++ [.slice P np np], by omega, by omega, by first | rfl | go_num, HBS3.out.kept0 G4.out, (by rw [List.length_append, HRL.out]; simp only [List.length_cons, List.length_nil]; omega), List.mem_append_left _ HMA.out, List.mem_append_left _ HMB.out, HA3.out.kept0 G4.out, HB3.out.kept0 G4.out, F53.out.trans G4.out (fun _ _ h => h)⟩
        case measure => simp [intOf]; omega
      · have hde : fallsB dl j = false := by unfold fallsB; simp [hdj]
        rw [hde] at H1 H2
        clear hde
        go_wp2_with fail
        refine wp_region_ord (List.range 20) (fun i => [Kd.p, Kd.p, Kd.p, Kd.l, Kd.p, Kd.p, Kd.p, Kd.p, Kd.p, Kd.p, Kd.p, Kd.p, Kd.l, Kd.p, Kd.g, Kd.p, Kd.p, Kd.p, Kd.p, Kd.p].getD i .e) (by kernel_rfl) (by kernel_rfl) ?_
        iterate 14
          first | (refine wpX_un rfl rfl ?_; go_simp) | first | refine wpX_pu rfl rfl rfl (by first | exact pu_move rfl | exact pu_assign rfl | exact pu_nilCheck rfl rfl | exact pu_binInt rfl rfl rfl | exact pu_conv rfl rfl (by kernel_rfl) | exact pu_fld rfl (by kernel_rfl) | exact pu_ix rfl rfl rfl (by kernel_rfl) | exact pu_unOp rfl | exact pu_binStr rfl rfl rfl | exact pu_len rfl rfl | exact pu_lens rfl rfl | exact pu_pick rfl | exact pu_slice rfl rfl) (fun K hK => ?_) | refine wpX_rd rfl rfl rfl (rd_load rfl) (fun K hK => ?_) | refine wpX_gr rfl rfl rfl (by first | exact gr_buildSlice rfl | exact gr_box rfl | exact gr_alloc rfl) (fun K hK => ?_) | refine wpX_ex rfl rfl rfl (fun K hK => ?_)
          try go_wp2
        refine wpX_ca rfl rfl rfl (fun K hK => ?_)
        go_wp2_with fail
        refine (H1.out _ (by (repeat first | exact Fr.refl _ _ | exact Fr.drewN _ _ _ | apply Fr.drew | apply Fr.alloc | apply Fr.setAt | apply Fr.moreN))).mono ?_
        rintro e u1 ⟨f1, P, np, rfl, hpn, hop, hkp⟩
        have G10 := Lib.hid f1; have G1 := Lib.hid ((by (repeat first | exact Fr.refl _ _ | exact Fr.drewN _ _ _ | apply Fr.drew | apply Fr.alloc | apply Fr.setAt | apply Fr.moreN) : Fr no wr _).trans f1 (fun _ _ h => h)); have HPN := Lib.hid hpn; have HOP := Lib.hid hop
        have hkp2 : ∀ k, Value.ownBlock (.slice P np np) = some k → wr.heap.size ≤ k := hkp
        have HKP := Lib.hid hkp2
        have hnp : np ≤ 160 := by rw [hpn]; exact HOL.out
        clear f1 hpn hop hkp hkp2
        go_wp2
        obtain ⟨⟨ea, eb⟩, hext⟩ := G10.out.ext
        refine ⟨⟨ea, eb, hext⟩, hK _ _ ?_⟩
        clear hK K hext ea eb
        first | refine wpX_pu rfl rfl rfl (by first | exact pu_move rfl | exact pu_assign rfl | exact pu_nilCheck rfl rfl | exact pu_binInt rfl rfl rfl | exact pu_conv rfl rfl (by kernel_rfl) | exact pu_fld rfl (by kernel_rfl) | exact pu_ix rfl rfl rfl (by kernel_rfl) | exact pu_unOp rfl | exact pu_binStr rfl rfl rfl | exact pu_len rfl rfl | exact pu_lens rfl rfl | exact pu_pick rfl | exact pu_slice rfl rfl) (fun K hK => ?_) | refine wpX_rd rfl rfl rfl (rd_load rfl) (fun K hK => ?_) | refine wpX_gr rfl rfl rfl (by first | exact gr_buildSlice rfl | exact gr_box rfl | exact gr_alloc rfl) (fun K hK => ?_) | refine wpX_ex rfl rfl rfl (fun K hK => ?_)
        try go_wp2
        refine wpX_pv (.slice P np np) rfl rfl rfl (fun w' => by first | rfl | simp [execOp, Act.eval]) ?_
        refine wpX_pv (.int .u16 oe) rfl rfl rfl (fun w' => by first | rfl | simp [execOp, Act.eval]) ?_
        go_simp
        iterate 2
          first | refine wpX_pu rfl rfl rfl (by first | exact pu_move rfl | exact pu_assign rfl | exact pu_nilCheck rfl rfl | exact pu_binInt rfl rfl rfl | exact pu_conv rfl rfl (by kernel_rfl) | exact pu_fld rfl (by kernel_rfl) | exact pu_ix rfl rfl rfl (by kernel_rfl) | exact pu_unOp rfl | exact pu_binStr rfl rfl rfl | exact pu_len rfl rfl | exact pu_lens rfl rfl | exact pu_pick rfl | exact pu_slice rfl rfl) (fun K hK => ?_) | refine wpX_rd rfl rfl rfl (rd_load rfl) (fun K hK => ?_) | refine wpX_gr rfl rfl rfl (by first | exact gr_buildSlice rfl | exact gr_box rfl | exact gr_alloc rfl) (fun K hK => ?_) | refine wpX_ex rfl rfl rfl (fun K hK => ?_)
          try go_wp2
        refine wpX_done ?_
        have r0 := G1.out.cell r0 (fun h => h); have r1 := G1.out.cell r1 (fun h => h); have r2 := G1.out.cell r2 (fun h => h); have r3 := G1.out.cell r3 (fun h => h); have r4 := G1.out.cell r4 (fun h => h); have r5 := G1.out.cell r5 (fun h => h); have r6 := G1.out.cell r6 (fun h => h)
        have hgl' := Nat.lt_of_lt_of_le hgl' G1.out.size
        clear q0 q1 q2 q3 q4 q5 q6 hgl
        go_wp2_with fail
        refine wp_region_ord (List.range 20) (fun i => [Kd.p, Kd.p, Kd.p, Kd.l, Kd.p, Kd.p, Kd.p, Kd.p, Kd.p, Kd.p, Kd.p, Kd.p, Kd.l, Kd.p, Kd.g, Kd.p, Kd.p, Kd.p, Kd.p, Kd.p].getD i .e) (by kernel_rfl) (by kernel_rfl) ?_
        iterate 14
          first | (refine wpX_un rfl rfl ?_; go_simp) | first | refine wpX_pu rfl rfl rfl (by first | exact pu_move rfl | exact pu_assign rfl | exact pu_nilCheck rfl rfl | exact pu_binInt rfl rfl rfl | exact pu_conv rfl rfl (by kernel_rfl) | exact pu_fld rfl (by kernel_rfl) | exact pu_ix rfl rfl rfl (by kernel_rfl) | exact pu_unOp rfl | exact pu_binStr rfl rfl rfl | exact pu_len rfl rfl | exact pu_lens rfl rfl | exact pu_pick rfl | exact pu_slice rfl rfl) (fun K hK => ?_) | refine wpX_rd rfl rfl rfl (rd_load rfl) (fun K hK => ?_) | refine wpX_gr rfl rfl rfl (by first | exact gr_buildSlice rfl | exact gr_box rfl | exact gr_alloc rfl) (fun K hK => ?_) | refine wpX_ex rfl rfl rfl (fun K hK => ?_)
          try go_wp2
        refine wpX_ca rfl rfl rfl (fun K hK => ?_)
        go_wp2_with fail
        refine (H2.out _ (G1.out.trans (by (repeat first | exact Fr.refl _ _ | exact Fr.drewN _ _ _ | apply Fr.drew | apply Fr.alloc | apply Fr.setAt | apply Fr.moreN) : Fr no u1 _) (fun _ _ h => h))).mono ?_
        rintro e u2 ⟨f2, Q, nq, cq, rfl, hqn, hoq, hkq⟩
        have hkq2 : ∀ k, Value.ownBlock (.slice Q nq cq) = some k → u1.heap.size ≤ k := hkq
        have HKQ := Lib.hid hkq2
        clear hkq hkq2
        have G20 := Lib.hid f2; have G12 := Lib.hid ((by (repeat first | exact Fr.refl _ _ | exact Fr.drewN _ _ _ | apply Fr.drew | apply Fr.alloc | apply Fr.setAt | apply Fr.moreN) : Fr no u1 _).trans f2 (fun _ _ h => h)); have HQN := Lib.hid hqn; have HOQ := Lib.hid hoq
        have hnq : nq ≤ 160 := by rw [hqn]; exact HOL.out
        clear f2 hqn hoq
        go_wp2
        obtain ⟨⟨ea, eb⟩, hext⟩ := G20.out.ext
        refine ⟨⟨ea, eb, hext⟩, hK _ _ ?_⟩
        clear hK K hext ea eb
        first | refine wpX_pu rfl rfl rfl (by first | exact pu_move rfl | exact pu_assign rfl | exact pu_nilCheck rfl rfl | exact pu_binInt rfl rfl rfl | exact pu_conv rfl rfl (by kernel_rfl) | exact pu_fld rfl (by kernel_rfl) | exact pu_ix rfl rfl rfl (by kernel_rfl) | exact pu_unOp rfl | exact pu_binStr rfl rfl rfl | exact pu_len rfl rfl | exact pu_lens rfl rfl | exact pu_pick rfl | exact pu_slice rfl rfl) (fun K hK => ?_) | refine wpX_rd rfl rfl rfl (rd_load rfl) (fun K hK => ?_) | refine wpX_gr rfl rfl rfl (by first | exact gr_buildSlice rfl | exact gr_box rfl | exact gr_alloc rfl) (fun K hK => ?_) | refine wpX_ex rfl rfl rfl (fun K hK => ?_)
        try go_wp2
        refine wpX_pv (.slice Q nq cq) rfl rfl rfl (fun w' => by first | rfl | simp [execOp, Act.eval]) ?_
        refine wpX_pv (.int .i64 oe) rfl rfl rfl (fun w' => by first | rfl | simp [execOp, Act.eval]) ?_
        go_simp
        iterate 2
          first | refine wpX_pu rfl rfl rfl (by first | exact pu_move rfl | exact pu_assign rfl | exact pu_nilCheck rfl rfl | exact pu_binInt rfl rfl rfl | exact pu_conv rfl rfl (by kernel_rfl) | exact pu_fld rfl (by kernel_rfl) | exact pu_ix rfl rfl rfl (by kernel_rfl) | exact pu_unOp rfl | exact pu_binStr rfl rfl rfl | exact pu_len rfl rfl | exact pu_lens rfl rfl | exact pu_pick rfl | exact pu_slice rfl rfl) (fun K hK => ?_) | refine wpX_rd rfl rfl rfl (rd_load rfl) (fun K hK => ?_) | refine wpX_gr rfl rfl rfl (by first | exact gr_buildSlice rfl | exact gr_box rfl | exact gr_alloc rfl) (fun K hK => ?_) | refine wpX_ex rfl rfl rfl (fun K hK => ?_)
          try go_wp2
        refine wpX_done ?_
        clear r0 r1 r2 r3 r4 r5 r6 hgl'
        have g2 := G1.out.trans G12.out (fun _ _ h => h)
        have hbs2 := HBS.out.kept0 g2
        have G2 := Lib.hid g2; have HBS2 := Lib.hid hbs2
        clear g2 hbs2
        go_wp2_with fail
        refine (book_bytes w5.heap.size u2 bv rs P np np HBS2.out.bk (by have := HRL.out; omega)).mono ?_
        rintro e u3 ⟨rfl, v3, hb3, f3, m3⟩
        have hop2 := HOP.out.kept0 G12.out
        have hs5r := FR.out.size
        have hbs3 := HBS2.out.add (n := np) (by omega) hop2 (fun k hk => by
            have h1 := HKP.out k hk
            obtain ⟨h2, h3, h4, h5, h6⟩ := HS.out
            refine ⟨fun h => ?_, fun h => ?_, by omega⟩
            · have h2 := HBS.out.lt.2 k h
              omega
            · have h2 := HBS.out.lt.1 k h
              omega) hb3 f3 m3 (Nat.le_trans hs5r G2.out.size)
        have f53 : Fr no w5 u3 := (FR.out.trans G2.out (fun _ _ h => h)).trans f3 (fun k hk h => by
          have h2 := HBS2.out.hi k h
          omega)
        have hsp : Sl u3 1 (.slice P np np) obj.length (bvs obj) := by
          rw [← HPN.out]
          exact (hop2.kept f3 (fun k hk h => by
            have h1 := HKP.out k hk
            have h2 := HBS.out.lt.2 k h
            omega)).sl
        have hsq : Sl u3 1 (.slice Q nq cq) obj.length (bvs obj) := by
          rw [← HQN.out]
          exact (HOQ.out.kept f3 (fun k hk h => by
            have h1 := HKQ.out k hk
            have h2 := HBS.out.lt.2 k h
            have h3 := G1.out.size
            omega)).sl
        have ha3 := (HA.out.kept0 G2.out).kept f3 (fun k hk h => HBS2.out.dj k h ⟨_, HMA.out, hk⟩)
        have hb4 := (HB.out.kept0 G2.out).kept f3 (fun k hk h => HBS2.out.dj k h ⟨_, HMB.out, hk⟩)
        have hsm := same_any u3 (.slice P np np) (.slice Q nq cq) obj obj hsp hsq (by have := HOL.out; omega) (by have := HOL.out; omega)
        have HSM := Lib.hid hsm; have HBS3 := Lib.hid hbs3; have F53 := Lib.hid f53; have HA3 := Lib.hid ha3; have HB3 := Lib.hid hb4
        clear hb3 f3 m3 hop2 hbs3 f53 hsp hsq ha3 hb4 hsm hs5r
        go_wp2_with fail
        refine HSM.out.mono ?_
        rintro e u4 ⟨rfl, n4, hu4⟩
        have f4 : Fr no u3 u4 := by rw [hu4]; exact Fr.drewN no u3 n4
        have G4 := Lib.hid f4
        clear f4 hu4 HSM
        simp only [decide_true]
        go_wp2
        go_roundw
        case rel => exact ⟨j + 1, v3, rs ++ [.slice P np np], by omega, by omega, by first | rfl | go_num, HBS3.out.kept0 G4.out, (by rw [List.length_append, HRL.out]; simp only [List.length_cons, List.length_nil]; omega), List.mem_append_left _ HMA.out, List.mem_append_left _ HMB.out, HA3.out.kept0 G4.out, HB3.out.kept0 G4.out, F53.out.trans G4.out (fun _ _ h => h)⟩
        case measure => simp [intOf]; omega
    · have hend : ¬ (j < l.length ∧ j < 6) := hlt
      clear hlt
      have hwv := fun W (f : Fr no wr W) => wholevs_of ys l (fun y _ => wholev_any y) w1.heap.size g W _ _ (HR.out.kept (F25.out.trans (FR.out.trans f (fun _ _ h => h)) (fun _ _ h => h)) (fun _ _ h => h)) (HIN.out.kept0 (F25.out.trans (FR.out.trans f (fun _ _ h => h)) (fun _ _ h => h))) (HX.out.kept0 (F5.out.trans (FR.out.trans f (fun _ _ h => h)) (fun _ _ h => h))) (fun y hy => (HYS.out y hy).kept0 (F25.out.trans (FR.out.trans f (fun _ _ h => h)) (fun _ _ h => h))) HYB.out
      have hwb := fun W (f : Fr no wr W) => wholeb_any W gb _ dl (HLB.out.kept0 (F35.out.trans (FR.out.trans f (fun _ _ h => h)) (fun _ _ h => h))) (HD.out.kept0 (F5.out.trans (FR.out.trans f (fun _ _ h => h)) (fun _ _ h => h))) ldn
      have HWV := Lib.hid hwv; have HWB := Lib.hid hwb
      clear hwv hwb
      by_cases hA1 : j < l.length
      · have hA2 : ¬ j < 6 := fun h => hend ⟨hA1, h⟩
        clear hend
        go_wp2_with fail
        refine (HWV.out _ (Fr.refl _ _)).mono ?_
        rintro e u1 ⟨rfl, f1⟩
        have G1 := Lib.hid f1
        clear f1
        go_wp2_with fail
        refine (HWB.out u1 G1.out).mono ?_
        rintro e u2 ⟨rfl, f2⟩
        have G2 := Lib.hid (G1.out.trans f2 (fun _ _ h => h))
        clear f2 G1
        go_wp2_with fail
        refine (enc4_u u2 _ _ l dl (HX.out.kept0 (F5.out.trans (FR.out.trans G2.out (fun _ _ h => h)) (fun _ _ h => h))) (HD.out.kept0 (F5.out.trans (FR.out.trans G2.out (fun _ _ h => h)) (fun _ _ h => h))) HDN.out HPA.out).mono ?_
        rintro e u3 ⟨f3, Q, nq, cq, rfl, hqn, hoq⟩
        rw [← HTE.out]
        rw [← HTB.out] at hqn hoq
        have G3 := Lib.hid (G2.out.trans f3 (fun _ _ h => h)); have HQN := Lib.hid hqn; have HOQ := Lib.hid hoq
        clear f3 hqn hoq G2
        go_wp2_with fail
        refine (known_any u3 (HT.out.kept0 (F5.out.trans (FR.out.trans G3.out (fun _ _ h => h)) (fun _ _ h => h)))).mono ?_
        rintro e u4 ⟨rfl, f4⟩
        have G34 := Lib.hid f4; have G4 := Lib.hid (G3.out.trans f4 (fun _ _ h => h))
        clear f4
        have hs1 := fun W (f : Fr no u4 W) => same_any W (.slice A n n) (.slice Q nq cq) tb tb (by rw [← HN.out]; exact ((HA.out.kept0 G4.out).kept0 f).sl) (by rw [← HQN.out]; exact ((HOQ.out.kept0 G34.out).kept0 f).sl) (by have := HTL.out; omega) (by have := HTL.out; omega)
        have hs2 := fun W (f : Fr no u4 W) => same_any W (.slice B m m) (.slice Q nq cq) tb tb (by rw [← HM.out]; exact ((HB.out.kept0 G4.out).kept0 f).sl) (by rw [← HQN.out]; exact ((HOQ.out.kept0 G34.out).kept0 f).sl) (by have := HTL.out; omega) (by have := HTL.out; omega)
        have HS1 := Lib.hid hs1; have HS2 := Lib.hid hs2
        clear hs1 hs2
        have hcv := HCV.out
        go_wp2_with fail
        refine (HS1.out _ (by (repeat first | exact Fr.refl _ _ | exact Fr.drewN _ _ _ | apply Fr.drew | apply Fr.alloc | apply Fr.setAt | apply Fr.moreN))).mono ?_
        rintro e u5 ⟨rfl, n5, hu5⟩
        have f5 : Fr no u4 u5 := by rw [hu5]; exact Fr.drewN no u4 n5
        have G5 := Lib.hid f5
        clear f5 hu5
        simp only [decide_true]
        go_wp2_with fail
        refine (HS2.out _ G5.out).mono ?_
        rintro e u6 ⟨rfl, n6, hu6⟩
        have f6 : Fr no u5 u6 := by rw [hu6]; exact Fr.drewN no u5 n6
        have G6 := Lib.hid (G4.out.trans (G5.out.trans f6 (fun _ _ h => h)) (fun _ _ h => h))
        clear f6 hu6 HS1 HS2
        simp only [decide_true]
        have how := (HBS.out.kept0 G6.out).own (by have := HRL.out; omega)
        have HOW := Lib.hid how
        clear how hcv
        go_wp2_with fail
        refine HOW.out.mono ?_
        rintro e u7 ⟨rfl, f7⟩
        have hff : Fr no w u7 := (F5.out.trans (FR.out.trans G6.out (fun _ _ h => h)) (fun _ _ h => h)).trans f7 (fun k hk h => by have := HBS.out.lo k h; omega)
        have HFF := Lib.hid hff
        clear f7 hff
        go_wp2
        go_ret
        exact ⟨rfl, HFF.out⟩
      · clear hend
        go_wp2_with fail
        refine (HWV.out _ (Fr.refl _ _)).mono ?_
        rintro e u1 ⟨rfl, f1⟩
        have G1 := Lib.hid f1
        clear f1
        go_wp2_with fail
        refine (HWB.out u1 G1.out).mono ?_
        rintro e u2 ⟨rfl, f2⟩
        have G2 := Lib.hid (G1.out.trans f2 (fun _ _ h => h))
        clear f2 G1
        go_wp2_with fail
        refine (enc4_u u2 _ _ l dl (HX.out.kept0 (F5.out.trans (FR.out.trans G2.out (fun _ _ h => h)) (fun _ _ h => h))) (HD.out.kept0 (F5.out.trans (FR.out.trans G2.out (fun _ _ h => h)) (fun _ _ h => h))) HDN.out HPA.out).mono ?_
        rintro e u3 ⟨f3, Q, nq, cq, rfl, hqn, hoq⟩
        rw [← HTE.out]
        rw [← HTB.out] at hqn hoq
        have G3 := Lib.hid (G2.out.trans f3 (fun _ _ h => h)); have HQN := Lib.hid hqn; have HOQ := Lib.hid hoq
        clear f3 hqn hoq G2
        go_wp2_with fail
        refine (known_any u3 (HT.out.kept0 (F5.out.trans (FR.out.trans G3.out (fun _ _ h => h)) (fun _ _ h => h)))).mono ?_
        rintro e u4 ⟨rfl, f4⟩
        have G34 := Lib.hid f4; have G4 := Lib.hid (G3.out.trans f4 (fun _ _ h => h))
        clear f4
        have hs1 := fun W (f : Fr no u4 W) => same_any W (.slice A n n) (.slice Q nq cq) tb tb (by rw [← HN.out]; exact ((HA.out.kept0 G4.out).kept0 f).sl) (by rw [← HQN.out]; exact ((HOQ.out.kept0 G34.out).kept0 f).sl) (by have := HTL.out; omega) (by have := HTL.out; omega)
        have hs2 := fun W (f : Fr no u4 W) => same_any W (.slice B m m) (.slice Q nq cq) tb tb (by rw [← HM.out]; exact ((HB.out.kept0 G4.out).kept0 f).sl) (by rw [← HQN.out]; exact ((HOQ.out.kept0 G34.out).kept0 f).sl) (by have := HTL.out; omega) (by have := HTL.out; omega)
        have HS1 := Lib.hid hs1; have HS2 := Lib.hid hs2
        clear hs1 hs2
        have hcv := HCV.out
        go_wp2_with fail
        refine (HS1.out _ (by (repeat first | exact Fr.refl _ _ | exact Fr.drewN _ _ _ | apply Fr.drew | apply Fr.alloc | apply Fr.setAt | apply Fr.moreN))).mono ?_
        rintro e u5 ⟨rfl, n5, hu5⟩
        have f5 : Fr no u4 u5 := by rw [hu5]; exact Fr.drewN no u4 n5
        have G5 := Lib.hid f5
        clear f5 hu5
        simp only [decide_true]
        go_wp2_with fail
        refine (HS2.out _ G5.out).mono ?_
        rintro e u6 ⟨rfl, n6, hu6⟩
        have f6 : Fr no u5 u6 := by rw [hu6]; exact Fr.drewN no u5 n6
        have G6 := Lib.hid (G4.out.trans (G5.out.trans f6 (fun _ _ h => h)) (fun _ _ h => h))
        clear f6 hu6 HS1 HS2
        simp only [decide_true]
        have how := (HBS.out.kept0 G6.out).own (by have := HRL.out; omega)
        have HOW := Lib.hid how
        clear how hcv
        go_wp2_with fail
        refine HOW.out.mono ?_
        rintro e u7 ⟨rfl, f7⟩
        have hff : Fr no w u7 := (F5.out.trans (FR.out.trans G6.out (fun _ _ h => h)) (fun _ _ h => h)).trans f7 (fun k hk h => by have := HBS.out.lo k h; omega)
        have HFF := Lib.hid hff
        clear f7 hff
        go_wp2
        go_ret
        exact ⟨rfl, HFF.out⟩
end Go.Proofs.YtgcicljklejmjaaGreatDoor

/- KeyWrites holds, for every input; its tied card. No condition but what its row lists. -/
namespace Go.Proofs.YtgcicljklejmjaaGreatDoor
open Go.ChangeShapes Go.WideShapes Go.ChangeAt Go.RowKit Go.Shelf
namespace RKeyWrites
theorem own : ownKnob Tryz.prog.godebug = none := by kernel_rfl
theorem laidOut : laidOutB Tryz.prog = true := by kernel_rfl

/-- A world in which the two tables lie. -/
noncomputable def laidWorld (os : Os) : World :=
  let w0 := World.holding Tryz.prog os ⟨#[], #[], []⟩
  let put (h : Array Obj) (g : Nat) (cs : Array Value) : Array Obj := h.modify g fun
    | .cells _ t frozen => .cells cs t frozen
    | o => o
  let h1 := put w0.heap 0 (Lib.firstTab.map fun z => Value.int .u8 z).toArray
  let h2 := put h1 1 ((List.range 16).flatMap fun i => [Value.int .u8 (Lib.accLo i), Value.int .u8 (Lib.accHi i)]).toArray
  { w0 with heap := h2 }
theorem laid_met (os : Os) (args : Array Value) : laidMet Tryz.prog Rows.keyWritesRow.laid ((laidWorld os).forCall (fun _ _ => 0) ⟨#[], args, []⟩).memory :=
  (LaidIn.of_run (l := [("unicode/utf8.acceptRanges", Rows.laid_unicode_utf8_acceptRanges), ("unicode/utf8.first", Rows.laid_unicode_utf8_first)]) [0, 1] 8 (by kernel_rfl) (by kernel_rfl) (by kernel_rfl) (by kernel_rfl)).met

theorem witness_row (os : Os) {H : Type} (enc : TypeId × Value → H) :
    (OpenSpec.ofChange Rows.keyWritesSpec).preRow enc Tryz.prog Tryz.f3 Rows.keyWritesRow.domain false Rows.keyWritesRow.laid ((laidWorld os).forCall (fun _ _ => 0) ⟨#[], #[.slice none 0 0, .slice none 0 0], []⟩).memory #[.slice none 0 0, .slice none 0 0] := by
  have hw : (DataW.whole enc Tryz.prog ((laidWorld os).forCall (fun _ _ => 0) ⟨#[], #[.slice none 0 0, .slice none 0 0], []⟩).memory Tryz.f3.params.toList (OpenSpec.ofChange Rows.keyWritesSpec).vars false #[.slice none 0 0, .slice none 0 0].toList 8).map (fun x => (x.1, x.2.1)) = some ([.nil, .nil], []) := by kernel_rfl
  obtain ⟨⟨x1, x2, x3⟩, hx, hx1⟩ := Option.map_eq_some_iff.1 hw
  simp only [Prod.mk.injEq] at hx1
  obtain ⟨rfl, rfl⟩ := hx1
  exact OpenSpec.preRow_of_cond 8 hx (by kernel_rfl) (fun k hk => by cases hk) (by kernel_rfl) (laid_met os _)

set_option maxRecDepth 100000 in
set_option maxHeartbeats 2000000 in
theorem lifted (os : Os) (started : os.Started) (H : Type) (enc : TypeId × Value → H) (F : Stop.Interp) :
    ReturnsInHanded {} Tryz.checked os 3 .any ((OpenSpec.ofChange Rows.keyWritesSpec).preRow enc Tryz.prog Tryz.f3 Rows.keyWritesRow.domain false Rows.keyWritesRow.laid) (((OpenSpec.ofChange Rows.keyWritesSpec).at F).post enc Tryz.prog Tryz.f3 false true false false) := by
  refine returnsInHanded_of_row (C := Tryz.checked) (s := (OpenSpec.ofChange Rows.keyWritesSpec)) own started (by kernel_rfl) Tryz.func3
    (witness_row_atRef (enc := enc) (C := Tryz.checked) false (laidWorld os) #[.slice none 0 0, .slice none 0 0] rfl (by kernel_rfl) (by kernel_rfl) (by kernel_rfl) (witness_row os enc)) ?_
  intro W base args ds gs before hval0 hW hcnd hk0 hsz0 hL _ _
  have hval : ∀ (j : Nat) t v, Tryz.f3.params[j]? = some t → args[j]? = some v → Value.okWide Tryz.prog W .any base t v := hval0
  have hW' := hW
  obtain ⟨p, q, hA0, hV, rfl, hfz, hnd⟩ := hW
  have hA : DataW.TrodAll enc Tryz.prog W 0 (fun _ => true) true Tryz.f3.params.toList args.toList ds p := hA0
  have hTd : ∀ (j : Nat) t v, Tryz.f3.params.toList[j]? = some t → args.toList[j]? = some v → Td Tryz.prog W t v.cells.toList := fun j t v h1 h2 => Td.arg hA hsz0 j t v h1 h2
  have htab : Tabs W := utf8Tabs_of_readsT (U8Types.of196 lays_valid) ⟨by kernel_rfl, by kernel_rfl, by kernel_rfl, by kernel_rfl, by kernel_rfl, by kernel_rfl, by kernel_rfl⟩ (Lib.laidMet.reads (d := Rows.laid_unicode_utf8_first) hL (.tail _ (.head _))) (Lib.laidMet.reads (d := Rows.laid_unicode_utf8_acceptRanges) hL (.head _))
  clear hsz0 hcnd hk0
  rw [Tryz.params3] at hA hval hTd
  obtain ⟨v0, vs0, d0, ds0, p0, q0, hargs, rfl, rfl, h0, r0⟩ := trodAll_cons hA
  obtain ⟨v1, vs1, d1, ds1, p1, q1, rfl, rfl, rfl, h1, r1⟩ := trodAll_cons r0
  obtain ⟨rfl, rfl, rfl⟩ := trodAll_nil r1
  obtain rfl : args = #[v0, v1] := by cases args; simp_all
  obtain ⟨rfl, rfl⟩ := trodVars_none hV
  have lt0 : ∀ x ∈ p0, x.block < W.heap.size := by obtain ⟨m, hm⟩ := h0; exact DataW.trod_lt m _ _ _ hm
  obtain ⟨a0, n0, c0, rfl⟩ := okWide_slice Tryz.underlying22 (hval 0 22 v0 rfl rfl)
  have lo0 : ∀ k, (Value.slice a0 n0 c0).ownBlock = some k → k < W.heap.size := okWide_lt Tryz.underlying22 (hval 0 22 _ rfl rfl)
  have td0 : Td Tryz.prog W 22 [.slice a0 n0 c0] := hTd 0 22 _ rfl rfl
  have lt1 : ∀ x ∈ p1, x.block < W.heap.size := by obtain ⟨m, hm⟩ := h1; exact DataW.trod_lt m _ _ _ hm
  obtain ⟨a1, n1, c1, rfl⟩ := okWide_slice Tryz.underlying23 (hval 1 23 v1 rfl rfl)
  have lo1 : ∀ k, (Value.slice a1 n1 c1).ownBlock = some k → k < W.heap.size := okWide_lt Tryz.underlying23 (hval 1 23 _ rfl rfl)
  have td1 : Td Tryz.prog W 23 [.slice a1 n1 c1] := hTd 1 23 _ rfl rfl
  have walk : Calls Tryz.prog 3 #[.slice a0 n0 c0, .slice a1 n1 c1] W fun e w' => e = .returned (.bool true) ∧ Below W.heap.size W w' := by
    clear hA0 hTd hval hval0 hL
    obtain ⟨x0, l0, e0, s0⟩ := open_values td0
    obtain rfl := (List.cons.inj e0).1
    obtain ⟨x1, l1, e1, s1, h1⟩ := open_bools td1
    obtain rfl := (List.cons.inj e1).1
    exact (writes4_any W _ _ l0 l1 s0 s1 h1 htab).mono fun e w' ⟨h1, f⟩ => ⟨h1, f.below (fun _ _ h => h)⟩
  clear hA0 hval0 hTd
  refine walk.mono fun e W' ⟨he, bel⟩ => ?_
  subst he
  exact ⟨_, rfl, _, _, _, [], _, [], hW', trodAll_mk1 (shut_bool Tryz.underlying4 _), (trodAll_cons_mk (Below.trod laidOut (by kernel_rfl) (of_decide_eq_true (by kernel_rfl)) h0 bel lt0) (trodAll_cons_mk (Below.trod laidOut (by kernel_rfl) (of_decide_eq_true (by kernel_rfl)) h1 bel lt1) trodAll_mk0)), rfl, bel.frame _, fun h => by cases h⟩

theorem row : Rows.keyWritesRow.holds Tryz.pinned (OpenSpec.ofChange Rows.keyWritesSpec) :=
  OpenClaim.holds_of_cond 3 Tryz.f3 rfl rfl rfl rfl rfl rfl rfl ⟨rfl, rfl, rfl, rfl, rfl⟩ rfl rfl rfl rfl rfl (by kernel_rfl) Tryz.func3 (by kernel_rfl)
    (of_decide_eq_true (by kernel_rfl)) (by unfold Func.isWrapper; first | (rw [if_pos (by decide +kernel)]; kernel_rfl) | (rw [if_neg (of_decide_eq_false (by kernel_rfl))]; exact ⟨rfl, rfl⟩))
    (fun os started H enc _ F0 => by rw [OpenClaim.pre_eq_preRow]; exact lifted os started H enc F0)
theorem card : Claim7.holds Tryz.pinned (.plain (OpenSpec.ofChange Rows.keyWritesSpec)) Rows.keyWritesCard :=
  Claim7.holds_tied_plain_at .later [] [.data, .pinned] true Rows.keyWritesCard.stood.harness Rows.keyWritesCard.stood.looks
    row (fun _ h => by cases h) (by kernel_rfl) (fun _ h => by cases h) keyWrites_row_tie rfl ⟨rfl, rfl⟩ (by kernel_rfl) (by kernel_rfl)
    (fun f fn hf hfn => by
      obtain rfl : f = 3 := Option.some.inj ((show Tryz.prog.funcNamed "codicil/codicillaw04.KeyWrites" = some 3 by kernel_rfl).symm.trans hf) |>.symm
      obtain rfl : fn = Tryz.f3 := (Option.some.inj (Tryz.func3.symm.trans hfn)).symm
      exact ⟨by kernel_rfl, fun j t ht => by
        have hall : (Tryz.f3.params.toList.all fun t => Tryz.prog.wantsStandIn t == false) = true := by kernel_rfl
        have hm : t ∈ Tryz.f3.params.toList := by
          rw [Array.mem_toList_iff]
          exact Array.mem_of_getElem? ht
        exact (eq_of_beq (List.all_eq_true.1 hall t hm) : Tryz.prog.wantsStandIn t = false)⟩)
    (by kernel_rfl)
end RKeyWrites

/-- The card. -/
theorem keyWrites_holds : Rows.KeyWritesCardSaid := RKeyWrites.card
#print axioms keyWrites_holds
end Go.Proofs.YtgcicljklejmjaaGreatDoor
