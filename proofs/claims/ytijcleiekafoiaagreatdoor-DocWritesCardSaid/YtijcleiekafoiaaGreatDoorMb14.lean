import Derived.Test.YtijcleiekafoiaaGreatDoorMb13

/- doc.reader.value: lists, fields, and all of it. Printed by mkdreadl.py. -/
namespace Go.Proofs.YtijcleiekafoiaaGreatDoor
open Go.RowKit
open Tr

set_option maxRecDepth 100000 in
set_option maxHeartbeats 8000000 in
theorem dval_list (d m q p : Nat) (sv : Value) (l : List UInt8) (w : World) (s : RS) (hd8 : d ≤ 8) (hl : l.length ≤ 1000000) (r : List UInt8) (IH : ∀ (w : World) (s : RS) (r : List UInt8), Dr m q p sv l w s false → RS.On l s r → m ≤ w.heap.size → Calls Tryz.prog 59 #[.pointer (some ⟨q, 0, none⟩), .int .i64 (d : Nat)] w fun e w' => DOut l (Qp q p) (Dr m q p sv l) d r w e w') (h : Dr m q p sv l w s false) (ho : RS.On l s (7 :: r)) (hm : m ≤ w.heap.size) :
    Calls Tryz.prog 59 #[.pointer (some ⟨q, 0, none⟩), .int .i64 ((d + 1 : Nat) : Int)] w fun e w' => DOut l (Qp q p) (Dr m q p sv l) (d + 1) (7 :: r) w e w' := by
  have hd1 : IntKind.i64.wrap ((d : Int) + 1 - 1) = (d : Int) := IntWalk.i64_in _ ⟨by omega, by omega⟩ |>.trans (by omega)
  have IHH := Lib.hid IH; clear IH
  obtain ⟨hto, hon⟩ := ho.one
  obtain ⟨s1, hs1⟩ : ∃ s1, s1 = RS.mk (s.pos + 1) s.e s.wh := ⟨_, rfl⟩
  rw [← hs1] at hto hon
  clear hs1 ho
  have HTO := Lib.hid hto; have HON := Lib.hid hon
  clear hto hon
  have g0 : (((d + 1 : Nat) : Int) == 0) = false := by rw [beq_eq_false_iff_ne]; omega
  have K := dr_k m q p sv l h.hq h.hp
  have hqp := And.intro h.hq h.hp
  have hal := h.kept0 ((Fr.refl no w).alloc (.cells #[.int .u8 0, .bool false, .int .i64 0, .string ⟨#[]⟩, .slice none 0 0, .slice none 0 0, .slice none 0 0] 27))
  have hbl := h.rr.2.2.2.2.1
  obtain ⟨y0, y1, yz, yl⟩ := pair_cells h.row
  have HAL := Lib.hid hal; have HQP := Lib.hid hqp; have KK := Lib.hid K; have HBL := Lib.hid hbl
  clear h hal hqp K hbl
  go_enter Tryz.func59, Tryz.ntmps59
  go_wp2
  go_step3
  go_wp2_with fail
  refine (ru8_any p _ sv l s HAL.out.rr).mono ?_
  rintro e w2 ⟨rfl, h2, f2⟩
  have hd2 := HAL.out.read h2 f2
  have hb2 := f2.heap (heap_alloc_new w (.cells #[.int .u8 0, .bool false, .int .i64 0, .string ⟨#[]⟩, .slice none 0 0, .slice none 0 0, .slice none 0 0] 27)) (fun h => by have h1 := HQP.out.2; have h : w.heap.size = p := h; omega)
  have ff2 : Fr (Qp q p) w w2 := (fr_any ((Fr.refl no w).alloc (.cells #[.int .u8 0, .bool false, .int .i64 0, .string ⟨#[]⟩, .slice none 0 0, .slice none 0 0, .slice none 0 0] 27))).trans (at_qp f2) (fun _ _ h => h)
  clear h2 f2
  rw [HTO.out] at hd2 ⊢
  simp only [ube_one]
  have HD2 := Lib.hid hd2; have HB2 := Lib.hid hb2; have FF2 := Lib.hid ff2
  clear hd2 hb2 ff2 y0 y1 yz yl HTO
  go_wp2_with fail
  refine (wrong_any m q p sv l w2 s1 false false HD2.out (by simp [Lost, HON.out.e])).mono ?_
  rintro e w3 ⟨rfl, n3, hw3⟩
  have f3 : Fr no w2 w3 := by rw [hw3]; exact Fr.drewN _ _ _
  have hd3 := HD2.out.kept0 f3
  have hb3 := f3.heap HB2.out (fun h => h)
  obtain ⟨y0, y1, yz, yl⟩ := pair_cells hd3.row
  obtain ⟨q0, q1, q2, q3, q4, q5, q6, qz, ql⟩ := seven_cells hb3
  have hne : w.heap.size ≠ q := by have h1 := HQP.out.1; omega
  have HD3 := Lib.hid hd3; have HB3 := Lib.hid hb3; have F3 := Lib.hid (FF2.out.trans f3 (fun _ _ h => h.elim))
  clear hw3 f3 hd3 hb3 HD2 HB2 FF2
  have hp0 := Fr.setCell (Fr.refl (fun k => k = w.heap.size) w3) ⟨w.heap.size, 0, none⟩ (.int .u8 6) (fun _ => rfl)
  have hs0 := hp_same HB3.out 0 (.int .u8 6)
  simp only [List.setIfInBounds_toArray, List.set_cons_zero] at hs0
  have hd4 := HD3.out.kept hp0 (fun k h => by have h : k = w.heap.size := h; omega)
  have f4 : Fr (Qp q p) w (w3.setCell ⟨w.heap.size, 0, none⟩ (.int .u8 6)) := F3.out.trans hp0 (fun k hk h => by have h : k = w.heap.size := h; omega)
  have HD4 := Lib.hid hd4; have HS0 := Lib.hid hs0; have F4 := Lib.hid f4
  clear hp0 hs0 hd4 f4 HD3 HB3 F3
  go_wp2_with fail
  generalize w3.setCell ⟨w.heap.size, 0, none⟩ (.int .u8 6) = w4 at HD4 HS0 F4 ⊢
  refine (rvar_any p w4 sv l s1 HD4.out.rr).mono ?_
  rintro e w6 ⟨rfl, h6, f6⟩
  have hd6 := HD4.out.read h6 f6
  have hb6 := f6.heap HS0.out (fun h => by have h1 := HQP.out.2; have h : w.heap.size = p := h; omega)
  obtain ⟨y0, y1, yz, yl⟩ := pair_cells hd6.row
  obtain ⟨q0, q1, q2, q3, q4, q5, q6, qz, ql⟩ := seven_cells hb6
  have HD6 := Lib.hid hd6; have HB6 := Lib.hid hb6; have F6 := Lib.hid (F4.out.trans (at_qp f6) (fun _ _ h => h))
  clear h6 f6 hd6 hb6 HD4 HS0 F4
  cases hv : rvi r with
  | none =>
    obtain ⟨e1, e2⟩ := HON.out.var_no hv
    rw [e1]
    have HV := Lib.hid hv; have HE := Lib.hid e2
    clear hv e1 e2
    rw [show ((0 : Nat) : Int) = 0 from rfl]
    go_wp2
    go_loopw [6] (fun nv wr => nv = .int .u64 0 ∧ wr = w6) (fun _ _ => 0)
    case atStart => exact ⟨rfl, rfl⟩
    case round =>
      obtain ⟨rfl, rfl⟩ := hrel
      go_wp2
      have hp0 := Fr.refl (fun k => k = w.heap.size) wr
      have hset := set7_row (a := .int .u8 6) (b := .bool false) (c := .int .i64 0) (d := .string ⟨#[]⟩) (e := .slice none 0 0) (f := .slice none 0 0) (h := .slice none 0 0) HB6.out
      have hsf := hp0.trans (set7_fr _ w.heap.size (.int .u8 6) (.bool false) (.int .i64 0) (.string ⟨#[]⟩) (.slice none 0 0) (.slice none 0 0) (.slice none 0 0)) (fun _ _ h => h)
      unfold set7 at hset hsf
      try rw [Exit.noGoto_ret]
      refine bodyPost_ret (results_cell_row (P := Tryz.prog) rfl _ _ w.heap.size 27 _ (0, 0) _ rfl hset Tryz.underlying27 rfl (by kernel_rfl)) rfl ?_
      exact dbad KK.out (by rw [ddc7, HV.out]) form_any HD6.out (.inr HE.out) F6.out hsf (fun k h => by have h : k = w.heap.size := h; omega) hm
  | some z =>
    obtain ⟨n, r0⟩ := z
    obtain ⟨e1, e2⟩ := HON.out.var hv
    rw [e1]
    have hnl : lt64 (n : Int) := ⟨by have := (rvi_some hv).2; omega⟩
    have hlr : r0.length ≤ 1000000 := by have h1 := rvi_lt hv; have h2 := HON.out.len; omega
    have hg0 := LG.start (d := d) (n0 := n) (m0 := w.heap.size) HB6.out HD6.out e2
    have HV := Lib.hid hv; have HG0 := Lib.hid hg0; have HNL := Lib.hid hnl; have HLR := Lib.hid hlr
    clear hv e1 e2 hg0 HD6 HB6 hnl hlr
    go_wp2
    clear q0 q1 q2 q3 q4 q5 q6 qz ql y0 y1 yz yl
    go_loopw [6] (fun nv wr => ∃ mt : Nat, mt ≤ n ∧ nv = .int .u64 mt ∧ Fr (Qp q p) w wr ∧ ((∃ ys s r A c, LG l (Dr m q p sv l) d w.heap.size w.heap.size wr n r0 mt ys s r A c) ∨ ∃ A k c, LB (Dr m q p sv l) d w.heap.size wr n r0 A k c)) (fun nv _ => (intOf nv).toNat)
    case atStart => exact ⟨n, Nat.le_refl _, rfl, F6.out, .inl ⟨[], _, r0, none, 0, HG0.out⟩⟩
    case round =>
      obtain ⟨mt, hmn, rfl, hfr, hst⟩ := hrel
      rcases hst with ⟨ys, s, r, A, c, hg⟩ | ⟨A, k0, c, hb⟩
      · have HFR := Lib.hid hfr
        by_cases hmt : mt = 0
        · subst hmt
          rw [show ((0 : Nat) : Int) = 0 from rfl]
          obtain ⟨y0, y1, yz, yl⟩ := pair_cells hg.rd.row
          obtain ⟨q0, q1, q2, q3, q4, q5, q6, qz, ql⟩ := seven_cells hg.row
          have HG := Lib.hid hg
          clear hg hfr
          go_wp2
          have hp0 := Fr.refl (fun k => k = w.heap.size) wr
          have hset := set7_row (a := .int .u8 6) (b := .bool false) (c := .int .i64 0) (d := .string ⟨#[]⟩) (e := .slice none 0 0) (f := .slice A ys.length c) (h := .slice none 0 0) HG.out.row
          have hsf := hp0.trans (set7_fr _ w.heap.size (.int .u8 6) (.bool false) (.int .i64 0) (.string ⟨#[]⟩) (.slice none 0 0) (.slice A ys.length c) (.slice none 0 0)) (fun _ _ h => h)
          unfold set7 at hset hsf
          try rw [Exit.noGoto_ret]
          refine bodyPost_ret (results_cell_row (P := Tryz.prog) rfl _ _ w.heap.size 27 _ (0, 0) _ rfl hset Tryz.underlying27 rfl (by kernel_rfl)) rfl ?_
          have hdl := HG.out.dl
          rw [ddecL_nil] at hdl
          simp only [Option.map_some, List.append_nil] at hdl
          exact dfin (x := .mk 6 false 0 [] [] (.slice none 0 0, .slice A ys.length c, .slice none 0 0) ys []) KK.out (by rw [ddc7, HV.out]; simp only; rw [hdl, bare_eq]; rfl) (held_list HG.out.ow HG.out.each _ _ _) (fun k hk => by
            rcases blk_list hk with h | ⟨y, hy, h⟩
            · have := HG.out.own k h; exact ⟨by omega, fun h => by have h : k = w.heap.size := h; omega⟩
            · have := (HG.out.yn y hy k h).1; exact ⟨by omega, fun h => by have h : k = w.heap.size := h; omega⟩) HG.out.rd HG.out.on HFR.out hsf (fun k h => by have h : k = w.heap.size := h; omega) hm
        · obtain ⟨k, hk⟩ : ∃ k, mt = k + 1 := ⟨mt - 1, by omega⟩
          have hgt : (0 : Int) < (mt : Int) := by omega
          have hwp : IntKind.u64.wrap ((mt : Int) - 1) = (k : Int) := by
            rw [show (mt : Int) - 1 = (k : Int) by omega]
            exact wrap_u64_id _ (by omega) (by have := HNL.out.out; omega)
          have hwk : IntKind.u64.wrap (k : Int) = (k : Int) := wrap_u64_id _ (by omega) (by have := HNL.out.out; omega)
          have HWK := Lib.hid hwk; clear hwk
          rw [hk] at hg
          obtain ⟨y0, y1, yz, yl⟩ := pair_cells hg.rd.row
          have HG1 := Lib.hid hg; have HK := Lib.hid hk
          clear hg hfr hmt hk
          go_wp2_with fail
          refine (wrong_any m q p sv l wr s false false HG1.out.rd (by simp [Lost, HG1.out.on.e])).mono ?_
          rintro e w8 ⟨rfl, n8, hw8⟩
          have f8 : Fr no wr w8 := by rw [hw8]; exact Fr.drewN _ _ _
          have hg := HG1.out.kept0 KK.out f8
          have HG := Lib.hid hg; have HFR := Lib.hid (HFR.out.trans f8 (fun _ _ h => h.elim))
          clear hw8 f8 HG1 y0 y1 yz yl
          obtain ⟨y0, y1, yz, yl⟩ := pair_cells hg.rd.row
          obtain ⟨q0, q1, q2, q3, q4, q5, q6, qz, ql⟩ := seven_cells hg.row
          clear hg
          obtain ⟨wr, rfl⟩ : ∃ wr, wr = w8 := ⟨_, rfl⟩
          have hmk : mt = k + 1 := HK.out
          have hcall := fun W (f : Fr no wr W) => (IHH.out W s r (HG.out.rd.kept0 f) HG.out.on (by have h1 := HG.out.lt; have h2 := f.size; omega)).mono fun e w' h => item_l (k := k) h
          have hc := hcall wr.drew (Fr.drew (Fr.refl no wr))
          have HC := Lib.hid hc
          clear hcall hc
          go_wp2_with fail
          refine wp_region_fork anyW (.fork [0, 2, 3, 4] (.lin [1, 5, 6, 7, 8, 9]) (.lin [5, 1, 6, 7, 8, 9])) (fun i => [Kd.p, Kd.l, Kd.p, Kd.p, Kd.p, Kd.e, Kd.g, Kd.e, Kd.p, Kd.e].getD i .e) (by kernel_rfl) (by kernel_rfl) True.intro (wpB_fork ?_)
          iterate 4
            first | refine wpX_pu rfl rfl rfl (by first | exact pu_move rfl | exact pu_assign rfl | exact pu_nilCheck rfl rfl | exact pu_binInt rfl rfl rfl | exact pu_conv rfl rfl (by kernel_rfl) | exact pu_fld rfl (by kernel_rfl) | exact pu_ix rfl rfl rfl (by kernel_rfl) | exact pu_unOp rfl | exact pu_binStr rfl rfl rfl | exact pu_len rfl rfl | exact pu_lens rfl rfl | exact pu_pick rfl | exact pu_slice rfl rfl) (fun K hK => ?_) | refine wpX_rd rfl rfl rfl (rd_load rfl) (fun K hK => ?_) | refine wpX_gr rfl rfl rfl (by first | exact gr_buildSlice rfl | exact gr_box rfl | exact gr_alloc rfl) (fun K hK => ?_) | refine wpX_ex rfl rfl rfl (fun K hK => ?_)
            try go_wp2
          refine wpX_fork (wpB_lin ?_) (wpB_lin ?_)
          · skip
            first | refine wpX_pu rfl rfl rfl (by first | exact pu_move rfl | exact pu_assign rfl | exact pu_nilCheck rfl rfl | exact pu_binInt rfl rfl rfl | exact pu_conv rfl rfl (by kernel_rfl) | exact pu_fld rfl (by kernel_rfl) | exact pu_ix rfl rfl rfl (by kernel_rfl) | exact pu_unOp rfl | exact pu_binStr rfl rfl rfl | exact pu_len rfl rfl | exact pu_lens rfl rfl | exact pu_pick rfl | exact pu_slice rfl rfl) (fun K hK => ?_) | refine wpX_rd rfl rfl rfl (rd_load rfl) (fun K hK => ?_) | refine wpX_gr rfl rfl rfl (by first | exact gr_buildSlice rfl | exact gr_box rfl | exact gr_alloc rfl) (fun K hK => ?_) | refine wpX_ex rfl rfl rfl (fun K hK => ?_)
            try go_wp2
            refine wpX_ex rfl rfl rfl (fun K hK => ?_)
            go_wp2_with fail
            refine HC.out.mono ?_
            rintro e w5 ⟨f5, ⟨y, r2, s2, hdc, rfl, hoy, hby, hr5, hon5⟩ | ⟨hdc, ⟨jk, jb, ji, jt, JB, jbn, jbc, JL, jln, jlc, JF, jfn, jfc, rfl⟩, s2, b2, hr5, hlo5⟩⟩
            · skip
              have f5 := (Fr.drew (Fr.refl (Qp q p) wr)).trans f5 (fun _ _ h => h)
              have how5 := HG.out.ow.kept f5 (fun k hk h => by have := HG.out.own k hk; have h1 := HQP.out; rcases h with h | h <;> omega)
              have hb5 := f5.heap HG.out.row (fun h => by have h1 := HQP.out; rcases h with h | h <;> omega)
              obtain ⟨q0, q1, q2, q3, q4, q5, q6, qz, ql⟩ := seven_cells hb5
              have hds := ddec_some d _ _ _ hdc
              have hgy := held_good (N := 1000001) (by omega) y hds.2.1 (by have h1 := congrArg List.length hds.1; have h2 := HG.out.ln; have h3 := HLR.out; skip; simp only [List.length_append] at h1; omega) hoy
              obtain ⟨YB, yb, YL, yl, YF, yf, hfy⟩ := hgy.node.forms
              rw [hfy.agg]
              have hyc : y.cells = [.int .u8 y.k.toNat, .bool y.b, .int .i64 y.i, .string ⟨y.t.toArray⟩, .slice YB y.bs.length yb, .slice YL y.l.length yl, .slice YF y.f.length yf] := by unfold cells; rw [hfy.B, hfy.L, hfy.F]
              have HOY := Lib.hid hoy; have HBY := Lib.hid hby; have HYC := Lib.hid hyc; have HON5 := Lib.hid hon5
              clear hoy hby hyc hfy hgy hds hon5
              have F5 := Lib.hid f5; have HOW5 := Lib.hid how5; have HR5 := Lib.hid hr5; have HDC := Lib.hid hdc
              clear f5 how5 hb5 hr5 hdc
              go_simp
              refine hK _ _ ?_
              clear hK K
              first | refine wpX_pu rfl rfl rfl (by first | exact pu_move rfl | exact pu_assign rfl | exact pu_nilCheck rfl rfl | exact pu_binInt rfl rfl rfl | exact pu_conv rfl rfl (by kernel_rfl) | exact pu_fld rfl (by kernel_rfl) | exact pu_ix rfl rfl rfl (by kernel_rfl) | exact pu_unOp rfl | exact pu_binStr rfl rfl rfl | exact pu_len rfl rfl | exact pu_lens rfl rfl | exact pu_pick rfl | exact pu_slice rfl rfl) (fun K hK => ?_) | refine wpX_rd rfl rfl rfl (rd_load rfl) (fun K hK => ?_) | refine wpX_gr rfl rfl rfl (by first | exact gr_buildSlice rfl | exact gr_box rfl | exact gr_alloc rfl) (fun K hK => ?_) | refine wpX_ex rfl rfl rfl (fun K hK => ?_)
              try go_wp2
              refine wpX_ex rfl rfl rfl (fun K hK => ?_)
              have hal := (Fr.refl no w5).alloc (.cells #[.int .u8 y.k.toNat, .bool y.b, .int .i64 y.i, .string ⟨y.t.toArray⟩, .slice YB y.bs.length yb, .slice YL y.l.length yl, .slice YF y.f.length yf] 27)
              have HAL := Lib.hid hal; clear hal
              refine wp_apo (n := ys.length) (xs := ys.flatMap cells) (m := 1) (news := [.int .u8 y.k.toNat, .bool y.b, .int .i64 y.i, .string ⟨y.t.toArray⟩, .slice YB y.bs.length yb, .slice YL y.l.length yl, .slice YF y.f.length yf]) (.tmp 77) (.tmp 82) 24 rfl tbV (HOW5.out.kept0 HAL.out) (built7 w5 (.int .u8 y.k.toNat) (.bool y.b) (.int .i64 y.i) (.string ⟨y.t.toArray⟩) (.slice YB y.bs.length yb) (.slice YL y.l.length yl) (.slice YF y.f.length yf) 27) rfl rfl (by intro u hu; simp only [List.mem_cons, List.not_mem_nil, or_false] at hu; rcases hu with rfl | rfl | rfl | rfl | rfl | rfl | rfl <;> rfl) ?mc1g1 ?mc1g2 ?mc1g3
              case mc1g1 => have := HG.out.ln; have := HLR.out; simp only [maxLen]; omega
              case mc1g2 => have := HG.out.ln; have := HLR.out; omega
              case mc1g3 =>
                intro A' N c' w7 hN ho7 _ hf7 hs7
                subst hN
                have hrow := L_row (A := A) (n := ys.length) (c := c) HG.out.row (fun k hk => Nat.lt_of_lt_of_le (KK.out.lt k hk) hm) (Nat.le_refl w.heap.size) F5.out HAL.out hf7 HG.out.own
                obtain ⟨q0, q1, q2, q3, q4, q5, q6, qz, ql⟩ := seven_cells hrow
                have FW := Lib.hid (L_fr (v := .slice A' (ys.length + 1) c') HFR.out F5.out HAL.out hf7 (Nat.le_refl w.heap.size) (Nat.le_refl w.heap.size) HG.out.own)
                have hst := HG.out.step KK.out hm (Nat.le_refl w.heap.size) HG.out.lt F5.out HOY.out (show ∀ k, Blk y k → wr.heap.size ≤ k from HBY.out) HR5.out HON5.out HDC.out HAL.out (by rw [HYC.out]; exact ho7) hf7 hs7
                have HST := Lib.hid hst
                clear hst ho7 hf7 hs7 hrow
                go_simp
                refine hK _ _ ?_
                clear hK K
                first | refine wpX_pu rfl rfl rfl (by first | exact pu_move rfl | exact pu_assign rfl | exact pu_nilCheck rfl rfl | exact pu_binInt rfl rfl rfl | exact pu_conv rfl rfl (by kernel_rfl) | exact pu_fld rfl (by kernel_rfl) | exact pu_ix rfl rfl rfl (by kernel_rfl) | exact pu_unOp rfl | exact pu_binStr rfl rfl rfl | exact pu_len rfl rfl | exact pu_lens rfl rfl | exact pu_pick rfl | exact pu_slice rfl rfl) (fun K hK => ?_) | refine wpX_rd rfl rfl rfl (rd_load rfl) (fun K hK => ?_) | refine wpX_gr rfl rfl rfl (by first | exact gr_buildSlice rfl | exact gr_box rfl | exact gr_alloc rfl) (fun K hK => ?_) | refine wpX_ex rfl rfl rfl (fun K hK => ?_)
                try go_wp2
                refine wpX_ex rfl rfl rfl (fun K hK => ?_)
                go_simp
                refine hK _ _ ?_
                clear hK K
                refine wpX_done ?_
                go_wp2
                go_roundw
                case rel => exact ⟨k, by have := HK.out; omega, by rw [HWK.out], FW.out, .inl ⟨ys ++ [y], s2, r2, A', c', HST.out⟩⟩
                case measure => rw [HWK.out]; have := HK.out; simp only [intOf, Int.toNat_natCast]; omega
            · skip
              have f5 := (Fr.drew (Fr.refl (Qp q p) wr)).trans f5 (fun _ _ h => h)
              have how5 := HG.out.ow.kept f5 (fun k hk h => by have := HG.out.own k hk; have h1 := HQP.out; rcases h with h | h <;> omega)
              have hb5 := f5.heap HG.out.row (fun h => by have h1 := HQP.out; rcases h with h | h <;> omega)
              obtain ⟨q0, q1, q2, q3, q4, q5, q6, qz, ql⟩ := seven_cells hb5
              have HLO := Lib.hid hlo5; clear hlo5
              have F5 := Lib.hid f5; have HOW5 := Lib.hid how5; have HR5 := Lib.hid hr5; have HDC := Lib.hid hdc
              clear f5 how5 hb5 hr5 hdc
              go_simp
              refine hK _ _ ?_
              clear hK K
              first | refine wpX_pu rfl rfl rfl (by first | exact pu_move rfl | exact pu_assign rfl | exact pu_nilCheck rfl rfl | exact pu_binInt rfl rfl rfl | exact pu_conv rfl rfl (by kernel_rfl) | exact pu_fld rfl (by kernel_rfl) | exact pu_ix rfl rfl rfl (by kernel_rfl) | exact pu_unOp rfl | exact pu_binStr rfl rfl rfl | exact pu_len rfl rfl | exact pu_lens rfl rfl | exact pu_pick rfl | exact pu_slice rfl rfl) (fun K hK => ?_) | refine wpX_rd rfl rfl rfl (rd_load rfl) (fun K hK => ?_) | refine wpX_gr rfl rfl rfl (by first | exact gr_buildSlice rfl | exact gr_box rfl | exact gr_alloc rfl) (fun K hK => ?_) | refine wpX_ex rfl rfl rfl (fun K hK => ?_)
              try go_wp2
              refine wpX_ex rfl rfl rfl (fun K hK => ?_)
              have hal := (Fr.refl no w5).alloc (.cells #[.int .u8 jk, .bool jb, .int .i64 ji, .string jt, .slice JB jbn jbc, .slice JL jln jlc, .slice JF jfn jfc] 27)
              have HAL := Lib.hid hal; clear hal
              refine wp_apo (n := ys.length) (xs := ys.flatMap cells) (m := 1) (news := [.int .u8 jk, .bool jb, .int .i64 ji, .string jt, .slice JB jbn jbc, .slice JL jln jlc, .slice JF jfn jfc]) (.tmp 77) (.tmp 82) 24 rfl tbV (HOW5.out.kept0 HAL.out) (built7 w5 (.int .u8 jk) (.bool jb) (.int .i64 ji) (.string jt) (.slice JB jbn jbc) (.slice JL jln jlc) (.slice JF jfn jfc) 27) rfl rfl (by intro u hu; simp only [List.mem_cons, List.not_mem_nil, or_false] at hu; rcases hu with rfl | rfl | rfl | rfl | rfl | rfl | rfl <;> rfl) ?mc1b1 ?mc1b2 ?mc1b3
              case mc1b1 => have := HG.out.ln; have := HLR.out; simp only [maxLen]; omega
              case mc1b2 => have := HG.out.ln; have := HLR.out; omega
              case mc1b3 =>
                intro A' N c' w7 hN ho7 _ hf7 hs7
                subst hN
                have hrow := L_row (A := A) (n := ys.length) (c := c) HG.out.row (fun k hk => Nat.lt_of_lt_of_le (KK.out.lt k hk) hm) (Nat.le_refl w.heap.size) F5.out HAL.out hf7 HG.out.own
                obtain ⟨q0, q1, q2, q3, q4, q5, q6, qz, ql⟩ := seven_cells hrow
                have FW := Lib.hid (L_fr (v := .slice A' (ys.length + 1) c') HFR.out F5.out HAL.out hf7 (Nat.le_refl w.heap.size) (Nat.le_refl w.heap.size) HG.out.own)
                have hst := HG.out.lose (n' := ys.length + 1) (A' := A') (c' := c') KK.out hm (Nat.le_refl w.heap.size) F5.out HR5.out HLO.out HDC.out HAL.out hf7
                have HST := Lib.hid hst
                clear hst ho7 hf7 hs7 hrow
                go_simp
                refine hK _ _ ?_
                clear hK K
                first | refine wpX_pu rfl rfl rfl (by first | exact pu_move rfl | exact pu_assign rfl | exact pu_nilCheck rfl rfl | exact pu_binInt rfl rfl rfl | exact pu_conv rfl rfl (by kernel_rfl) | exact pu_fld rfl (by kernel_rfl) | exact pu_ix rfl rfl rfl (by kernel_rfl) | exact pu_unOp rfl | exact pu_binStr rfl rfl rfl | exact pu_len rfl rfl | exact pu_lens rfl rfl | exact pu_pick rfl | exact pu_slice rfl rfl) (fun K hK => ?_) | refine wpX_rd rfl rfl rfl (rd_load rfl) (fun K hK => ?_) | refine wpX_gr rfl rfl rfl (by first | exact gr_buildSlice rfl | exact gr_box rfl | exact gr_alloc rfl) (fun K hK => ?_) | refine wpX_ex rfl rfl rfl (fun K hK => ?_)
                try go_wp2
                refine wpX_ex rfl rfl rfl (fun K hK => ?_)
                go_simp
                refine hK _ _ ?_
                clear hK K
                refine wpX_done ?_
                go_wp2
                go_roundw
                case rel => exact ⟨k, by have := HK.out; omega, by rw [HWK.out], FW.out, .inr ⟨A', _, c', HST.out⟩⟩
                case measure => rw [HWK.out]; have := HK.out; simp only [intOf, Int.toNat_natCast]; omega
          · skip
            refine wpX_ex rfl rfl rfl (fun K hK => ?_)
            go_wp2_with fail
            refine HC.out.mono ?_
            rintro e w5 ⟨f5, ⟨y, r2, s2, hdc, rfl, hoy, hby, hr5, hon5⟩ | ⟨hdc, ⟨jk, jb, ji, jt, JB, jbn, jbc, JL, jln, jlc, JF, jfn, jfc, rfl⟩, s2, b2, hr5, hlo5⟩⟩
            · skip
              have f5 := (Fr.drew (Fr.refl (Qp q p) wr)).trans f5 (fun _ _ h => h)
              have how5 := HG.out.ow.kept f5 (fun k hk h => by have := HG.out.own k hk; have h1 := HQP.out; rcases h with h | h <;> omega)
              have hb5 := f5.heap HG.out.row (fun h => by have h1 := HQP.out; rcases h with h | h <;> omega)
              obtain ⟨q0, q1, q2, q3, q4, q5, q6, qz, ql⟩ := seven_cells hb5
              have hds := ddec_some d _ _ _ hdc
              have hgy := held_good (N := 1000001) (by omega) y hds.2.1 (by have h1 := congrArg List.length hds.1; have h2 := HG.out.ln; have h3 := HLR.out; skip; simp only [List.length_append] at h1; omega) hoy
              obtain ⟨YB, yb, YL, yl, YF, yf, hfy⟩ := hgy.node.forms
              rw [hfy.agg]
              have hyc : y.cells = [.int .u8 y.k.toNat, .bool y.b, .int .i64 y.i, .string ⟨y.t.toArray⟩, .slice YB y.bs.length yb, .slice YL y.l.length yl, .slice YF y.f.length yf] := by unfold cells; rw [hfy.B, hfy.L, hfy.F]
              have HOY := Lib.hid hoy; have HBY := Lib.hid hby; have HYC := Lib.hid hyc; have HON5 := Lib.hid hon5
              clear hoy hby hyc hfy hgy hds hon5
              have F5 := Lib.hid f5; have HOW5 := Lib.hid how5; have HR5 := Lib.hid hr5; have HDC := Lib.hid hdc
              clear f5 how5 hb5 hr5 hdc
              go_simp
              refine hK _ _ ?_
              clear hK K
              first | refine wpX_pu rfl rfl rfl (by first | exact pu_move rfl | exact pu_assign rfl | exact pu_nilCheck rfl rfl | exact pu_binInt rfl rfl rfl | exact pu_conv rfl rfl (by kernel_rfl) | exact pu_fld rfl (by kernel_rfl) | exact pu_ix rfl rfl rfl (by kernel_rfl) | exact pu_unOp rfl | exact pu_binStr rfl rfl rfl | exact pu_len rfl rfl | exact pu_lens rfl rfl | exact pu_pick rfl | exact pu_slice rfl rfl) (fun K hK => ?_) | refine wpX_rd rfl rfl rfl (rd_load rfl) (fun K hK => ?_) | refine wpX_gr rfl rfl rfl (by first | exact gr_buildSlice rfl | exact gr_box rfl | exact gr_alloc rfl) (fun K hK => ?_) | refine wpX_ex rfl rfl rfl (fun K hK => ?_)
              try go_wp2
              first | refine wpX_pu rfl rfl rfl (by first | exact pu_move rfl | exact pu_assign rfl | exact pu_nilCheck rfl rfl | exact pu_binInt rfl rfl rfl | exact pu_conv rfl rfl (by kernel_rfl) | exact pu_fld rfl (by kernel_rfl) | exact pu_ix rfl rfl rfl (by kernel_rfl) | exact pu_unOp rfl | exact pu_binStr rfl rfl rfl | exact pu_len rfl rfl | exact pu_lens rfl rfl | exact pu_pick rfl | exact pu_slice rfl rfl) (fun K hK => ?_) | refine wpX_rd rfl rfl rfl (rd_load rfl) (fun K hK => ?_) | refine wpX_gr rfl rfl rfl (by first | exact gr_buildSlice rfl | exact gr_box rfl | exact gr_alloc rfl) (fun K hK => ?_) | refine wpX_ex rfl rfl rfl (fun K hK => ?_)
              try go_wp2
              refine wpX_ex rfl rfl rfl (fun K hK => ?_)
              have hal := (Fr.refl no w5).alloc (.cells #[.int .u8 y.k.toNat, .bool y.b, .int .i64 y.i, .string ⟨y.t.toArray⟩, .slice YB y.bs.length yb, .slice YL y.l.length yl, .slice YF y.f.length yf] 27)
              have HAL := Lib.hid hal; clear hal
              refine wp_apo (n := ys.length) (xs := ys.flatMap cells) (m := 1) (news := [.int .u8 y.k.toNat, .bool y.b, .int .i64 y.i, .string ⟨y.t.toArray⟩, .slice YB y.bs.length yb, .slice YL y.l.length yl, .slice YF y.f.length yf]) (.tmp 77) (.tmp 82) 24 rfl tbV (HOW5.out.kept0 HAL.out) (built7 w5 (.int .u8 y.k.toNat) (.bool y.b) (.int .i64 y.i) (.string ⟨y.t.toArray⟩) (.slice YB y.bs.length yb) (.slice YL y.l.length yl) (.slice YF y.f.length yf) 27) rfl rfl (by intro u hu; simp only [List.mem_cons, List.not_mem_nil, or_false] at hu; rcases hu with rfl | rfl | rfl | rfl | rfl | rfl | rfl <;> rfl) ?mc2g1 ?mc2g2 ?mc2g3
              case mc2g1 => have := HG.out.ln; have := HLR.out; simp only [maxLen]; omega
              case mc2g2 => have := HG.out.ln; have := HLR.out; omega
              case mc2g3 =>
                intro A' N c' w7 hN ho7 _ hf7 hs7
                subst hN
                have hrow := L_row (A := A) (n := ys.length) (c := c) HG.out.row (fun k hk => Nat.lt_of_lt_of_le (KK.out.lt k hk) hm) (Nat.le_refl w.heap.size) F5.out HAL.out hf7 HG.out.own
                obtain ⟨q0, q1, q2, q3, q4, q5, q6, qz, ql⟩ := seven_cells hrow
                have FW := Lib.hid (L_fr (v := .slice A' (ys.length + 1) c') HFR.out F5.out HAL.out hf7 (Nat.le_refl w.heap.size) (Nat.le_refl w.heap.size) HG.out.own)
                have hst := HG.out.step KK.out hm (Nat.le_refl w.heap.size) HG.out.lt F5.out HOY.out (show ∀ k, Blk y k → wr.heap.size ≤ k from HBY.out) HR5.out HON5.out HDC.out HAL.out (by rw [HYC.out]; exact ho7) hf7 hs7
                have HST := Lib.hid hst
                clear hst ho7 hf7 hs7 hrow
                go_simp
                refine hK _ _ ?_
                clear hK K
                first | refine wpX_pu rfl rfl rfl (by first | exact pu_move rfl | exact pu_assign rfl | exact pu_nilCheck rfl rfl | exact pu_binInt rfl rfl rfl | exact pu_conv rfl rfl (by kernel_rfl) | exact pu_fld rfl (by kernel_rfl) | exact pu_ix rfl rfl rfl (by kernel_rfl) | exact pu_unOp rfl | exact pu_binStr rfl rfl rfl | exact pu_len rfl rfl | exact pu_lens rfl rfl | exact pu_pick rfl | exact pu_slice rfl rfl) (fun K hK => ?_) | refine wpX_rd rfl rfl rfl (rd_load rfl) (fun K hK => ?_) | refine wpX_gr rfl rfl rfl (by first | exact gr_buildSlice rfl | exact gr_box rfl | exact gr_alloc rfl) (fun K hK => ?_) | refine wpX_ex rfl rfl rfl (fun K hK => ?_)
                try go_wp2
                refine wpX_ex rfl rfl rfl (fun K hK => ?_)
                go_simp
                refine hK _ _ ?_
                clear hK K
                refine wpX_done ?_
                go_wp2
                go_roundw
                case rel => exact ⟨k, by have := HK.out; omega, by rw [HWK.out], FW.out, .inl ⟨ys ++ [y], s2, r2, A', c', HST.out⟩⟩
                case measure => rw [HWK.out]; have := HK.out; simp only [intOf, Int.toNat_natCast]; omega
            · skip
              have f5 := (Fr.drew (Fr.refl (Qp q p) wr)).trans f5 (fun _ _ h => h)
              have how5 := HG.out.ow.kept f5 (fun k hk h => by have := HG.out.own k hk; have h1 := HQP.out; rcases h with h | h <;> omega)
              have hb5 := f5.heap HG.out.row (fun h => by have h1 := HQP.out; rcases h with h | h <;> omega)
              obtain ⟨q0, q1, q2, q3, q4, q5, q6, qz, ql⟩ := seven_cells hb5
              have HLO := Lib.hid hlo5; clear hlo5
              have F5 := Lib.hid f5; have HOW5 := Lib.hid how5; have HR5 := Lib.hid hr5; have HDC := Lib.hid hdc
              clear f5 how5 hb5 hr5 hdc
              go_simp
              refine hK _ _ ?_
              clear hK K
              first | refine wpX_pu rfl rfl rfl (by first | exact pu_move rfl | exact pu_assign rfl | exact pu_nilCheck rfl rfl | exact pu_binInt rfl rfl rfl | exact pu_conv rfl rfl (by kernel_rfl) | exact pu_fld rfl (by kernel_rfl) | exact pu_ix rfl rfl rfl (by kernel_rfl) | exact pu_unOp rfl | exact pu_binStr rfl rfl rfl | exact pu_len rfl rfl | exact pu_lens rfl rfl | exact pu_pick rfl | exact pu_slice rfl rfl) (fun K hK => ?_) | refine wpX_rd rfl rfl rfl (rd_load rfl) (fun K hK => ?_) | refine wpX_gr rfl rfl rfl (by first | exact gr_buildSlice rfl | exact gr_box rfl | exact gr_alloc rfl) (fun K hK => ?_) | refine wpX_ex rfl rfl rfl (fun K hK => ?_)
              try go_wp2
              first | refine wpX_pu rfl rfl rfl (by first | exact pu_move rfl | exact pu_assign rfl | exact pu_nilCheck rfl rfl | exact pu_binInt rfl rfl rfl | exact pu_conv rfl rfl (by kernel_rfl) | exact pu_fld rfl (by kernel_rfl) | exact pu_ix rfl rfl rfl (by kernel_rfl) | exact pu_unOp rfl | exact pu_binStr rfl rfl rfl | exact pu_len rfl rfl | exact pu_lens rfl rfl | exact pu_pick rfl | exact pu_slice rfl rfl) (fun K hK => ?_) | refine wpX_rd rfl rfl rfl (rd_load rfl) (fun K hK => ?_) | refine wpX_gr rfl rfl rfl (by first | exact gr_buildSlice rfl | exact gr_box rfl | exact gr_alloc rfl) (fun K hK => ?_) | refine wpX_ex rfl rfl rfl (fun K hK => ?_)
              try go_wp2
              refine wpX_ex rfl rfl rfl (fun K hK => ?_)
              have hal := (Fr.refl no w5).alloc (.cells #[.int .u8 jk, .bool jb, .int .i64 ji, .string jt, .slice JB jbn jbc, .slice JL jln jlc, .slice JF jfn jfc] 27)
              have HAL := Lib.hid hal; clear hal
              refine wp_apo (n := ys.length) (xs := ys.flatMap cells) (m := 1) (news := [.int .u8 jk, .bool jb, .int .i64 ji, .string jt, .slice JB jbn jbc, .slice JL jln jlc, .slice JF jfn jfc]) (.tmp 77) (.tmp 82) 24 rfl tbV (HOW5.out.kept0 HAL.out) (built7 w5 (.int .u8 jk) (.bool jb) (.int .i64 ji) (.string jt) (.slice JB jbn jbc) (.slice JL jln jlc) (.slice JF jfn jfc) 27) rfl rfl (by intro u hu; simp only [List.mem_cons, List.not_mem_nil, or_false] at hu; rcases hu with rfl | rfl | rfl | rfl | rfl | rfl | rfl <;> rfl) ?mc2b1 ?mc2b2 ?mc2b3
              case mc2b1 => have := HG.out.ln; have := HLR.out; simp only [maxLen]; omega
              case mc2b2 => have := HG.out.ln; have := HLR.out; omega
              case mc2b3 =>
                intro A' N c' w7 hN ho7 _ hf7 hs7
                subst hN
                have hrow := L_row (A := A) (n := ys.length) (c := c) HG.out.row (fun k hk => Nat.lt_of_lt_of_le (KK.out.lt k hk) hm) (Nat.le_refl w.heap.size) F5.out HAL.out hf7 HG.out.own
                obtain ⟨q0, q1, q2, q3, q4, q5, q6, qz, ql⟩ := seven_cells hrow
                have FW := Lib.hid (L_fr (v := .slice A' (ys.length + 1) c') HFR.out F5.out HAL.out hf7 (Nat.le_refl w.heap.size) (Nat.le_refl w.heap.size) HG.out.own)
                have hst := HG.out.lose (n' := ys.length + 1) (A' := A') (c' := c') KK.out hm (Nat.le_refl w.heap.size) F5.out HR5.out HLO.out HDC.out HAL.out hf7
                have HST := Lib.hid hst
                clear hst ho7 hf7 hs7 hrow
                go_simp
                refine hK _ _ ?_
                clear hK K
                first | refine wpX_pu rfl rfl rfl (by first | exact pu_move rfl | exact pu_assign rfl | exact pu_nilCheck rfl rfl | exact pu_binInt rfl rfl rfl | exact pu_conv rfl rfl (by kernel_rfl) | exact pu_fld rfl (by kernel_rfl) | exact pu_ix rfl rfl rfl (by kernel_rfl) | exact pu_unOp rfl | exact pu_binStr rfl rfl rfl | exact pu_len rfl rfl | exact pu_lens rfl rfl | exact pu_pick rfl | exact pu_slice rfl rfl) (fun K hK => ?_) | refine wpX_rd rfl rfl rfl (rd_load rfl) (fun K hK => ?_) | refine wpX_gr rfl rfl rfl (by first | exact gr_buildSlice rfl | exact gr_box rfl | exact gr_alloc rfl) (fun K hK => ?_) | refine wpX_ex rfl rfl rfl (fun K hK => ?_)
                try go_wp2
                refine wpX_ex rfl rfl rfl (fun K hK => ?_)
                go_simp
                refine hK _ _ ?_
                clear hK K
                refine wpX_done ?_
                go_wp2
                go_roundw
                case rel => exact ⟨k, by have := HK.out; omega, by rw [HWK.out], FW.out, .inr ⟨A', _, c', HST.out⟩⟩
                case measure => rw [HWK.out]; have := HK.out; simp only [intOf, Int.toNat_natCast]; omega
      · obtain ⟨s, b, h1, h2⟩ := hb.rd
        have HFR := Lib.hid hfr; have HBD := Lib.hid hb; have HR := Lib.hid h1; have HLO := Lib.hid h2
        clear hfr hb h1 h2
        by_cases hmt : mt = 0
        · subst hmt
          rw [show ((0 : Nat) : Int) = 0 from rfl]
          obtain ⟨q0, q1, q2, q3, q4, q5, q6, qz, ql⟩ := seven_cells HBD.out.row
          go_wp2
          have hp0 := Fr.refl (fun k => k = w.heap.size) wr
          have hset := set7_row (a := .int .u8 6) (b := .bool false) (c := .int .i64 0) (d := .string ⟨#[]⟩) (e := .slice none 0 0) (f := .slice A k0 c) (h := .slice none 0 0) HBD.out.row
          have hsf := hp0.trans (set7_fr _ w.heap.size (.int .u8 6) (.bool false) (.int .i64 0) (.string ⟨#[]⟩) (.slice none 0 0) (.slice A k0 c) (.slice none 0 0)) (fun _ _ h => h)
          unfold set7 at hset hsf
          try rw [Exit.noGoto_ret]
          refine bodyPost_ret (results_cell_row (P := Tryz.prog) rfl _ _ w.heap.size 27 _ (0, 0) _ rfl hset Tryz.underlying27 rfl (by kernel_rfl)) rfl ?_
          exact dbad KK.out (by rw [ddc7, HV.out]; simp only; rw [HBD.out.dl]; rfl) form_any HR.out HLO.out HFR.out hsf (fun k h => by have h : k = w.heap.size := h; omega) hm
        · have hgt : (0 : Int) < (mt : Int) := by omega
          obtain ⟨y0, y1, yz, yl⟩ := pair_cells HR.out.row
          clear hmt
          go_wp2_with fail
          refine (wrong_any m q p sv l wr s b true HR.out (by simp [HLO.out])).mono ?_
          rintro e w8 ⟨rfl, n8, hw8⟩
          have f8 : Fr no wr w8 := by rw [hw8]; exact Fr.drewN _ _ _
          have hb8 := f8.heap HBD.out.row (fun h => h)
          have hr8 := HR.out.kept0 f8
          have F8 := Lib.hid (HFR.out.trans f8 (fun _ _ h => h.elim)); have HB8 := Lib.hid hb8; have HR8 := Lib.hid hr8
          clear hw8 f8 y0 y1 yz yl hb8 hr8
          obtain ⟨q0, q1, q2, q3, q4, q5, q6, qz, ql⟩ := seven_cells HB8.out
          go_wp2
          have hp0 := Fr.refl (fun k => k = w.heap.size) w8
          have hset := set7_row (a := .int .u8 6) (b := .bool false) (c := .int .i64 0) (d := .string ⟨#[]⟩) (e := .slice none 0 0) (f := .slice A k0 c) (h := .slice none 0 0) HB8.out
          have hsf := hp0.trans (set7_fr _ w.heap.size (.int .u8 6) (.bool false) (.int .i64 0) (.string ⟨#[]⟩) (.slice none 0 0) (.slice A k0 c) (.slice none 0 0)) (fun _ _ h => h)
          unfold set7 at hset hsf
          try rw [Exit.noGoto_ret]
          refine bodyPost_ret (results_cell_row (P := Tryz.prog) rfl _ _ w.heap.size 27 _ (0, 0) _ rfl hset Tryz.underlying27 rfl (by kernel_rfl)) rfl ?_
          exact dbad KK.out (by rw [ddc7, HV.out]; simp only; rw [HBD.out.dl]; rfl) form_any HR8.out HLO.out F8.out hsf (fun k h => by have h : k = w.heap.size := h; omega) hm

set_option maxRecDepth 100000 in
set_option maxHeartbeats 8000000 in
theorem dval_flds (d m q p : Nat) (sv : Value) (l : List UInt8) (w : World) (s : RS) (hd8 : d ≤ 8) (hl : l.length ≤ 1000000) (r : List UInt8) (IH : ∀ (w : World) (s : RS) (r : List UInt8), Dr m q p sv l w s false → RS.On l s r → m ≤ w.heap.size → Calls Tryz.prog 59 #[.pointer (some ⟨q, 0, none⟩), .int .i64 (d : Nat)] w fun e w' => DOut l (Qp q p) (Dr m q p sv l) d r w e w') (h : Dr m q p sv l w s false) (ho : RS.On l s (8 :: r)) (hm : m ≤ w.heap.size) :
    Calls Tryz.prog 59 #[.pointer (some ⟨q, 0, none⟩), .int .i64 ((d + 1 : Nat) : Int)] w fun e w' => DOut l (Qp q p) (Dr m q p sv l) (d + 1) (8 :: r) w e w' := by
  have hd1 : IntKind.i64.wrap ((d : Int) + 1 - 1) = (d : Int) := IntWalk.i64_in _ ⟨by omega, by omega⟩ |>.trans (by omega)
  have IHH := Lib.hid IH; clear IH
  obtain ⟨hto, hon⟩ := ho.one
  obtain ⟨s1, hs1⟩ : ∃ s1, s1 = RS.mk (s.pos + 1) s.e s.wh := ⟨_, rfl⟩
  rw [← hs1] at hto hon
  clear hs1 ho
  have HTO := Lib.hid hto; have HON := Lib.hid hon
  clear hto hon
  have g0 : (((d + 1 : Nat) : Int) == 0) = false := by rw [beq_eq_false_iff_ne]; omega
  have K := dr_k m q p sv l h.hq h.hp
  have hqp := And.intro h.hq h.hp
  have hal := h.kept0 ((Fr.refl no w).alloc (.cells #[.int .u8 0, .bool false, .int .i64 0, .string ⟨#[]⟩, .slice none 0 0, .slice none 0 0, .slice none 0 0] 27))
  have hbl := h.rr.2.2.2.2.1
  obtain ⟨y0, y1, yz, yl⟩ := pair_cells h.row
  have HAL := Lib.hid hal; have HQP := Lib.hid hqp; have KK := Lib.hid K; have HBL := Lib.hid hbl
  clear h hal hqp K hbl
  go_enter Tryz.func59, Tryz.ntmps59
  go_wp2
  go_step3
  go_wp2_with fail
  refine (ru8_any p _ sv l s HAL.out.rr).mono ?_
  rintro e w2 ⟨rfl, h2, f2⟩
  have hd2 := HAL.out.read h2 f2
  have hb2 := f2.heap (heap_alloc_new w (.cells #[.int .u8 0, .bool false, .int .i64 0, .string ⟨#[]⟩, .slice none 0 0, .slice none 0 0, .slice none 0 0] 27)) (fun h => by have h1 := HQP.out.2; have h : w.heap.size = p := h; omega)
  have ff2 : Fr (Qp q p) w w2 := (fr_any ((Fr.refl no w).alloc (.cells #[.int .u8 0, .bool false, .int .i64 0, .string ⟨#[]⟩, .slice none 0 0, .slice none 0 0, .slice none 0 0] 27))).trans (at_qp f2) (fun _ _ h => h)
  clear h2 f2
  rw [HTO.out] at hd2 ⊢
  simp only [ube_one]
  have HD2 := Lib.hid hd2; have HB2 := Lib.hid hb2; have FF2 := Lib.hid ff2
  clear hd2 hb2 ff2 y0 y1 yz yl HTO
  go_wp2_with fail
  refine (wrong_any m q p sv l w2 s1 false false HD2.out (by simp [Lost, HON.out.e])).mono ?_
  rintro e w3 ⟨rfl, n3, hw3⟩
  have f3 : Fr no w2 w3 := by rw [hw3]; exact Fr.drewN _ _ _
  have hd3 := HD2.out.kept0 f3
  have hb3 := f3.heap HB2.out (fun h => h)
  obtain ⟨y0, y1, yz, yl⟩ := pair_cells hd3.row
  obtain ⟨q0, q1, q2, q3, q4, q5, q6, qz, ql⟩ := seven_cells hb3
  have hne : w.heap.size ≠ q := by have h1 := HQP.out.1; omega
  have HD3 := Lib.hid hd3; have HB3 := Lib.hid hb3; have F3 := Lib.hid (FF2.out.trans f3 (fun _ _ h => h.elim))
  clear hw3 f3 hd3 hb3 HD2 HB2 FF2
  have hp0 := Fr.setCell (Fr.refl (fun k => k = w.heap.size) w3) ⟨w.heap.size, 0, none⟩ (.int .u8 7) (fun _ => rfl)
  have hs0 := hp_same HB3.out 0 (.int .u8 7)
  simp only [List.setIfInBounds_toArray, List.set_cons_zero] at hs0
  have hd4 := HD3.out.kept hp0 (fun k h => by have h : k = w.heap.size := h; omega)
  have f4 : Fr (Qp q p) w (w3.setCell ⟨w.heap.size, 0, none⟩ (.int .u8 7)) := F3.out.trans hp0 (fun k hk h => by have h : k = w.heap.size := h; omega)
  have HD4 := Lib.hid hd4; have HS0 := Lib.hid hs0; have F4 := Lib.hid f4
  clear hp0 hs0 hd4 f4 HD3 HB3 F3
  go_wp2_with fail
  generalize w3.setCell ⟨w.heap.size, 0, none⟩ (.int .u8 7) = w4 at HD4 HS0 F4 ⊢
  refine (rvar_any p w4 sv l s1 HD4.out.rr).mono ?_
  rintro e w6 ⟨rfl, h6, f6⟩
  have hd6 := HD4.out.read h6 f6
  have hb6 := f6.heap HS0.out (fun h => by have h1 := HQP.out.2; have h : w.heap.size = p := h; omega)
  obtain ⟨y0, y1, yz, yl⟩ := pair_cells hd6.row
  obtain ⟨q0, q1, q2, q3, q4, q5, q6, qz, ql⟩ := seven_cells hb6
  have HD6 := Lib.hid hd6; have HB6 := Lib.hid hb6; have F6 := Lib.hid (F4.out.trans (at_qp f6) (fun _ _ h => h))
  clear h6 f6 hd6 hb6 HD4 HS0 F4
  cases hv : rvi r with
  | none =>
    obtain ⟨e1, e2⟩ := HON.out.var_no hv
    rw [e1]
    have HV := Lib.hid hv; have HE := Lib.hid e2
    clear hv e1 e2
    rw [show ((0 : Nat) : Int) = 0 from rfl]
    go_wp2
    go_loopw [7] (fun nv wr => nv = .int .u64 0 ∧ wr = w6) (fun _ _ => 0)
    case atStart => exact ⟨rfl, rfl⟩
    case round =>
      obtain ⟨rfl, rfl⟩ := hrel
      go_wp2
      have hp0 := Fr.refl (fun k => k = w.heap.size) wr
      have hset := set7_row (a := .int .u8 7) (b := .bool false) (c := .int .i64 0) (d := .string ⟨#[]⟩) (e := .slice none 0 0) (f := .slice none 0 0) (h := .slice none 0 0) HB6.out
      have hsf := hp0.trans (set7_fr _ w.heap.size (.int .u8 7) (.bool false) (.int .i64 0) (.string ⟨#[]⟩) (.slice none 0 0) (.slice none 0 0) (.slice none 0 0)) (fun _ _ h => h)
      unfold set7 at hset hsf
      try rw [Exit.noGoto_ret]
      refine bodyPost_ret (results_cell_row (P := Tryz.prog) rfl _ _ w.heap.size 27 _ (0, 0) _ rfl hset Tryz.underlying27 rfl (by kernel_rfl)) rfl ?_
      exact dbad KK.out (by rw [ddc8, HV.out]) form_any HD6.out (.inr HE.out) F6.out hsf (fun k h => by have h : k = w.heap.size := h; omega) hm
  | some z =>
    obtain ⟨n, r0⟩ := z
    obtain ⟨e1, e2⟩ := HON.out.var hv
    rw [e1]
    have hnl : lt64 (n : Int) := ⟨by have := (rvi_some hv).2; omega⟩
    have hlr : r0.length ≤ 1000000 := by have h1 := rvi_lt hv; have h2 := HON.out.len; omega
    have hg0 := FG.start (d := d) (n0 := n) (m0 := w.heap.size) HB6.out HD6.out e2
    have HV := Lib.hid hv; have HG0 := Lib.hid hg0; have HNL := Lib.hid hnl; have HLR := Lib.hid hlr
    clear hv e1 e2 hg0 HD6 HB6 hnl hlr
    go_wp2
    clear q0 q1 q2 q3 q4 q5 q6 qz ql y0 y1 yz yl
    go_loopw [7] (fun nv wr => ∃ mt : Nat, mt ≤ n ∧ nv = .int .u64 mt ∧ Fr (Qp q p) w wr ∧ ((∃ ys s r A c, FG l (Dr m q p sv l) d w.heap.size w.heap.size wr n r0 mt ys s r A c) ∨ ∃ A k c, FB (Dr m q p sv l) d w.heap.size wr n r0 A k c)) (fun nv _ => (intOf nv).toNat)
    case atStart => exact ⟨n, Nat.le_refl _, rfl, F6.out, .inl ⟨[], _, r0, none, 0, HG0.out⟩⟩
    case round =>
      obtain ⟨mt, hmn, rfl, hfr, hst⟩ := hrel
      rcases hst with ⟨ys, s, r, A, c, hg⟩ | ⟨A, k0, c, hb⟩
      · have HFR := Lib.hid hfr
        by_cases hmt : mt = 0
        · subst hmt
          rw [show ((0 : Nat) : Int) = 0 from rfl]
          obtain ⟨y0, y1, yz, yl⟩ := pair_cells hg.rd.row
          obtain ⟨q0, q1, q2, q3, q4, q5, q6, qz, ql⟩ := seven_cells hg.row
          have HG := Lib.hid hg
          clear hg hfr
          go_wp2
          have hp0 := Fr.refl (fun k => k = w.heap.size) wr
          have hset := set7_row (a := .int .u8 7) (b := .bool false) (c := .int .i64 0) (d := .string ⟨#[]⟩) (e := .slice none 0 0) (f := .slice none 0 0) (h := .slice A ys.length c) HG.out.row
          have hsf := hp0.trans (set7_fr _ w.heap.size (.int .u8 7) (.bool false) (.int .i64 0) (.string ⟨#[]⟩) (.slice none 0 0) (.slice none 0 0) (.slice A ys.length c)) (fun _ _ h => h)
          unfold set7 at hset hsf
          try rw [Exit.noGoto_ret]
          refine bodyPost_ret (results_cell_row (P := Tryz.prog) rfl _ _ w.heap.size 27 _ (0, 0) _ rfl hset Tryz.underlying27 rfl (by kernel_rfl)) rfl ?_
          have hdl := HG.out.dl
          rw [ddecF_nil] at hdl
          simp only [Option.map_some, List.append_nil] at hdl
          exact dfin (x := .mk 7 false 0 [] [] (.slice none 0 0, .slice none 0 0, .slice A ys.length c) [] ys) KK.out (by rw [ddc8, HV.out]; simp only; rw [hdl, bare_eq]; rfl) (held_flds HG.out.ow HG.out.each _ _ _) (fun k hk => by
            rcases blk_flds hk with h | ⟨y, hy, h⟩
            · have := HG.out.own k h; exact ⟨by omega, fun h => by have h : k = w.heap.size := h; omega⟩
            · have := (HG.out.yn y hy k h).1; exact ⟨by omega, fun h => by have h : k = w.heap.size := h; omega⟩) HG.out.rd HG.out.on HFR.out hsf (fun k h => by have h : k = w.heap.size := h; omega) hm
        · obtain ⟨k, hk⟩ : ∃ k, mt = k + 1 := ⟨mt - 1, by omega⟩
          have hgt : (0 : Int) < (mt : Int) := by omega
          have hwp : IntKind.u64.wrap ((mt : Int) - 1) = (k : Int) := by
            rw [show (mt : Int) - 1 = (k : Int) by omega]
            exact wrap_u64_id _ (by omega) (by have := HNL.out.out; omega)
          have hwk : IntKind.u64.wrap (k : Int) = (k : Int) := wrap_u64_id _ (by omega) (by have := HNL.out.out; omega)
          have HWK := Lib.hid hwk; clear hwk
          rw [hk] at hg
          obtain ⟨y0, y1, yz, yl⟩ := pair_cells hg.rd.row
          have HG1 := Lib.hid hg; have HK := Lib.hid hk
          clear hg hfr hmt hk
          go_wp2_with fail
          refine (wrong_any m q p sv l wr s false false HG1.out.rd (by simp [Lost, HG1.out.on.e])).mono ?_
          rintro e w8 ⟨rfl, n8, hw8⟩
          have f8 : Fr no wr w8 := by rw [hw8]; exact Fr.drewN _ _ _
          have hg := HG1.out.kept0 KK.out f8
          have HG := Lib.hid hg; have HFR := Lib.hid (HFR.out.trans f8 (fun _ _ h => h.elim))
          clear hw8 f8 HG1 y0 y1 yz yl
          obtain ⟨y0, y1, yz, yl⟩ := pair_cells hg.rd.row
          obtain ⟨q0, q1, q2, q3, q4, q5, q6, qz, ql⟩ := seven_cells hg.row
          clear hg
          obtain ⟨wr, rfl⟩ : ∃ wr, wr = w8 := ⟨_, rfl⟩
          have hmk : mt = k + 1 := HK.out
          go_wp2_with fail
          refine (rtext_any p wr sv l s HG.out.rd.rr).mono ?_
          rintro e w9 ⟨rfl, h9, f9⟩
          have hd9 := HG.out.rd.read h9 f9
          have hfq := at_qp (q := q) f9
          have hb9 := hfq.heap HG.out.row (fun h => by have h1 := HQP.out; rcases h with h | h <;> omega)
          obtain ⟨t, ht⟩ : ∃ t, t = (s.text l).1 := ⟨_, rfl⟩
          rw [← ht]
          have HD9 := Lib.hid hd9; have HFQ := Lib.hid hfq; have HT := Lib.hid ht; have HB9 := Lib.hid hb9
          clear h9 f9 hd9 hfq ht hb9 y0 y1 yz yl q0 q1 q2 q3 q4 q5 q6 qz ql
          obtain ⟨q0, q1, q2, q3, q4, q5, q6, qz, ql⟩ := seven_cells HB9.out
          cases hrv : rvt r with
          | some z =>
            obtain ⟨t', r1⟩ := z
            obtain ⟨e1, e2⟩ := HG.out.on.text hrv
            have ht2 := HT.out
            rw [e1] at ht2
            subst ht2
            have hc := (IHH.out w9.drew _ r1 (HD9.out.kept0 (Fr.drew (Fr.refl no w9))) e2 (by have h1 := HG.out.lt; have h2 := HFQ.out.size; show m ≤ w9.heap.size; omega)).mono fun e w' h => item_f (k := k) hrv h
            have HC := Lib.hid hc; have HRV := Lib.hid hrv
            clear hc hrv e1 e2
            go_wp2_with fail
            refine wp_region_fork anyW (.fork [0, 2, 3, 4, 5] (.lin [1, 6, 7, 8, 9, 10, 11]) (.lin [6, 1, 7, 8, 9, 10, 11])) (fun i => [Kd.p, Kd.l, Kd.p, Kd.p, Kd.p, Kd.p, Kd.e, Kd.g, Kd.g, Kd.e, Kd.p, Kd.e].getD i .e) (by kernel_rfl) (by kernel_rfl) True.intro (wpB_fork ?_)
            iterate 5
              first | refine wpX_pu rfl rfl rfl (by first | exact pu_move rfl | exact pu_assign rfl | exact pu_nilCheck rfl rfl | exact pu_binInt rfl rfl rfl | exact pu_conv rfl rfl (by kernel_rfl) | exact pu_fld rfl (by kernel_rfl) | exact pu_ix rfl rfl rfl (by kernel_rfl) | exact pu_unOp rfl | exact pu_binStr rfl rfl rfl | exact pu_len rfl rfl | exact pu_lens rfl rfl | exact pu_pick rfl | exact pu_slice rfl rfl) (fun K hK => ?_) | refine wpX_rd rfl rfl rfl (rd_load rfl) (fun K hK => ?_) | refine wpX_gr rfl rfl rfl (by first | exact gr_buildSlice rfl | exact gr_box rfl | exact gr_alloc rfl) (fun K hK => ?_) | refine wpX_ex rfl rfl rfl (fun K hK => ?_)
              try go_wp2
            refine wpX_fork (wpB_lin ?_) (wpB_lin ?_)
            · skip
              first | refine wpX_pu rfl rfl rfl (by first | exact pu_move rfl | exact pu_assign rfl | exact pu_nilCheck rfl rfl | exact pu_binInt rfl rfl rfl | exact pu_conv rfl rfl (by kernel_rfl) | exact pu_fld rfl (by kernel_rfl) | exact pu_ix rfl rfl rfl (by kernel_rfl) | exact pu_unOp rfl | exact pu_binStr rfl rfl rfl | exact pu_len rfl rfl | exact pu_lens rfl rfl | exact pu_pick rfl | exact pu_slice rfl rfl) (fun K hK => ?_) | refine wpX_rd rfl rfl rfl (rd_load rfl) (fun K hK => ?_) | refine wpX_gr rfl rfl rfl (by first | exact gr_buildSlice rfl | exact gr_box rfl | exact gr_alloc rfl) (fun K hK => ?_) | refine wpX_ex rfl rfl rfl (fun K hK => ?_)
              try go_wp2
              refine wpX_ex rfl rfl rfl (fun K hK => ?_)
              go_wp2_with fail
              refine HC.out.mono ?_
              rintro e w5 ⟨f5, ⟨y, r2, s2, hdc, rfl, hoy, hby, hr5, hon5⟩ | ⟨hdc, ⟨jk, jb, ji, jt, JB, jbn, jbc, JL, jln, jlc, JF, jfn, jfc, rfl⟩, s2, b2, hr5, hlo5⟩⟩
              · skip
                have f5 := (HFQ.out.trans (fr_any (S := Qp q p) (Fr.drew (Fr.refl no w9))) (fun _ _ h => h)).trans f5 (fun _ _ h => h)
                have how5 := HG.out.ow.kept f5 (fun k hk h => by have := HG.out.own k hk; have h1 := HQP.out; rcases h with h | h <;> omega)
                have hb5 := f5.heap HG.out.row (fun h => by have h1 := HQP.out; rcases h with h | h <;> omega)
                obtain ⟨q0, q1, q2, q3, q4, q5, q6, qz, ql⟩ := seven_cells hb5
                have hds := ddec_some d _ _ _ hdc
                have hgy := held_good (N := 1000001) (by omega) y hds.2.1 (by have h1 := congrArg List.length hds.1; have h2 := HG.out.ln; have h3 := HLR.out; have h4 := rvt_lt HRV.out; simp only [List.length_append] at h1; omega) hoy
                obtain ⟨YB, yb, YL, yl, YF, yf, hfy⟩ := hgy.node.forms
                rw [hfy.agg]
                have hyc : y.cells = [.int .u8 y.k.toNat, .bool y.b, .int .i64 y.i, .string ⟨y.t.toArray⟩, .slice YB y.bs.length yb, .slice YL y.l.length yl, .slice YF y.f.length yf] := by unfold cells; rw [hfy.B, hfy.L, hfy.F]
                have HOY := Lib.hid hoy; have HBY := Lib.hid hby; have HYC := Lib.hid hyc; have HON5 := Lib.hid hon5
                clear hoy hby hyc hfy hgy hds hon5
                have F5 := Lib.hid f5; have HOW5 := Lib.hid how5; have HR5 := Lib.hid hr5; have HDC := Lib.hid hdc
                clear f5 how5 hb5 hr5 hdc
                go_simp
                refine hK _ _ ?_
                clear hK K
                refine wpX_ca rfl rfl rfl (fun K hK => ?_)
                go_simp
                refine ⟨⟨#[], _, (World.ext_self _).symm⟩, hK _ _ ?_⟩
                clear hK K
                first | refine wpX_pu rfl rfl rfl (by first | exact pu_move rfl | exact pu_assign rfl | exact pu_nilCheck rfl rfl | exact pu_binInt rfl rfl rfl | exact pu_conv rfl rfl (by kernel_rfl) | exact pu_fld rfl (by kernel_rfl) | exact pu_ix rfl rfl rfl (by kernel_rfl) | exact pu_unOp rfl | exact pu_binStr rfl rfl rfl | exact pu_len rfl rfl | exact pu_lens rfl rfl | exact pu_pick rfl | exact pu_slice rfl rfl) (fun K hK => ?_) | refine wpX_rd rfl rfl rfl (rd_load rfl) (fun K hK => ?_) | refine wpX_gr rfl rfl rfl (by first | exact gr_buildSlice rfl | exact gr_box rfl | exact gr_alloc rfl) (fun K hK => ?_) | refine wpX_ex rfl rfl rfl (fun K hK => ?_)
                try go_wp2
                refine wpX_ex rfl rfl rfl (fun K hK => ?_)
                have hal := (Fr.refl no w5).alloc (.cells #[.string ⟨t.toArray⟩, .int .u8 y.k.toNat, .bool y.b, .int .i64 y.i, .string ⟨y.t.toArray⟩, .slice YB y.bs.length yb, .slice YL y.l.length yl, .slice YF y.f.length yf] 87)
                have HAL := Lib.hid hal; clear hal
                refine wp_apo (n := ys.length) (xs := ys.flatMap fcells) (m := 1) (news := [.string ⟨t.toArray⟩, .int .u8 y.k.toNat, .bool y.b, .int .i64 y.i, .string ⟨y.t.toArray⟩, .slice YB y.bs.length yb, .slice YL y.l.length yl, .slice YF y.f.length yf]) (.tmp 108) (.tmp 115) 25 rfl tbF (HOW5.out.kept0 HAL.out) (built8d w5 (.string ⟨t.toArray⟩) (.int .u8 y.k.toNat) (.bool y.b) (.int .i64 y.i) (.string ⟨y.t.toArray⟩) (.slice YB y.bs.length yb) (.slice YL y.l.length yl) (.slice YF y.f.length yf) 87) rfl rfl (by intro u hu; simp only [List.mem_cons, List.not_mem_nil, or_false] at hu; rcases hu with rfl | rfl | rfl | rfl | rfl | rfl | rfl | rfl <;> rfl) ?mc1g1 ?mc1g2 ?mc1g3
                case mc1g1 => have := HG.out.ln; have := HLR.out; simp only [maxLen]; omega
                case mc1g2 => have := HG.out.ln; have := HLR.out; omega
                case mc1g3 =>
                  intro A' N c' w7 hN ho7 _ hf7 hs7
                  subst hN
                  have hrow := F_row (A := A) (n := ys.length) (c := c) HG.out.row (fun k hk => Nat.lt_of_lt_of_le (KK.out.lt k hk) hm) (Nat.le_refl w.heap.size) F5.out HAL.out hf7 HG.out.own
                  obtain ⟨q0, q1, q2, q3, q4, q5, q6, qz, ql⟩ := seven_cells hrow
                  have FW := Lib.hid (F_fr (v := .slice A' (ys.length + 1) c') HFR.out F5.out HAL.out hf7 (Nat.le_refl w.heap.size) (Nat.le_refl w.heap.size) HG.out.own)
                  have hst := HG.out.step KK.out hm (Nat.le_refl w.heap.size) HG.out.lt F5.out HOY.out (fun k hk => Nat.le_trans HFQ.out.size (show w9.heap.size ≤ k from HBY.out k hk)) HR5.out HON5.out HRV.out HDC.out HAL.out (by show Ow w7 _ _ _ _ (_ ++ .string ⟨t.toArray⟩ :: y.cells); rw [HYC.out]; exact ho7) hf7 hs7
                  have HST := Lib.hid hst
                  clear hst ho7 hf7 hs7 hrow
                  go_simp
                  refine hK _ _ ?_
                  clear hK K
                  first | refine wpX_pu rfl rfl rfl (by first | exact pu_move rfl | exact pu_assign rfl | exact pu_nilCheck rfl rfl | exact pu_binInt rfl rfl rfl | exact pu_conv rfl rfl (by kernel_rfl) | exact pu_fld rfl (by kernel_rfl) | exact pu_ix rfl rfl rfl (by kernel_rfl) | exact pu_unOp rfl | exact pu_binStr rfl rfl rfl | exact pu_len rfl rfl | exact pu_lens rfl rfl | exact pu_pick rfl | exact pu_slice rfl rfl) (fun K hK => ?_) | refine wpX_rd rfl rfl rfl (rd_load rfl) (fun K hK => ?_) | refine wpX_gr rfl rfl rfl (by first | exact gr_buildSlice rfl | exact gr_box rfl | exact gr_alloc rfl) (fun K hK => ?_) | refine wpX_ex rfl rfl rfl (fun K hK => ?_)
                  try go_wp2
                  refine wpX_ex rfl rfl rfl (fun K hK => ?_)
                  go_simp
                  refine hK _ _ ?_
                  clear hK K
                  refine wpX_done ?_
                  go_wp2
                  go_roundw
                  case rel => exact ⟨k, by have := HK.out; omega, by rw [HWK.out], FW.out, .inl ⟨ys ++ [(t, y)], s2, r2, A', c', HST.out⟩⟩
                  case measure => rw [HWK.out]; have := HK.out; simp only [intOf, Int.toNat_natCast]; omega
              · skip
                have f5 := (HFQ.out.trans (fr_any (S := Qp q p) (Fr.drew (Fr.refl no w9))) (fun _ _ h => h)).trans f5 (fun _ _ h => h)
                have how5 := HG.out.ow.kept f5 (fun k hk h => by have := HG.out.own k hk; have h1 := HQP.out; rcases h with h | h <;> omega)
                have hb5 := f5.heap HG.out.row (fun h => by have h1 := HQP.out; rcases h with h | h <;> omega)
                obtain ⟨q0, q1, q2, q3, q4, q5, q6, qz, ql⟩ := seven_cells hb5
                have HLO := Lib.hid hlo5; clear hlo5
                have F5 := Lib.hid f5; have HOW5 := Lib.hid how5; have HR5 := Lib.hid hr5; have HDC := Lib.hid hdc
                clear f5 how5 hb5 hr5 hdc
                go_simp
                refine hK _ _ ?_
                clear hK K
                refine wpX_ca rfl rfl rfl (fun K hK => ?_)
                go_simp
                refine ⟨⟨#[], _, (World.ext_self _).symm⟩, hK _ _ ?_⟩
                clear hK K
                first | refine wpX_pu rfl rfl rfl (by first | exact pu_move rfl | exact pu_assign rfl | exact pu_nilCheck rfl rfl | exact pu_binInt rfl rfl rfl | exact pu_conv rfl rfl (by kernel_rfl) | exact pu_fld rfl (by kernel_rfl) | exact pu_ix rfl rfl rfl (by kernel_rfl) | exact pu_unOp rfl | exact pu_binStr rfl rfl rfl | exact pu_len rfl rfl | exact pu_lens rfl rfl | exact pu_pick rfl | exact pu_slice rfl rfl) (fun K hK => ?_) | refine wpX_rd rfl rfl rfl (rd_load rfl) (fun K hK => ?_) | refine wpX_gr rfl rfl rfl (by first | exact gr_buildSlice rfl | exact gr_box rfl | exact gr_alloc rfl) (fun K hK => ?_) | refine wpX_ex rfl rfl rfl (fun K hK => ?_)
                try go_wp2
                refine wpX_ex rfl rfl rfl (fun K hK => ?_)
                have hal := (Fr.refl no w5).alloc (.cells #[.string ⟨t.toArray⟩, .int .u8 jk, .bool jb, .int .i64 ji, .string jt, .slice JB jbn jbc, .slice JL jln jlc, .slice JF jfn jfc] 87)
                have HAL := Lib.hid hal; clear hal
                refine wp_apo (n := ys.length) (xs := ys.flatMap fcells) (m := 1) (news := [.string ⟨t.toArray⟩, .int .u8 jk, .bool jb, .int .i64 ji, .string jt, .slice JB jbn jbc, .slice JL jln jlc, .slice JF jfn jfc]) (.tmp 108) (.tmp 115) 25 rfl tbF (HOW5.out.kept0 HAL.out) (built8d w5 (.string ⟨t.toArray⟩) (.int .u8 jk) (.bool jb) (.int .i64 ji) (.string jt) (.slice JB jbn jbc) (.slice JL jln jlc) (.slice JF jfn jfc) 87) rfl rfl (by intro u hu; simp only [List.mem_cons, List.not_mem_nil, or_false] at hu; rcases hu with rfl | rfl | rfl | rfl | rfl | rfl | rfl | rfl <;> rfl) ?mc1b1 ?mc1b2 ?mc1b3
                case mc1b1 => have := HG.out.ln; have := HLR.out; simp only [maxLen]; omega
                case mc1b2 => have := HG.out.ln; have := HLR.out; omega
                case mc1b3 =>
                  intro A' N c' w7 hN ho7 _ hf7 hs7
                  subst hN
                  have hrow := F_row (A := A) (n := ys.length) (c := c) HG.out.row (fun k hk => Nat.lt_of_lt_of_le (KK.out.lt k hk) hm) (Nat.le_refl w.heap.size) F5.out HAL.out hf7 HG.out.own
                  obtain ⟨q0, q1, q2, q3, q4, q5, q6, qz, ql⟩ := seven_cells hrow
                  have FW := Lib.hid (F_fr (v := .slice A' (ys.length + 1) c') HFR.out F5.out HAL.out hf7 (Nat.le_refl w.heap.size) (Nat.le_refl w.heap.size) HG.out.own)
                  have hst := HG.out.lose (n' := ys.length + 1) (A' := A') (c' := c') KK.out hm (Nat.le_refl w.heap.size) F5.out HR5.out HLO.out HDC.out HAL.out hf7
                  have HST := Lib.hid hst
                  clear hst ho7 hf7 hs7 hrow
                  go_simp
                  refine hK _ _ ?_
                  clear hK K
                  first | refine wpX_pu rfl rfl rfl (by first | exact pu_move rfl | exact pu_assign rfl | exact pu_nilCheck rfl rfl | exact pu_binInt rfl rfl rfl | exact pu_conv rfl rfl (by kernel_rfl) | exact pu_fld rfl (by kernel_rfl) | exact pu_ix rfl rfl rfl (by kernel_rfl) | exact pu_unOp rfl | exact pu_binStr rfl rfl rfl | exact pu_len rfl rfl | exact pu_lens rfl rfl | exact pu_pick rfl | exact pu_slice rfl rfl) (fun K hK => ?_) | refine wpX_rd rfl rfl rfl (rd_load rfl) (fun K hK => ?_) | refine wpX_gr rfl rfl rfl (by first | exact gr_buildSlice rfl | exact gr_box rfl | exact gr_alloc rfl) (fun K hK => ?_) | refine wpX_ex rfl rfl rfl (fun K hK => ?_)
                  try go_wp2
                  refine wpX_ex rfl rfl rfl (fun K hK => ?_)
                  go_simp
                  refine hK _ _ ?_
                  clear hK K
                  refine wpX_done ?_
                  go_wp2
                  go_roundw
                  case rel => exact ⟨k, by have := HK.out; omega, by rw [HWK.out], FW.out, .inr ⟨A', _, c', HST.out⟩⟩
                  case measure => rw [HWK.out]; have := HK.out; simp only [intOf, Int.toNat_natCast]; omega
            · skip
              refine wpX_ex rfl rfl rfl (fun K hK => ?_)
              go_wp2_with fail
              refine HC.out.mono ?_
              rintro e w5 ⟨f5, ⟨y, r2, s2, hdc, rfl, hoy, hby, hr5, hon5⟩ | ⟨hdc, ⟨jk, jb, ji, jt, JB, jbn, jbc, JL, jln, jlc, JF, jfn, jfc, rfl⟩, s2, b2, hr5, hlo5⟩⟩
              · skip
                have f5 := (HFQ.out.trans (fr_any (S := Qp q p) (Fr.drew (Fr.refl no w9))) (fun _ _ h => h)).trans f5 (fun _ _ h => h)
                have how5 := HG.out.ow.kept f5 (fun k hk h => by have := HG.out.own k hk; have h1 := HQP.out; rcases h with h | h <;> omega)
                have hb5 := f5.heap HG.out.row (fun h => by have h1 := HQP.out; rcases h with h | h <;> omega)
                obtain ⟨q0, q1, q2, q3, q4, q5, q6, qz, ql⟩ := seven_cells hb5
                have hds := ddec_some d _ _ _ hdc
                have hgy := held_good (N := 1000001) (by omega) y hds.2.1 (by have h1 := congrArg List.length hds.1; have h2 := HG.out.ln; have h3 := HLR.out; have h4 := rvt_lt HRV.out; simp only [List.length_append] at h1; omega) hoy
                obtain ⟨YB, yb, YL, yl, YF, yf, hfy⟩ := hgy.node.forms
                rw [hfy.agg]
                have hyc : y.cells = [.int .u8 y.k.toNat, .bool y.b, .int .i64 y.i, .string ⟨y.t.toArray⟩, .slice YB y.bs.length yb, .slice YL y.l.length yl, .slice YF y.f.length yf] := by unfold cells; rw [hfy.B, hfy.L, hfy.F]
                have HOY := Lib.hid hoy; have HBY := Lib.hid hby; have HYC := Lib.hid hyc; have HON5 := Lib.hid hon5
                clear hoy hby hyc hfy hgy hds hon5
                have F5 := Lib.hid f5; have HOW5 := Lib.hid how5; have HR5 := Lib.hid hr5; have HDC := Lib.hid hdc
                clear f5 how5 hb5 hr5 hdc
                go_simp
                refine hK _ _ ?_
                clear hK K
                first | refine wpX_pu rfl rfl rfl (by first | exact pu_move rfl | exact pu_assign rfl | exact pu_nilCheck rfl rfl | exact pu_binInt rfl rfl rfl | exact pu_conv rfl rfl (by kernel_rfl) | exact pu_fld rfl (by kernel_rfl) | exact pu_ix rfl rfl rfl (by kernel_rfl) | exact pu_unOp rfl | exact pu_binStr rfl rfl rfl | exact pu_len rfl rfl | exact pu_lens rfl rfl | exact pu_pick rfl | exact pu_slice rfl rfl) (fun K hK => ?_) | refine wpX_rd rfl rfl rfl (rd_load rfl) (fun K hK => ?_) | refine wpX_gr rfl rfl rfl (by first | exact gr_buildSlice rfl | exact gr_box rfl | exact gr_alloc rfl) (fun K hK => ?_) | refine wpX_ex rfl rfl rfl (fun K hK => ?_)
                try go_wp2
                refine wpX_ca rfl rfl rfl (fun K hK => ?_)
                go_simp
                refine ⟨⟨#[], _, (World.ext_self _).symm⟩, hK _ _ ?_⟩
                clear hK K
                first | refine wpX_pu rfl rfl rfl (by first | exact pu_move rfl | exact pu_assign rfl | exact pu_nilCheck rfl rfl | exact pu_binInt rfl rfl rfl | exact pu_conv rfl rfl (by kernel_rfl) | exact pu_fld rfl (by kernel_rfl) | exact pu_ix rfl rfl rfl (by kernel_rfl) | exact pu_unOp rfl | exact pu_binStr rfl rfl rfl | exact pu_len rfl rfl | exact pu_lens rfl rfl | exact pu_pick rfl | exact pu_slice rfl rfl) (fun K hK => ?_) | refine wpX_rd rfl rfl rfl (rd_load rfl) (fun K hK => ?_) | refine wpX_gr rfl rfl rfl (by first | exact gr_buildSlice rfl | exact gr_box rfl | exact gr_alloc rfl) (fun K hK => ?_) | refine wpX_ex rfl rfl rfl (fun K hK => ?_)
                try go_wp2
                refine wpX_ex rfl rfl rfl (fun K hK => ?_)
                have hal := (Fr.refl no w5).alloc (.cells #[.string ⟨t.toArray⟩, .int .u8 y.k.toNat, .bool y.b, .int .i64 y.i, .string ⟨y.t.toArray⟩, .slice YB y.bs.length yb, .slice YL y.l.length yl, .slice YF y.f.length yf] 87)
                have HAL := Lib.hid hal; clear hal
                refine wp_apo (n := ys.length) (xs := ys.flatMap fcells) (m := 1) (news := [.string ⟨t.toArray⟩, .int .u8 y.k.toNat, .bool y.b, .int .i64 y.i, .string ⟨y.t.toArray⟩, .slice YB y.bs.length yb, .slice YL y.l.length yl, .slice YF y.f.length yf]) (.tmp 108) (.tmp 115) 25 rfl tbF (HOW5.out.kept0 HAL.out) (built8d w5 (.string ⟨t.toArray⟩) (.int .u8 y.k.toNat) (.bool y.b) (.int .i64 y.i) (.string ⟨y.t.toArray⟩) (.slice YB y.bs.length yb) (.slice YL y.l.length yl) (.slice YF y.f.length yf) 87) rfl rfl (by intro u hu; simp only [List.mem_cons, List.not_mem_nil, or_false] at hu; rcases hu with rfl | rfl | rfl | rfl | rfl | rfl | rfl | rfl <;> rfl) ?mc2g1 ?mc2g2 ?mc2g3
                case mc2g1 => have := HG.out.ln; have := HLR.out; simp only [maxLen]; omega
                case mc2g2 => have := HG.out.ln; have := HLR.out; omega
                case mc2g3 =>
                  intro A' N c' w7 hN ho7 _ hf7 hs7
                  subst hN
                  have hrow := F_row (A := A) (n := ys.length) (c := c) HG.out.row (fun k hk => Nat.lt_of_lt_of_le (KK.out.lt k hk) hm) (Nat.le_refl w.heap.size) F5.out HAL.out hf7 HG.out.own
                  obtain ⟨q0, q1, q2, q3, q4, q5, q6, qz, ql⟩ := seven_cells hrow
                  have FW := Lib.hid (F_fr (v := .slice A' (ys.length + 1) c') HFR.out F5.out HAL.out hf7 (Nat.le_refl w.heap.size) (Nat.le_refl w.heap.size) HG.out.own)
                  have hst := HG.out.step KK.out hm (Nat.le_refl w.heap.size) HG.out.lt F5.out HOY.out (fun k hk => Nat.le_trans HFQ.out.size (show w9.heap.size ≤ k from HBY.out k hk)) HR5.out HON5.out HRV.out HDC.out HAL.out (by show Ow w7 _ _ _ _ (_ ++ .string ⟨t.toArray⟩ :: y.cells); rw [HYC.out]; exact ho7) hf7 hs7
                  have HST := Lib.hid hst
                  clear hst ho7 hf7 hs7 hrow
                  go_simp
                  refine hK _ _ ?_
                  clear hK K
                  first | refine wpX_pu rfl rfl rfl (by first | exact pu_move rfl | exact pu_assign rfl | exact pu_nilCheck rfl rfl | exact pu_binInt rfl rfl rfl | exact pu_conv rfl rfl (by kernel_rfl) | exact pu_fld rfl (by kernel_rfl) | exact pu_ix rfl rfl rfl (by kernel_rfl) | exact pu_unOp rfl | exact pu_binStr rfl rfl rfl | exact pu_len rfl rfl | exact pu_lens rfl rfl | exact pu_pick rfl | exact pu_slice rfl rfl) (fun K hK => ?_) | refine wpX_rd rfl rfl rfl (rd_load rfl) (fun K hK => ?_) | refine wpX_gr rfl rfl rfl (by first | exact gr_buildSlice rfl | exact gr_box rfl | exact gr_alloc rfl) (fun K hK => ?_) | refine wpX_ex rfl rfl rfl (fun K hK => ?_)
                  try go_wp2
                  refine wpX_ex rfl rfl rfl (fun K hK => ?_)
                  go_simp
                  refine hK _ _ ?_
                  clear hK K
                  refine wpX_done ?_
                  go_wp2
                  go_roundw
                  case rel => exact ⟨k, by have := HK.out; omega, by rw [HWK.out], FW.out, .inl ⟨ys ++ [(t, y)], s2, r2, A', c', HST.out⟩⟩
                  case measure => rw [HWK.out]; have := HK.out; simp only [intOf, Int.toNat_natCast]; omega
              · skip
                have f5 := (HFQ.out.trans (fr_any (S := Qp q p) (Fr.drew (Fr.refl no w9))) (fun _ _ h => h)).trans f5 (fun _ _ h => h)
                have how5 := HG.out.ow.kept f5 (fun k hk h => by have := HG.out.own k hk; have h1 := HQP.out; rcases h with h | h <;> omega)
                have hb5 := f5.heap HG.out.row (fun h => by have h1 := HQP.out; rcases h with h | h <;> omega)
                obtain ⟨q0, q1, q2, q3, q4, q5, q6, qz, ql⟩ := seven_cells hb5
                have HLO := Lib.hid hlo5; clear hlo5
                have F5 := Lib.hid f5; have HOW5 := Lib.hid how5; have HR5 := Lib.hid hr5; have HDC := Lib.hid hdc
                clear f5 how5 hb5 hr5 hdc
                go_simp
                refine hK _ _ ?_
                clear hK K
                first | refine wpX_pu rfl rfl rfl (by first | exact pu_move rfl | exact pu_assign rfl | exact pu_nilCheck rfl rfl | exact pu_binInt rfl rfl rfl | exact pu_conv rfl rfl (by kernel_rfl) | exact pu_fld rfl (by kernel_rfl) | exact pu_ix rfl rfl rfl (by kernel_rfl) | exact pu_unOp rfl | exact pu_binStr rfl rfl rfl | exact pu_len rfl rfl | exact pu_lens rfl rfl | exact pu_pick rfl | exact pu_slice rfl rfl) (fun K hK => ?_) | refine wpX_rd rfl rfl rfl (rd_load rfl) (fun K hK => ?_) | refine wpX_gr rfl rfl rfl (by first | exact gr_buildSlice rfl | exact gr_box rfl | exact gr_alloc rfl) (fun K hK => ?_) | refine wpX_ex rfl rfl rfl (fun K hK => ?_)
                try go_wp2
                refine wpX_ca rfl rfl rfl (fun K hK => ?_)
                go_simp
                refine ⟨⟨#[], _, (World.ext_self _).symm⟩, hK _ _ ?_⟩
                clear hK K
                first | refine wpX_pu rfl rfl rfl (by first | exact pu_move rfl | exact pu_assign rfl | exact pu_nilCheck rfl rfl | exact pu_binInt rfl rfl rfl | exact pu_conv rfl rfl (by kernel_rfl) | exact pu_fld rfl (by kernel_rfl) | exact pu_ix rfl rfl rfl (by kernel_rfl) | exact pu_unOp rfl | exact pu_binStr rfl rfl rfl | exact pu_len rfl rfl | exact pu_lens rfl rfl | exact pu_pick rfl | exact pu_slice rfl rfl) (fun K hK => ?_) | refine wpX_rd rfl rfl rfl (rd_load rfl) (fun K hK => ?_) | refine wpX_gr rfl rfl rfl (by first | exact gr_buildSlice rfl | exact gr_box rfl | exact gr_alloc rfl) (fun K hK => ?_) | refine wpX_ex rfl rfl rfl (fun K hK => ?_)
                try go_wp2
                refine wpX_ex rfl rfl rfl (fun K hK => ?_)
                have hal := (Fr.refl no w5).alloc (.cells #[.string ⟨t.toArray⟩, .int .u8 jk, .bool jb, .int .i64 ji, .string jt, .slice JB jbn jbc, .slice JL jln jlc, .slice JF jfn jfc] 87)
                have HAL := Lib.hid hal; clear hal
                refine wp_apo (n := ys.length) (xs := ys.flatMap fcells) (m := 1) (news := [.string ⟨t.toArray⟩, .int .u8 jk, .bool jb, .int .i64 ji, .string jt, .slice JB jbn jbc, .slice JL jln jlc, .slice JF jfn jfc]) (.tmp 108) (.tmp 115) 25 rfl tbF (HOW5.out.kept0 HAL.out) (built8d w5 (.string ⟨t.toArray⟩) (.int .u8 jk) (.bool jb) (.int .i64 ji) (.string jt) (.slice JB jbn jbc) (.slice JL jln jlc) (.slice JF jfn jfc) 87) rfl rfl (by intro u hu; simp only [List.mem_cons, List.not_mem_nil, or_false] at hu; rcases hu with rfl | rfl | rfl | rfl | rfl | rfl | rfl | rfl <;> rfl) ?mc2b1 ?mc2b2 ?mc2b3
                case mc2b1 => have := HG.out.ln; have := HLR.out; simp only [maxLen]; omega
                case mc2b2 => have := HG.out.ln; have := HLR.out; omega
                case mc2b3 =>
                  intro A' N c' w7 hN ho7 _ hf7 hs7
                  subst hN
                  have hrow := F_row (A := A) (n := ys.length) (c := c) HG.out.row (fun k hk => Nat.lt_of_lt_of_le (KK.out.lt k hk) hm) (Nat.le_refl w.heap.size) F5.out HAL.out hf7 HG.out.own
                  obtain ⟨q0, q1, q2, q3, q4, q5, q6, qz, ql⟩ := seven_cells hrow
                  have FW := Lib.hid (F_fr (v := .slice A' (ys.length + 1) c') HFR.out F5.out HAL.out hf7 (Nat.le_refl w.heap.size) (Nat.le_refl w.heap.size) HG.out.own)
                  have hst := HG.out.lose (n' := ys.length + 1) (A' := A') (c' := c') KK.out hm (Nat.le_refl w.heap.size) F5.out HR5.out HLO.out HDC.out HAL.out hf7
                  have HST := Lib.hid hst
                  clear hst ho7 hf7 hs7 hrow
                  go_simp
                  refine hK _ _ ?_
                  clear hK K
                  first | refine wpX_pu rfl rfl rfl (by first | exact pu_move rfl | exact pu_assign rfl | exact pu_nilCheck rfl rfl | exact pu_binInt rfl rfl rfl | exact pu_conv rfl rfl (by kernel_rfl) | exact pu_fld rfl (by kernel_rfl) | exact pu_ix rfl rfl rfl (by kernel_rfl) | exact pu_unOp rfl | exact pu_binStr rfl rfl rfl | exact pu_len rfl rfl | exact pu_lens rfl rfl | exact pu_pick rfl | exact pu_slice rfl rfl) (fun K hK => ?_) | refine wpX_rd rfl rfl rfl (rd_load rfl) (fun K hK => ?_) | refine wpX_gr rfl rfl rfl (by first | exact gr_buildSlice rfl | exact gr_box rfl | exact gr_alloc rfl) (fun K hK => ?_) | refine wpX_ex rfl rfl rfl (fun K hK => ?_)
                  try go_wp2
                  refine wpX_ex rfl rfl rfl (fun K hK => ?_)
                  go_simp
                  refine hK _ _ ?_
                  clear hK K
                  refine wpX_done ?_
                  go_wp2
                  go_roundw
                  case rel => exact ⟨k, by have := HK.out; omega, by rw [HWK.out], FW.out, .inr ⟨A', _, c', HST.out⟩⟩
                  case measure => rw [HWK.out]; have := HK.out; simp only [intOf, Int.toNat_natCast]; omega
          | none =>
            obtain ⟨e1, e2⟩ := HG.out.on.text_no hrv
            have hc := (dval_lost d m q p sv l w9.drew _ false (HD9.out.kept0 (Fr.drew (Fr.refl no w9))) (.inr e2) (by have h1 := HG.out.lt; have h2 := HFQ.out.size; show m ≤ w9.heap.size; omega)).mono fun e w' h => item_w (l := l) (d := d) (k := k) hrv h
            have HC := Lib.hid hc; have HRV := Lib.hid hrv
            clear hc hrv e1 e2
            go_wp2_with fail
            refine wp_region_fork anyW (.fork [0, 2, 3, 4, 5] (.lin [1, 6, 7, 8, 9, 10, 11]) (.lin [6, 1, 7, 8, 9, 10, 11])) (fun i => [Kd.p, Kd.l, Kd.p, Kd.p, Kd.p, Kd.p, Kd.e, Kd.g, Kd.g, Kd.e, Kd.p, Kd.e].getD i .e) (by kernel_rfl) (by kernel_rfl) True.intro (wpB_fork ?_)
            iterate 5
              first | refine wpX_pu rfl rfl rfl (by first | exact pu_move rfl | exact pu_assign rfl | exact pu_nilCheck rfl rfl | exact pu_binInt rfl rfl rfl | exact pu_conv rfl rfl (by kernel_rfl) | exact pu_fld rfl (by kernel_rfl) | exact pu_ix rfl rfl rfl (by kernel_rfl) | exact pu_unOp rfl | exact pu_binStr rfl rfl rfl | exact pu_len rfl rfl | exact pu_lens rfl rfl | exact pu_pick rfl | exact pu_slice rfl rfl) (fun K hK => ?_) | refine wpX_rd rfl rfl rfl (rd_load rfl) (fun K hK => ?_) | refine wpX_gr rfl rfl rfl (by first | exact gr_buildSlice rfl | exact gr_box rfl | exact gr_alloc rfl) (fun K hK => ?_) | refine wpX_ex rfl rfl rfl (fun K hK => ?_)
              try go_wp2
            refine wpX_fork (wpB_lin ?_) (wpB_lin ?_)
            · skip
              first | refine wpX_pu rfl rfl rfl (by first | exact pu_move rfl | exact pu_assign rfl | exact pu_nilCheck rfl rfl | exact pu_binInt rfl rfl rfl | exact pu_conv rfl rfl (by kernel_rfl) | exact pu_fld rfl (by kernel_rfl) | exact pu_ix rfl rfl rfl (by kernel_rfl) | exact pu_unOp rfl | exact pu_binStr rfl rfl rfl | exact pu_len rfl rfl | exact pu_lens rfl rfl | exact pu_pick rfl | exact pu_slice rfl rfl) (fun K hK => ?_) | refine wpX_rd rfl rfl rfl (rd_load rfl) (fun K hK => ?_) | refine wpX_gr rfl rfl rfl (by first | exact gr_buildSlice rfl | exact gr_box rfl | exact gr_alloc rfl) (fun K hK => ?_) | refine wpX_ex rfl rfl rfl (fun K hK => ?_)
              try go_wp2
              refine wpX_ex rfl rfl rfl (fun K hK => ?_)
              go_wp2_with fail
              refine HC.out.mono ?_
              rintro e w5 ⟨f5, ⟨y, r2, s2, hdc, rfl, hoy, hby, hr5, hon5⟩ | ⟨hdc, ⟨jk, jb, ji, jt, JB, jbn, jbc, JL, jln, jlc, JF, jfn, jfc, rfl⟩, s2, b2, hr5, hlo5⟩⟩
              · exact hdc.elim
              · skip
                have f5 := (HFQ.out.trans (fr_any (S := Qp q p) (Fr.drew (Fr.refl no w9))) (fun _ _ h => h)).trans f5 (fun _ _ h => h)
                have how5 := HG.out.ow.kept f5 (fun k hk h => by have := HG.out.own k hk; have h1 := HQP.out; rcases h with h | h <;> omega)
                have hb5 := f5.heap HG.out.row (fun h => by have h1 := HQP.out; rcases h with h | h <;> omega)
                obtain ⟨q0, q1, q2, q3, q4, q5, q6, qz, ql⟩ := seven_cells hb5
                have HLO := Lib.hid hlo5; clear hlo5
                have F5 := Lib.hid f5; have HOW5 := Lib.hid how5; have HR5 := Lib.hid hr5; have HDC := Lib.hid hdc
                clear f5 how5 hb5 hr5 hdc
                go_simp
                refine hK _ _ ?_
                clear hK K
                refine wpX_ca rfl rfl rfl (fun K hK => ?_)
                go_simp
                refine ⟨⟨#[], _, (World.ext_self _).symm⟩, hK _ _ ?_⟩
                clear hK K
                first | refine wpX_pu rfl rfl rfl (by first | exact pu_move rfl | exact pu_assign rfl | exact pu_nilCheck rfl rfl | exact pu_binInt rfl rfl rfl | exact pu_conv rfl rfl (by kernel_rfl) | exact pu_fld rfl (by kernel_rfl) | exact pu_ix rfl rfl rfl (by kernel_rfl) | exact pu_unOp rfl | exact pu_binStr rfl rfl rfl | exact pu_len rfl rfl | exact pu_lens rfl rfl | exact pu_pick rfl | exact pu_slice rfl rfl) (fun K hK => ?_) | refine wpX_rd rfl rfl rfl (rd_load rfl) (fun K hK => ?_) | refine wpX_gr rfl rfl rfl (by first | exact gr_buildSlice rfl | exact gr_box rfl | exact gr_alloc rfl) (fun K hK => ?_) | refine wpX_ex rfl rfl rfl (fun K hK => ?_)
                try go_wp2
                refine wpX_ex rfl rfl rfl (fun K hK => ?_)
                have hal := (Fr.refl no w5).alloc (.cells #[.string ⟨t.toArray⟩, .int .u8 jk, .bool jb, .int .i64 ji, .string jt, .slice JB jbn jbc, .slice JL jln jlc, .slice JF jfn jfc] 87)
                have HAL := Lib.hid hal; clear hal
                refine wp_apo (n := ys.length) (xs := ys.flatMap fcells) (m := 1) (news := [.string ⟨t.toArray⟩, .int .u8 jk, .bool jb, .int .i64 ji, .string jt, .slice JB jbn jbc, .slice JL jln jlc, .slice JF jfn jfc]) (.tmp 108) (.tmp 115) 25 rfl tbF (HOW5.out.kept0 HAL.out) (built8d w5 (.string ⟨t.toArray⟩) (.int .u8 jk) (.bool jb) (.int .i64 ji) (.string jt) (.slice JB jbn jbc) (.slice JL jln jlc) (.slice JF jfn jfc) 87) rfl rfl (by intro u hu; simp only [List.mem_cons, List.not_mem_nil, or_false] at hu; rcases hu with rfl | rfl | rfl | rfl | rfl | rfl | rfl | rfl <;> rfl) ?mn1b1 ?mn1b2 ?mn1b3
                case mn1b1 => have := HG.out.ln; have := HLR.out; simp only [maxLen]; omega
                case mn1b2 => have := HG.out.ln; have := HLR.out; omega
                case mn1b3 =>
                  intro A' N c' w7 hN ho7 _ hf7 hs7
                  subst hN
                  have hrow := F_row (A := A) (n := ys.length) (c := c) HG.out.row (fun k hk => Nat.lt_of_lt_of_le (KK.out.lt k hk) hm) (Nat.le_refl w.heap.size) F5.out HAL.out hf7 HG.out.own
                  obtain ⟨q0, q1, q2, q3, q4, q5, q6, qz, ql⟩ := seven_cells hrow
                  have FW := Lib.hid (F_fr (v := .slice A' (ys.length + 1) c') HFR.out F5.out HAL.out hf7 (Nat.le_refl w.heap.size) (Nat.le_refl w.heap.size) HG.out.own)
                  have hst := HG.out.lose (n' := ys.length + 1) (A' := A') (c' := c') KK.out hm (Nat.le_refl w.heap.size) F5.out HR5.out HLO.out HDC.out HAL.out hf7
                  have HST := Lib.hid hst
                  clear hst ho7 hf7 hs7 hrow
                  go_simp
                  refine hK _ _ ?_
                  clear hK K
                  first | refine wpX_pu rfl rfl rfl (by first | exact pu_move rfl | exact pu_assign rfl | exact pu_nilCheck rfl rfl | exact pu_binInt rfl rfl rfl | exact pu_conv rfl rfl (by kernel_rfl) | exact pu_fld rfl (by kernel_rfl) | exact pu_ix rfl rfl rfl (by kernel_rfl) | exact pu_unOp rfl | exact pu_binStr rfl rfl rfl | exact pu_len rfl rfl | exact pu_lens rfl rfl | exact pu_pick rfl | exact pu_slice rfl rfl) (fun K hK => ?_) | refine wpX_rd rfl rfl rfl (rd_load rfl) (fun K hK => ?_) | refine wpX_gr rfl rfl rfl (by first | exact gr_buildSlice rfl | exact gr_box rfl | exact gr_alloc rfl) (fun K hK => ?_) | refine wpX_ex rfl rfl rfl (fun K hK => ?_)
                  try go_wp2
                  refine wpX_ex rfl rfl rfl (fun K hK => ?_)
                  go_simp
                  refine hK _ _ ?_
                  clear hK K
                  refine wpX_done ?_
                  go_wp2
                  go_roundw
                  case rel => exact ⟨k, by have := HK.out; omega, by rw [HWK.out], FW.out, .inr ⟨A', _, c', HST.out⟩⟩
                  case measure => rw [HWK.out]; have := HK.out; simp only [intOf, Int.toNat_natCast]; omega
            · skip
              refine wpX_ex rfl rfl rfl (fun K hK => ?_)
              go_wp2_with fail
              refine HC.out.mono ?_
              rintro e w5 ⟨f5, ⟨y, r2, s2, hdc, rfl, hoy, hby, hr5, hon5⟩ | ⟨hdc, ⟨jk, jb, ji, jt, JB, jbn, jbc, JL, jln, jlc, JF, jfn, jfc, rfl⟩, s2, b2, hr5, hlo5⟩⟩
              · exact hdc.elim
              · skip
                have f5 := (HFQ.out.trans (fr_any (S := Qp q p) (Fr.drew (Fr.refl no w9))) (fun _ _ h => h)).trans f5 (fun _ _ h => h)
                have how5 := HG.out.ow.kept f5 (fun k hk h => by have := HG.out.own k hk; have h1 := HQP.out; rcases h with h | h <;> omega)
                have hb5 := f5.heap HG.out.row (fun h => by have h1 := HQP.out; rcases h with h | h <;> omega)
                obtain ⟨q0, q1, q2, q3, q4, q5, q6, qz, ql⟩ := seven_cells hb5
                have HLO := Lib.hid hlo5; clear hlo5
                have F5 := Lib.hid f5; have HOW5 := Lib.hid how5; have HR5 := Lib.hid hr5; have HDC := Lib.hid hdc
                clear f5 how5 hb5 hr5 hdc
                go_simp
                refine hK _ _ ?_
                clear hK K
                first | refine wpX_pu rfl rfl rfl (by first | exact pu_move rfl | exact pu_assign rfl | exact pu_nilCheck rfl rfl | exact pu_binInt rfl rfl rfl | exact pu_conv rfl rfl (by kernel_rfl) | exact pu_fld rfl (by kernel_rfl) | exact pu_ix rfl rfl rfl (by kernel_rfl) | exact pu_unOp rfl | exact pu_binStr rfl rfl rfl | exact pu_len rfl rfl | exact pu_lens rfl rfl | exact pu_pick rfl | exact pu_slice rfl rfl) (fun K hK => ?_) | refine wpX_rd rfl rfl rfl (rd_load rfl) (fun K hK => ?_) | refine wpX_gr rfl rfl rfl (by first | exact gr_buildSlice rfl | exact gr_box rfl | exact gr_alloc rfl) (fun K hK => ?_) | refine wpX_ex rfl rfl rfl (fun K hK => ?_)
                try go_wp2
                refine wpX_ca rfl rfl rfl (fun K hK => ?_)
                go_simp
                refine ⟨⟨#[], _, (World.ext_self _).symm⟩, hK _ _ ?_⟩
                clear hK K
                first | refine wpX_pu rfl rfl rfl (by first | exact pu_move rfl | exact pu_assign rfl | exact pu_nilCheck rfl rfl | exact pu_binInt rfl rfl rfl | exact pu_conv rfl rfl (by kernel_rfl) | exact pu_fld rfl (by kernel_rfl) | exact pu_ix rfl rfl rfl (by kernel_rfl) | exact pu_unOp rfl | exact pu_binStr rfl rfl rfl | exact pu_len rfl rfl | exact pu_lens rfl rfl | exact pu_pick rfl | exact pu_slice rfl rfl) (fun K hK => ?_) | refine wpX_rd rfl rfl rfl (rd_load rfl) (fun K hK => ?_) | refine wpX_gr rfl rfl rfl (by first | exact gr_buildSlice rfl | exact gr_box rfl | exact gr_alloc rfl) (fun K hK => ?_) | refine wpX_ex rfl rfl rfl (fun K hK => ?_)
                try go_wp2
                refine wpX_ex rfl rfl rfl (fun K hK => ?_)
                have hal := (Fr.refl no w5).alloc (.cells #[.string ⟨t.toArray⟩, .int .u8 jk, .bool jb, .int .i64 ji, .string jt, .slice JB jbn jbc, .slice JL jln jlc, .slice JF jfn jfc] 87)
                have HAL := Lib.hid hal; clear hal
                refine wp_apo (n := ys.length) (xs := ys.flatMap fcells) (m := 1) (news := [.string ⟨t.toArray⟩, .int .u8 jk, .bool jb, .int .i64 ji, .string jt, .slice JB jbn jbc, .slice JL jln jlc, .slice JF jfn jfc]) (.tmp 108) (.tmp 115) 25 rfl tbF (HOW5.out.kept0 HAL.out) (built8d w5 (.string ⟨t.toArray⟩) (.int .u8 jk) (.bool jb) (.int .i64 ji) (.string jt) (.slice JB jbn jbc) (.slice JL jln jlc) (.slice JF jfn jfc) 87) rfl rfl (by intro u hu; simp only [List.mem_cons, List.not_mem_nil, or_false] at hu; rcases hu with rfl | rfl | rfl | rfl | rfl | rfl | rfl | rfl <;> rfl) ?mn2b1 ?mn2b2 ?mn2b3
                case mn2b1 => have := HG.out.ln; have := HLR.out; simp only [maxLen]; omega
                case mn2b2 => have := HG.out.ln; have := HLR.out; omega
                case mn2b3 =>
                  intro A' N c' w7 hN ho7 _ hf7 hs7
                  subst hN
                  have hrow := F_row (A := A) (n := ys.length) (c := c) HG.out.row (fun k hk => Nat.lt_of_lt_of_le (KK.out.lt k hk) hm) (Nat.le_refl w.heap.size) F5.out HAL.out hf7 HG.out.own
                  obtain ⟨q0, q1, q2, q3, q4, q5, q6, qz, ql⟩ := seven_cells hrow
                  have FW := Lib.hid (F_fr (v := .slice A' (ys.length + 1) c') HFR.out F5.out HAL.out hf7 (Nat.le_refl w.heap.size) (Nat.le_refl w.heap.size) HG.out.own)
                  have hst := HG.out.lose (n' := ys.length + 1) (A' := A') (c' := c') KK.out hm (Nat.le_refl w.heap.size) F5.out HR5.out HLO.out HDC.out HAL.out hf7
                  have HST := Lib.hid hst
                  clear hst ho7 hf7 hs7 hrow
                  go_simp
                  refine hK _ _ ?_
                  clear hK K
                  first | refine wpX_pu rfl rfl rfl (by first | exact pu_move rfl | exact pu_assign rfl | exact pu_nilCheck rfl rfl | exact pu_binInt rfl rfl rfl | exact pu_conv rfl rfl (by kernel_rfl) | exact pu_fld rfl (by kernel_rfl) | exact pu_ix rfl rfl rfl (by kernel_rfl) | exact pu_unOp rfl | exact pu_binStr rfl rfl rfl | exact pu_len rfl rfl | exact pu_lens rfl rfl | exact pu_pick rfl | exact pu_slice rfl rfl) (fun K hK => ?_) | refine wpX_rd rfl rfl rfl (rd_load rfl) (fun K hK => ?_) | refine wpX_gr rfl rfl rfl (by first | exact gr_buildSlice rfl | exact gr_box rfl | exact gr_alloc rfl) (fun K hK => ?_) | refine wpX_ex rfl rfl rfl (fun K hK => ?_)
                  try go_wp2
                  refine wpX_ex rfl rfl rfl (fun K hK => ?_)
                  go_simp
                  refine hK _ _ ?_
                  clear hK K
                  refine wpX_done ?_
                  go_wp2
                  go_roundw
                  case rel => exact ⟨k, by have := HK.out; omega, by rw [HWK.out], FW.out, .inr ⟨A', _, c', HST.out⟩⟩
                  case measure => rw [HWK.out]; have := HK.out; simp only [intOf, Int.toNat_natCast]; omega
      · obtain ⟨s, b, h1, h2⟩ := hb.rd
        have HFR := Lib.hid hfr; have HBD := Lib.hid hb; have HR := Lib.hid h1; have HLO := Lib.hid h2
        clear hfr hb h1 h2
        by_cases hmt : mt = 0
        · subst hmt
          rw [show ((0 : Nat) : Int) = 0 from rfl]
          obtain ⟨q0, q1, q2, q3, q4, q5, q6, qz, ql⟩ := seven_cells HBD.out.row
          go_wp2
          have hp0 := Fr.refl (fun k => k = w.heap.size) wr
          have hset := set7_row (a := .int .u8 7) (b := .bool false) (c := .int .i64 0) (d := .string ⟨#[]⟩) (e := .slice none 0 0) (f := .slice none 0 0) (h := .slice A k0 c) HBD.out.row
          have hsf := hp0.trans (set7_fr _ w.heap.size (.int .u8 7) (.bool false) (.int .i64 0) (.string ⟨#[]⟩) (.slice none 0 0) (.slice none 0 0) (.slice A k0 c)) (fun _ _ h => h)
          unfold set7 at hset hsf
          try rw [Exit.noGoto_ret]
          refine bodyPost_ret (results_cell_row (P := Tryz.prog) rfl _ _ w.heap.size 27 _ (0, 0) _ rfl hset Tryz.underlying27 rfl (by kernel_rfl)) rfl ?_
          exact dbad KK.out (by rw [ddc8, HV.out]; simp only; rw [HBD.out.dl]; rfl) form_any HR.out HLO.out HFR.out hsf (fun k h => by have h : k = w.heap.size := h; omega) hm
        · have hgt : (0 : Int) < (mt : Int) := by omega
          obtain ⟨y0, y1, yz, yl⟩ := pair_cells HR.out.row
          clear hmt
          go_wp2_with fail
          refine (wrong_any m q p sv l wr s b true HR.out (by simp [HLO.out])).mono ?_
          rintro e w8 ⟨rfl, n8, hw8⟩
          have f8 : Fr no wr w8 := by rw [hw8]; exact Fr.drewN _ _ _
          have hb8 := f8.heap HBD.out.row (fun h => h)
          have hr8 := HR.out.kept0 f8
          have F8 := Lib.hid (HFR.out.trans f8 (fun _ _ h => h.elim)); have HB8 := Lib.hid hb8; have HR8 := Lib.hid hr8
          clear hw8 f8 y0 y1 yz yl hb8 hr8
          obtain ⟨q0, q1, q2, q3, q4, q5, q6, qz, ql⟩ := seven_cells HB8.out
          go_wp2
          have hp0 := Fr.refl (fun k => k = w.heap.size) w8
          have hset := set7_row (a := .int .u8 7) (b := .bool false) (c := .int .i64 0) (d := .string ⟨#[]⟩) (e := .slice none 0 0) (f := .slice none 0 0) (h := .slice A k0 c) HB8.out
          have hsf := hp0.trans (set7_fr _ w.heap.size (.int .u8 7) (.bool false) (.int .i64 0) (.string ⟨#[]⟩) (.slice none 0 0) (.slice none 0 0) (.slice A k0 c)) (fun _ _ h => h)
          unfold set7 at hset hsf
          try rw [Exit.noGoto_ret]
          refine bodyPost_ret (results_cell_row (P := Tryz.prog) rfl _ _ w.heap.size 27 _ (0, 0) _ rfl hset Tryz.underlying27 rfl (by kernel_rfl)) rfl ?_
          exact dbad KK.out (by rw [ddc8, HV.out]; simp only; rw [HBD.out.dl]; rfl) form_any HR8.out HLO.out F8.out hsf (fun k h => by have h : k = w.heap.size := h; omega) hm

theorem dval_any (m q p : Nat) (sv : Value) (l : List UInt8) (hl : l.length ≤ 1000000) : ∀ (d : Nat) (_ : d ≤ 9) (w : World) (s : RS) (r : List UInt8), Dr m q p sv l w s false → RS.On l s r → m ≤ w.heap.size →
    Calls Tryz.prog 59 #[.pointer (some ⟨q, 0, none⟩), .int .i64 (d : Nat)] w fun e w' => DOut l (Qp q p) (Dr m q p sv l) d r w e w' := by
  intro d
  induction d with
  | zero => intro _ w s r h ho hm; exact dval_zero m q p sv l w s r h hm
  | succ d ih =>
    intro hd w s r h ho hm
    cases r with
    | nil => exact dval_nil d m q p sv l w s h ho hm
    | cons c r =>
      by_cases h1 : c = 1
      · subst h1; exact dval_null d m q p sv l w s r h ho hm
      by_cases h2 : c = 2
      · subst h2; exact dval_no d m q p sv l w s r h ho hm
      by_cases h3 : c = 3
      · subst h3; exact dval_yes d m q p sv l w s r h ho hm
      by_cases h4 : c = 4
      · subst h4; exact dval_int d m q p sv l w s r h ho hm
      by_cases h5 : c = 5
      · subst h5; exact dval_text d m q p sv l w s r h ho hm
      by_cases h6 : c = 6
      · subst h6; exact dval_raw d m q p sv l w s r h ho hm
      by_cases h7 : c = 7
      · subst h7; exact dval_list d m q p sv l w s (by omega) hl r (ih (by omega)) h ho hm
      by_cases h8 : c = 8
      · subst h8; exact dval_flds d m q p sv l w s (by omega) hl r (ih (by omega)) h ho hm
      exact dval_other d m q p sv l w s c r ⟨h1, h2, h3, h4, h5, h6, h7, h8⟩ h ho hm
end Go.Proofs.YtijcleiekafoiaaGreatDoor
