/- law17: ReadsSpans, from what came in. -/
import Derived.Test.YtdnohhlgaaihmaaSpansP
namespace Go.Proofs.Ytdnohhlgaaihmaa
open Go.RowKit

theorem os_len {os l : List SpV} {w : World} {p : Nat} {sv : Value} (h : os.map SpV.pr = l.map SpV.pr) (hs : Se w p sv l) (m : Nat) (hm : m < os.length) : os[m].f.length ≤ 1000000000 ∧ os[m].t.length ≤ 1000000000 := by
  have : os[m].pr ∈ l.map SpV.pr := h ▸ List.mem_map_of_mem (List.getElem_mem _)
  obtain ⟨y, hy, e⟩ := List.mem_map.1 this
  have hg := hs.good y hy
  simp only [SpV.pr, Prod.mk.injEq] at e
  exact ⟨by rw [← e.1]; exact hg.lf, by rw [← e.2.1]; exact hg.lt⟩

set_option maxRecDepth 100000 in
set_option maxHeartbeats 8000000 in
theorem spans_walk (w : World) (X Y V : Value) (ks : List Kv) (l : List SpV) (asked : List Kv) (hk : Keys w X ks) (hn : ks.length ≤ reachBytes) (hl : SpIn w Y l) (ha : Keys w V asked) (hna : asked.length ≤ reachBytes)
    (o1 : over17 ks.length (ks.map fun k => k.b.length) = false) (o2 : over17 l.length (l.map fun k => k.f.length + k.t.length) = false) (o4 : over17 asked.length (asked.map fun k => k.b.length) = false) :
    Calls Try.prog 10 #[X, Y, V] w fun e w' => e = .returned (.bool true) ∧ Fr no w w' := by
  obtain ⟨k1, k2⟩ := over_keys o1
  obtain ⟨l1, l2⟩ := over_spans o2
  obtain ⟨a1, a2⟩ := over_keys o4
  obtain ⟨C, cc, rfl, hc1, hc2⟩ := hk.sl.form
  obtain ⟨D, dc, rfl, hd1, hd2⟩ := ha.sl.form
  have HK := Lib.hid hk; have HL := Lib.hid hl; have HA := Lib.hid ha
  have K2 := Lib.hid k2; have L2 := Lib.hid l2; have A2 := Lib.hid a2
  have O1 := Lib.hid o1; have O2 := Lib.hid o2; have O4 := Lib.hid o4
  clear hk hl ha k2 l2 a2 o1 o2 o4 hc2 hd2
  go_enter Try.func10, Try.ntmps10
  go_wp2_with fail
  refine (many_any w _ ks HK.out hn).mono ?_
  rintro e w1 ⟨rfl, f1⟩
  rw [O1.out]
  have F1 := Lib.hid f1; clear f1
  go_wp2_with fail
  refine (much_any w1 _ l (HL.out.kept0 F1.out)).mono ?_
  rintro e w2 ⟨rfl, f2⟩
  rw [O2.out]
  have F2 := Lib.hid (F1.out.trans f2 (fun _ _ h => h)); clear f2
  go_wp2_with fail
  refine (many_any w2 _ asked (HA.out.kept0 F2.out) hna).mono ?_
  rintro e w4 ⟨rfl, f4⟩
  rw [O4.out]
  have F4 := Lib.hid (F2.out.trans f4 (fun _ _ h => h)); clear f4
  go_wp2_with fail
  refine (filled_any w4 _ _ ks l (HK.out.kept0 F4.out) (HL.out.kept0 F4.out) k1 l1 K2.out L2.out).mono ?_
  rintro e w5 ⟨p, q, rfl, hb⟩
  have HS := Lib.hid hb.lone; have F5 := Lib.hid (F4.out.trans hb.fr (fun _ _ h => h)); clear hb
  go_wp2_with fail
  refine (known17 w5).mono ?_
  rintro e w6 ⟨rfl, f6⟩
  have HS6 := Lib.hid (HS.out.kept0 f6); have F6 := Lib.hid (F5.out.trans f6 (fun _ _ h => h)); clear f6
  obtain ⟨sv, sl, hs⟩ := HS6.out
  have HSS := Lib.hid hs; clear hs
  go_wp2_with fail
  refine (all_any w6 p sv sl HSS.out.se (by have := HSS.out.len; omega)).mono ?_
  rintro e w7 ⟨A7, os, rfl, ht, hpr, hf⟩
  have T7 := Lib.hid ht; have P7 := Lib.hid hpr; have F7 := Lib.hid (F6.out.trans hf (fun _ _ h => h)); have HS7 := Lib.hid (HS6.out.kept0 hf)
  have hno : SpV.Norm os := SpV.norm_pr hpr HSS.out.norm
  have hme : ∀ k, AllIn ks l k ↔ SpV.Mem os k := fun k => (HSS.out.mem k).symm.trans ⟨SpV.mem_of_pr hpr.symm k, SpV.mem_of_pr hpr k⟩
  have hos : os.length ≤ 1200 := by rw [← List.length_map (f := SpV.pr), hpr, List.length_map]; exact HSS.out.len
  have HNO := Lib.hid hno; have HME := Lib.hid hme; have HSM := Lib.hid (HS7.out.turn (M' := SpV.Mem os) (m := 1200) hme (by omega))
  clear ht hpr hf hno hme
  go_wp2
  go_loopw [11] (fun i wr => ∃ m : Nat, m ≤ os.length ∧ i = .int .i64 m ∧ Fr no w7 wr) (fun i _ => os.length - (intOf i).toNat)
  case atStart => exact ⟨0, Nat.zero_le _, rfl, Fr.refl _ _⟩
  case round =>
    obtain ⟨m, hm, rfl, hf⟩ := hrel
    have HF := Lib.hid hf; clear hf
    by_cases hlt : m < os.length
    · have ht := T7.out.kept0 HF.out
      obtain ⟨b, o, rfl, q0, q1, q2⟩ := Spans.at ht.row.sl m hlt
      obtain ⟨⟨FA, hF⟩, ⟨TA, hT⟩⟩ := T7.out.form os[m] (List.getElem_mem _)
      rw [hF] at q0; rw [hT] at q1
      have hbl := World.block_lt_of_cell? wr _ q0
      have HFF := Lib.hid hF; have HTT := Lib.hid hT
      clear ht hF hT
      have hgl := (HSS.out.se.good)
      have hlf := os_len P7.out HSS.out.se m hlt
      clear hgl
      cases ho : os[m].o with
      | true =>
        rw [ho] at q2
        have hT0 : os[m].t.length = 0 := by rw [((HNO.out.ok _ (List.getElem_mem hlt)).open_ ho)]; rfl
        have hlast : ((m : Int) != (os.length : Int) - 1) = false := by
          have : m + 1 = os.length := by
            refine Nat.le_antisymm (by omega) (Nat.le_of_not_lt fun h => ?_)
            have := (HNO.out.next m h).1
            rw [ho] at this; cases this
          simp; omega
        rw [hT0] at q1
        have HO := Lib.hid ho; clear ho
        have hw := (Fr.refl no wr).alloc (.cells #[.slice FA os[m].f.length os[m].f.length, .slice TA 0 0, .bool true] 100)
        have HW := Lib.hid hw; clear hw
        go_wp2_with fail
        refine (lone_has w4 _ p _ _ _ os[m].f (HSM.out.kept0 (HF.out.trans HW.out (fun _ _ h => h))) (HFF.out ▸ ((T7.out.own os[m] (List.getElem_mem _)).1.sl.kept0 (HF.out.trans HW.out (fun _ _ h => h)))) (by omega)).mono ?_
        rintro e w8 ⟨⟨bb, rfl, hbb⟩, f8⟩
        obtain rfl : bb = true := hbb.2 ⟨os[m], List.getElem_mem _, (HNO.out.ok _ (List.getElem_mem hlt)).self⟩
        have F8 := Lib.hid ((HF.out.trans HW.out (fun _ _ h => h)).trans f8 (fun _ _ h => h)); clear f8 hbb
        go_wp2
        go_roundw
        case rel => exact ⟨m + 1, by omega, by first | rfl | go_num, F8.out⟩
        case measure => simp [intOf]; omega
      | false =>
        rw [ho] at q2
        have ok := HNO.out.ok _ (List.getElem_mem hlt)
        have hd : decide (cb os[m].t os[m].f ≤ 0) = false := by
          have h1 := ok.some_ ho
          unfold lt at h1
          have := cb_swap os[m].t os[m].f
          exact decide_eq_false (by omega)
        have hstop := HNO.out.stop_at m hlt ho
        have HO := Lib.hid ho; have HOK := Lib.hid ok; have HST := Lib.hid hstop; clear ho ok hstop
        have hw := (Fr.refl no wr).alloc (.cells #[.slice FA os[m].f.length os[m].f.length, .slice TA os[m].t.length os[m].t.length, .bool false] 100)
        have hr := heap_alloc_new wr (.cells #[.slice FA os[m].f.length os[m].f.length, .slice TA os[m].t.length os[m].t.length, .bool false] 100)
        have c0 : (wr.alloc (.cells #[.slice FA os[m].f.length os[m].f.length, .slice TA os[m].t.length os[m].t.length, .bool false] 100)).cell? ⟨wr.heap.size, 0, none⟩ = some (.slice FA os[m].f.length os[m].f.length) := by rw [cell_of_row _ _ _ _ _ (0, 0) hr]; rfl
        have c1 : (wr.alloc (.cells #[.slice FA os[m].f.length os[m].f.length, .slice TA os[m].t.length os[m].t.length, .bool false] 100)).cell? ⟨wr.heap.size, 1, none⟩ = some (.slice TA os[m].t.length os[m].t.length) := by rw [cell_of_row _ _ _ _ _ (0, 0) hr]; rfl
        clear hr
        go_wp2_with fail
        generalize wr.alloc (.cells #[.slice FA os[m].f.length os[m].f.length, .slice TA os[m].t.length os[m].t.length, .bool false] 100) = w8 at hw c0 c1 ⊢
        have F8 := Lib.hid (HF.out.trans hw (fun _ _ h => h)); clear hw
        have C0 := Lib.hid c0; have C1 := Lib.hid c1
        have SF := Lib.hid (HFF.out ▸ ((T7.out.own os[m] (List.getElem_mem _)).1.sl)); have ST := Lib.hid (HTT.out ▸ ((T7.out.own os[m] (List.getElem_mem _)).2.sl))
        have hq := World.block_lt_of_cell? w8 _ c0
        clear q0 q1 q2 hbl
        have G8 := Lib.hid (Fr.drew F8.out)
        by_cases hn2 : m + 1 < os.length
        · have hn3 : decide (m + 1 < os.length) = true := decide_eq_true hn2
          have hn4 : decide ((m : Int) + 1 < (os.length : Int)) = true := decide_eq_true (by omega)
          have hnext := (HNO.out.next m hn2).2
          have hd2 : decide (cb os[m + 1].f os[m].t ≤ 0) = false := by
            unfold lt at hnext
            have := cb_swap os[m + 1].f os[m].t
            exact decide_eq_false (by omega)
          clear hnext
          obtain ⟨FB, hFB⟩ := (T7.out.form os[m + 1] (List.getElem_mem _)).1
          obtain ⟨b', o', hA', r0, -, -⟩ := Spans.at T7.out.row.sl (m + 1) hn2
          obtain ⟨rfl, rfl⟩ : b = b' ∧ o = o' := by simpa using hA'
          rw [hFB] at r0
          have SN := Lib.hid (hFB ▸ ((T7.out.own os[m + 1] (List.getElem_mem _)).1.sl))
          have R0 := Lib.hid r0; clear r0 hA' hFB
          refine wp_region_ord (List.range 40) (fun i => [Kd.p, Kd.l, Kd.l, Kd.p, Kd.l, Kd.l, Kd.p, Kd.p, Kd.p, Kd.p, Kd.l, Kd.g, Kd.p, Kd.p, Kd.p, Kd.p, Kd.p, Kd.l, Kd.g, Kd.p, Kd.p, Kd.p, Kd.p, Kd.p, Kd.p, Kd.p, Kd.p, Kd.p, Kd.p, Kd.p, Kd.p, Kd.p, Kd.l, Kd.l, Kd.p, Kd.l, Kd.l, Kd.p, Kd.p, Kd.p].getD i .e) (by kernel_rfl) (by kernel_rfl) ?_
          iterate 2
            first | (refine wpX_un rfl rfl ?_; go_simp) | first | refine wpX_pu rfl rfl rfl (by first | exact pu_move rfl | exact pu_assign rfl | exact pu_nilCheck rfl rfl | exact pu_binInt rfl rfl rfl | exact pu_conv rfl rfl (by kernel_rfl) | exact pu_fld rfl (by kernel_rfl) | exact pu_ix rfl rfl rfl (by kernel_rfl) | exact pu_unOp rfl | exact pu_binStr rfl rfl rfl | exact pu_len rfl rfl | exact pu_lens rfl rfl | exact pu_pick rfl | exact pu_slice rfl rfl) (fun K hK => ?_) | refine wpX_rd rfl rfl rfl (rd_load rfl) (fun K hK => ?_) | refine wpX_gr rfl rfl rfl (by first | exact gr_buildSlice rfl | exact gr_box rfl | exact gr_alloc rfl) (fun K hK => ?_) | refine wpX_ex rfl rfl rfl (fun K hK => ?_)
            try go_wp2
          refine wpX_lv (.string ⟨os[m].t.toArray⟩) rfl rfl rfl (fun e => ?_) ?_
          · have := str_ext (P := Try.prog) (src := 34) (dst := 9) (e := 5) (by kernel_rfl) (by kernel_rfl) (by kernel_rfl) (ST.out.kept0 G8.out) e
            simp [execOp, this, Act.eval]
          go_simp
          iterate 2
            first | (refine wpX_un rfl rfl ?_; go_simp) | first | refine wpX_pu rfl rfl rfl (by first | exact pu_move rfl | exact pu_assign rfl | exact pu_nilCheck rfl rfl | exact pu_binInt rfl rfl rfl | exact pu_conv rfl rfl (by kernel_rfl) | exact pu_fld rfl (by kernel_rfl) | exact pu_ix rfl rfl rfl (by kernel_rfl) | exact pu_unOp rfl | exact pu_binStr rfl rfl rfl | exact pu_len rfl rfl | exact pu_lens rfl rfl | exact pu_pick rfl | exact pu_slice rfl rfl) (fun K hK => ?_) | refine wpX_rd rfl rfl rfl (rd_load rfl) (fun K hK => ?_) | refine wpX_gr rfl rfl rfl (by first | exact gr_buildSlice rfl | exact gr_box rfl | exact gr_alloc rfl) (fun K hK => ?_) | refine wpX_ex rfl rfl rfl (fun K hK => ?_)
            try go_wp2
          refine wpX_lv (.string ⟨os[m].f.toArray⟩) rfl rfl rfl (fun e => ?_) ?_
          · have := str_ext (P := Try.prog) (src := 34) (dst := 9) (e := 5) (by kernel_rfl) (by kernel_rfl) (by kernel_rfl) (SF.out.kept0 G8.out) e
            simp [execOp, this, Act.eval]
          go_simp
          iterate 5
            first | (refine wpX_un rfl rfl ?_; go_simp) | first | refine wpX_pu rfl rfl rfl (by first | exact pu_move rfl | exact pu_assign rfl | exact pu_nilCheck rfl rfl | exact pu_binInt rfl rfl rfl | exact pu_conv rfl rfl (by kernel_rfl) | exact pu_fld rfl (by kernel_rfl) | exact pu_ix rfl rfl rfl (by kernel_rfl) | exact pu_unOp rfl | exact pu_binStr rfl rfl rfl | exact pu_len rfl rfl | exact pu_lens rfl rfl | exact pu_pick rfl | exact pu_slice rfl rfl) (fun K hK => ?_) | refine wpX_rd rfl rfl rfl (rd_load rfl) (fun K hK => ?_) | refine wpX_gr rfl rfl rfl (by first | exact gr_buildSlice rfl | exact gr_box rfl | exact gr_alloc rfl) (fun K hK => ?_) | refine wpX_ex rfl rfl rfl (fun K hK => ?_)
            try go_wp2
          refine wpX_ca rfl rfl rfl (fun K hK => ?_)
          go_wp2_with fail
          refine (lone_has w4 _ p _ _ _ os[m].f (HSM.out.kept0 G8.out) (SF.out.kept0 G8.out) (by omega)).mono ?_
          rintro e w9 ⟨⟨bb, rfl, hbb⟩, f⟩
          obtain rfl : bb = true := hbb.2 ⟨os[m], List.getElem_mem _, HOK.out.self⟩
          have G9 := Lib.hid (G8.out.trans f (fun _ _ h => h)); have X9 := Lib.hid ((Fr.drew (Fr.refl no w8)).trans f (fun _ _ h => h)); clear hbb f
          go_wp2
          obtain ⟨⟨xa, xb⟩, hext⟩ := X9.out.ext
          refine ⟨⟨xa, xb, hext⟩, hK _ _ ?_⟩
          clear hK K hext xa xb
          have c1 := X9.out.cell C1.out (fun h => h)
          iterate 6
            first | (refine wpX_un rfl rfl ?_; go_simp) | first | refine wpX_pu rfl rfl rfl (by first | exact pu_move rfl | exact pu_assign rfl | exact pu_nilCheck rfl rfl | exact pu_binInt rfl rfl rfl | exact pu_conv rfl rfl (by kernel_rfl) | exact pu_fld rfl (by kernel_rfl) | exact pu_ix rfl rfl rfl (by kernel_rfl) | exact pu_unOp rfl | exact pu_binStr rfl rfl rfl | exact pu_len rfl rfl | exact pu_lens rfl rfl | exact pu_pick rfl | exact pu_slice rfl rfl) (fun K hK => ?_) | refine wpX_rd rfl rfl rfl (rd_load rfl) (fun K hK => ?_) | refine wpX_gr rfl rfl rfl (by first | exact gr_buildSlice rfl | exact gr_box rfl | exact gr_alloc rfl) (fun K hK => ?_) | refine wpX_ex rfl rfl rfl (fun K hK => ?_)
            try go_wp2
          refine wpX_ca rfl rfl rfl (fun K hK => ?_)
          go_wp2_with fail
          refine (lone_has w4 w9 p _ _ _ os[m].t (HSM.out.kept0 G9.out) (ST.out.kept0 G9.out) (by omega)).mono ?_
          rintro e w10 ⟨⟨bb, rfl, hbb⟩, f⟩
          obtain rfl : bb = false := by
            cases bb with
            | false => rfl
            | true => exact (HST.out (hbb.1 rfl)).elim
          have G10 := Lib.hid (G9.out.trans f (fun _ _ h => h)); have X10 := Lib.hid (X9.out.trans f (fun _ _ h => h)); have Y10 := Lib.hid f; clear hbb f
          go_wp2
          obtain ⟨⟨xa, xb⟩, hext⟩ := Y10.out.ext
          refine ⟨⟨xa, xb, hext⟩, hK _ _ ?_⟩
          clear hK K hext xa xb
          have c1 := X10.out.cell C1.out (fun h => h)
          have r0 := G10.out.cell R0.out (fun h => h)
          iterate 14
            first | (refine wpX_un rfl rfl ?_; go_simp) | first | refine wpX_pu rfl rfl rfl (by first | exact pu_move rfl | exact pu_assign rfl | exact pu_nilCheck rfl rfl | exact pu_binInt rfl rfl rfl | exact pu_conv rfl rfl (by kernel_rfl) | exact pu_fld rfl (by kernel_rfl) | exact pu_ix rfl rfl rfl (by kernel_rfl) | exact pu_unOp rfl | exact pu_binStr rfl rfl rfl | exact pu_len rfl rfl | exact pu_lens rfl rfl | exact pu_pick rfl | exact pu_slice rfl rfl) (fun K hK => ?_) | refine wpX_rd rfl rfl rfl (rd_load rfl) (fun K hK => ?_) | refine wpX_gr rfl rfl rfl (by first | exact gr_buildSlice rfl | exact gr_box rfl | exact gr_alloc rfl) (fun K hK => ?_) | refine wpX_ex rfl rfl rfl (fun K hK => ?_)
            try go_wp2
          refine wpX_lv (.string ⟨os[m + 1].f.toArray⟩) rfl rfl rfl (fun e => ?_) ?_
          · have := str_ext (P := Try.prog) (src := 34) (dst := 9) (e := 5) (by kernel_rfl) (by kernel_rfl) (by kernel_rfl) (SN.out.kept0 G10.out) e
            simp [execOp, this, Act.eval]
          go_simp
          iterate 2
            first | (refine wpX_un rfl rfl ?_; go_simp) | first | refine wpX_pu rfl rfl rfl (by first | exact pu_move rfl | exact pu_assign rfl | exact pu_nilCheck rfl rfl | exact pu_binInt rfl rfl rfl | exact pu_conv rfl rfl (by kernel_rfl) | exact pu_fld rfl (by kernel_rfl) | exact pu_ix rfl rfl rfl (by kernel_rfl) | exact pu_unOp rfl | exact pu_binStr rfl rfl rfl | exact pu_len rfl rfl | exact pu_lens rfl rfl | exact pu_pick rfl | exact pu_slice rfl rfl) (fun K hK => ?_) | refine wpX_rd rfl rfl rfl (rd_load rfl) (fun K hK => ?_) | refine wpX_gr rfl rfl rfl (by first | exact gr_buildSlice rfl | exact gr_box rfl | exact gr_alloc rfl) (fun K hK => ?_) | refine wpX_ex rfl rfl rfl (fun K hK => ?_)
            try go_wp2
          refine wpX_lv (.string ⟨os[m].t.toArray⟩) rfl rfl rfl (fun e => ?_) ?_
          · have := str_ext (P := Try.prog) (src := 34) (dst := 9) (e := 5) (by kernel_rfl) (by kernel_rfl) (by kernel_rfl) (ST.out.kept0 G10.out) e
            simp [execOp, this, Act.eval]
          go_simp
          iterate 3
            first | (refine wpX_un rfl rfl ?_; go_simp) | first | refine wpX_pu rfl rfl rfl (by first | exact pu_move rfl | exact pu_assign rfl | exact pu_nilCheck rfl rfl | exact pu_binInt rfl rfl rfl | exact pu_conv rfl rfl (by kernel_rfl) | exact pu_fld rfl (by kernel_rfl) | exact pu_ix rfl rfl rfl (by kernel_rfl) | exact pu_unOp rfl | exact pu_binStr rfl rfl rfl | exact pu_len rfl rfl | exact pu_lens rfl rfl | exact pu_pick rfl | exact pu_slice rfl rfl) (fun K hK => ?_) | refine wpX_rd rfl rfl rfl (rd_load rfl) (fun K hK => ?_) | refine wpX_gr rfl rfl rfl (by first | exact gr_buildSlice rfl | exact gr_box rfl | exact gr_alloc rfl) (fun K hK => ?_) | refine wpX_ex rfl rfl rfl (fun K hK => ?_)
            try go_wp2
          refine wpX_done ?_
          go_wp2
          go_roundw
          case rel => exact ⟨m + 1, by omega, by first | rfl | go_num, G10.out⟩
          case measure => simp [intOf]; omega
        · have hn3 : decide (m + 1 < os.length) = false := decide_eq_false hn2
          have hn4 : decide ((m : Int) + 1 < (os.length : Int)) = false := decide_eq_false (by omega)
          refine wp_region_ord (List.range 40) (fun i => [Kd.p, Kd.l, Kd.l, Kd.p, Kd.l, Kd.l, Kd.p, Kd.p, Kd.p, Kd.p, Kd.l, Kd.g, Kd.p, Kd.p, Kd.p, Kd.p, Kd.p, Kd.l, Kd.g, Kd.p, Kd.p, Kd.p, Kd.p, Kd.p, Kd.p, Kd.p, Kd.p, Kd.p, Kd.p, Kd.p, Kd.p, Kd.p, Kd.l, Kd.l, Kd.p, Kd.l, Kd.l, Kd.p, Kd.p, Kd.p].getD i .e) (by kernel_rfl) (by kernel_rfl) ?_
          iterate 2
            first | (refine wpX_un rfl rfl ?_; go_simp) | first | refine wpX_pu rfl rfl rfl (by first | exact pu_move rfl | exact pu_assign rfl | exact pu_nilCheck rfl rfl | exact pu_binInt rfl rfl rfl | exact pu_conv rfl rfl (by kernel_rfl) | exact pu_fld rfl (by kernel_rfl) | exact pu_ix rfl rfl rfl (by kernel_rfl) | exact pu_unOp rfl | exact pu_binStr rfl rfl rfl | exact pu_len rfl rfl | exact pu_lens rfl rfl | exact pu_pick rfl | exact pu_slice rfl rfl) (fun K hK => ?_) | refine wpX_rd rfl rfl rfl (rd_load rfl) (fun K hK => ?_) | refine wpX_gr rfl rfl rfl (by first | exact gr_buildSlice rfl | exact gr_box rfl | exact gr_alloc rfl) (fun K hK => ?_) | refine wpX_ex rfl rfl rfl (fun K hK => ?_)
            try go_wp2
          refine wpX_lv (.string ⟨os[m].t.toArray⟩) rfl rfl rfl (fun e => ?_) ?_
          · have := str_ext (P := Try.prog) (src := 34) (dst := 9) (e := 5) (by kernel_rfl) (by kernel_rfl) (by kernel_rfl) (ST.out.kept0 G8.out) e
            simp [execOp, this, Act.eval]
          go_simp
          iterate 2
            first | (refine wpX_un rfl rfl ?_; go_simp) | first | refine wpX_pu rfl rfl rfl (by first | exact pu_move rfl | exact pu_assign rfl | exact pu_nilCheck rfl rfl | exact pu_binInt rfl rfl rfl | exact pu_conv rfl rfl (by kernel_rfl) | exact pu_fld rfl (by kernel_rfl) | exact pu_ix rfl rfl rfl (by kernel_rfl) | exact pu_unOp rfl | exact pu_binStr rfl rfl rfl | exact pu_len rfl rfl | exact pu_lens rfl rfl | exact pu_pick rfl | exact pu_slice rfl rfl) (fun K hK => ?_) | refine wpX_rd rfl rfl rfl (rd_load rfl) (fun K hK => ?_) | refine wpX_gr rfl rfl rfl (by first | exact gr_buildSlice rfl | exact gr_box rfl | exact gr_alloc rfl) (fun K hK => ?_) | refine wpX_ex rfl rfl rfl (fun K hK => ?_)
            try go_wp2
          refine wpX_lv (.string ⟨os[m].f.toArray⟩) rfl rfl rfl (fun e => ?_) ?_
          · have := str_ext (P := Try.prog) (src := 34) (dst := 9) (e := 5) (by kernel_rfl) (by kernel_rfl) (by kernel_rfl) (SF.out.kept0 G8.out) e
            simp [execOp, this, Act.eval]
          go_simp
          iterate 5
            first | (refine wpX_un rfl rfl ?_; go_simp) | first | refine wpX_pu rfl rfl rfl (by first | exact pu_move rfl | exact pu_assign rfl | exact pu_nilCheck rfl rfl | exact pu_binInt rfl rfl rfl | exact pu_conv rfl rfl (by kernel_rfl) | exact pu_fld rfl (by kernel_rfl) | exact pu_ix rfl rfl rfl (by kernel_rfl) | exact pu_unOp rfl | exact pu_binStr rfl rfl rfl | exact pu_len rfl rfl | exact pu_lens rfl rfl | exact pu_pick rfl | exact pu_slice rfl rfl) (fun K hK => ?_) | refine wpX_rd rfl rfl rfl (rd_load rfl) (fun K hK => ?_) | refine wpX_gr rfl rfl rfl (by first | exact gr_buildSlice rfl | exact gr_box rfl | exact gr_alloc rfl) (fun K hK => ?_) | refine wpX_ex rfl rfl rfl (fun K hK => ?_)
            try go_wp2
          refine wpX_ca rfl rfl rfl (fun K hK => ?_)
          go_wp2_with fail
          refine (lone_has w4 _ p _ _ _ os[m].f (HSM.out.kept0 G8.out) (SF.out.kept0 G8.out) (by omega)).mono ?_
          rintro e w9 ⟨⟨bb, rfl, hbb⟩, f⟩
          obtain rfl : bb = true := hbb.2 ⟨os[m], List.getElem_mem _, HOK.out.self⟩
          have G9 := Lib.hid (G8.out.trans f (fun _ _ h => h)); have X9 := Lib.hid ((Fr.drew (Fr.refl no w8)).trans f (fun _ _ h => h)); clear hbb f
          go_wp2
          obtain ⟨⟨xa, xb⟩, hext⟩ := X9.out.ext
          refine ⟨⟨xa, xb, hext⟩, hK _ _ ?_⟩
          clear hK K hext xa xb
          have c1 := X9.out.cell C1.out (fun h => h)
          iterate 6
            first | (refine wpX_un rfl rfl ?_; go_simp) | first | refine wpX_pu rfl rfl rfl (by first | exact pu_move rfl | exact pu_assign rfl | exact pu_nilCheck rfl rfl | exact pu_binInt rfl rfl rfl | exact pu_conv rfl rfl (by kernel_rfl) | exact pu_fld rfl (by kernel_rfl) | exact pu_ix rfl rfl rfl (by kernel_rfl) | exact pu_unOp rfl | exact pu_binStr rfl rfl rfl | exact pu_len rfl rfl | exact pu_lens rfl rfl | exact pu_pick rfl | exact pu_slice rfl rfl) (fun K hK => ?_) | refine wpX_rd rfl rfl rfl (rd_load rfl) (fun K hK => ?_) | refine wpX_gr rfl rfl rfl (by first | exact gr_buildSlice rfl | exact gr_box rfl | exact gr_alloc rfl) (fun K hK => ?_) | refine wpX_ex rfl rfl rfl (fun K hK => ?_)
            try go_wp2
          refine wpX_ca rfl rfl rfl (fun K hK => ?_)
          go_wp2_with fail
          refine (lone_has w4 w9 p _ _ _ os[m].t (HSM.out.kept0 G9.out) (ST.out.kept0 G9.out) (by omega)).mono ?_
          rintro e w10 ⟨⟨bb, rfl, hbb⟩, f⟩
          obtain rfl : bb = false := by
            cases bb with
            | false => rfl
            | true => exact (HST.out (hbb.1 rfl)).elim
          have G10 := Lib.hid (G9.out.trans f (fun _ _ h => h)); have X10 := Lib.hid (X9.out.trans f (fun _ _ h => h)); have Y10 := Lib.hid f; clear hbb f
          go_wp2
          obtain ⟨⟨xa, xb⟩, hext⟩ := Y10.out.ext
          refine ⟨⟨xa, xb, hext⟩, hK _ _ ?_⟩
          clear hK K hext xa xb
          have c1 := X10.out.cell C1.out (fun h => h)
          iterate 21
            first | (refine wpX_un rfl rfl ?_; go_simp) | first | refine wpX_pu rfl rfl rfl (by first | exact pu_move rfl | exact pu_assign rfl | exact pu_nilCheck rfl rfl | exact pu_binInt rfl rfl rfl | exact pu_conv rfl rfl (by kernel_rfl) | exact pu_fld rfl (by kernel_rfl) | exact pu_ix rfl rfl rfl (by kernel_rfl) | exact pu_unOp rfl | exact pu_binStr rfl rfl rfl | exact pu_len rfl rfl | exact pu_lens rfl rfl | exact pu_pick rfl | exact pu_slice rfl rfl) (fun K hK => ?_) | refine wpX_rd rfl rfl rfl (rd_load rfl) (fun K hK => ?_) | refine wpX_gr rfl rfl rfl (by first | exact gr_buildSlice rfl | exact gr_box rfl | exact gr_alloc rfl) (fun K hK => ?_) | refine wpX_ex rfl rfl rfl (fun K hK => ?_)
            try go_wp2
          refine wpX_done ?_
          go_wp2
          go_roundw
          case rel => exact ⟨m + 1, by omega, by first | rfl | go_num, G10.out⟩
          case measure => simp [intOf]; omega
    · obtain rfl : m = os.length := by omega
      have F9 := Lib.hid (F7.out.trans HF.out (fun _ _ h => h)); have HS9 := Lib.hid (HSM.out.kept0 HF.out); have T9 := Lib.hid (T7.out.kept0 HF.out)
      go_wp2
      go_loopw [13] (fun i wq => ∃ m : Nat, m ≤ asked.length ∧ i = .int .i64 m ∧ Fr no wr wq) (fun i _ => asked.length - (intOf i).toNat)
      case atStart => exact ⟨0, Nat.zero_le _, rfl, Fr.refl _ _⟩
      case round =>
        obtain ⟨m, hm, rfl, hf⟩ := hrel
        have HF9 := Lib.hid hf; clear hf
        by_cases hlt : m < asked.length
        · obtain ⟨kb, ko, VA, vc, rfl, _, a0, hg⟩ := key_in HA.out m hlt
          have AK := Lib.hid hg; have A0 := Lib.hid a0; clear hg a0
          have W9 := Lib.hid (F9.out.trans HF9.out (fun _ _ h => h))
          go_wp2
          go_loopw [14, 15] (fun v i wq => ∃ j : Nat, ∃ bv : Bool, j ≤ os.length ∧ v = .bool bv ∧ i = .int .i64 j ∧ (bv = true ↔ SpV.Mem (os.take j) asked[m].b) ∧ Fr no wr wq) (fun _ i _ => os.length - (intOf i).toNat)
          case atStart => exact ⟨0, false, Nat.zero_le _, rfl, rfl, by simp [SpV.Mem], Fr.refl _ _⟩
          case round =>
            obtain ⟨j, bv, hj, rfl, rfl, hbv, hf⟩ := hrel
            have HB := Lib.hid hbv; have HF11 := Lib.hid hf; clear hbv hf
            have W10 := Lib.hid (W9.out.trans HF11.out (fun _ _ h => h))
            by_cases hj2 : j < os.length
            · have W11 := Lib.hid (Fr.drew W10.out)
              have X11 := Lib.hid (Fr.drew ((HF.out.trans HF9.out (fun _ _ h => h)).trans HF11.out (fun _ _ h => h)))
              obtain ⟨b, o, hA7, r0, r1, r2⟩ := Spans.at T7.out.row.sl j hj2
              subst hA7
              obtain ⟨⟨FA, hF⟩, ⟨TA, hT⟩⟩ := T7.out.form os[j] (List.getElem_mem _)
              rw [hF] at r0; rw [hT] at r1
              have SF := Lib.hid (hF ▸ ((T7.out.own os[j] (List.getElem_mem _)).1.sl)); have ST := Lib.hid (hT ▸ ((T7.out.own os[j] (List.getElem_mem _)).2.sl))
              have Z := Lib.hid ((HF.out.trans HF9.out (fun _ _ h => h)).trans HF11.out (fun _ _ h => h))
              have r0 := Z.out.cell r0 (fun h => h); have r1 := Z.out.cell r1 (fun h => h); have r2 := Z.out.cell r2 (fun h => h)
              have a0 := W10.out.cell A0.out (fun h => h)
              have hq := World.block_lt_of_cell? _ _ r0; have hq2 := World.block_lt_of_cell? _ _ a0
              clear hF hT
              go_wp2_with fail
              cases bv with
              | true =>
                have hm1 : SpV.Mem (os.take (j + 1)) asked[m].b := (SpV.take_one os j hj2 _).2 (.inl (HB.out.1 rfl))
                have HM1 := Lib.hid hm1; clear hm1
                refine wp_region_ord (List.range 37) (fun i => [Kd.p, Kd.p, Kd.p, Kd.p, Kd.p, Kd.l, Kd.l, Kd.p, Kd.p, Kd.p, Kd.p, Kd.l, Kd.l, Kd.p, Kd.p, Kd.p, Kd.p, Kd.p, Kd.p, Kd.l, Kd.p, Kd.p, Kd.p, Kd.p, Kd.l, Kd.l, Kd.p, Kd.p, Kd.p, Kd.p, Kd.l, Kd.l, Kd.p, Kd.p, Kd.p, Kd.p, Kd.p].getD i .e) (by kernel_rfl) (by kernel_rfl) ?_
                iterate 37
                  first | (refine wpX_un rfl rfl ?_; go_simp) | first | refine wpX_pu rfl rfl rfl (by first | exact pu_move rfl | exact pu_assign rfl | exact pu_nilCheck rfl rfl | exact pu_binInt rfl rfl rfl | exact pu_conv rfl rfl (by kernel_rfl) | exact pu_fld rfl (by kernel_rfl) | exact pu_ix rfl rfl rfl (by kernel_rfl) | exact pu_unOp rfl | exact pu_binStr rfl rfl rfl | exact pu_len rfl rfl | exact pu_lens rfl rfl | exact pu_pick rfl | exact pu_slice rfl rfl) (fun K hK => ?_) | refine wpX_rd rfl rfl rfl (rd_load rfl) (fun K hK => ?_) | refine wpX_gr rfl rfl rfl (by first | exact gr_buildSlice rfl | exact gr_box rfl | exact gr_alloc rfl) (fun K hK => ?_) | refine wpX_ex rfl rfl rfl (fun K hK => ?_)
                  try go_wp2
                refine wpX_done ?_
                go_wp2
                go_roundw
                case rel => exact ⟨j + 1, true, by omega, by first | rfl | exact congrArg Value.bool ((less_cb _ _).trans (decide_eq_true (by omega))) | exact congrArg Value.bool ((less_cb _ _).trans (decide_eq_false (by omega))), by first | rfl | go_num, ⟨fun _ => HM1.out, fun _ => rfl⟩, HF11.out.trans (Fr.drew (Fr.refl no _)) (fun _ _ h => h)⟩
                case measure => simp [intOf]; omega
              | false =>
                by_cases hc : cb asked[m].b os[j].f < 0
                · have hge : decide (cb asked[m].b os[j].f < 0) = true := decide_eq_true hc
                  have hm1 : ¬ SpV.Mem (os.take (j + 1)) asked[m].b := fun h => ((SpV.take_one os j hj2 _).1 h).elim (fun h => by simpa using HB.out.2 h) (fun h => (lt_not_le hc h.1).elim)
                  have HM1 := Lib.hid hm1; clear hm1
                  refine wp_region_ord (List.range 37) (fun i => [Kd.p, Kd.p, Kd.p, Kd.p, Kd.p, Kd.l, Kd.l, Kd.p, Kd.p, Kd.p, Kd.p, Kd.l, Kd.l, Kd.p, Kd.p, Kd.p, Kd.p, Kd.p, Kd.p, Kd.l, Kd.p, Kd.p, Kd.p, Kd.p, Kd.l, Kd.l, Kd.p, Kd.p, Kd.p, Kd.p, Kd.l, Kd.l, Kd.p, Kd.p, Kd.p, Kd.p, Kd.p].getD i .e) (by kernel_rfl) (by kernel_rfl) ?_
                  iterate 6
                    first | (refine wpX_un rfl rfl ?_; go_simp) | first | refine wpX_pu rfl rfl rfl (by first | exact pu_move rfl | exact pu_assign rfl | exact pu_nilCheck rfl rfl | exact pu_binInt rfl rfl rfl | exact pu_conv rfl rfl (by kernel_rfl) | exact pu_fld rfl (by kernel_rfl) | exact pu_ix rfl rfl rfl (by kernel_rfl) | exact pu_unOp rfl | exact pu_binStr rfl rfl rfl | exact pu_len rfl rfl | exact pu_lens rfl rfl | exact pu_pick rfl | exact pu_slice rfl rfl) (fun K hK => ?_) | refine wpX_rd rfl rfl rfl (rd_load rfl) (fun K hK => ?_) | refine wpX_gr rfl rfl rfl (by first | exact gr_buildSlice rfl | exact gr_box rfl | exact gr_alloc rfl) (fun K hK => ?_) | refine wpX_ex rfl rfl rfl (fun K hK => ?_)
                    try go_wp2
                  refine wpX_lv (.string ⟨asked[m].b.toArray⟩) rfl rfl rfl (fun e => ?_) ?_
                  · have := str_ext (P := Try.prog) (src := 34) (dst := 9) (e := 5) (by kernel_rfl) (by kernel_rfl) (by kernel_rfl) (AK.out.kept0 W11.out) e
                    simp [execOp, this, Act.eval]
                  go_simp
                  iterate 5
                    first | (refine wpX_un rfl rfl ?_; go_simp) | first | refine wpX_pu rfl rfl rfl (by first | exact pu_move rfl | exact pu_assign rfl | exact pu_nilCheck rfl rfl | exact pu_binInt rfl rfl rfl | exact pu_conv rfl rfl (by kernel_rfl) | exact pu_fld rfl (by kernel_rfl) | exact pu_ix rfl rfl rfl (by kernel_rfl) | exact pu_unOp rfl | exact pu_binStr rfl rfl rfl | exact pu_len rfl rfl | exact pu_lens rfl rfl | exact pu_pick rfl | exact pu_slice rfl rfl) (fun K hK => ?_) | refine wpX_rd rfl rfl rfl (rd_load rfl) (fun K hK => ?_) | refine wpX_gr rfl rfl rfl (by first | exact gr_buildSlice rfl | exact gr_box rfl | exact gr_alloc rfl) (fun K hK => ?_) | refine wpX_ex rfl rfl rfl (fun K hK => ?_)
                    try go_wp2
                  refine wpX_lv (.string ⟨os[j].f.toArray⟩) rfl rfl rfl (fun e => ?_) ?_
                  · have := str_ext (P := Try.prog) (src := 34) (dst := 9) (e := 5) (by kernel_rfl) (by kernel_rfl) (by kernel_rfl) (SF.out.kept0 X11.out) e
                    simp [execOp, this, Act.eval]
                  go_simp
                  iterate 24
                    first | (refine wpX_un rfl rfl ?_; go_simp) | first | refine wpX_pu rfl rfl rfl (by first | exact pu_move rfl | exact pu_assign rfl | exact pu_nilCheck rfl rfl | exact pu_binInt rfl rfl rfl | exact pu_conv rfl rfl (by kernel_rfl) | exact pu_fld rfl (by kernel_rfl) | exact pu_ix rfl rfl rfl (by kernel_rfl) | exact pu_unOp rfl | exact pu_binStr rfl rfl rfl | exact pu_len rfl rfl | exact pu_lens rfl rfl | exact pu_pick rfl | exact pu_slice rfl rfl) (fun K hK => ?_) | refine wpX_rd rfl rfl rfl (rd_load rfl) (fun K hK => ?_) | refine wpX_gr rfl rfl rfl (by first | exact gr_buildSlice rfl | exact gr_box rfl | exact gr_alloc rfl) (fun K hK => ?_) | refine wpX_ex rfl rfl rfl (fun K hK => ?_)
                    try go_wp2
                  refine wpX_done ?_
                  go_wp2
                  go_roundw
                  case rel => exact ⟨j + 1, false, by omega, by first | rfl | exact congrArg Value.bool ((less_cb _ _).trans (decide_eq_true (by omega))) | exact congrArg Value.bool ((less_cb _ _).trans (decide_eq_false (by omega))), by first | rfl | go_num, ⟨fun h => (by cases h), fun h => (HM1.out h).elim⟩, HF11.out.trans (Fr.drew (Fr.refl no _)) (fun _ _ h => h)⟩
                  case measure => simp [intOf]; omega
                · have hge : decide (cb asked[m].b os[j].f < 0) = false := decide_eq_false hc
                  cases ho : os[j].o with
                  | true =>
                    rw [ho] at r2
                    have hm1 : SpV.Mem (os.take (j + 1)) asked[m].b := (SpV.take_one os j hj2 _).2 (.inr ⟨not_lt hc, .inl ho⟩)
                    have HM1 := Lib.hid hm1; clear hm1
                    refine wp_region_ord (List.range 37) (fun i => [Kd.p, Kd.p, Kd.p, Kd.p, Kd.p, Kd.l, Kd.l, Kd.p, Kd.p, Kd.p, Kd.p, Kd.l, Kd.l, Kd.p, Kd.p, Kd.p, Kd.p, Kd.p, Kd.p, Kd.l, Kd.p, Kd.p, Kd.p, Kd.p, Kd.l, Kd.l, Kd.p, Kd.p, Kd.p, Kd.p, Kd.l, Kd.l, Kd.p, Kd.p, Kd.p, Kd.p, Kd.p].getD i .e) (by kernel_rfl) (by kernel_rfl) ?_
                    iterate 6
                      first | (refine wpX_un rfl rfl ?_; go_simp) | first | refine wpX_pu rfl rfl rfl (by first | exact pu_move rfl | exact pu_assign rfl | exact pu_nilCheck rfl rfl | exact pu_binInt rfl rfl rfl | exact pu_conv rfl rfl (by kernel_rfl) | exact pu_fld rfl (by kernel_rfl) | exact pu_ix rfl rfl rfl (by kernel_rfl) | exact pu_unOp rfl | exact pu_binStr rfl rfl rfl | exact pu_len rfl rfl | exact pu_lens rfl rfl | exact pu_pick rfl | exact pu_slice rfl rfl) (fun K hK => ?_) | refine wpX_rd rfl rfl rfl (rd_load rfl) (fun K hK => ?_) | refine wpX_gr rfl rfl rfl (by first | exact gr_buildSlice rfl | exact gr_box rfl | exact gr_alloc rfl) (fun K hK => ?_) | refine wpX_ex rfl rfl rfl (fun K hK => ?_)
                      try go_wp2
                    refine wpX_lv (.string ⟨asked[m].b.toArray⟩) rfl rfl rfl (fun e => ?_) ?_
                    · have := str_ext (P := Try.prog) (src := 34) (dst := 9) (e := 5) (by kernel_rfl) (by kernel_rfl) (by kernel_rfl) (AK.out.kept0 W11.out) e
                      simp [execOp, this, Act.eval]
                    go_simp
                    iterate 5
                      first | (refine wpX_un rfl rfl ?_; go_simp) | first | refine wpX_pu rfl rfl rfl (by first | exact pu_move rfl | exact pu_assign rfl | exact pu_nilCheck rfl rfl | exact pu_binInt rfl rfl rfl | exact pu_conv rfl rfl (by kernel_rfl) | exact pu_fld rfl (by kernel_rfl) | exact pu_ix rfl rfl rfl (by kernel_rfl) | exact pu_unOp rfl | exact pu_binStr rfl rfl rfl | exact pu_len rfl rfl | exact pu_lens rfl rfl | exact pu_pick rfl | exact pu_slice rfl rfl) (fun K hK => ?_) | refine wpX_rd rfl rfl rfl (rd_load rfl) (fun K hK => ?_) | refine wpX_gr rfl rfl rfl (by first | exact gr_buildSlice rfl | exact gr_box rfl | exact gr_alloc rfl) (fun K hK => ?_) | refine wpX_ex rfl rfl rfl (fun K hK => ?_)
                      try go_wp2
                    refine wpX_lv (.string ⟨os[j].f.toArray⟩) rfl rfl rfl (fun e => ?_) ?_
                    · have := str_ext (P := Try.prog) (src := 34) (dst := 9) (e := 5) (by kernel_rfl) (by kernel_rfl) (by kernel_rfl) (SF.out.kept0 X11.out) e
                      simp [execOp, this, Act.eval]
                    go_simp
                    iterate 24
                      first | (refine wpX_un rfl rfl ?_; go_simp) | first | refine wpX_pu rfl rfl rfl (by first | exact pu_move rfl | exact pu_assign rfl | exact pu_nilCheck rfl rfl | exact pu_binInt rfl rfl rfl | exact pu_conv rfl rfl (by kernel_rfl) | exact pu_fld rfl (by kernel_rfl) | exact pu_ix rfl rfl rfl (by kernel_rfl) | exact pu_unOp rfl | exact pu_binStr rfl rfl rfl | exact pu_len rfl rfl | exact pu_lens rfl rfl | exact pu_pick rfl | exact pu_slice rfl rfl) (fun K hK => ?_) | refine wpX_rd rfl rfl rfl (rd_load rfl) (fun K hK => ?_) | refine wpX_gr rfl rfl rfl (by first | exact gr_buildSlice rfl | exact gr_box rfl | exact gr_alloc rfl) (fun K hK => ?_) | refine wpX_ex rfl rfl rfl (fun K hK => ?_)
                      try go_wp2
                    refine wpX_done ?_
                    go_wp2
                    go_roundw
                    case rel => exact ⟨j + 1, true, by omega, by first | rfl | exact congrArg Value.bool ((less_cb _ _).trans (decide_eq_true (by omega))) | exact congrArg Value.bool ((less_cb _ _).trans (decide_eq_false (by omega))), by first | rfl | go_num, ⟨fun _ => HM1.out, fun _ => rfl⟩, HF11.out.trans (Fr.drew (Fr.refl no _)) (fun _ _ h => h)⟩
                    case measure => simp [intOf]; omega
                  | false =>
                    rw [ho] at r2
                    by_cases hs : cb asked[m].b os[j].t < 0
                    · have hls : decide (cb asked[m].b os[j].t < 0) = true := decide_eq_true hs
                      have hm1 : SpV.Mem (os.take (j + 1)) asked[m].b := (SpV.take_one os j hj2 _).2 (.inr ⟨not_lt hc, .inr hs⟩)
                      have HM1 := Lib.hid hm1; clear hm1
                      refine wp_region_ord (List.range 37) (fun i => [Kd.p, Kd.p, Kd.p, Kd.p, Kd.p, Kd.l, Kd.l, Kd.p, Kd.p, Kd.p, Kd.p, Kd.l, Kd.l, Kd.p, Kd.p, Kd.p, Kd.p, Kd.p, Kd.p, Kd.l, Kd.p, Kd.p, Kd.p, Kd.p, Kd.l, Kd.l, Kd.p, Kd.p, Kd.p, Kd.p, Kd.l, Kd.l, Kd.p, Kd.p, Kd.p, Kd.p, Kd.p].getD i .e) (by kernel_rfl) (by kernel_rfl) ?_
                      iterate 6
                        first | (refine wpX_un rfl rfl ?_; go_simp) | first | refine wpX_pu rfl rfl rfl (by first | exact pu_move rfl | exact pu_assign rfl | exact pu_nilCheck rfl rfl | exact pu_binInt rfl rfl rfl | exact pu_conv rfl rfl (by kernel_rfl) | exact pu_fld rfl (by kernel_rfl) | exact pu_ix rfl rfl rfl (by kernel_rfl) | exact pu_unOp rfl | exact pu_binStr rfl rfl rfl | exact pu_len rfl rfl | exact pu_lens rfl rfl | exact pu_pick rfl | exact pu_slice rfl rfl) (fun K hK => ?_) | refine wpX_rd rfl rfl rfl (rd_load rfl) (fun K hK => ?_) | refine wpX_gr rfl rfl rfl (by first | exact gr_buildSlice rfl | exact gr_box rfl | exact gr_alloc rfl) (fun K hK => ?_) | refine wpX_ex rfl rfl rfl (fun K hK => ?_)
                        try go_wp2
                      refine wpX_lv (.string ⟨asked[m].b.toArray⟩) rfl rfl rfl (fun e => ?_) ?_
                      · have := str_ext (P := Try.prog) (src := 34) (dst := 9) (e := 5) (by kernel_rfl) (by kernel_rfl) (by kernel_rfl) (AK.out.kept0 W11.out) e
                        simp [execOp, this, Act.eval]
                      go_simp
                      iterate 5
                        first | (refine wpX_un rfl rfl ?_; go_simp) | first | refine wpX_pu rfl rfl rfl (by first | exact pu_move rfl | exact pu_assign rfl | exact pu_nilCheck rfl rfl | exact pu_binInt rfl rfl rfl | exact pu_conv rfl rfl (by kernel_rfl) | exact pu_fld rfl (by kernel_rfl) | exact pu_ix rfl rfl rfl (by kernel_rfl) | exact pu_unOp rfl | exact pu_binStr rfl rfl rfl | exact pu_len rfl rfl | exact pu_lens rfl rfl | exact pu_pick rfl | exact pu_slice rfl rfl) (fun K hK => ?_) | refine wpX_rd rfl rfl rfl (rd_load rfl) (fun K hK => ?_) | refine wpX_gr rfl rfl rfl (by first | exact gr_buildSlice rfl | exact gr_box rfl | exact gr_alloc rfl) (fun K hK => ?_) | refine wpX_ex rfl rfl rfl (fun K hK => ?_)
                        try go_wp2
                      refine wpX_lv (.string ⟨os[j].f.toArray⟩) rfl rfl rfl (fun e => ?_) ?_
                      · have := str_ext (P := Try.prog) (src := 34) (dst := 9) (e := 5) (by kernel_rfl) (by kernel_rfl) (by kernel_rfl) (SF.out.kept0 X11.out) e
                        simp [execOp, this, Act.eval]
                      go_simp
                      iterate 12
                        first | (refine wpX_un rfl rfl ?_; go_simp) | first | refine wpX_pu rfl rfl rfl (by first | exact pu_move rfl | exact pu_assign rfl | exact pu_nilCheck rfl rfl | exact pu_binInt rfl rfl rfl | exact pu_conv rfl rfl (by kernel_rfl) | exact pu_fld rfl (by kernel_rfl) | exact pu_ix rfl rfl rfl (by kernel_rfl) | exact pu_unOp rfl | exact pu_binStr rfl rfl rfl | exact pu_len rfl rfl | exact pu_lens rfl rfl | exact pu_pick rfl | exact pu_slice rfl rfl) (fun K hK => ?_) | refine wpX_rd rfl rfl rfl (rd_load rfl) (fun K hK => ?_) | refine wpX_gr rfl rfl rfl (by first | exact gr_buildSlice rfl | exact gr_box rfl | exact gr_alloc rfl) (fun K hK => ?_) | refine wpX_ex rfl rfl rfl (fun K hK => ?_)
                        try go_wp2
                      refine wpX_lv (.string ⟨asked[m].b.toArray⟩) rfl rfl rfl (fun e => ?_) ?_
                      · have := str_ext (P := Try.prog) (src := 34) (dst := 9) (e := 5) (by kernel_rfl) (by kernel_rfl) (by kernel_rfl) (AK.out.kept0 W11.out) e
                        simp [execOp, this, Act.eval]
                      go_simp
                      iterate 5
                        first | (refine wpX_un rfl rfl ?_; go_simp) | first | refine wpX_pu rfl rfl rfl (by first | exact pu_move rfl | exact pu_assign rfl | exact pu_nilCheck rfl rfl | exact pu_binInt rfl rfl rfl | exact pu_conv rfl rfl (by kernel_rfl) | exact pu_fld rfl (by kernel_rfl) | exact pu_ix rfl rfl rfl (by kernel_rfl) | exact pu_unOp rfl | exact pu_binStr rfl rfl rfl | exact pu_len rfl rfl | exact pu_lens rfl rfl | exact pu_pick rfl | exact pu_slice rfl rfl) (fun K hK => ?_) | refine wpX_rd rfl rfl rfl (rd_load rfl) (fun K hK => ?_) | refine wpX_gr rfl rfl rfl (by first | exact gr_buildSlice rfl | exact gr_box rfl | exact gr_alloc rfl) (fun K hK => ?_) | refine wpX_ex rfl rfl rfl (fun K hK => ?_)
                        try go_wp2
                      refine wpX_lv (.string ⟨os[j].t.toArray⟩) rfl rfl rfl (fun e => ?_) ?_
                      · have := str_ext (P := Try.prog) (src := 34) (dst := 9) (e := 5) (by kernel_rfl) (by kernel_rfl) (by kernel_rfl) (ST.out.kept0 X11.out) e
                        simp [execOp, this, Act.eval]
                      go_simp
                      iterate 5
                        first | (refine wpX_un rfl rfl ?_; go_simp) | first | refine wpX_pu rfl rfl rfl (by first | exact pu_move rfl | exact pu_assign rfl | exact pu_nilCheck rfl rfl | exact pu_binInt rfl rfl rfl | exact pu_conv rfl rfl (by kernel_rfl) | exact pu_fld rfl (by kernel_rfl) | exact pu_ix rfl rfl rfl (by kernel_rfl) | exact pu_unOp rfl | exact pu_binStr rfl rfl rfl | exact pu_len rfl rfl | exact pu_lens rfl rfl | exact pu_pick rfl | exact pu_slice rfl rfl) (fun K hK => ?_) | refine wpX_rd rfl rfl rfl (rd_load rfl) (fun K hK => ?_) | refine wpX_gr rfl rfl rfl (by first | exact gr_buildSlice rfl | exact gr_box rfl | exact gr_alloc rfl) (fun K hK => ?_) | refine wpX_ex rfl rfl rfl (fun K hK => ?_)
                        try go_wp2
                      refine wpX_done ?_
                      go_wp2
                      go_roundw
                      case rel => exact ⟨j + 1, true, by omega, by first | rfl | exact congrArg Value.bool ((less_cb _ _).trans (decide_eq_true (by omega))) | exact congrArg Value.bool ((less_cb _ _).trans (decide_eq_false (by omega))), by first | rfl | go_num, ⟨fun _ => HM1.out, fun _ => rfl⟩, HF11.out.trans (Fr.drew (Fr.refl no _)) (fun _ _ h => h)⟩
                      case measure => simp [intOf]; omega
                    · have hls : decide (cb asked[m].b os[j].t < 0) = false := decide_eq_false hs
                      have hm1 : ¬ SpV.Mem (os.take (j + 1)) asked[m].b := fun h => ((SpV.take_one os j hj2 _).1 h).elim (fun h => by simpa using HB.out.2 h) (fun h => (h.2.elim (fun h => by rw [ho] at h; cases h) (fun h => hs h)).elim)
                      have HM1 := Lib.hid hm1; clear hm1
                      refine wp_region_ord (List.range 37) (fun i => [Kd.p, Kd.p, Kd.p, Kd.p, Kd.p, Kd.l, Kd.l, Kd.p, Kd.p, Kd.p, Kd.p, Kd.l, Kd.l, Kd.p, Kd.p, Kd.p, Kd.p, Kd.p, Kd.p, Kd.l, Kd.p, Kd.p, Kd.p, Kd.p, Kd.l, Kd.l, Kd.p, Kd.p, Kd.p, Kd.p, Kd.l, Kd.l, Kd.p, Kd.p, Kd.p, Kd.p, Kd.p].getD i .e) (by kernel_rfl) (by kernel_rfl) ?_
                      iterate 6
                        first | (refine wpX_un rfl rfl ?_; go_simp) | first | refine wpX_pu rfl rfl rfl (by first | exact pu_move rfl | exact pu_assign rfl | exact pu_nilCheck rfl rfl | exact pu_binInt rfl rfl rfl | exact pu_conv rfl rfl (by kernel_rfl) | exact pu_fld rfl (by kernel_rfl) | exact pu_ix rfl rfl rfl (by kernel_rfl) | exact pu_unOp rfl | exact pu_binStr rfl rfl rfl | exact pu_len rfl rfl | exact pu_lens rfl rfl | exact pu_pick rfl | exact pu_slice rfl rfl) (fun K hK => ?_) | refine wpX_rd rfl rfl rfl (rd_load rfl) (fun K hK => ?_) | refine wpX_gr rfl rfl rfl (by first | exact gr_buildSlice rfl | exact gr_box rfl | exact gr_alloc rfl) (fun K hK => ?_) | refine wpX_ex rfl rfl rfl (fun K hK => ?_)
                        try go_wp2
                      refine wpX_lv (.string ⟨asked[m].b.toArray⟩) rfl rfl rfl (fun e => ?_) ?_
                      · have := str_ext (P := Try.prog) (src := 34) (dst := 9) (e := 5) (by kernel_rfl) (by kernel_rfl) (by kernel_rfl) (AK.out.kept0 W11.out) e
                        simp [execOp, this, Act.eval]
                      go_simp
                      iterate 5
                        first | (refine wpX_un rfl rfl ?_; go_simp) | first | refine wpX_pu rfl rfl rfl (by first | exact pu_move rfl | exact pu_assign rfl | exact pu_nilCheck rfl rfl | exact pu_binInt rfl rfl rfl | exact pu_conv rfl rfl (by kernel_rfl) | exact pu_fld rfl (by kernel_rfl) | exact pu_ix rfl rfl rfl (by kernel_rfl) | exact pu_unOp rfl | exact pu_binStr rfl rfl rfl | exact pu_len rfl rfl | exact pu_lens rfl rfl | exact pu_pick rfl | exact pu_slice rfl rfl) (fun K hK => ?_) | refine wpX_rd rfl rfl rfl (rd_load rfl) (fun K hK => ?_) | refine wpX_gr rfl rfl rfl (by first | exact gr_buildSlice rfl | exact gr_box rfl | exact gr_alloc rfl) (fun K hK => ?_) | refine wpX_ex rfl rfl rfl (fun K hK => ?_)
                        try go_wp2
                      refine wpX_lv (.string ⟨os[j].f.toArray⟩) rfl rfl rfl (fun e => ?_) ?_
                      · have := str_ext (P := Try.prog) (src := 34) (dst := 9) (e := 5) (by kernel_rfl) (by kernel_rfl) (by kernel_rfl) (SF.out.kept0 X11.out) e
                        simp [execOp, this, Act.eval]
                      go_simp
                      iterate 12
                        first | (refine wpX_un rfl rfl ?_; go_simp) | first | refine wpX_pu rfl rfl rfl (by first | exact pu_move rfl | exact pu_assign rfl | exact pu_nilCheck rfl rfl | exact pu_binInt rfl rfl rfl | exact pu_conv rfl rfl (by kernel_rfl) | exact pu_fld rfl (by kernel_rfl) | exact pu_ix rfl rfl rfl (by kernel_rfl) | exact pu_unOp rfl | exact pu_binStr rfl rfl rfl | exact pu_len rfl rfl | exact pu_lens rfl rfl | exact pu_pick rfl | exact pu_slice rfl rfl) (fun K hK => ?_) | refine wpX_rd rfl rfl rfl (rd_load rfl) (fun K hK => ?_) | refine wpX_gr rfl rfl rfl (by first | exact gr_buildSlice rfl | exact gr_box rfl | exact gr_alloc rfl) (fun K hK => ?_) | refine wpX_ex rfl rfl rfl (fun K hK => ?_)
                        try go_wp2
                      refine wpX_lv (.string ⟨asked[m].b.toArray⟩) rfl rfl rfl (fun e => ?_) ?_
                      · have := str_ext (P := Try.prog) (src := 34) (dst := 9) (e := 5) (by kernel_rfl) (by kernel_rfl) (by kernel_rfl) (AK.out.kept0 W11.out) e
                        simp [execOp, this, Act.eval]
                      go_simp
                      iterate 5
                        first | (refine wpX_un rfl rfl ?_; go_simp) | first | refine wpX_pu rfl rfl rfl (by first | exact pu_move rfl | exact pu_assign rfl | exact pu_nilCheck rfl rfl | exact pu_binInt rfl rfl rfl | exact pu_conv rfl rfl (by kernel_rfl) | exact pu_fld rfl (by kernel_rfl) | exact pu_ix rfl rfl rfl (by kernel_rfl) | exact pu_unOp rfl | exact pu_binStr rfl rfl rfl | exact pu_len rfl rfl | exact pu_lens rfl rfl | exact pu_pick rfl | exact pu_slice rfl rfl) (fun K hK => ?_) | refine wpX_rd rfl rfl rfl (rd_load rfl) (fun K hK => ?_) | refine wpX_gr rfl rfl rfl (by first | exact gr_buildSlice rfl | exact gr_box rfl | exact gr_alloc rfl) (fun K hK => ?_) | refine wpX_ex rfl rfl rfl (fun K hK => ?_)
                        try go_wp2
                      refine wpX_lv (.string ⟨os[j].t.toArray⟩) rfl rfl rfl (fun e => ?_) ?_
                      · have := str_ext (P := Try.prog) (src := 34) (dst := 9) (e := 5) (by kernel_rfl) (by kernel_rfl) (by kernel_rfl) (ST.out.kept0 X11.out) e
                        simp [execOp, this, Act.eval]
                      go_simp
                      iterate 5
                        first | (refine wpX_un rfl rfl ?_; go_simp) | first | refine wpX_pu rfl rfl rfl (by first | exact pu_move rfl | exact pu_assign rfl | exact pu_nilCheck rfl rfl | exact pu_binInt rfl rfl rfl | exact pu_conv rfl rfl (by kernel_rfl) | exact pu_fld rfl (by kernel_rfl) | exact pu_ix rfl rfl rfl (by kernel_rfl) | exact pu_unOp rfl | exact pu_binStr rfl rfl rfl | exact pu_len rfl rfl | exact pu_lens rfl rfl | exact pu_pick rfl | exact pu_slice rfl rfl) (fun K hK => ?_) | refine wpX_rd rfl rfl rfl (rd_load rfl) (fun K hK => ?_) | refine wpX_gr rfl rfl rfl (by first | exact gr_buildSlice rfl | exact gr_box rfl | exact gr_alloc rfl) (fun K hK => ?_) | refine wpX_ex rfl rfl rfl (fun K hK => ?_)
                        try go_wp2
                      refine wpX_done ?_
                      go_wp2
                      go_roundw
                      case rel => exact ⟨j + 1, false, by omega, by first | rfl | exact congrArg Value.bool ((less_cb _ _).trans (decide_eq_true (by omega))) | exact congrArg Value.bool ((less_cb _ _).trans (decide_eq_false (by omega))), by first | rfl | go_num, ⟨fun h => (by cases h), fun h => (HM1.out h).elim⟩, HF11.out.trans (Fr.drew (Fr.refl no _)) (fun _ _ h => h)⟩
                      case measure => simp [intOf]; omega
            · obtain rfl : j = os.length := by omega
              have hbm : bv = true ↔ SpV.Mem os asked[m].b := by have := HB.out; rwa [List.take_of_length_le (Nat.le_refl _)] at this
              have HBM := Lib.hid hbm; clear hbm
              have a0 := W10.out.cell A0.out (fun h => h)
              have hkeep := HF9.out.trans HF11.out (fun _ _ h => h)
              have KP := Lib.hid hkeep; clear hkeep
              go_wp2_with fail
              refine (lone_has w4 _ p _ _ _ asked[m].b (HS9.out.kept0 KP.out) (AK.out.kept0 W10.out) (by omega)).mono ?_
              rintro e w12 ⟨⟨bh, rfl, hbh⟩, f12⟩
              obtain rfl : bh = bv := by rw [Bool.eq_iff_iff, hbh, HBM.out]
              have K12 := Lib.hid (KP.out.trans f12 (fun _ _ h => h)); clear hbh f12
              cases bh with
              | false =>
                go_wp2
                go_roundw
                case rel => exact ⟨m + 1, by omega, by first | rfl | go_num, K12.out⟩
                case measure => simp [intOf]; omega
              | true =>
                have hmm : SpV.Mem os asked[m].b := HBM.out.1 rfl
                have HMM := Lib.hid hmm; clear hmm
                go_wp2_with fail
                refine (lone_meets w4 w12 p _ _ _ asked (HS9.out.kept0 K12.out) (HA.out.kept0 (F9.out.trans K12.out (fun _ _ h => h))) (by omega) (by omega)).mono ?_
                rintro e w13 ⟨⟨bm, rfl, hbm⟩, f13⟩
                obtain rfl : bm = true := hbm.2 ⟨asked[m], List.getElem_mem _, HMM.out⟩
                have K13 := Lib.hid (K12.out.trans f13 (fun _ _ h => h)); clear hbm f13
                go_wp2
                go_roundw
                case rel => exact ⟨m + 1, by omega, by first | rfl | go_num, K13.out⟩
                case measure => simp [intOf]; omega
        · have F10 := Lib.hid (F9.out.trans HF9.out (fun _ _ h => h)); have HS10 := Lib.hid (HS9.out.kept0 HF9.out)
          go_wp2
          go_loopw [16] (fun i wq => ∃ m : Nat, m ≤ ks.length ∧ i = .int .i64 m ∧ Fr no wr wq) (fun i _ => ks.length - (intOf i).toNat)
          case atStart => exact ⟨0, Nat.zero_le _, rfl, Fr.refl _ _⟩
          case round =>
            obtain ⟨j, hj, rfl, hf⟩ := hrel
            have HF10 := Lib.hid hf; clear hf
            by_cases hlt : j < ks.length
            · obtain ⟨kb, ko, VA, vc, rfl, _, a0, hg⟩ := key_in HK.out j hlt
              have W10 := Lib.hid (F10.out.trans HF10.out (fun _ _ h => h))
              have a0 := W10.out.cell a0 (fun h => h)
              have AK := Lib.hid hg; clear hg
              go_wp2_with fail
              refine (lone_has w4 _ p _ _ _ ks[j].b (HS10.out.kept0 HF10.out) (AK.out.kept0 W10.out) (by omega)).mono ?_
              rintro e w12 ⟨⟨bh, rfl, hbh⟩, f12⟩
              obtain rfl : bh = true := hbh.2 ((HME.out _).1 (.inl ⟨ks[j], List.getElem_mem _, rfl⟩))
              have K12 := Lib.hid (HF10.out.trans f12 (fun _ _ h => h)); clear hbh f12
              go_wp2
              go_roundw
              case rel => exact ⟨j + 1, by omega, by first | rfl | go_num, K12.out⟩
              case measure => simp [intOf]; omega
            · go_wp2
              go_ret
              exact ⟨rfl, F10.out.trans HF10.out (fun _ _ h => h)⟩
end Go.Proofs.Ytdnohhlgaaihmaa
