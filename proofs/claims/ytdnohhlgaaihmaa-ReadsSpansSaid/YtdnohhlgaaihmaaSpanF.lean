/- codicilref17.Set: Span. -/
import Derived.Test.YtdnohhlgaaihmaaSpanE
namespace Go.Proofs.Ytdnohhlgaaihmaa
open Go.RowKit

set_option maxRecDepth 100000 in
set_option maxHeartbeats 4000000 in
theorem rspan_none (w : World) (p : Nat) (sv F T : Value) (f t : List UInt8) (l : List SpV) (hs : Rf w p sv l) (hF : Sl w 1 F f.length (bvs f)) (hT : Sl w 1 T t.length (bvs t)) (lf : f.length ≤ 1000000000) (lt : t.length ≤ 1000000000) (hc : cb t f ≤ 0) :
    Calls Try.prog 108 #[.pointer (some ⟨p, 0, none⟩), .agg #[F, T, .bool false]] w fun e w' => Refd w w' p sv l ⟨F, T, f, t, false⟩ e := by
  obtain ⟨FA, fc, rfl, _, _⟩ := hF.form
  obtain ⟨TA, tc, rfl, _, _⟩ := hT.form
  obtain ⟨rA, rc, rfl, _, _⟩ := hs.row.form
  have hb : decide (cb t f ≤ 0) = true := by simp; omega
  have hfx := (Fr.refl no w).alloc (.cells #[.slice FA f.length fc, .slice TA t.length tc, .bool false] 100)
  have hv : VarAt (w.alloc (.cells #[.slice FA f.length fc, .slice TA t.length tc, .bool false] 100)) w.heap.size ⟨.slice FA f.length fc, .slice TA t.length tc, f, t, false⟩ := heap_alloc_new _ _
  have HS := Lib.hid hs; have HF := Lib.hid hF; have HT := Lib.hid hT; have HLF := Lib.hid lf; have HLT := Lib.hid lt; have HFX := Lib.hid hfx; have HV := Lib.hid hv
  have HC := Lib.hid hc
  clear hs hF hT lf lt hfx hv hc
  go_enter Try.func108, Try.ntmps108
  go_wp2_with (at_builtin; refine wpList_apo rfl (.tmp 6) (.tmp 8) 34 rfl tbB (ow_nil _ _ 1) (HF.out.kept0 HFX.out) rfl rfl (bvs_one _) ?b1 ?b2 ?go)
  case b1 => have := HLF.out; simp [maxLen]; omega
  case b2 => have := HLF.out; omega
  case go =>
    intro B1 N1 d1 w1 hN ho _ hf hst
    obtain rfl : N1 = f.length := by omega
    have H1 := Lib.hid ho; have F1 := Lib.hid (HFX.out.trans (fr_nil hf) (fun _ _ h => h)); have HV1 := Lib.hid (HV.out.kept (fr_nil hf) (fun h => h))
    have M1 := Lib.hid (show ∀ k, (Value.slice B1 f.length d1).ownBlock = some k → w.heap.size ≤ k ∧ k < w1.heap.size from fun k hk => by have := nil_new hst k hk; simp at this; omega); clear ho hf hst hN
    obtain ⟨q0, q1, q2, q3, q4⟩ := HV1.out.cells
    go_wp2_with (at_builtin; refine wpList_apo rfl (.tmp 13) (.tmp 15) 34 rfl tbB (ow_nil w1 _ 1) (HT.out.kept0 F1.out) rfl rfl (bvs_one _) ?c1 ?c2 ?go2)
    case c1 => have := HLT.out; simp [maxLen]; omega
    case c2 => have := HLT.out; omega
    case go2 =>
      intro B2 N2 d2 w2 hN ho _ hf hst
      obtain rfl : N2 = t.length := by omega
      have H2 := Lib.hid ho; have F2 := Lib.hid (fr_nil hf); have M2 := Lib.hid (nil_new hst); have HV2 := Lib.hid (HV1.out.kept (fr_nil hf) (fun h => h)); clear ho hf hst hN q0 q1 q2 q3 q4
      obtain ⟨q0, q1, q2, q3, q4⟩ := HV2.out.cells
      have hs1 := run_str (P := Try.prog) w2 (src := 34) (dst := 9) (e := 5) (by kernel_rfl) (by kernel_rfl) (by kernel_rfl) H2.out.sl
      have hs2 := run_str (P := Try.prog) w2 (src := 34) (dst := 9) (e := 5) (by kernel_rfl) (by kernel_rfl) (by kernel_rfl) (H1.out.kept0 F2.out).sl
      go_wp2_with fail
      try go_wp2
      refine bodyPost_ret (results_none rfl _ _ _) rfl ?_
      exact ⟨rfl, _, l, .slice none 0 0, .slice none 0 0, (HS.out.kept0 F1.out).kept0 F2.out, .inl ⟨rfl, rfl, HC.out⟩, (F1.out.trans F2.out (fun _ _ h => h)).mono (fun _ _ h => h.elim), fun k hk => .inl hk⟩

set_option maxRecDepth 100000 in
set_option maxHeartbeats 4000000 in
theorem rspan_open (w : World) (p : Nat) (sv F T : Value) (f t : List UInt8) (l : List SpV) (hs : Rf w p sv l) (hF : Sl w 1 F f.length (bvs f)) (hT : Sl w 1 T t.length (bvs t)) (lf : f.length ≤ 1000000000) (lt : t.length ≤ 1000000000) (hl : l.length ≤ 100000) :
    Calls Try.prog 108 #[.pointer (some ⟨p, 0, none⟩), .agg #[F, T, .bool true]] w fun e w' => Refd w w' p sv l ⟨F, T, f, t, true⟩ e := by
  obtain ⟨FA, fc, rfl, _, _⟩ := hF.form
  obtain ⟨TA, tc, rfl, _, _⟩ := hT.form
  obtain ⟨rA, rc, rfl, _, _⟩ := hs.row.form
  have hfx := (Fr.refl no w).alloc (.cells #[.slice FA f.length fc, .slice TA t.length tc, .bool true] 100)
  have hv : VarAt (w.alloc (.cells #[.slice FA f.length fc, .slice TA t.length tc, .bool true] 100)) w.heap.size ⟨.slice FA f.length fc, .slice TA t.length tc, f, t, true⟩ := heap_alloc_new _ _
  have HS := Lib.hid hs; have HF := Lib.hid hF; have HT := Lib.hid hT; have HLF := Lib.hid lf; have HLT := Lib.hid lt; have HFX := Lib.hid hfx; have HV := Lib.hid hv
  clear hs hF hT lf lt hfx hv 
  go_enter Try.func108, Try.ntmps108
  go_wp2_with (at_builtin; refine wpList_apo rfl (.tmp 6) (.tmp 8) 34 rfl tbB (ow_nil _ _ 1) (HF.out.kept0 HFX.out) rfl rfl (bvs_one _) ?b1 ?b2 ?go)
  case b1 => have := HLF.out; simp [maxLen]; omega
  case b2 => have := HLF.out; omega
  case go =>
    intro B1 N1 d1 w1 hN ho _ hf hst
    obtain rfl : N1 = f.length := by omega
    have H1 := Lib.hid ho; have F1 := Lib.hid (HFX.out.trans (fr_nil hf) (fun _ _ h => h)); have HV1 := Lib.hid (HV.out.kept (fr_nil hf) (fun h => h))
    have M1 := Lib.hid (show ∀ k, (Value.slice B1 f.length d1).ownBlock = some k → w.heap.size ≤ k ∧ k < w1.heap.size from fun k hk => by have := nil_new hst k hk; simp at this; omega); clear ho hf hst hN
    obtain ⟨q0, q1, q2, q3, q4⟩ := HV1.out.cells
    go_wp2_with fail
    have HS3 := Lib.hid (HS.out.kept0 F1.out)
    obtain ⟨e0, e1, e2⟩ := one_cells HS3.out.at_
    have hfa : Fr no w1 (w1.drew.alloc (.cells #[.slice B1 f.length d1, .slice none 0 0, .bool true] 100)) := (Fr.drew (Fr.refl no w1)).alloc _
    have HX := Lib.hid (one_span (heap_alloc_new w1.drew _ : Has (w1.drew.alloc (.cells #[.slice B1 f.length d1, .slice none 0 0, .bool true] 100)) w1.heap.size 100 [.slice B1 f.length d1, .slice none 0 0, .bool true]) rfl)
    have HFA := Lib.hid hfa; clear hfa
    refine wp_region_ord [0, 1, 2, 3, 4, 5, 6, 7, 8, 9, 10, 11, 12, 13, 14] (fun i => [Kd.p, Kd.p, Kd.p, Kd.p, Kd.l, Kd.p, Kd.p, Kd.p, Kd.l, Kd.g, Kd.g, Kd.e, Kd.p, Kd.p, Kd.e].getD i .e) (by kernel_rfl) (by kernel_rfl) ?_
    iterate 9
      first | refine wpX_pu rfl rfl rfl (by first | exact pu_move rfl | exact pu_assign rfl | exact pu_nilCheck rfl rfl | exact pu_binInt rfl rfl rfl | exact pu_conv rfl rfl (by kernel_rfl) | exact pu_fld rfl (by kernel_rfl) | exact pu_ix rfl rfl rfl (by kernel_rfl) | exact pu_unOp rfl | exact pu_binStr rfl rfl rfl | exact pu_len rfl rfl | exact pu_lens rfl rfl | exact pu_pick rfl | exact pu_slice rfl rfl) (fun K hK => ?_) | refine wpX_rd rfl rfl rfl (rd_load rfl) (fun K hK => ?_) | refine wpX_gr rfl rfl rfl (by first | exact gr_buildSlice rfl | exact gr_box rfl | exact gr_alloc rfl) (fun K hK => ?_) | refine wpX_ex rfl rfl rfl (fun K hK => ?_)
      try go_wp2
    refine wpX_ca rfl rfl rfl (fun K hK => ?_)
    go_simp
    refine ⟨⟨#[], _, (World.ext_self _).symm⟩, hK _ _ ?_⟩
    clear hK K
    first | refine wpX_pu rfl rfl rfl (by first | exact pu_move rfl | exact pu_assign rfl | exact pu_nilCheck rfl rfl | exact pu_binInt rfl rfl rfl | exact pu_conv rfl rfl (by kernel_rfl) | exact pu_fld rfl (by kernel_rfl) | exact pu_ix rfl rfl rfl (by kernel_rfl) | exact pu_unOp rfl | exact pu_binStr rfl rfl rfl | exact pu_len rfl rfl | exact pu_lens rfl rfl | exact pu_pick rfl | exact pu_slice rfl rfl) (fun K hK => ?_) | refine wpX_rd rfl rfl rfl (rd_load rfl) (fun K hK => ?_) | refine wpX_gr rfl rfl rfl (by first | exact gr_buildSlice rfl | exact gr_box rfl | exact gr_alloc rfl) (fun K hK => ?_) | refine wpX_ex rfl rfl rfl (fun K hK => ?_)
    try go_wp2
    refine wpX_ex rfl rfl rfl (fun K hK => ?_)
    refine wp_apo (.tmp 26) (.tmp 32) 90 rfl tbSpan (HS3.out.row.kept0 HFA.out) HX.out rfl rfl ?g0 ?g1 ?g2 ?go4
    case g0 => intro u hu; simp only [List.mem_cons, List.not_mem_nil, or_false] at hu; rcases hu with rfl | rfl | rfl <;> rfl
    case g1 => simp only [maxLen]; omega
    case g2 => omega
    case go4 =>
      intro B N d w4 hN ho _ hf hst
      subst hN
      have fin := ref_fin (x := ⟨.slice B1 f.length d1, .slice none 0 0, f, [], true⟩) rfl HS.out (F1.out.trans HFA.out (fun _ _ h => h))
        ⟨((H1.out).kept0 HFA.out).sl, Sl.nil _ _, HLF.out, Nat.zero_le _⟩
        (fun j hj => hj.elim (fun h => by have := M1.out j h; simp; omega) (fun h => by simp [Value.ownBlock] at h)) ho hf (stays_moved hst)
      have c0 := hf.cell (a := ⟨p, 0, none⟩) (((HFA.out).cell e0 (fun h => h))) HS.out.ne
      have c1 := (hf.frozen (a := ⟨p, 0, none⟩) (by simp; omega) HS.out.ne).trans ((HFA.out.frozen (a := ⟨p, 0, none⟩) e2 (fun h => h)).trans (e1 0))
      have HFIN := Lib.hid fin; clear fin ho hf hst
      go_simp
      refine hK _ _ ?_
      clear hK K
      iterate 3
        first | (refine wpX_un rfl rfl ?_; go_simp) | first | refine wpX_pu rfl rfl rfl (by first | exact pu_move rfl | exact pu_assign rfl | exact pu_nilCheck rfl rfl | exact pu_binInt rfl rfl rfl | exact pu_conv rfl rfl (by kernel_rfl) | exact pu_fld rfl (by kernel_rfl) | exact pu_ix rfl rfl rfl (by kernel_rfl) | exact pu_unOp rfl | exact pu_binStr rfl rfl rfl | exact pu_len rfl rfl | exact pu_lens rfl rfl | exact pu_pick rfl | exact pu_slice rfl rfl) (fun K hK => ?_) | refine wpX_rd rfl rfl rfl (rd_load rfl) (fun K hK => ?_) | refine wpX_gr rfl rfl rfl (by first | exact gr_buildSlice rfl | exact gr_box rfl | exact gr_alloc rfl) (fun K hK => ?_) | refine wpX_ex rfl rfl rfl (fun K hK => ?_)
        try go_wp2
      refine wpX_done ?_
      try go_wp2
      refine bodyPost_end (results_none rfl _ _ _) rfl ?_
      exact ⟨rfl, _, _, _, _, HFIN.out.1, .inr ⟨.inl rfl, rfl⟩, HFIN.out.2.1, HFIN.out.2.2⟩

set_option maxRecDepth 100000 in
set_option maxHeartbeats 4000000 in
theorem rspan_shut (w : World) (p : Nat) (sv F T : Value) (f t : List UInt8) (l : List SpV) (hs : Rf w p sv l) (hF : Sl w 1 F f.length (bvs f)) (hT : Sl w 1 T t.length (bvs t)) (lf : f.length ≤ 1000000000) (lt : t.length ≤ 1000000000) (hc : 0 < cb t f) (hl : l.length ≤ 100000) :
    Calls Try.prog 108 #[.pointer (some ⟨p, 0, none⟩), .agg #[F, T, .bool false]] w fun e w' => Refd w w' p sv l ⟨F, T, f, t, false⟩ e := by
  obtain ⟨FA, fc, rfl, _, _⟩ := hF.form
  obtain ⟨TA, tc, rfl, _, _⟩ := hT.form
  obtain ⟨rA, rc, rfl, _, _⟩ := hs.row.form
  have hb : decide (cb t f ≤ 0) = false := by simp; omega
  have hfx := (Fr.refl no w).alloc (.cells #[.slice FA f.length fc, .slice TA t.length tc, .bool false] 100)
  have hv : VarAt (w.alloc (.cells #[.slice FA f.length fc, .slice TA t.length tc, .bool false] 100)) w.heap.size ⟨.slice FA f.length fc, .slice TA t.length tc, f, t, false⟩ := heap_alloc_new _ _
  have HS := Lib.hid hs; have HF := Lib.hid hF; have HT := Lib.hid hT; have HLF := Lib.hid lf; have HLT := Lib.hid lt; have HFX := Lib.hid hfx; have HV := Lib.hid hv
  have HC := Lib.hid hc
  clear hs hF hT lf lt hfx hv hc
  go_enter Try.func108, Try.ntmps108
  go_wp2_with (at_builtin; refine wpList_apo rfl (.tmp 6) (.tmp 8) 34 rfl tbB (ow_nil _ _ 1) (HF.out.kept0 HFX.out) rfl rfl (bvs_one _) ?b1 ?b2 ?go)
  case b1 => have := HLF.out; simp [maxLen]; omega
  case b2 => have := HLF.out; omega
  case go =>
    intro B1 N1 d1 w1 hN ho _ hf hst
    obtain rfl : N1 = f.length := by omega
    have H1 := Lib.hid ho; have F1 := Lib.hid (HFX.out.trans (fr_nil hf) (fun _ _ h => h)); have HV1 := Lib.hid (HV.out.kept (fr_nil hf) (fun h => h))
    have M1 := Lib.hid (show ∀ k, (Value.slice B1 f.length d1).ownBlock = some k → w.heap.size ≤ k ∧ k < w1.heap.size from fun k hk => by have := nil_new hst k hk; simp at this; omega); clear ho hf hst hN
    obtain ⟨q0, q1, q2, q3, q4⟩ := HV1.out.cells
    go_wp2_with (at_builtin; refine wpList_apo rfl (.tmp 13) (.tmp 15) 34 rfl tbB (ow_nil w1 _ 1) (HT.out.kept0 F1.out) rfl rfl (bvs_one _) ?c1 ?c2 ?go2)
    case c1 => have := HLT.out; simp [maxLen]; omega
    case c2 => have := HLT.out; omega
    case go2 =>
      intro B2 N2 d2 w2 hN ho _ hf hst
      obtain rfl : N2 = t.length := by omega
      have H2 := Lib.hid ho; have F2 := Lib.hid (fr_nil hf); have M2 := Lib.hid (nil_new hst); have HV2 := Lib.hid (HV1.out.kept (fr_nil hf) (fun h => h)); clear ho hf hst hN q0 q1 q2 q3 q4
      obtain ⟨q0, q1, q2, q3, q4⟩ := HV2.out.cells
      have hs1 := run_str (P := Try.prog) w2 (src := 34) (dst := 9) (e := 5) (by kernel_rfl) (by kernel_rfl) (by kernel_rfl) H2.out.sl
      have hs2 := run_str (P := Try.prog) w2 (src := 34) (dst := 9) (e := 5) (by kernel_rfl) (by kernel_rfl) (by kernel_rfl) (H1.out.kept0 F2.out).sl
      go_wp2_with fail
      clear hs1 hs2
      have HS3 := Lib.hid (HS.out.kept0 (F1.out.trans F2.out (fun _ _ h => h)))
      obtain ⟨e0, e1, e2⟩ := one_cells HS3.out.at_
      have hfa : Fr no w2 (w2.drew.alloc (.cells #[.slice B1 f.length d1, .slice B2 t.length d2, .bool false] 100)) := (Fr.drew (Fr.refl no w2)).alloc _
      have HX := Lib.hid (one_span (heap_alloc_new w2.drew _ : Has (w2.drew.alloc (.cells #[.slice B1 f.length d1, .slice B2 t.length d2, .bool false] 100)) w2.heap.size 100 [.slice B1 f.length d1, .slice B2 t.length d2, .bool false]) rfl)
      have HFA := Lib.hid hfa; clear hfa
      refine wp_region_ord [0, 1, 2, 3, 4, 5, 6, 7, 8, 9, 10, 11, 12, 13, 14] (fun i => [Kd.p, Kd.p, Kd.p, Kd.p, Kd.l, Kd.p, Kd.p, Kd.p, Kd.l, Kd.g, Kd.g, Kd.e, Kd.p, Kd.p, Kd.e].getD i .e) (by kernel_rfl) (by kernel_rfl) ?_
      iterate 9
        first | refine wpX_pu rfl rfl rfl (by first | exact pu_move rfl | exact pu_assign rfl | exact pu_nilCheck rfl rfl | exact pu_binInt rfl rfl rfl | exact pu_conv rfl rfl (by kernel_rfl) | exact pu_fld rfl (by kernel_rfl) | exact pu_ix rfl rfl rfl (by kernel_rfl) | exact pu_unOp rfl | exact pu_binStr rfl rfl rfl | exact pu_len rfl rfl | exact pu_lens rfl rfl | exact pu_pick rfl | exact pu_slice rfl rfl) (fun K hK => ?_) | refine wpX_rd rfl rfl rfl (rd_load rfl) (fun K hK => ?_) | refine wpX_gr rfl rfl rfl (by first | exact gr_buildSlice rfl | exact gr_box rfl | exact gr_alloc rfl) (fun K hK => ?_) | refine wpX_ex rfl rfl rfl (fun K hK => ?_)
        try go_wp2
      refine wpX_ca rfl rfl rfl (fun K hK => ?_)
      go_simp
      refine ⟨⟨#[], _, (World.ext_self _).symm⟩, hK _ _ ?_⟩
      clear hK K
      first | refine wpX_pu rfl rfl rfl (by first | exact pu_move rfl | exact pu_assign rfl | exact pu_nilCheck rfl rfl | exact pu_binInt rfl rfl rfl | exact pu_conv rfl rfl (by kernel_rfl) | exact pu_fld rfl (by kernel_rfl) | exact pu_ix rfl rfl rfl (by kernel_rfl) | exact pu_unOp rfl | exact pu_binStr rfl rfl rfl | exact pu_len rfl rfl | exact pu_lens rfl rfl | exact pu_pick rfl | exact pu_slice rfl rfl) (fun K hK => ?_) | refine wpX_rd rfl rfl rfl (rd_load rfl) (fun K hK => ?_) | refine wpX_gr rfl rfl rfl (by first | exact gr_buildSlice rfl | exact gr_box rfl | exact gr_alloc rfl) (fun K hK => ?_) | refine wpX_ex rfl rfl rfl (fun K hK => ?_)
      try go_wp2
      refine wpX_ex rfl rfl rfl (fun K hK => ?_)
      refine wp_apo (.tmp 26) (.tmp 32) 90 rfl tbSpan (HS3.out.row.kept0 HFA.out) HX.out rfl rfl ?g0 ?g1 ?g2 ?go4
      case g0 => intro u hu; simp only [List.mem_cons, List.not_mem_nil, or_false] at hu; rcases hu with rfl | rfl | rfl <;> rfl
      case g1 => simp only [maxLen]; omega
      case g2 => omega
      case go4 =>
        intro B N d w4 hN ho _ hf hst
        subst hN
        have fin := ref_fin (x := ⟨.slice B1 f.length d1, .slice B2 t.length d2, f, t, false⟩) rfl HS.out ((F1.out.trans F2.out (fun _ _ h => h)).trans HFA.out (fun _ _ h => h))
          ⟨((H1.out.kept0 F2.out).kept0 HFA.out).sl, (H2.out.kept0 HFA.out).sl, HLF.out, HLT.out⟩
          (fun j hj => hj.elim (fun h => by have := M1.out j h; have := F2.out.size; simp; omega) (fun h => by have := M2.out j h; have := F1.out.size; simp; omega)) ho hf (stays_moved hst)
        have c0 := hf.cell (a := ⟨p, 0, none⟩) (((HFA.out).cell e0 (fun h => h))) HS.out.ne
        have c1 := (hf.frozen (a := ⟨p, 0, none⟩) (by simp; omega) HS.out.ne).trans ((HFA.out.frozen (a := ⟨p, 0, none⟩) e2 (fun h => h)).trans (e1 0))
        have HFIN := Lib.hid fin; clear fin ho hf hst
        go_simp
        refine hK _ _ ?_
        clear hK K
        iterate 3
          first | (refine wpX_un rfl rfl ?_; go_simp) | first | refine wpX_pu rfl rfl rfl (by first | exact pu_move rfl | exact pu_assign rfl | exact pu_nilCheck rfl rfl | exact pu_binInt rfl rfl rfl | exact pu_conv rfl rfl (by kernel_rfl) | exact pu_fld rfl (by kernel_rfl) | exact pu_ix rfl rfl rfl (by kernel_rfl) | exact pu_unOp rfl | exact pu_binStr rfl rfl rfl | exact pu_len rfl rfl | exact pu_lens rfl rfl | exact pu_pick rfl | exact pu_slice rfl rfl) (fun K hK => ?_) | refine wpX_rd rfl rfl rfl (rd_load rfl) (fun K hK => ?_) | refine wpX_gr rfl rfl rfl (by first | exact gr_buildSlice rfl | exact gr_box rfl | exact gr_alloc rfl) (fun K hK => ?_) | refine wpX_ex rfl rfl rfl (fun K hK => ?_)
          try go_wp2
        refine wpX_done ?_
        try go_wp2
        refine bodyPost_end (results_none rfl _ _ _) rfl ?_
        exact ⟨rfl, _, _, _, _, HFIN.out.1, .inr ⟨.inr HC.out, rfl⟩, HFIN.out.2.1, HFIN.out.2.2⟩

theorem rspan_any (w : World) (p : Nat) (sv : Value) (l : List SpV) (x : SpV) (hs : Rf w p sv l) (hx : x.Good w) (hl : l.length ≤ 100000) :
    Calls Try.prog 108 #[.pointer (some ⟨p, 0, none⟩), .agg #[x.F, x.T, .bool x.o]] w fun e w' => Refd w w' p sv l x e := by
  obtain ⟨F, T, f, t, o⟩ := x
  cases o with
  | true => exact rspan_open w p sv F T f t l hs hx.F hx.T hx.lf hx.lt hl
  | false =>
    by_cases hc : 0 < cb t f
    · exact rspan_shut w p sv F T f t l hs hx.F hx.T hx.lf hx.lt hc hl
    · exact rspan_none w p sv F T f t l hs hx.F hx.T hx.lf hx.lt (by omega)
end Go.Proofs.Ytdnohhlgaaihmaa
