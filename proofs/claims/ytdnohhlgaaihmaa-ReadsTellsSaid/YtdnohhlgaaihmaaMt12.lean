import Derived.Test.YtdnohhlgaaihmaaMt11
import Derived.Deep.QuietTactic
import Derived.BigQuiet
import Derived.Test.YtdnohhlgaaihmaaMt03
import Derived.Test.YtdnohhlgaaihmaaProg
import Derived.KernelRfl
import Derived.Lib.Hide

/- codicilref17.Set: Span. -/
namespace Go.Proofs.Ytdnohhlgaaihmaa
open Go.RowKit

set_option maxRecDepth 100000 in
set_option maxHeartbeats 4000000 in
theorem rspan_none (w : World) (p : Nat) (sv F T : Value) (f t : List UInt8) (l : List SpV) (hs : Rf w p sv l) (hF : Sl w 1 F f.length (bvs f)) (hT : Sl w 1 T t.length (bvs t)) (lf : f.length ≤ 140737488351232) (lt : t.length ≤ 140737488351232) (hc : cb t f ≤ 0) :
    Calls Try.prog 108 #[.pointer (some ⟨p, 0, none⟩), .agg #[F, T, .bool false]] w fun e w' => Refd w w' p sv l ⟨F, T, f, t, false⟩ e := by
  obtain ⟨FA, fc, rfl, _, _⟩ := hF.form
  obtain ⟨TA, tc, rfl, _, _⟩ := hT.form
  obtain ⟨rA, rc, rfl, _, _⟩ := hs.row.form
  have hb : decide (cb t f ≤ 0) = true := by simp; omega
  have hfx := (Fr.refl no w).alloc (.cells #[.slice FA f.length fc, .slice TA t.length tc, .bool false] 100)
  have hv : VarAt (w.alloc (.cells #[.slice FA f.length fc, .slice TA t.length tc, .bool false] 100)) w.heap.size ⟨.slice FA f.length fc, .slice TA t.length tc, f, t, false⟩ := heap_alloc_new _ _
  have HS := Lib.hid hs; have HF := Lib.hid hF; have HT := Lib.hid hT; have HLF := Lib.hid lf; have HLT := Lib.hid lt; have HFX := Lib.hid hfx; have HV := Lib.hid hv
  have HC := Lib.hid hc
  clear hs hF hT lf lt hfx hv hc
  go_enter Try.func108, Try.ntmps108
  go_wp2_with (at_builtin; refine wpList_apo rfl (.tmp 6) (.tmp 8) 34 rfl tbB (ow_nil _ _ 1) (HF.out.kept0 HFX.out) rfl rfl (bvs_one _) ?b1 ?b2 ?go)
  case b1 => have := HLF.out; simp [maxLen]; omega
  case b2 => have := HLF.out; omega
  case go =>
    intro B1 N1 d1 w1 hN ho _ hf hst
    obtain rfl : N1 = f.length := by omega
    have H1 := Lib.hid ho; have F1 := Lib.hid (HFX.out.trans (fr_nil hf) (fun _ _ h => h)); have HV1 := Lib.hid (HV.out.kept (fr_nil hf) (fun h => h))
    have M1 := Lib.hid (show ∀ k, (Value.slice B1 f.length d1).ownBlock = some k → w.heap.size ≤ k ∧ k < w1.heap.size from fun k hk => by have := nil_new hst k hk; simp at this; omega); clear ho hf hst hN
    obtain ⟨q0, q1, q2, q3, q4⟩ := HV1.out.cells
    go_wp2_with (at_builtin; refine wpList_apo rfl (.tmp 13) (.tmp 15) 34 rfl tbB (ow_nil w1 _ 1) (HT.out.kept0 F1.out) rfl rfl (bvs_one _) ?c1 ?c2 ?go2)
    case c1 => have := HLT.out; simp [maxLen]; omega
    case c2 => have := HLT.out; omega
    case go2 =>
      intro B2 N2 d2 w2 hN ho _ hf hst
      obtain rfl : N2 = t.length := by omega
      have H2 := Lib.hid ho; have F2 := Lib.hid (fr_nil hf); have M2 := Lib.hid (nil_new hst); have HV2 := Lib.hid (HV1.out.kept (fr_nil hf) (fun h => h)); clear ho hf hst hN q0 q1 q2 q3 q4
      obtain ⟨q0, q1, q2, q3, q4⟩ := HV2.out.cells
      have hs1 := run_str (P := Try.prog) w2 (src := 34) (dst := 9) (e := 5) (by kernel_rfl) (by kernel_rfl) (by kernel_rfl) H2.out.sl
      have hs2 := run_str (P := Try.prog) w2 (src := 34) (dst := 9) (e := 5) (by kernel_rfl) (by kernel_rfl) (by kernel_rfl) (H1.out.kept0 F2.out).sl
      go_wp2_with fail
      try go_wp2
      refine bodyPost_ret (results_none rfl _ _ _) rfl ?_
      exact ⟨rfl, _, l, .slice none 0 0, .slice none 0 0, (HS.out.kept0 F1.out).kept0 F2.out, .inl ⟨rfl, rfl, HC.out⟩, (F1.out.trans F2.out (fun _ _ h => h)).mono (fun _ _ h => h.elim), fun k hk => .inl hk⟩

set_option maxRecDepth 100000 in
set_option maxHeartbeats 4000000 in
theorem rspan_open (w : World) (p : Nat) (sv F T : Value) (f t : List UInt8) (l : List SpV) (hs : Rf w p sv l) (hF : Sl w 1 F f.length (bvs f)) (hT : Sl w 1 T t.length (bvs t)) (lf : f.length ≤ 140737488351232) (lt : t.length ≤ 140737488351232) (hl : l.length ≤ 100000) :
    Calls Try.prog 108 #[.pointer (some ⟨p, 0, none⟩), .agg #[F, T, .bool true]] w fun e w' => Refd w w' p sv l ⟨F, T, f, t, true⟩ e := by
  obtain ⟨FA, fc, rfl, _, _⟩ := hF.form
  obtain ⟨TA, tc, rfl, _, _⟩ := hT.form
  obtain ⟨rA, rc, rfl, _, _⟩ := hs.row.form
  have hfx := (Fr.refl no w).alloc (.cells #[.slice FA f.length fc, .slice TA t.length tc, .bool true] 100)
  have hv : VarAt (w.alloc (.cells #[.slice FA f.length fc, .slice TA t.length tc, .bool true] 100)) w.heap.size ⟨.slice FA f.length fc, .slice TA t.length tc, f, t, true⟩ := heap_alloc_new _ _
  have HS := Lib.hid hs; have HF := Lib.hid hF; have HT := Lib.hid hT; have HLF := Lib.hid lf; have HLT := Lib.hid lt; have HFX := Lib.hid hfx; have HV := Lib.hid hv
  clear hs hF hT lf lt hfx hv 
  go_enter Try.func108, Try.ntmps108
  go_wp2_with (at_builtin; refine wpList_apo rfl (.tmp 6) (.tmp 8) 34 rfl tbB (ow_nil _ _ 1) (HF.out.kept0 HFX.out) rfl rfl (bvs_one _) ?b1 ?b2 ?go)
  case b1 => have := HLF.out; simp [maxLen]; omega
  case b2 => have := HLF.out; omega
  case go =>
    intro B1 N1 d1 w1 hN ho _ hf hst
    obtain rfl : N1 = f.length := by omega
    have H1 := Lib.hid ho; have F1 := Lib.hid (HFX.out.trans (fr_nil hf) (fun _ _ h => h)); have HV1 := Lib.hid (HV.out.kept (fr_nil hf) (fun h => h))
    have M1 := Lib.hid (show ∀ k, (Value.slice B1 f.length d1).ownBlock = some k → w.heap.size ≤ k ∧ k < w1.heap.size from fun k hk => by have := nil_new hst k hk; simp at this; omega); clear ho hf hst hN
    obtain ⟨q0, q1, q2, q3, q4⟩ := HV1.out.cells
    go_wp2_with fail
    have HS3 := Lib.hid (HS.out.kept0 F1.out)
    obtain ⟨e0, e1, e2⟩ := one_cells HS3.out.at_
    have hfa : Fr no w1 (w1.drew.alloc (.cells #[.slice B1 f.length d1, .slice none 0 0, .bool true] 100)) := (Fr.drew (Fr.refl no w1)).alloc _
    have HX := Lib.hid (one_span (heap_alloc_new w1.drew _ : Has (w1.drew.alloc (.cells #[.slice B1 f.length d1, .slice none 0 0, .bool true] 100)) w1.heap.size 100 [.slice B1 f.length d1, .slice none 0 0, .bool true]) rfl)
    have HFA := Lib.hid hfa; clear hfa
    refine wp_region_ord [0, 1, 2, 3, 4, 5, 6, 7, 8, 9, 10, 11, 12, 13, 14] (fun i => [Kd.p, Kd.p, Kd.p, Kd.p, Kd.l, Kd.p, Kd.p, Kd.p, Kd.l, Kd.g, Kd.g, Kd.e, Kd.p, Kd.p, Kd.e].getD i .e) (by kernel_rfl) (by kernel_rfl) ?_
    iterate 9
      first | refine wpX_pu rfl rfl rfl (by first | exact pu_move rfl | exact pu_assign rfl | exact pu_nilCheck rfl rfl | exact pu_binInt rfl rfl rfl | exact pu_conv rfl rfl (by kernel_rfl) | exact pu_fld rfl (by kernel_rfl) | exact pu_ix rfl rfl rfl (by kernel_rfl) | exact pu_unOp rfl | exact pu_binStr rfl rfl rfl | exact pu_len rfl rfl | exact pu_lens rfl rfl | exact pu_pick rfl | exact pu_slice rfl rfl) (fun K hK => ?_) | refine wpX_rd rfl rfl rfl (rd_load rfl) (fun K hK => ?_) | refine wpX_gr rfl rfl rfl (by first | exact gr_buildSlice rfl | exact gr_box rfl | exact gr_alloc rfl) (fun K hK => ?_) | refine wpX_ex rfl rfl rfl (fun K hK => ?_)
      try go_wp2
    refine wpX_ca rfl rfl rfl (fun K hK => ?_)
    go_simp
    refine ⟨⟨#[], _, (World.ext_self _).symm⟩, hK _ _ ?_⟩
    clear hK K
    first | refine wpX_pu rfl rfl rfl (by first | exact pu_move rfl | exact pu_assign rfl | exact pu_nilCheck rfl rfl | exact pu_binInt rfl rfl rfl | exact pu_conv rfl rfl (by kernel_rfl) | exact pu_fld rfl (by kernel_rfl) | exact pu_ix rfl rfl rfl (by kernel_rfl) | exact pu_unOp rfl | exact pu_binStr rfl rfl rfl | exact pu_len rfl rfl | exact pu_lens rfl rfl | exact pu_pick rfl | exact pu_slice rfl rfl) (fun K hK => ?_) | refine wpX_rd rfl rfl rfl (rd_load rfl) (fun K hK => ?_) | refine wpX_gr rfl rfl rfl (by first | exact gr_buildSlice rfl | exact gr_box rfl | exact gr_alloc rfl) (fun K hK => ?_) | refine wpX_ex rfl rfl rfl (fun K hK => ?_)
    try go_wp2
    refine wpX_ex rfl rfl rfl (fun K hK => ?_)
    refine wp_apo (.tmp 26) (.tmp 32) 90 rfl tbSpan (HS3.out.row.kept0 HFA.out) HX.out rfl rfl ?g0 ?g1 ?g2 ?go4
    case g0 => intro u hu; simp only [List.mem_cons, List.not_mem_nil, or_false] at hu; rcases hu with rfl | rfl | rfl <;> rfl
    case g1 => simp only [maxLen]; omega
    case g2 => omega
    case go4 =>
      intro B N d w4 hN ho _ hf hst
      subst hN
      have fin := ref_fin (x := ⟨.slice B1 f.length d1, .slice none 0 0, f, [], true⟩) rfl HS.out (F1.out.trans HFA.out (fun _ _ h => h))
        ⟨((H1.out).kept0 HFA.out).sl, Sl.nil _ _, HLF.out, Nat.zero_le _⟩
        (fun j hj => hj.elim (fun h => by have := M1.out j h; simp; omega) (fun h => by simp [Value.ownBlock] at h)) ho hf (stays_moved hst)
      have c0 := hf.cell (a := ⟨p, 0, none⟩) (((HFA.out).cell e0 (fun h => h))) HS.out.ne
      have c1 := (hf.frozen (a := ⟨p, 0, none⟩) (by simp; omega) HS.out.ne).trans ((HFA.out.frozen (a := ⟨p, 0, none⟩) e2 (fun h => h)).trans (e1 0))
      have HFIN := Lib.hid fin; clear fin ho hf hst
      go_simp
      refine hK _ _ ?_
      clear hK K
      iterate 3
        first | (refine wpX_un rfl rfl ?_; go_simp) | first | refine wpX_pu rfl rfl rfl (by first | exact pu_move rfl | exact pu_assign rfl | exact pu_nilCheck rfl rfl | exact pu_binInt rfl rfl rfl | exact pu_conv rfl rfl (by kernel_rfl) | exact pu_fld rfl (by kernel_rfl) | exact pu_ix rfl rfl rfl (by kernel_rfl) | exact pu_unOp rfl | exact pu_binStr rfl rfl rfl | exact pu_len rfl rfl | exact pu_lens rfl rfl | exact pu_pick rfl | exact pu_slice rfl rfl) (fun K hK => ?_) | refine wpX_rd rfl rfl rfl (rd_load rfl) (fun K hK => ?_) | refine wpX_gr rfl rfl rfl (by first | exact gr_buildSlice rfl | exact gr_box rfl | exact gr_alloc rfl) (fun K hK => ?_) | refine wpX_ex rfl rfl rfl (fun K hK => ?_)
        try go_wp2
      refine wpX_done ?_
      try go_wp2
      refine bodyPost_end (results_none rfl _ _ _) rfl ?_
      exact ⟨rfl, _, _, _, _, HFIN.out.1, .inr ⟨.inl rfl, rfl⟩, HFIN.out.2.1, HFIN.out.2.2⟩

set_option maxRecDepth 100000 in
set_option maxHeartbeats 4000000 in
theorem rspan_shut (w : World) (p : Nat) (sv F T : Value) (f t : List UInt8) (l : List SpV) (hs : Rf w p sv l) (hF : Sl w 1 F f.length (bvs f)) (hT : Sl w 1 T t.length (bvs t)) (lf : f.length ≤ 140737488351232) (lt : t.length ≤ 140737488351232) (hc : 0 < cb t f) (hl : l.length ≤ 100000) :
    Calls Try.prog 108 #[.pointer (some ⟨p, 0, none⟩), .agg #[F, T, .bool false]] w fun e w' => Refd w w' p sv l ⟨F, T, f, t, false⟩ e := by
  obtain ⟨FA, fc, rfl, _, _⟩ := hF.form
  obtain ⟨TA, tc, rfl, _, _⟩ := hT.form
  obtain ⟨rA, rc, rfl, _, _⟩ := hs.row.form
  have hb : decide (cb t f ≤ 0) = false := by simp; omega
  have hfx := (Fr.refl no w).alloc (.cells #[.slice FA f.length fc, .slice TA t.length tc, .bool false] 100)
  have hv : VarAt (w.alloc (.cells #[.slice FA f.length fc, .slice TA t.length tc, .bool false] 100)) w.heap.size ⟨.slice FA f.length fc, .slice TA t.length tc, f, t, false⟩ := heap_alloc_new _ _
  have HS := Lib.hid hs; have HF := Lib.hid hF; have HT := Lib.hid hT; have HLF := Lib.hid lf; have HLT := Lib.hid lt; have HFX := Lib.hid hfx; have HV := Lib.hid hv
  have HC := Lib.hid hc
  clear hs hF hT lf lt hfx hv hc
  go_enter Try.func108, Try.ntmps108
  go_wp2_with (at_builtin; refine wpList_apo rfl (.tmp 6) (.tmp 8) 34 rfl tbB (ow_nil _ _ 1) (HF.out.kept0 HFX.out) rfl rfl (bvs_one _) ?b1 ?b2 ?go)
  case b1 => have := HLF.out; simp [maxLen]; omega
  case b2 => have := HLF.out; omega
  case go =>
    intro B1 N1 d1 w1 hN ho _ hf hst
    obtain rfl : N1 = f.length := by omega
    have H1 := Lib.hid ho; have F1 := Lib.hid (HFX.out.trans (fr_nil hf) (fun _ _ h => h)); have HV1 := Lib.hid (HV.out.kept (fr_nil hf) (fun h => h))
    have M1 := Lib.hid (show ∀ k, (Value.slice B1 f.length d1).ownBlock = some k → w.heap.size ≤ k ∧ k < w1.heap.size from fun k hk => by have := nil_new hst k hk; simp at this; omega); clear ho hf hst hN
    obtain ⟨q0, q1, q2, q3, q4⟩ := HV1.out.cells
    go_wp2_with (at_builtin; refine wpList_apo rfl (.tmp 13) (.tmp 15) 34 rfl tbB (ow_nil w1 _ 1) (HT.out.kept0 F1.out) rfl rfl (bvs_one _) ?c1 ?c2 ?go2)
    case c1 => have := HLT.out; simp [maxLen]; omega
    case c2 => have := HLT.out; omega
    case go2 =>
      intro B2 N2 d2 w2 hN ho _ hf hst
      obtain rfl : N2 = t.length := by omega
      have H2 := Lib.hid ho; have F2 := Lib.hid (fr_nil hf); have M2 := Lib.hid (nil_new hst); have HV2 := Lib.hid (HV1.out.kept (fr_nil hf) (fun h => h)); clear ho hf hst hN q0 q1 q2 q3 q4
      obtain ⟨q0, q1, q2, q3, q4⟩ := HV2.out.cells
      have hs1 := run_str (P := Try.prog) w2 (src := 34) (dst := 9) (e := 5) (by kernel_rfl) (by kernel_rfl) (by kernel_rfl) H2.out.sl
      have hs2 := run_str (P := Try.prog) w2 (src := 34) (dst := 9) (e := 5) (by kernel_rfl) (by kernel_rfl) (by kernel_rfl) (H1.out.kept0 F2.out).sl
      go_wp2_with fail
      clear hs1 hs2
      have HS3 := Lib.hid (HS.out.kept0 (F1.out.trans F2.out (fun _ _ h => h)))
      obtain ⟨e0, e1, e2⟩ := one_cells HS3.out.at_
      have hfa : Fr no w2 (w2.drew.alloc (.cells #[.slice B1 f.length d1, .slice B2 t.length d2, .bool false] 100)) := (Fr.drew (Fr.refl no w2)).alloc _
      have HX := Lib.hid (one_span (heap_alloc_new w2.drew _ : Has (w2.drew.alloc (.cells #[.slice B1 f.length d1, .slice B2 t.length d2, .bool false] 100)) w2.heap.size 100 [.slice B1 f.length d1, .slice B2 t.length d2, .bool false]) rfl)
      have HFA := Lib.hid hfa; clear hfa
      refine wp_region_ord [0, 1, 2, 3, 4, 5, 6, 7, 8, 9, 10, 11, 12, 13, 14] (fun i => [Kd.p, Kd.p, Kd.p, Kd.p, Kd.l, Kd.p, Kd.p, Kd.p, Kd.l, Kd.g, Kd.g, Kd.e, Kd.p, Kd.p, Kd.e].getD i .e) (by kernel_rfl) (by kernel_rfl) ?_
      iterate 9
        first | refine wpX_pu rfl rfl rfl (by first | exact pu_move rfl | exact pu_assign rfl | exact pu_nilCheck rfl rfl | exact pu_binInt rfl rfl rfl | exact pu_conv rfl rfl (by kernel_rfl) | exact pu_fld rfl (by kernel_rfl) | exact pu_ix rfl rfl rfl (by kernel_rfl) | exact pu_unOp rfl | exact pu_binStr rfl rfl rfl | exact pu_len rfl rfl | exact pu_lens rfl rfl | exact pu_pick rfl | exact pu_slice rfl rfl) (fun K hK => ?_) | refine wpX_rd rfl rfl rfl (rd_load rfl) (fun K hK => ?_) | refine wpX_gr rfl rfl rfl (by first | exact gr_buildSlice rfl | exact gr_box rfl | exact gr_alloc rfl) (fun K hK => ?_) | refine wpX_ex rfl rfl rfl (fun K hK => ?_)
        try go_wp2
      refine wpX_ca rfl rfl rfl (fun K hK => ?_)
      go_simp
      refine ⟨⟨#[], _, (World.ext_self _).symm⟩, hK _ _ ?_⟩
      clear hK K
      first | refine wpX_pu rfl rfl rfl (by first | exact pu_move rfl | exact pu_assign rfl | exact pu_nilCheck rfl rfl | exact pu_binInt rfl rfl rfl | exact pu_conv rfl rfl (by kernel_rfl) | exact pu_fld rfl (by kernel_rfl) | exact pu_ix rfl rfl rfl (by kernel_rfl) | exact pu_unOp rfl | exact pu_binStr rfl rfl rfl | exact pu_len rfl rfl | exact pu_lens rfl rfl | exact pu_pick rfl | exact pu_slice rfl rfl) (fun K hK => ?_) | refine wpX_rd rfl rfl rfl (rd_load rfl) (fun K hK => ?_) | refine wpX_gr rfl rfl rfl (by first | exact gr_buildSlice rfl | exact gr_box rfl | exact gr_alloc rfl) (fun K hK => ?_) | refine wpX_ex rfl rfl rfl (fun K hK => ?_)
      try go_wp2
      refine wpX_ex rfl rfl rfl (fun K hK => ?_)
      refine wp_apo (.tmp 26) (.tmp 32) 90 rfl tbSpan (HS3.out.row.kept0 HFA.out) HX.out rfl rfl ?g0 ?g1 ?g2 ?go4
      case g0 => intro u hu; simp only [List.mem_cons, List.not_mem_nil, or_false] at hu; rcases hu with rfl | rfl | rfl <;> rfl
      case g1 => simp only [maxLen]; omega
      case g2 => omega
      case go4 =>
        intro B N d w4 hN ho _ hf hst
        subst hN
        have fin := ref_fin (x := ⟨.slice B1 f.length d1, .slice B2 t.length d2, f, t, false⟩) rfl HS.out ((F1.out.trans F2.out (fun _ _ h => h)).trans HFA.out (fun _ _ h => h))
          ⟨((H1.out.kept0 F2.out).kept0 HFA.out).sl, (H2.out.kept0 HFA.out).sl, HLF.out, HLT.out⟩
          (fun j hj => hj.elim (fun h => by have := M1.out j h; have := F2.out.size; simp; omega) (fun h => by have := M2.out j h; have := F1.out.size; simp; omega)) ho hf (stays_moved hst)
        have c0 := hf.cell (a := ⟨p, 0, none⟩) (((HFA.out).cell e0 (fun h => h))) HS.out.ne
        have c1 := (hf.frozen (a := ⟨p, 0, none⟩) (by simp; omega) HS.out.ne).trans ((HFA.out.frozen (a := ⟨p, 0, none⟩) e2 (fun h => h)).trans (e1 0))
        have HFIN := Lib.hid fin; clear fin ho hf hst
        go_simp
        refine hK _ _ ?_
        clear hK K
        iterate 3
          first | (refine wpX_un rfl rfl ?_; go_simp) | first | refine wpX_pu rfl rfl rfl (by first | exact pu_move rfl | exact pu_assign rfl | exact pu_nilCheck rfl rfl | exact pu_binInt rfl rfl rfl | exact pu_conv rfl rfl (by kernel_rfl) | exact pu_fld rfl (by kernel_rfl) | exact pu_ix rfl rfl rfl (by kernel_rfl) | exact pu_unOp rfl | exact pu_binStr rfl rfl rfl | exact pu_len rfl rfl | exact pu_lens rfl rfl | exact pu_pick rfl | exact pu_slice rfl rfl) (fun K hK => ?_) | refine wpX_rd rfl rfl rfl (rd_load rfl) (fun K hK => ?_) | refine wpX_gr rfl rfl rfl (by first | exact gr_buildSlice rfl | exact gr_box rfl | exact gr_alloc rfl) (fun K hK => ?_) | refine wpX_ex rfl rfl rfl (fun K hK => ?_)
          try go_wp2
        refine wpX_done ?_
        try go_wp2
        refine bodyPost_end (results_none rfl _ _ _) rfl ?_
        exact ⟨rfl, _, _, _, _, HFIN.out.1, .inr ⟨.inr HC.out, rfl⟩, HFIN.out.2.1, HFIN.out.2.2⟩

theorem rspan_any (w : World) (p : Nat) (sv : Value) (l : List SpV) (x : SpV) (hs : Rf w p sv l) (hx : x.Good w) (hl : l.length ≤ 100000) :
    Calls Try.prog 108 #[.pointer (some ⟨p, 0, none⟩), .agg #[x.F, x.T, .bool x.o]] w fun e w' => Refd w w' p sv l x e := by
  obtain ⟨F, T, f, t, o⟩ := x
  cases o with
  | true => exact rspan_open w p sv F T f t l hs hx.F hx.T hx.lf hx.lt hl
  | false =>
    by_cases hc : 0 < cb t f
    · exact rspan_shut w p sv F T f t l hs hx.F hx.T hx.lf hx.lt hc hl
    · exact rspan_none w p sv F T f t l hs hx.F hx.T hx.lf hx.lt (by omega)
end Go.Proofs.Ytdnohhlgaaihmaa

/- law17: many, much. -/
namespace Go.Proofs.Ytdnohhlgaaihmaa
open Go.RowKit

theorem sum_take (l : List Nat) (j : Nat) (h : j < l.length) : (l.take (j + 1)).sum = (l.take j).sum + l[j] := by
  rw [List.take_succ_eq_append_getElem h, List.sum_append, List.sum_singleton]
theorem sum_le (l : List Nat) (j : Nat) : (l.take j).sum ≤ l.sum := by
  have h := congrArg List.sum (List.take_append_drop j l)
  rw [List.sum_append] at h
  omega
theorem le_sum17 {l : List Nat} {x : Nat} (h : x ∈ l) : x ≤ l.sum := by
  induction l with
  | nil => cases h
  | cons a l ih =>
    rcases List.mem_cons.1 h with rfl | h
    · simp
    · have := ih h; simp; omega

theorem wrap64_id17 (n : Int) (h : -9223372036854775808 ≤ n) (h2 : n ≤ 9223372036854775807) : wrap64 n = n := by unfold wrap64; omega

/-- A span that came in. -/
structure SpV.Raw (w : World) (x : SpV) : Prop where
  F : Sl w 1 x.F x.f.length (bvs x.f)
  T : Sl w 1 x.T x.t.length (bvs x.t)
  lf : x.f.length ≤ reachBytes
  lt : x.t.length ≤ reachBytes
/-- Spans that came in. -/
structure SpIn (w : World) (x : Value) (l : List SpV) : Prop where
  sl : Sl w 3 x l.length (l.flatMap SpV.cells)
  raw : ∀ y ∈ l, y.Raw w
  n : l.length ≤ reachBytes
theorem SpIn.kept0 {w w1 : World} {x : Value} {l : List SpV} (h : SpIn w x l) (f : Fr no w w1) : SpIn w1 x l := ⟨h.sl.kept0 f, fun y hy => ⟨(h.raw y hy).F.kept0 f, (h.raw y hy).T.kept0 f, (h.raw y hy).lf, (h.raw y hy).lt⟩, h.n⟩
theorem SpIn.below {w w1 : World} {x : Value} {l : List SpV} (h : SpIn w x l) (b : Below w.heap.size w w1) : SpIn w1 x l := ⟨h.sl.below b, fun y hy => ⟨(h.raw y hy).F.below b, (h.raw y hy).T.below b, (h.raw y hy).lf, (h.raw y hy).lt⟩, h.n⟩
/-- More than is looked at. -/
def over17 (n : Nat) (ls : List Nat) : Bool := decide (20000 < n + ls.sum) || decide (300 < n)

set_option maxRecDepth 100000 in
set_option maxHeartbeats 4000000 in
theorem many_any (w : World) (x : Value) (ks : List Kv) (hx : Keys w x ks) (hn : ks.length ≤ reachBytes) :
    Calls Try.prog 38 #[x] w fun e w' => e = .returned (.bool (over17 ks.length (ks.map fun k => k.b.length))) ∧ Fr no w w' := by
  obtain ⟨A, c, rfl, hc1, hc2⟩ := hx.sl.form
  have HX := Lib.hid hx; clear hx hc2
  obtain ⟨ls, hls⟩ : ∃ ls, ls = ks.map fun k => k.b.length := ⟨_, rfl⟩
  rw [← hls]
  have hll : ls.length = ks.length := by rw [hls]; simp
  have HLS := Lib.hid hls; have HLL := Lib.hid hll; clear hls hll
  go_enter Try.func38, Try.ntmps38
  go_wp2
  go_loopw [3, 4] (fun s i wr => ∃ j : Nat, j ≤ ks.length ∧ i = .int .i64 j ∧ s = .int .i64 ((ks.length + (ls.take j).sum : Nat) : Int) ∧ Fr no w wr) (fun s i _ => ks.length - (intOf i).toNat)
  case atStart => exact ⟨0, Nat.zero_le _, rfl, by simp, Fr.refl _ _⟩
  case round =>
    obtain ⟨j, hj, rfl, rfl, hf⟩ := hrel
    have HF := Lib.hid hf; clear hf
    obtain ⟨T, hT⟩ : ∃ T, T = ks.length + (ls.take j).sum := ⟨_, rfl⟩
    rw [← hT]
    have HT := Lib.hid hT; clear hT
    have fin : 20000 < T → over17 ks.length ls = true := fun h => by
      have := HT.out; have := sum_le ls j
      unfold over17; simp; omega
    have FIN := Lib.hid fin; clear fin
    by_cases hlt : j < ks.length
    · by_cases hb : T ≤ 20000
      · obtain ⟨b, o, hA, q0⟩ := Keys.at (HX.out.kept0 HF.out) j hlt
        obtain ⟨B, d, hB, _, _⟩ := (HX.out.good ks[j] (List.getElem_mem _)).1.form
        have hbl := (HX.out.good ks[j] (List.getElem_mem _)).2
        rw [hB] at q0
        subst hA
        have hjl : j < ls.length := by have := HLL.out; omega
        have hst := sum_take ls j hjl
        have hlj : ls[j] = ks[j].b.length := by have := HLS.out; subst this; simp
        have HS := Lib.hid hst; have HB := Lib.hid hbl; have HLJ := Lib.hid hlj; clear hB hst hbl hlj
        go_wp2
        have hs := HS.out
        have hT := HT.out
        have hbl := HB.out
        have hlj := HLJ.out
        simp only [reachBytes] at hbl hn
        rw [wrap64_id17 _ (by omega) (by omega), wrap64_id17 _ (by omega) (by omega)]
        refine ⟨⟨j + 1, hlt, rfl, ?_, HF.out⟩, by simp [intOf]; omega⟩
        congr 1
        omega
      · have hbb : ¬ ((T : Int) ≤ 20000) := by omega
        go_wp2
        go_ret
        rw [FIN.out (by omega)]
        exact ⟨by first | rfl | simp, HF.out⟩
    · obtain rfl : j = ks.length := by omega
      have hTs : T = ks.length + ls.sum := by have := HT.out; rw [List.take_of_length_le (by have := HLL.out; omega)] at this; exact this
      have HTS := Lib.hid hTs; clear hTs
      by_cases hb : T ≤ 20000
      · by_cases hb3 : 300 < ks.length
        · go_wp2
          go_ret
          have e : over17 ks.length ls = true := by unfold over17; simp; omega
          rw [e]
          exact ⟨by first | rfl | (simp; omega), HF.out⟩
        · go_wp2
          go_ret
          have e : over17 ks.length ls = false := by have := HTS.out; unfold over17; simp; omega
          rw [e]
          exact ⟨by first | rfl | (simp; omega), HF.out⟩
      · go_wp2
        go_ret
        rw [FIN.out (by omega)]
        exact ⟨by first | rfl | (simp; omega), HF.out⟩
set_option maxRecDepth 100000 in
set_option maxHeartbeats 4000000 in
theorem much_any (w : World) (x : Value) (ks : List SpV) (hx : SpIn w x ks) :
    Calls Try.prog 39 #[x] w fun e w' => e = .returned (.bool (over17 ks.length (ks.map fun k => k.f.length + k.t.length))) ∧ Fr no w w' := by
  obtain ⟨A, c, rfl, hc1, hc2⟩ := hx.sl.form
  have hn := hx.n
  simp only [reachBytes] at hn
  have HX := Lib.hid hx; clear hx hc2
  obtain ⟨ls, hls⟩ : ∃ ls, ls = ks.map fun k => k.f.length + k.t.length := ⟨_, rfl⟩
  rw [← hls]
  have hll : ls.length = ks.length := by rw [hls]; simp
  have HLS := Lib.hid hls; have HLL := Lib.hid hll; clear hls hll
  go_enter Try.func39, Try.ntmps39
  go_wp2
  go_loopw [3, 4] (fun s i wr => ∃ j : Nat, j ≤ ks.length ∧ i = .int .i64 j ∧ s = .int .i64 ((ks.length + (ls.take j).sum : Nat) : Int) ∧ Fr no w wr) (fun s i _ => ks.length - (intOf i).toNat)
  case atStart => exact ⟨0, Nat.zero_le _, rfl, by simp, Fr.refl _ _⟩
  case round =>
    obtain ⟨j, hj, rfl, rfl, hf⟩ := hrel
    have HF := Lib.hid hf; clear hf
    obtain ⟨T, hT⟩ : ∃ T, T = ks.length + (ls.take j).sum := ⟨_, rfl⟩
    rw [← hT]
    have HT := Lib.hid hT; clear hT
    have fin : 20000 < T → over17 ks.length ls = true := fun h => by
      have := HT.out; have := sum_le ls j
      unfold over17; simp; omega
    have FIN := Lib.hid fin; clear fin
    by_cases hlt : j < ks.length
    · by_cases hb : T ≤ 20000
      · obtain ⟨b, o, hA, q0, q1, _⟩ := Spans.at (HX.out.kept0 HF.out).sl j hlt
        obtain ⟨B, d, hB, _, _⟩ := (HX.out.raw ks[j] (List.getElem_mem _)).F.form
        obtain ⟨D, d2, hD, _, _⟩ := (HX.out.raw ks[j] (List.getElem_mem _)).T.form
        have hbl := (HX.out.raw ks[j] (List.getElem_mem _)).lf
        have hbt := (HX.out.raw ks[j] (List.getElem_mem _)).lt
        have hq := World.block_lt_of_cell? wr _ q0
        rw [hB] at q0
        rw [hD] at q1
        subst hA
        have hjl : j < ls.length := by have := HLL.out; omega
        have hst := sum_take ls j hjl
        have hlj : ls[j] = ks[j].f.length + ks[j].t.length := by have := HLS.out; subst this; simp
        have w1 : IntKind.i64.wrap ((ks[j].f.length : Int) + (ks[j].t.length : Int)) = (ks[j].f.length : Int) + (ks[j].t.length : Int) := IntWalk.i64_in _ (by simp only [reachBytes] at hbl hbt; omega)
        have w2 : IntKind.i64.wrap ((T : Int) + ((ks[j].f.length : Int) + (ks[j].t.length : Int))) = (T : Int) + ((ks[j].f.length : Int) + (ks[j].t.length : Int)) := IntWalk.i64_in _ (by simp only [reachBytes] at hbl hbt; omega)
        have HS := Lib.hid hst; have HB := Lib.hid hbl; have HBT := Lib.hid hbt; have HLJ := Lib.hid hlj; clear hB hD hst hbl hbt hlj
        go_wp2
        go_quiet (fail)
        go_wp2
        go_roundw
        case rel =>
          have hs := HS.out
          have hT := HT.out
          have hlj := HLJ.out
          refine ⟨j + 1, hlt, by go_num, ?_, HF.out.moreN _⟩
          congr 1
          omega
        case measure => simp [intOf]; omega
      · have hbb : ¬ ((T : Int) ≤ 20000) := by omega
        go_wp2
        go_ret
        rw [FIN.out (by omega)]
        exact ⟨by first | rfl | simp, HF.out⟩
    · obtain rfl : j = ks.length := by omega
      have hTs : T = ks.length + ls.sum := by have := HT.out; rw [List.take_of_length_le (by have := HLL.out; omega)] at this; exact this
      have HTS := Lib.hid hTs; clear hTs
      by_cases hb : T ≤ 20000
      · by_cases hb3 : 300 < ks.length
        · go_wp2
          go_ret
          have e : over17 ks.length ls = true := by unfold over17; simp; omega
          rw [e]
          exact ⟨by first | rfl | (simp; omega), HF.out⟩
        · go_wp2
          go_ret
          have e : over17 ks.length ls = false := by have := HTS.out; unfold over17; simp; omega
          rw [e]
          exact ⟨by first | rfl | (simp; omega), HF.out⟩
      · go_wp2
        go_ret
        rw [FIN.out (by omega)]
        exact ⟨by first | rfl | (simp; omega), HF.out⟩
end Go.Proofs.Ytdnohhlgaaihmaa

/- append onto a row of one's own that has room: it stays where it is. General. -/
namespace Go
open Go.RowKit
section
variable {P : Program} {w : World} {o : Oper} {a : Act} {K : Act → World → Prop} {Q : Exit → Act → World → Prop}

theorem run_apr {t e : TypeId} {z : Value} {size bytes : Nat} (tb : Tb P t e z size bytes) (ty : TypeId) {g n cap : Nat} {xs : List Value} (hown : w.ownsRow 0 e size (.slice (some ⟨g, 0, none⟩) n cap) n xs)
    {x : Value} {m : Nat} {news : List Value} (hx : Sl w size x m news) (h1 : ∀ u ∈ news, u.oneCell' = true) (hr : n + m ≤ cap) :
    ∃ w', (Builtin.append_ #[t, t] ty #[.slice (some ⟨g, 0, none⟩) n cap, x]).run P w = .ok (.slice (some ⟨g, 0, none⟩) (n + m) cap) w' ∧ w'.ownsRow 0 e size (.slice (some ⟨g, 0, none⟩) (n + m) cap) (n + m) (xs ++ news) ∧ Fr (fun k => k = g) w w' := by
  obtain ⟨i, hi, hz0, hz1, hz2⟩ := info_parts tb.info
  have hx2 : (x = .slice none 0 0 ∧ m = 0) ∨ ∃ y cap', x = .slice (some y) m cap' ∧ ∀ j u, news[j]? = some u → w.cell? (y.add j) = some u := by
    rcases hx.2 with ⟨Y, h1, h2⟩ | ⟨b, off, cap', h1, _, _, hc⟩
    · subst h1; subst h2
      cases Y with
      | none => exact .inl ⟨rfl, rfl⟩
      | some y => exact .inr ⟨y, 0, rfl, fun j u hu => by
          have hn : news = [] := List.eq_nil_of_length_eq_zero (by simpa using hx.1)
          subst hn; simp at hu⟩
    · exact .inr ⟨⟨b, off, none⟩, cap', h1, fun j u hu => by rw [Addr.add_lit]; exact hc j u hu⟩
  rcases hx2 with ⟨rfl, rfl⟩ | ⟨y, cap', rfl, hnews⟩
  · have hn : news = [] := List.eq_nil_of_length_eq_zero (by simpa using hx.1)
    subst hn
    exact ⟨w, run_append_owned_none (P := P) w 0 t ty e i size tb.und hi _ n xs hown, by simpa using hown, Fr.refl _ _⟩
  · rcases hown.2 with ⟨h, _⟩ | ⟨g', cap0, cur, h, hbg, hg, hnc, hcm, hcs, htake⟩
    · simp at h
    · simp only [Value.slice.injEq, Option.some.injEq, Addr.mk.injEq, and_true, true_and] at h
      obtain ⟨rfl, rfl⟩ := h
      subst hz1
      have hfit : n * i.size + news.length ≤ cur.size := by rw [hx.1, hcs, ← Nat.add_mul]; exact Nat.mul_le_mul_right _ hr
      have hrun := run_append_room (P := P) w t ty e i tb.und hi g n cap cur hg y m cap' news hx.1 hnews h1 hr hfit
      refine ⟨_, hrun, ⟨by rw [List.length_append, hown.1, hx.1, Nat.add_mul], .inr ⟨g, cap, _, rfl, hbg, setRow_heap w g cur _ e _ hg, hr, hcm, ?_, ?_⟩⟩, ⟨rfl, rfl, rfl, by simp, fun k _ hk => setRow_other w g k _ (fun e => hk e)⟩⟩
      · simp only [List.size_toArray, List.length_append, List.length_take, List.length_drop, Array.length_toList]
        omega
      · have hlen : (xs ++ news).length = (n + m) * i.size := by rw [List.length_append, hown.1, hx.1, Nat.add_mul]
        rw [htake, ← hlen]
        exact List.take_left

theorem wp_apr (s x : Operand) (t : TypeId) (ho : o.op = .call { callee := .builtin .append, args := #[s, x], argTypes := #[t, t] })
    {e : TypeId} {z : Value} {size bytes : Nat} (tb : Tb P t e z size bytes) {g n cap : Nat} {xs : List Value} (hown : w.ownsRow 0 e size (.slice (some ⟨g, 0, none⟩) n cap) n xs)
    {vx : Value} {m : Nat} {news : List Value} (hx : Sl w size vx m news) (hse : a.eval s = .slice (some ⟨g, 0, none⟩) n cap) (hxe : a.eval x = vx) (h1 : ∀ u ∈ news, u.oneCell' = true) (hr : n + m ≤ cap)
    (h : ∀ N w', N = n + m → w'.ownsRow 0 e size (.slice (some ⟨g, 0, none⟩) N cap) N (xs ++ news) → Fr (fun k => k = g) w w' → K (a.put o.dst (.slice (some ⟨g, 0, none⟩) N cap)) w') : o.wp P a w K Q := by
  obtain ⟨w', hrun, h2, h3⟩ := run_apr (P := P) tb o.type hown hx h1 hr
  unfold Oper.wp execOp
  simp only [ho, resolve, invoke, builtin, Sem.run_bind, Sem.run_pure, Result.andThen_ok, List.map_toArray, List.map_cons, List.map_nil, hse, hxe, hrun]
  exact h _ w' rfl h2 h3
variable {ops : Array Oper} {rest : List Oper}
theorem wpList_apr (hgd : o.guard = none) (s x : Operand) (t : TypeId) (ho : o.op = .call { callee := .builtin .append, args := #[s, x], argTypes := #[t, t] })
    {e : TypeId} {z : Value} {size bytes : Nat} (tb : Tb P t e z size bytes) {g n cap : Nat} {xs : List Value} (hown : w.ownsRow 0 e size (.slice (some ⟨g, 0, none⟩) n cap) n xs)
    {vx : Value} {m : Nat} {news : List Value} (hx : Sl w size vx m news) (hse : a.eval s = .slice (some ⟨g, 0, none⟩) n cap) (hxe : a.eval x = vx) (h1 : ∀ u ∈ news, u.oneCell' = true) (hr : n + m ≤ cap)
    (h : ∀ N w', N = n + m → w'.ownsRow 0 e size (.slice (some ⟨g, 0, none⟩) N cap) N (xs ++ news) → Fr (fun k => k = g) w w' → wpList P ops Q rest (a.put o.dst (.slice (some ⟨g, 0, none⟩) N cap)) w') : wpList P ops Q (o :: rest) a w :=
  wpList_plain hgd fun _ hK => wp_apr s x t ho tb hown hx hse hxe h1 hr fun N w' h2 h3 h4 => hK _ _ (h N w' h2 h3 h4)
end
end Go

/- Two byte lists, compared. -/
namespace Go.Proofs.Ytdnohhlgaaihmaa
open Go.RowKit

set_option maxRecDepth 100000 in
set_option maxHeartbeats 400000 in
theorem same_any (w : World) (x y : Value) (l k : List UInt8) (hx : Sl w 1 x l.length (bvs l)) (hy : Sl w 1 y k.length (bvs k)) (hl : l.length ≤ 140737488351232) (hk : k.length ≤ 140737488351232) :
    Calls Try.prog 27 #[x, y] w fun e w' => e = .returned (.bool (decide (l = k))) ∧ ∃ n, w' = w.drewN n := by
  obtain ⟨A, c, rfl, hc1, hc2⟩ := hx.form
  obtain ⟨B, d, rfl, hd1, hd2⟩ := hy.form
  have HX := Lib.hid hx; have HY := Lib.hid hy; clear hx hy
  by_cases hlen : l.length = k.length
  · have hb : ((l.length : Int) != (k.length : Int)) = false := by simp [hlen]
    have HLEN := Lib.hid hlen; clear hlen
    go_enter Try.func27, Try.ntmps27
    go_wp2
    go_loopw [5] (fun i wr => ∃ j n : Nat, j ≤ l.length ∧ i = .int .i64 j ∧ wr = w.drewN n ∧ l.take j = k.take j) (fun i _ => l.length - (intOf i).toNat)
    case atStart => exact ⟨0, 0, Nat.zero_le _, rfl, rfl, rfl⟩
    case round =>
      obtain ⟨j, n, hj, rfl, rfl, ht⟩ := hrel
      have HT := Lib.hid ht; clear ht
      by_cases hlt : j < l.length
      · have hlt2 : j < k.length := by have := HLEN.out; omega
        obtain ⟨b, o, rfl, h1⟩ := HX.out.byte j hlt
        obtain ⟨b2, o2, rfl, h2⟩ := HY.out.byte j hlt2
        have e1 : l.take (j + 1) = l.take j ++ [l[j]] := by rw [List.take_succ_eq_append_getElem hlt]
        have e2 : k.take (j + 1) = k.take j ++ [k[j]] := by rw [List.take_succ_eq_append_getElem hlt2]
        by_cases he : l[j] = k[j]
        · have e3 : l.take (j + 1) = k.take (j + 1) := by rw [e1, e2, HT.out, he]
          rw [← he] at h2
          have hb2 : ((l[j].toNat : Int) != (l[j].toNat : Int)) = false := by simp
          have HE := Lib.hid e3; clear e1 e2 e3 he
          go_wp2
          go_quiet (fail)
          go_wp2
          go_roundw
          case rel => exact ⟨j + 1, _, by omega, by go_num, rfl, HE.out⟩
          case measure => simp [intOf]; omega
        · have hb2 : ((l[j].toNat : Int) != (k[j].toNat : Int)) = true := by
            rw [bne_iff_ne]; intro h; exact he (UInt8.toNat_inj.1 (by omega))
          have hne : decide (l = k) = false := by
            rw [decide_eq_false_iff_not]; intro h; subst h; exact he rfl
          have HE := Lib.hid he; have HN := Lib.hid hne; clear e1 e2 he hne
          go_wp2
          go_quiet (fail)
          go_wp2
          go_ret
          exact ⟨by rw [HN.out]; rfl, _, World.drewN_drewN _ _ _⟩
      · go_wp2
        go_ret
        have e : l = k := by
          have h := HT.out
          rw [List.take_of_length_le (by omega), List.take_of_length_le (by have := HLEN.out; omega)] at h
          exact h
        exact ⟨by simp [e], n, rfl⟩
  · have hb : ((l.length : Int) != (k.length : Int)) = true := by rw [bne_iff_ne]; omega
    have hne : decide (l = k) = false := by
      rw [decide_eq_false_iff_not]; intro h; subst h; exact hlen rfl
    have HN := Lib.hid hne; clear hlen hne
    go_enter Try.func27, Try.ntmps27
    go_wp2
    go_ret
    exact ⟨by rw [HN.out]; rfl, 0, rfl⟩
end Go.Proofs.Ytdnohhlgaaihmaa
