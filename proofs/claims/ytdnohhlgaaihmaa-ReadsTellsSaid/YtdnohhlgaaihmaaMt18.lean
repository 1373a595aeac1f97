import Derived.Test.YtdnohhlgaaihmaaMt17

/- codicilref17: All. (printed by mkrdall.py) -/
namespace Go.Proofs.Ytdnohhlgaaihmaa
open Go.RowKit

theorem mem_next {os : List SpV} {j : Nat} (h : j < os.length) (k : List UInt8) : SpV.Mem (os.take (j + 1)) k ↔ SpV.Mem (os.take j) k ∨ os[j].mem k := by
  rw [List.take_succ_eq_append_getElem h, mem_append, mem_one]

set_option maxRecDepth 100000 in
set_option maxHeartbeats 8000000 in
theorem rall_any (w : World) (p : Nat) (sv : Value) (l : List SpV) (hs : Rf w p sv l) (hok : ∀ x ∈ l, x.Ok) (hl : l.length ≤ 100000) :
    Calls Try.prog 54 #[.pointer (some ⟨p, 0, none⟩)] w fun e w' => ∃ ov out, e = .returned ov ∧ SpV.Norm out ∧ (∀ k, SpV.Mem out k ↔ SpV.Mem l k) ∧ out.length ≤ l.length ∧ Ow w' 100 3 ov out.length (out.flatMap SpV.cells) ∧ (∀ y ∈ out, y.Good w') ∧ (∀ k, ov.ownBlock = some k → w.heap.size ≤ k) ∧ Fr no w w' := by
  obtain ⟨rA, rc, hrv, _, _⟩ := hs.row.form
  subst hrv
  obtain ⟨e0, e1, e2⟩ := one_cells hs.at_
  have HS := Lib.hid hs; have HOK := Lib.hid hok; clear hs hok
  go_enter Try.func54, Try.ntmps54
  go_wp2_with fail
  refine (sorted_any w _ l HS.out.row.sl HS.out.good hl).mono ?_
  rintro e w1 ⟨ov1, os, rfl, hol, hri, hmm, h1, hnew1, f1⟩
  obtain ⟨sA, sc, rfl, hsc, _⟩ := h1.form
  have hgd : ∀ y ∈ os, y.Good w := fun y hy => HS.out.good y ((hmm y).1 hy)
  have hok2 : ∀ y ∈ os, y.Ok := fun y hy => HOK.out y ((hmm y).1 hy)
  have hn : os.length ≤ 100000 := by omega
  have HOL := Lib.hid hol; have HRI := Lib.hid hri; have HMM := Lib.hid hmm; have HX := Lib.hid h1; have F1 := Lib.hid f1; have HGD := Lib.hid hgd; have HOK2 := Lib.hid hok2
  clear hol hri hmm h1 hnew1 f1 hgd hok2 e0 e1 e2
  go_wp2
  go_loopw [4, 5] (fun ov i wr => ∃ (j n : Nat) (out : List SpV), j ≤ os.length ∧ i = .int .i64 j ∧ out.length = n ∧ n ≤ j ∧ SpV.Norm out ∧ (∀ k, SpV.Mem out k ↔ SpV.Mem (os.take j) k) ∧ (∀ z ∈ out, ∀ m (h : m < os.length), j ≤ m → le z.f os[m].f) ∧ Ow wr 100 3 ov n (out.flatMap SpV.cells) ∧ (∀ y ∈ out, y.Good w) ∧ (∀ k, ov.ownBlock = some k → w1.heap.size ≤ k) ∧ Fr no w1 wr) (fun _ i _ => os.length - (intOf i).toNat)
  case atStart => exact ⟨0, 0, [], Nat.zero_le _, rfl, rfl, Nat.le_refl _, trivial, fun k => by simp [SpV.Mem], (fun _ h => nomatch h), ow_nil _ _ _, (fun _ h => nomatch h), fun k hk => by simp [Value.ownBlock] at hk, Fr.refl _ _⟩
  case round =>
    obtain ⟨j, n, out, hj, rfl, hln, hnj, hno, hme, hle, ho, hgo, hnw, hf⟩ := hrel
    obtain ⟨oA, oc, rfl, hoc, hocm⟩ := ho.form
    have HLN := Lib.hid hln; have HNO := Lib.hid hno; have HME := Lib.hid hme; have HLE := Lib.hid hle; have HOW := Lib.hid ho; have HGO := Lib.hid hgo; have HNW := Lib.hid hnw; have HF := Lib.hid hf
    clear hln hno hme hle ho hgo hnw hf
    by_cases hlt : j < os.length
    · obtain ⟨rb, ro, hrA, q0, q1, q2⟩ := Spans.at (HX.out.kept0 HF.out).sl j hlt
      subst hrA
      have hxg := HGD.out os[j] (List.getElem_mem _)
      have hxo := HOK2.out os[j] (List.getElem_mem _)
      obtain ⟨FA, fc, hFA, _, _⟩ := hxg.F.form
      obtain ⟨TA, tc, hTA, _, _⟩ := hxg.T.form
      rw [hFA] at q0; rw [hTA] at q1
      have Q0 := Lib.hid q0; have Q1 := Lib.hid q1; have Q2 := Lib.hid q2; have HXG := Lib.hid hxg; have HXO := Lib.hid hxo; have HFA := Lib.hid (And.intro hFA hTA); have W2 := Lib.hid (Fr.drew (Fr.refl no wr))
      have HMN := Lib.hid (mem_next hlt)
      have hq := World.block_lt_of_cell? _ _ q0
      have hrs : ∀ m (h : m < os.length), j + 1 ≤ m → le os[j].f os[m].f := fun m h hm => List.pairwise_iff_getElem.1 HRI.out j m hlt h (by omega)
      have HRS := Lib.hid hrs
      clear hxg hxo hFA hTA hrs
      rcases n with _ | m
      · have hou : out = [] := List.length_eq_zero_iff.1 HLN.out
        have HOU := Lib.hid hou; clear hou
        go_wp2_with fail
        refine wp_region_ord (List.range 27) (fun i => [Kd.p, Kd.p, Kd.p, Kd.p, Kd.p, Kd.p, Kd.p, Kd.p, Kd.l, Kd.p, Kd.p, Kd.p, Kd.p, Kd.p, Kd.p, Kd.p, Kd.l, Kd.l, Kd.p, Kd.p, Kd.p, Kd.p, Kd.l, Kd.l, Kd.p, Kd.p, Kd.p].getD i .e) (by kernel_rfl) (by kernel_rfl) ?_
        iterate 27
          first | (refine wpX_un rfl rfl ?_; go_simp) | first | refine wpX_pu rfl rfl rfl (by first | exact pu_move rfl | exact pu_assign rfl | exact pu_nilCheck rfl rfl | exact pu_binInt rfl rfl rfl | exact pu_conv rfl rfl (by kernel_rfl) | exact pu_fld rfl (by kernel_rfl) | exact pu_ix rfl rfl rfl (by kernel_rfl) | exact pu_unOp rfl | exact pu_binStr rfl rfl rfl | exact pu_len rfl rfl | exact pu_lens rfl rfl | exact pu_pick rfl | exact pu_slice rfl rfl) (fun K hK => ?_) | refine wpX_rd rfl rfl rfl (rd_load rfl) (fun K hK => ?_) | refine wpX_gr rfl rfl rfl (by first | exact gr_buildSlice rfl | exact gr_box rfl | exact gr_alloc rfl) (fun K hK => ?_) | refine wpX_ex rfl rfl rfl (fun K hK => ?_)
          try go_wp2
        refine wpX_done ?_
        have q0 := W2.out.cell Q0.out (fun h => h); have q1 := W2.out.cell Q1.out (fun h => h); have q2 := W2.out.cell Q2.out (fun h => h)
        have hxx := one_span (w := (wr.drew).alloc (.cells #[.slice FA os[j].f.length fc, .slice TA os[j].t.length tc, .bool os[j].o] 100)) (heap_alloc_new wr.drew _ : Has _ wr.drew.heap.size 100 [.slice FA os[j].f.length fc, .slice TA os[j].t.length tc, .bool os[j].o]) rfl
        have hal5 := (Fr.drew (Fr.refl no wr)).alloc (.cells #[.slice FA os[j].f.length fc, .slice TA os[j].t.length tc, .bool os[j].o] 100)
        have HXX := Lib.hid hxx; have HA5 := Lib.hid hal5; clear hxx hal5
        go_wp2_with (at_builtin; refine wpList_apo rfl (.tmp 48) (.tmp 53) 90 rfl tbSpan (HOW.out.kept0 HA5.out) HXX.out rfl rfl ?px1 ?qx1 ?rx1 ?sx1)
        case px1 => intro u hu; simp only [List.mem_cons, List.not_mem_nil, or_false] at hu; rcases hu with rfl | rfl | rfl <;> rfl
        case qx1 => simp only [maxLen]; omega
        case rx1 => omega
        case sx1 =>
          intro NB N6 nd w6 hN ho _ hf hst
          subst hN
          have hw6 : Fr no w1 w6 := (HF.out.trans HA5.out (fun _ _ h => h)).trans hf (fun k hk e => by have := HNW.out k e; omega)
          have hm6 : ∀ k, (Value.slice NB (1) nd).ownBlock = some k → w1.heap.size ≤ k := fun k hk => by
            rcases stays_moved hst with e | e
            · exact HNW.out k (e ▸ hk)
            · have h4 : wr.heap.size ≤ k := Nat.le_trans HA5.out.size (e k hk).1
              have := HF.out.size; omega
          have hcl : os[j].cells = [.slice FA os[j].f.length fc, .slice TA os[j].t.length tc, .bool os[j].o] := by unfold SpV.cells; rw [HFA.out.1, HFA.out.2]
          have hrow : Ow w6 100 3 (.slice NB (1) nd) (1) ((out ++ [os[j]]).flatMap SpV.cells) := by rw [List.flatMap_append, List.flatMap_singleton, hcl]; exact ho
          have N6 := Lib.hid hrow; have M6 := Lib.hid hm6; have W6 := Lib.hid hw6; clear ho hf hst hw6 hm6 hcl hrow
          go_wp2
          go_roundw
          case rel => exact ⟨j + 1, _, out ++ [os[j]], by omega, by first | rfl | go_num, by rw [List.length_append, HLN.out]; rfl, by omega, by rw [HOU.out]; exact norm_first _ HXO.out, fun k => by rw [mem_append, mem_one, HMN.out k, HME.out k], fun z hz m h hm => by
              rcases List.mem_append.1 hz with hz | hz
              · exact HLE.out z hz m h (by omega)
              · rw [List.mem_singleton.1 hz]; exact HRS.out m h hm, N6.out, fun y hy => by
              rcases List.mem_append.1 hy with hy | hy
              · exact HGO.out y hy
              · rw [List.mem_singleton.1 hy]; exact HXG.out, M6.out, W6.out⟩
          case measure => simp [intOf]; omega
      · have hmo : m < out.length := by rw [HLN.out]; omega
        have hsl : Sl wr 3 (.slice oA (m + 1) oc) out.length (out.flatMap SpV.cells) := by rw [HLN.out]; exact HOW.out.sl
        obtain ⟨ob, oo, hoA, p0, p1, p2⟩ := Spans.at hsl m hmo
        subst hoA
        obtain ⟨hoo, cur, hcu, -⟩ := ow_here HOW.out
        have pz : ∀ q, wr.frozen? ⟨ob, q, none⟩ = false := fun q => by simp [World.frozen?, hcu]
        have pl : ob < wr.heap.size := (Array.getElem?_eq_some_iff.1 hcu).1
        clear hcu
        subst hoo
        have hzg := HGO.out out[m] (List.getElem_mem _)
        obtain ⟨GA, gc, hGA, _, _⟩ := hzg.F.form
        obtain ⟨HA, hc, hHA, _, _⟩ := hzg.T.form
        rw [hGA] at p0; rw [hHA] at p1
        have hsp : out = out.take m ++ [out[m]] := by rw [← List.take_succ_eq_append_getElem hmo, List.take_of_length_le (by rw [HLN.out]; omega)]
        have hzx := HLE.out out[m] (List.getElem_mem _) j hlt (Nat.le_refl _)
        have HSP := Lib.hid hsp; have HZX := Lib.hid hzx; have HGH := Lib.hid (And.intro hGA hHA); have HZG := Lib.hid hzg
        clear hsl hsp hzx hGA hHA hzg
        simp only [Nat.zero_add] at p0 p1 p2
        have hm1 : ((m + 1 : Nat) : Int) = (m : Int) + 1 := by omega
        rcases hzo : out[m].o with _ | _
        · rw [hzo] at p2
          have HZO := Lib.hid hzo; clear hzo
          have W9 := Lib.hid (Fr.drew (F1.out.trans HF.out (fun _ _ h => h)))
          have SG := Lib.hid (HGH.out.2 ▸ HZG.out.T)
          have SX := Lib.hid (HFA.out.1 ▸ HXG.out.F)
          by_cases hc : cb out[m].t os[j].f < 0
          · have hlt9 : decide (cb out[m].t os[j].f < 0) = true := decide_eq_true hc
            have hbl : Op.bytesLess out[m].t os[j].f = true := by rw [less_cb]; exact hlt9
            have HCC := Lib.hid hc; clear hc
            go_wp2_with fail
            refine wp_region_ord (List.range 27) (fun i => [Kd.p, Kd.p, Kd.p, Kd.p, Kd.p, Kd.p, Kd.p, Kd.p, Kd.l, Kd.p, Kd.p, Kd.p, Kd.p, Kd.p, Kd.p, Kd.p, Kd.l, Kd.l, Kd.p, Kd.p, Kd.p, Kd.p, Kd.l, Kd.l, Kd.p, Kd.p, Kd.p].getD i .e) (by kernel_rfl) (by kernel_rfl) ?_
            iterate 17
              first | (refine wpX_un rfl rfl ?_; go_simp) | first | refine wpX_pu rfl rfl rfl (by first | exact pu_move rfl | exact pu_assign rfl | exact pu_nilCheck rfl rfl | exact pu_binInt rfl rfl rfl | exact pu_conv rfl rfl (by kernel_rfl) | exact pu_fld rfl (by kernel_rfl) | exact pu_ix rfl rfl rfl (by kernel_rfl) | exact pu_unOp rfl | exact pu_binStr rfl rfl rfl | exact pu_len rfl rfl | exact pu_lens rfl rfl | exact pu_pick rfl | exact pu_slice rfl rfl) (fun K hK => ?_) | refine wpX_rd rfl rfl rfl (rd_load rfl) (fun K hK => ?_) | refine wpX_gr rfl rfl rfl (by first | exact gr_buildSlice rfl | exact gr_box rfl | exact gr_alloc rfl) (fun K hK => ?_) | refine wpX_ex rfl rfl rfl (fun K hK => ?_)
              try go_wp2
            refine wpX_lv (.string ⟨out[m].t.toArray⟩) rfl rfl rfl (fun e => ?_) ?_
            · have := str_ext (P := Try.prog) (src := 34) (dst := 9) (e := 5) (by kernel_rfl) (by kernel_rfl) (by kernel_rfl) (SG.out.kept0 W9.out) e
              simp [execOp, this, Act.eval]
            go_simp
            iterate 5
              first | (refine wpX_un rfl rfl ?_; go_simp) | first | refine wpX_pu rfl rfl rfl (by first | exact pu_move rfl | exact pu_assign rfl | exact pu_nilCheck rfl rfl | exact pu_binInt rfl rfl rfl | exact pu_conv rfl rfl (by kernel_rfl) | exact pu_fld rfl (by kernel_rfl) | exact pu_ix rfl rfl rfl (by kernel_rfl) | exact pu_unOp rfl | exact pu_binStr rfl rfl rfl | exact pu_len rfl rfl | exact pu_lens rfl rfl | exact pu_pick rfl | exact pu_slice rfl rfl) (fun K hK => ?_) | refine wpX_rd rfl rfl rfl (rd_load rfl) (fun K hK => ?_) | refine wpX_gr rfl rfl rfl (by first | exact gr_buildSlice rfl | exact gr_box rfl | exact gr_alloc rfl) (fun K hK => ?_) | refine wpX_ex rfl rfl rfl (fun K hK => ?_)
              try go_wp2
            refine wpX_lv (.string ⟨os[j].f.toArray⟩) rfl rfl rfl (fun e => ?_) ?_
            · have := str_ext (P := Try.prog) (src := 34) (dst := 9) (e := 5) (by kernel_rfl) (by kernel_rfl) (by kernel_rfl) (SX.out.kept0 W9.out) e
              simp [execOp, this, Act.eval]
            go_simp
            iterate 3
              first | (refine wpX_un rfl rfl ?_; go_simp) | first | refine wpX_pu rfl rfl rfl (by first | exact pu_move rfl | exact pu_assign rfl | exact pu_nilCheck rfl rfl | exact pu_binInt rfl rfl rfl | exact pu_conv rfl rfl (by kernel_rfl) | exact pu_fld rfl (by kernel_rfl) | exact pu_ix rfl rfl rfl (by kernel_rfl) | exact pu_unOp rfl | exact pu_binStr rfl rfl rfl | exact pu_len rfl rfl | exact pu_lens rfl rfl | exact pu_pick rfl | exact pu_slice rfl rfl) (fun K hK => ?_) | refine wpX_rd rfl rfl rfl (rd_load rfl) (fun K hK => ?_) | refine wpX_gr rfl rfl rfl (by first | exact gr_buildSlice rfl | exact gr_box rfl | exact gr_alloc rfl) (fun K hK => ?_) | refine wpX_ex rfl rfl rfl (fun K hK => ?_)
              try go_wp2
            refine wpX_done ?_
            clear hlt9 hbl p0 p1 p2
            have q0 := W2.out.cell Q0.out (fun h => h); have q1 := W2.out.cell Q1.out (fun h => h); have q2 := W2.out.cell Q2.out (fun h => h)
            have hxx := one_span (w := (wr.drew).alloc (.cells #[.slice FA os[j].f.length fc, .slice TA os[j].t.length tc, .bool os[j].o] 100)) (heap_alloc_new wr.drew _ : Has _ wr.drew.heap.size 100 [.slice FA os[j].f.length fc, .slice TA os[j].t.length tc, .bool os[j].o]) rfl
            have hal5 := (Fr.drew (Fr.refl no wr)).alloc (.cells #[.slice FA os[j].f.length fc, .slice TA os[j].t.length tc, .bool os[j].o] 100)
            have HXX := Lib.hid hxx; have HA5 := Lib.hid hal5; clear hxx hal5
            go_wp2_with (at_builtin; refine wpList_apo rfl (.tmp 48) (.tmp 53) 90 rfl tbSpan (HOW.out.kept0 HA5.out) HXX.out rfl rfl ?px2 ?qx2 ?rx2 ?sx2)
            case px2 => intro u hu; simp only [List.mem_cons, List.not_mem_nil, or_false] at hu; rcases hu with rfl | rfl | rfl <;> rfl
            case qx2 => simp only [maxLen]; omega
            case rx2 => omega
            case sx2 =>
              intro NB N6 nd w6 hN ho _ hf hst
              subst hN
              have hw6 : Fr no w1 w6 := (HF.out.trans HA5.out (fun _ _ h => h)).trans hf (fun k hk e => by have := HNW.out k e; omega)
              have hm6 : ∀ k, (Value.slice NB (m + 1 + 1) nd).ownBlock = some k → w1.heap.size ≤ k := fun k hk => by
                rcases stays_moved hst with e | e
                · exact HNW.out k (e ▸ hk)
                · have h4 : wr.heap.size ≤ k := Nat.le_trans HA5.out.size (e k hk).1
                  have := HF.out.size; omega
              have hcl : os[j].cells = [.slice FA os[j].f.length fc, .slice TA os[j].t.length tc, .bool os[j].o] := by unfold SpV.cells; rw [HFA.out.1, HFA.out.2]
              have hrow : Ow w6 100 3 (.slice NB (m + 1 + 1) nd) (m + 1 + 1) ((out ++ [os[j]]).flatMap SpV.cells) := by rw [List.flatMap_append, List.flatMap_singleton, hcl]; exact ho
              have N6 := Lib.hid hrow; have M6 := Lib.hid hm6; have W6 := Lib.hid hw6; clear ho hf hst hw6 hm6 hcl hrow
              go_wp2
              go_roundw
              case rel => exact ⟨j + 1, _, out ++ [os[j]], by omega, by first | rfl | go_num, by rw [List.length_append, HLN.out]; rfl, by omega, (by have h8 := HSP.out; have h9 := norm_push (A := out.take m) (z := out[m]) (x := os[j]) (by rw [← h8]; exact HNO.out) HXO.out HZO.out HCC.out; rw [← h8] at h9; exact h9), fun k => by rw [mem_append, mem_one, HMN.out k, HME.out k], fun z hz q h hq => by
                  rcases List.mem_append.1 hz with hz | hz
                  · exact HLE.out z hz q h (by omega)
                  · rw [List.mem_singleton.1 hz]; exact HRS.out q h hq, N6.out, fun y hy => by
                  rcases List.mem_append.1 hy with hy | hy
                  · exact HGO.out y hy
                  · rw [List.mem_singleton.1 hy]; exact HXG.out, M6.out, W6.out⟩
              case measure => simp [intOf]; omega
          · have hlt9 : decide (cb out[m].t os[j].f < 0) = false := decide_eq_false hc
            have hbl : Op.bytesLess out[m].t os[j].f = false := by rw [less_cb]; exact hlt9
            have HCC := Lib.hid (show le os[j].f out[m].t from not_lt hc); clear hc
            rcases hxo : os[j].o with _ | _
            · have HXP := Lib.hid hxo
              rw [hxo] at q2
              clear hxo
              by_cases hgt : cb os[j].t out[m].t ≤ 0
              · have hle8 : decide (cb os[j].t out[m].t ≤ 0) = true := decide_eq_true hgt
                have hbb : (Op.bytesLess os[j].t out[m].t || os[j].t == out[m].t) = true := by rw [leq_cb]; exact hle8
                have HGT := Lib.hid hgt; clear hgt
                have W99 := Lib.hid (Fr.drew (Fr.drew ((F1.out.trans HF.out (fun _ _ h => h)).alloc (.cells #[.slice GA out[m].f.length gc, .slice HA out[m].t.length hc, .bool false] 100))))
                have SY := Lib.hid (HFA.out.2 ▸ HXG.out.T)
                go_wp2_with fail
                refine wp_region_ord (List.range 27) (fun i => [Kd.p, Kd.p, Kd.p, Kd.p, Kd.p, Kd.p, Kd.p, Kd.p, Kd.l, Kd.p, Kd.p, Kd.p, Kd.p, Kd.p, Kd.p, Kd.p, Kd.l, Kd.l, Kd.p, Kd.p, Kd.p, Kd.p, Kd.l, Kd.l, Kd.p, Kd.p, Kd.p].getD i .e) (by kernel_rfl) (by kernel_rfl) ?_
                iterate 17
                  first | (refine wpX_un rfl rfl ?_; go_simp) | first | refine wpX_pu rfl rfl rfl (by first | exact pu_move rfl | exact pu_assign rfl | exact pu_nilCheck rfl rfl | exact pu_binInt rfl rfl rfl | exact pu_conv rfl rfl (by kernel_rfl) | exact pu_fld rfl (by kernel_rfl) | exact pu_ix rfl rfl rfl (by kernel_rfl) | exact pu_unOp rfl | exact pu_binStr rfl rfl rfl | exact pu_len rfl rfl | exact pu_lens rfl rfl | exact pu_pick rfl | exact pu_slice rfl rfl) (fun K hK => ?_) | refine wpX_rd rfl rfl rfl (rd_load rfl) (fun K hK => ?_) | refine wpX_gr rfl rfl rfl (by first | exact gr_buildSlice rfl | exact gr_box rfl | exact gr_alloc rfl) (fun K hK => ?_) | refine wpX_ex rfl rfl rfl (fun K hK => ?_)
                  try go_wp2
                refine wpX_lv (.string ⟨out[m].t.toArray⟩) rfl rfl rfl (fun e => ?_) ?_
                · have := str_ext (P := Try.prog) (src := 34) (dst := 9) (e := 5) (by kernel_rfl) (by kernel_rfl) (by kernel_rfl) (SG.out.kept0 W9.out) e
                  simp [execOp, this, Act.eval]
                go_simp
                iterate 5
                  first | (refine wpX_un rfl rfl ?_; go_simp) | first | refine wpX_pu rfl rfl rfl (by first | exact pu_move rfl | exact pu_assign rfl | exact pu_nilCheck rfl rfl | exact pu_binInt rfl rfl rfl | exact pu_conv rfl rfl (by kernel_rfl) | exact pu_fld rfl (by kernel_rfl) | exact pu_ix rfl rfl rfl (by kernel_rfl) | exact pu_unOp rfl | exact pu_binStr rfl rfl rfl | exact pu_len rfl rfl | exact pu_lens rfl rfl | exact pu_pick rfl | exact pu_slice rfl rfl) (fun K hK => ?_) | refine wpX_rd rfl rfl rfl (rd_load rfl) (fun K hK => ?_) | refine wpX_gr rfl rfl rfl (by first | exact gr_buildSlice rfl | exact gr_box rfl | exact gr_alloc rfl) (fun K hK => ?_) | refine wpX_ex rfl rfl rfl (fun K hK => ?_)
                  try go_wp2
                refine wpX_lv (.string ⟨os[j].f.toArray⟩) rfl rfl rfl (fun e => ?_) ?_
                · have := str_ext (P := Try.prog) (src := 34) (dst := 9) (e := 5) (by kernel_rfl) (by kernel_rfl) (by kernel_rfl) (SX.out.kept0 W9.out) e
                  simp [execOp, this, Act.eval]
                go_simp
                iterate 3
                  first | (refine wpX_un rfl rfl ?_; go_simp) | first | refine wpX_pu rfl rfl rfl (by first | exact pu_move rfl | exact pu_assign rfl | exact pu_nilCheck rfl rfl | exact pu_binInt rfl rfl rfl | exact pu_conv rfl rfl (by kernel_rfl) | exact pu_fld rfl (by kernel_rfl) | exact pu_ix rfl rfl rfl (by kernel_rfl) | exact pu_unOp rfl | exact pu_binStr rfl rfl rfl | exact pu_len rfl rfl | exact pu_lens rfl rfl | exact pu_pick rfl | exact pu_slice rfl rfl) (fun K hK => ?_) | refine wpX_rd rfl rfl rfl (rd_load rfl) (fun K hK => ?_) | refine wpX_gr rfl rfl rfl (by first | exact gr_buildSlice rfl | exact gr_box rfl | exact gr_alloc rfl) (fun K hK => ?_) | refine wpX_ex rfl rfl rfl (fun K hK => ?_)
                  try go_wp2
                refine wpX_done ?_
                have q0 := W2.out.cell q0 (fun h => h); have q1 := W2.out.cell q1 (fun h => h); have q2 := W2.out.cell q2 (fun h => h)
                have p0 := W2.out.cell p0 (fun h => h); have p1 := W2.out.cell p1 (fun h => h); have p2 := W2.out.cell p2 (fun h => h)
                go_wp2_with fail
                refine wp_region_ord (List.range 10) (fun i => [Kd.p, Kd.p, Kd.p, Kd.p, Kd.l, Kd.l, Kd.p, Kd.l, Kd.l, Kd.p].getD i .e) (by kernel_rfl) (by kernel_rfl) ?_
                iterate 5
                  first | (refine wpX_un rfl rfl ?_; go_simp) | first | refine wpX_pu rfl rfl rfl (by first | exact pu_move rfl | exact pu_assign rfl | exact pu_nilCheck rfl rfl | exact pu_binInt rfl rfl rfl | exact pu_conv rfl rfl (by kernel_rfl) | exact pu_fld rfl (by kernel_rfl) | exact pu_ix rfl rfl rfl (by kernel_rfl) | exact pu_unOp rfl | exact pu_binStr rfl rfl rfl | exact pu_len rfl rfl | exact pu_lens rfl rfl | exact pu_pick rfl | exact pu_slice rfl rfl) (fun K hK => ?_) | refine wpX_rd rfl rfl rfl (rd_load rfl) (fun K hK => ?_) | refine wpX_gr rfl rfl rfl (by first | exact gr_buildSlice rfl | exact gr_box rfl | exact gr_alloc rfl) (fun K hK => ?_) | refine wpX_ex rfl rfl rfl (fun K hK => ?_)
                  try go_wp2
                refine wpX_lv (.string ⟨os[j].t.toArray⟩) rfl rfl rfl (fun e => ?_) ?_
                · have := str_ext (P := Try.prog) (src := 34) (dst := 9) (e := 5) (by kernel_rfl) (by kernel_rfl) (by kernel_rfl) (SY.out.kept0 W99.out) e
                  simp [execOp, this, Act.eval]
                go_simp
                iterate 2
                  first | (refine wpX_un rfl rfl ?_; go_simp) | first | refine wpX_pu rfl rfl rfl (by first | exact pu_move rfl | exact pu_assign rfl | exact pu_nilCheck rfl rfl | exact pu_binInt rfl rfl rfl | exact pu_conv rfl rfl (by kernel_rfl) | exact pu_fld rfl (by kernel_rfl) | exact pu_ix rfl rfl rfl (by kernel_rfl) | exact pu_unOp rfl | exact pu_binStr rfl rfl rfl | exact pu_len rfl rfl | exact pu_lens rfl rfl | exact pu_pick rfl | exact pu_slice rfl rfl) (fun K hK => ?_) | refine wpX_rd rfl rfl rfl (rd_load rfl) (fun K hK => ?_) | refine wpX_gr rfl rfl rfl (by first | exact gr_buildSlice rfl | exact gr_box rfl | exact gr_alloc rfl) (fun K hK => ?_) | refine wpX_ex rfl rfl rfl (fun K hK => ?_)
                  try go_wp2
                refine wpX_lv (.string ⟨out[m].t.toArray⟩) rfl rfl rfl (fun e => ?_) ?_
                · have := str_ext (P := Try.prog) (src := 34) (dst := 9) (e := 5) (by kernel_rfl) (by kernel_rfl) (by kernel_rfl) (SG.out.kept0 W99.out) e
                  simp [execOp, this, Act.eval]
                go_simp
                first | (refine wpX_un rfl rfl ?_; go_simp) | first | refine wpX_pu rfl rfl rfl (by first | exact pu_move rfl | exact pu_assign rfl | exact pu_nilCheck rfl rfl | exact pu_binInt rfl rfl rfl | exact pu_conv rfl rfl (by kernel_rfl) | exact pu_fld rfl (by kernel_rfl) | exact pu_ix rfl rfl rfl (by kernel_rfl) | exact pu_unOp rfl | exact pu_binStr rfl rfl rfl | exact pu_len rfl rfl | exact pu_lens rfl rfl | exact pu_pick rfl | exact pu_slice rfl rfl) (fun K hK => ?_) | refine wpX_rd rfl rfl rfl (rd_load rfl) (fun K hK => ?_) | refine wpX_gr rfl rfl rfl (by first | exact gr_buildSlice rfl | exact gr_box rfl | exact gr_alloc rfl) (fun K hK => ?_) | refine wpX_ex rfl rfl rfl (fun K hK => ?_)
                try go_wp2
                refine wpX_done ?_
                go_wp2_with fail
                have h7 : ¬ cb os[j].f out[m].f < 0 := by have := HZX.out; unfold le at this; rw [cb_swap]; omega
                have hmg : SpV.merge out[m] os[j] = out[m] := by
                  have h8 : ¬ 0 < cb os[j].t out[m].t := by have := HGT.out; omega
                  unfold SpV.merge
                  simp only [if_neg h7, HZO.out, HXP.out, Bool.false_eq_true, if_false, if_neg h8]
                have hput := ow_put3 out[m] HOW.out hmo HLN.out.symm
                rw [List.set_getElem_self, HGH.out.1, HGH.out.2, HZO.out] at hput
                have hnm := norm_meet (A := out.take m) (z := out[m]) (x := os[j]) (by have h8 := HSP.out; rw [← h8]; exact HNO.out) HXO.out HZX.out (.inr HCC.out)
                rw [hmg, ← HSP.out] at hnm
                have HPUT := Lib.hid hput; have HNM := Lib.hid hnm; clear hmg hput hnm p0 p1 p2 h7
                go_roundw
                case rel => exact ⟨j + 1, m + 1, out, by omega, by first | rfl | go_num, HLN.out, by omega, HNO.out, fun k => by rw [HNM.out.2 k, HMN.out k, HME.out k], fun z hz q h hq => HLE.out z hz q h (by omega), HPUT.out.1.kept0 (Fr.drew (Fr.drew ((Fr.refl no _).alloc _))), HGO.out, HNW.out, (HF.out.trans HPUT.out.2 (fun k hk e => by have e2 : k = ob := e; have := HNW.out ob rfl; omega)).trans (Fr.drew (Fr.drew ((Fr.refl no _).alloc _))) (fun _ _ h => h)⟩
                case measure => simp [intOf]; omega
              · have hle8 : decide (cb os[j].t out[m].t ≤ 0) = false := decide_eq_false hgt
                have hbb : (Op.bytesLess os[j].t out[m].t || os[j].t == out[m].t) = false := by rw [leq_cb]; exact hle8
                have HGT := Lib.hid hgt; clear hgt
                have W99 := Lib.hid (Fr.drew (Fr.drew ((F1.out.trans HF.out (fun _ _ h => h)).alloc (.cells #[.slice GA out[m].f.length gc, .slice HA out[m].t.length hc, .bool false] 100))))
                have SY := Lib.hid (HFA.out.2 ▸ HXG.out.T)
                go_wp2_with fail
                refine wp_region_ord (List.range 27) (fun i => [Kd.p, Kd.p, Kd.p, Kd.p, Kd.p, Kd.p, Kd.p, Kd.p, Kd.l, Kd.p, Kd.p, Kd.p, Kd.p, Kd.p, Kd.p, Kd.p, Kd.l, Kd.l, Kd.p, Kd.p, Kd.p, Kd.p, Kd.l, Kd.l, Kd.p, Kd.p, Kd.p].getD i .e) (by kernel_rfl) (by kernel_rfl) ?_
                iterate 17
                  first | (refine wpX_un rfl rfl ?_; go_simp) | first | refine wpX_pu rfl rfl rfl (by first | exact pu_move rfl | exact pu_assign rfl | exact pu_nilCheck rfl rfl | exact pu_binInt rfl rfl rfl | exact pu_conv rfl rfl (by kernel_rfl) | exact pu_fld rfl (by kernel_rfl) | exact pu_ix rfl rfl rfl (by kernel_rfl) | exact pu_unOp rfl | exact pu_binStr rfl rfl rfl | exact pu_len rfl rfl | exact pu_lens rfl rfl | exact pu_pick rfl | exact pu_slice rfl rfl) (fun K hK => ?_) | refine wpX_rd rfl rfl rfl (rd_load rfl) (fun K hK => ?_) | refine wpX_gr rfl rfl rfl (by first | exact gr_buildSlice rfl | exact gr_box rfl | exact gr_alloc rfl) (fun K hK => ?_) | refine wpX_ex rfl rfl rfl (fun K hK => ?_)
                  try go_wp2
                refine wpX_lv (.string ⟨out[m].t.toArray⟩) rfl rfl rfl (fun e => ?_) ?_
                · have := str_ext (P := Try.prog) (src := 34) (dst := 9) (e := 5) (by kernel_rfl) (by kernel_rfl) (by kernel_rfl) (SG.out.kept0 W9.out) e
                  simp [execOp, this, Act.eval]
                go_simp
                iterate 5
                  first | (refine wpX_un rfl rfl ?_; go_simp) | first | refine wpX_pu rfl rfl rfl (by first | exact pu_move rfl | exact pu_assign rfl | exact pu_nilCheck rfl rfl | exact pu_binInt rfl rfl rfl | exact pu_conv rfl rfl (by kernel_rfl) | exact pu_fld rfl (by kernel_rfl) | exact pu_ix rfl rfl rfl (by kernel_rfl) | exact pu_unOp rfl | exact pu_binStr rfl rfl rfl | exact pu_len rfl rfl | exact pu_lens rfl rfl | exact pu_pick rfl | exact pu_slice rfl rfl) (fun K hK => ?_) | refine wpX_rd rfl rfl rfl (rd_load rfl) (fun K hK => ?_) | refine wpX_gr rfl rfl rfl (by first | exact gr_buildSlice rfl | exact gr_box rfl | exact gr_alloc rfl) (fun K hK => ?_) | refine wpX_ex rfl rfl rfl (fun K hK => ?_)
                  try go_wp2
                refine wpX_lv (.string ⟨os[j].f.toArray⟩) rfl rfl rfl (fun e => ?_) ?_
                · have := str_ext (P := Try.prog) (src := 34) (dst := 9) (e := 5) (by kernel_rfl) (by kernel_rfl) (by kernel_rfl) (SX.out.kept0 W9.out) e
                  simp [execOp, this, Act.eval]
                go_simp
                iterate 3
                  first | (refine wpX_un rfl rfl ?_; go_simp) | first | refine wpX_pu rfl rfl rfl (by first | exact pu_move rfl | exact pu_assign rfl | exact pu_nilCheck rfl rfl | exact pu_binInt rfl rfl rfl | exact pu_conv rfl rfl (by kernel_rfl) | exact pu_fld rfl (by kernel_rfl) | exact pu_ix rfl rfl rfl (by kernel_rfl) | exact pu_unOp rfl | exact pu_binStr rfl rfl rfl | exact pu_len rfl rfl | exact pu_lens rfl rfl | exact pu_pick rfl | exact pu_slice rfl rfl) (fun K hK => ?_) | refine wpX_rd rfl rfl rfl (rd_load rfl) (fun K hK => ?_) | refine wpX_gr rfl rfl rfl (by first | exact gr_buildSlice rfl | exact gr_box rfl | exact gr_alloc rfl) (fun K hK => ?_) | refine wpX_ex rfl rfl rfl (fun K hK => ?_)
                  try go_wp2
                refine wpX_done ?_
                have q0 := W2.out.cell q0 (fun h => h); have q1 := W2.out.cell q1 (fun h => h); have q2 := W2.out.cell q2 (fun h => h)
                have p0 := W2.out.cell p0 (fun h => h); have p1 := W2.out.cell p1 (fun h => h); have p2 := W2.out.cell p2 (fun h => h)
                go_wp2_with fail
                refine wp_region_ord (List.range 10) (fun i => [Kd.p, Kd.p, Kd.p, Kd.p, Kd.l, Kd.l, Kd.p, Kd.l, Kd.l, Kd.p].getD i .e) (by kernel_rfl) (by kernel_rfl) ?_
                iterate 5
                  first | (refine wpX_un rfl rfl ?_; go_simp) | first | refine wpX_pu rfl rfl rfl (by first | exact pu_move rfl | exact pu_assign rfl | exact pu_nilCheck rfl rfl | exact pu_binInt rfl rfl rfl | exact pu_conv rfl rfl (by kernel_rfl) | exact pu_fld rfl (by kernel_rfl) | exact pu_ix rfl rfl rfl (by kernel_rfl) | exact pu_unOp rfl | exact pu_binStr rfl rfl rfl | exact pu_len rfl rfl | exact pu_lens rfl rfl | exact pu_pick rfl | exact pu_slice rfl rfl) (fun K hK => ?_) | refine wpX_rd rfl rfl rfl (rd_load rfl) (fun K hK => ?_) | refine wpX_gr rfl rfl rfl (by first | exact gr_buildSlice rfl | exact gr_box rfl | exact gr_alloc rfl) (fun K hK => ?_) | refine wpX_ex rfl rfl rfl (fun K hK => ?_)
                  try go_wp2
                refine wpX_lv (.string ⟨os[j].t.toArray⟩) rfl rfl rfl (fun e => ?_) ?_
                · have := str_ext (P := Try.prog) (src := 34) (dst := 9) (e := 5) (by kernel_rfl) (by kernel_rfl) (by kernel_rfl) (SY.out.kept0 W99.out) e
                  simp [execOp, this, Act.eval]
                go_simp
                iterate 2
                  first | (refine wpX_un rfl rfl ?_; go_simp) | first | refine wpX_pu rfl rfl rfl (by first | exact pu_move rfl | exact pu_assign rfl | exact pu_nilCheck rfl rfl | exact pu_binInt rfl rfl rfl | exact pu_conv rfl rfl (by kernel_rfl) | exact pu_fld rfl (by kernel_rfl) | exact pu_ix rfl rfl rfl (by kernel_rfl) | exact pu_unOp rfl | exact pu_binStr rfl rfl rfl | exact pu_len rfl rfl | exact pu_lens rfl rfl | exact pu_pick rfl | exact pu_slice rfl rfl) (fun K hK => ?_) | refine wpX_rd rfl rfl rfl (rd_load rfl) (fun K hK => ?_) | refine wpX_gr rfl rfl rfl (by first | exact gr_buildSlice rfl | exact gr_box rfl | exact gr_alloc rfl) (fun K hK => ?_) | refine wpX_ex rfl rfl rfl (fun K hK => ?_)
                  try go_wp2
                refine wpX_lv (.string ⟨out[m].t.toArray⟩) rfl rfl rfl (fun e => ?_) ?_
                · have := str_ext (P := Try.prog) (src := 34) (dst := 9) (e := 5) (by kernel_rfl) (by kernel_rfl) (by kernel_rfl) (SG.out.kept0 W99.out) e
                  simp [execOp, this, Act.eval]
                go_simp
                first | (refine wpX_un rfl rfl ?_; go_simp) | first | refine wpX_pu rfl rfl rfl (by first | exact pu_move rfl | exact pu_assign rfl | exact pu_nilCheck rfl rfl | exact pu_binInt rfl rfl rfl | exact pu_conv rfl rfl (by kernel_rfl) | exact pu_fld rfl (by kernel_rfl) | exact pu_ix rfl rfl rfl (by kernel_rfl) | exact pu_unOp rfl | exact pu_binStr rfl rfl rfl | exact pu_len rfl rfl | exact pu_lens rfl rfl | exact pu_pick rfl | exact pu_slice rfl rfl) (fun K hK => ?_) | refine wpX_rd rfl rfl rfl (rd_load rfl) (fun K hK => ?_) | refine wpX_gr rfl rfl rfl (by first | exact gr_buildSlice rfl | exact gr_box rfl | exact gr_alloc rfl) (fun K hK => ?_) | refine wpX_ex rfl rfl rfl (fun K hK => ?_)
                try go_wp2
                refine wpX_done ?_
                go_wp2_with fail
                have h7 : ¬ cb os[j].f out[m].f < 0 := by have := HZX.out; unfold le at this; rw [cb_swap]; omega
                have hmg : SpV.merge out[m] os[j] = ⟨.slice GA out[m].f.length gc, .slice TA os[j].t.length tc, out[m].f, os[j].t, false⟩ := by
                  have h8 : 0 < cb os[j].t out[m].t := by have := HGT.out; omega
                  unfold SpV.merge
                  simp only [if_neg h7, HZO.out, HXP.out, Bool.false_eq_true, if_false, if_pos h8, HGH.out.1, HFA.out.2]
                have hset : out.set m (SpV.merge out[m] os[j]) = out.take m ++ [SpV.merge out[m] os[j]] := by
                  rw [List.set_eq_take_append_cons_drop, if_pos hmo, List.drop_of_length_le (by rw [HLN.out]; omega)]
                have hput := ow_put3 (SpV.merge out[m] os[j]) HOW.out hmo HLN.out.symm
                have hnm := norm_meet (A := out.take m) (z := out[m]) (x := os[j]) (by have h8 := HSP.out; rw [← h8]; exact HNO.out) HXO.out HZX.out (.inr HCC.out)
                rw [← HSP.out, ← hset] at hnm
                rw [hmg] at hput hnm
                clear hset
                have HPUT := Lib.hid hput; have HNM := Lib.hid hnm; clear hmg hput hnm p0 p1 p2 h7
                go_roundw
                case rel => exact ⟨j + 1, m + 1, out.set m ⟨.slice GA out[m].f.length gc, .slice TA os[j].t.length tc, out[m].f, os[j].t, false⟩, by omega, by first | rfl | go_num, by rw [List.length_set]; exact HLN.out, by omega, HNM.out.1, fun k => by rw [HNM.out.2 k, HMN.out k, HME.out k], fun z hz q h hq => by
                    rcases List.mem_or_eq_of_mem_set hz with hz | rfl
                    · exact HLE.out z hz q h (by omega)
                    · exact HLE.out out[m] (List.getElem_mem _) q h (by omega),
                  HPUT.out.1.kept0 (Fr.drew (Fr.drew ((Fr.refl no _).alloc _))), fun y hy => by
                    rcases List.mem_or_eq_of_mem_set hy with hy | rfl
                    · exact HGO.out y hy
                    · exact ⟨HGH.out.1 ▸ HZG.out.F, HFA.out.2 ▸ HXG.out.T, HZG.out.lf, HXG.out.lt⟩, HNW.out, (HF.out.trans HPUT.out.2 (fun k hk e => by have e2 : k = ob := e; have := HNW.out ob rfl; omega)).trans (Fr.drew (Fr.drew ((Fr.refl no _).alloc _))) (fun _ _ h => h)⟩
                case measure => simp [intOf]; omega
            · have HXP := Lib.hid hxo
              rw [hxo] at q2
              clear hxo
              go_wp2_with fail
              refine wp_region_ord (List.range 27) (fun i => [Kd.p, Kd.p, Kd.p, Kd.p, Kd.p, Kd.p, Kd.p, Kd.p, Kd.l, Kd.p, Kd.p, Kd.p, Kd.p, Kd.p, Kd.p, Kd.p, Kd.l, Kd.l, Kd.p, Kd.p, Kd.p, Kd.p, Kd.l, Kd.l, Kd.p, Kd.p, Kd.p].getD i .e) (by kernel_rfl) (by kernel_rfl) ?_
              iterate 17
                first | (refine wpX_un rfl rfl ?_; go_simp) | first | refine wpX_pu rfl rfl rfl (by first | exact pu_move rfl | exact pu_assign rfl | exact pu_nilCheck rfl rfl | exact pu_binInt rfl rfl rfl | exact pu_conv rfl rfl (by kernel_rfl) | exact pu_fld rfl (by kernel_rfl) | exact pu_ix rfl rfl rfl (by kernel_rfl) | exact pu_unOp rfl | exact pu_binStr rfl rfl rfl | exact pu_len rfl rfl | exact pu_lens rfl rfl | exact pu_pick rfl | exact pu_slice rfl rfl) (fun K hK => ?_) | refine wpX_rd rfl rfl rfl (rd_load rfl) (fun K hK => ?_) | refine wpX_gr rfl rfl rfl (by first | exact gr_buildSlice rfl | exact gr_box rfl | exact gr_alloc rfl) (fun K hK => ?_) | refine wpX_ex rfl rfl rfl (fun K hK => ?_)
                try go_wp2
              refine wpX_lv (.string ⟨out[m].t.toArray⟩) rfl rfl rfl (fun e => ?_) ?_
              · have := str_ext (P := Try.prog) (src := 34) (dst := 9) (e := 5) (by kernel_rfl) (by kernel_rfl) (by kernel_rfl) (SG.out.kept0 W9.out) e
                simp [execOp, this, Act.eval]
              go_simp
              iterate 5
                first | (refine wpX_un rfl rfl ?_; go_simp) | first | refine wpX_pu rfl rfl rfl (by first | exact pu_move rfl | exact pu_assign rfl | exact pu_nilCheck rfl rfl | exact pu_binInt rfl rfl rfl | exact pu_conv rfl rfl (by kernel_rfl) | exact pu_fld rfl (by kernel_rfl) | exact pu_ix rfl rfl rfl (by kernel_rfl) | exact pu_unOp rfl | exact pu_binStr rfl rfl rfl | exact pu_len rfl rfl | exact pu_lens rfl rfl | exact pu_pick rfl | exact pu_slice rfl rfl) (fun K hK => ?_) | refine wpX_rd rfl rfl rfl (rd_load rfl) (fun K hK => ?_) | refine wpX_gr rfl rfl rfl (by first | exact gr_buildSlice rfl | exact gr_box rfl | exact gr_alloc rfl) (fun K hK => ?_) | refine wpX_ex rfl rfl rfl (fun K hK => ?_)
                try go_wp2
              refine wpX_lv (.string ⟨os[j].f.toArray⟩) rfl rfl rfl (fun e => ?_) ?_
              · have := str_ext (P := Try.prog) (src := 34) (dst := 9) (e := 5) (by kernel_rfl) (by kernel_rfl) (by kernel_rfl) (SX.out.kept0 W9.out) e
                simp [execOp, this, Act.eval]
              go_simp
              iterate 3
                first | (refine wpX_un rfl rfl ?_; go_simp) | first | refine wpX_pu rfl rfl rfl (by first | exact pu_move rfl | exact pu_assign rfl | exact pu_nilCheck rfl rfl | exact pu_binInt rfl rfl rfl | exact pu_conv rfl rfl (by kernel_rfl) | exact pu_fld rfl (by kernel_rfl) | exact pu_ix rfl rfl rfl (by kernel_rfl) | exact pu_unOp rfl | exact pu_binStr rfl rfl rfl | exact pu_len rfl rfl | exact pu_lens rfl rfl | exact pu_pick rfl | exact pu_slice rfl rfl) (fun K hK => ?_) | refine wpX_rd rfl rfl rfl (rd_load rfl) (fun K hK => ?_) | refine wpX_gr rfl rfl rfl (by first | exact gr_buildSlice rfl | exact gr_box rfl | exact gr_alloc rfl) (fun K hK => ?_) | refine wpX_ex rfl rfl rfl (fun K hK => ?_)
                try go_wp2
              refine wpX_done ?_
              have q0 := W2.out.cell q0 (fun h => h); have q1 := W2.out.cell q1 (fun h => h); have q2 := W2.out.cell q2 (fun h => h)
              have p0 := W2.out.cell p0 (fun h => h); have p1 := W2.out.cell p1 (fun h => h); have p2 := W2.out.cell p2 (fun h => h)
              go_wp2_with fail
              have hmg : SpV.merge out[m] os[j] = ⟨.slice GA out[m].f.length gc, .slice none 0 0, out[m].f, [], true⟩ := by
                have h7 : ¬ cb os[j].f out[m].f < 0 := by have := HZX.out; unfold le at this; rw [cb_swap]; omega
                unfold SpV.merge
                simp only [if_neg h7, HZO.out, HXP.out, if_true, HGH.out.1, Bool.false_eq_true, if_false]
              have hset : out.set m (SpV.merge out[m] os[j]) = out.take m ++ [SpV.merge out[m] os[j]] := by
                rw [List.set_eq_take_append_cons_drop, if_pos hmo, List.drop_of_length_le (by rw [HLN.out]; omega)]
              have hput := ow_put3 (SpV.merge out[m] os[j]) HOW.out hmo HLN.out.symm
              have hnm := norm_meet (A := out.take m) (z := out[m]) (x := os[j]) (by have h8 := HSP.out; rw [← h8]; exact HNO.out) HXO.out HZX.out (.inr HCC.out)
              rw [← HSP.out, ← hset] at hnm
              rw [hmg] at hput hnm hset
              have HPUT := Lib.hid hput; have HNM := Lib.hid hnm; have HSET := Lib.hid hset; clear hmg hput hnm hset p0 p1 p2
              go_roundw
              case rel => exact ⟨j + 1, m + 1, out.set m ⟨.slice GA out[m].f.length gc, .slice none 0 0, out[m].f, [], true⟩, by omega, by first | rfl | go_num, by rw [List.length_set]; exact HLN.out, by omega, HNM.out.1, fun k => by rw [HNM.out.2 k, HMN.out k, HME.out k], fun z hz q h hq => by
                  rcases List.mem_or_eq_of_mem_set hz with hz | rfl
                  · exact HLE.out z hz q h (by omega)
                  · exact HLE.out out[m] (List.getElem_mem _) q h (by omega),
                HPUT.out.1.kept0 (Fr.drew ((Fr.refl no _).alloc _)), fun y hy => by
                  rcases List.mem_or_eq_of_mem_set hy with hy | rfl
                  · exact HGO.out y hy
                  · exact ⟨HGH.out.1 ▸ HZG.out.F, ⟨rfl, .inl ⟨none, rfl, rfl⟩⟩, HZG.out.lf, Nat.zero_le _⟩, HNW.out, (HF.out.trans HPUT.out.2 (fun k hk e => by have e2 : k = ob := e; have := HNW.out ob rfl; omega)).trans (Fr.drew ((Fr.refl no _).alloc _)) (fun _ _ h => h)⟩
              case measure => simp [intOf]; omega
        · rw [hzo] at p2
          have HZO := Lib.hid hzo; clear hzo
          go_wp2_with fail
          refine wp_region_ord (List.range 27) (fun i => [Kd.p, Kd.p, Kd.p, Kd.p, Kd.p, Kd.p, Kd.p, Kd.p, Kd.l, Kd.p, Kd.p, Kd.p, Kd.p, Kd.p, Kd.p, Kd.p, Kd.l, Kd.l, Kd.p, Kd.p, Kd.p, Kd.p, Kd.l, Kd.l, Kd.p, Kd.p, Kd.p].getD i .e) (by kernel_rfl) (by kernel_rfl) ?_
          iterate 27
            first | (refine wpX_un rfl rfl ?_; go_simp) | first | refine wpX_pu rfl rfl rfl (by first | exact pu_move rfl | exact pu_assign rfl | exact pu_nilCheck rfl rfl | exact pu_binInt rfl rfl rfl | exact pu_conv rfl rfl (by kernel_rfl) | exact pu_fld rfl (by kernel_rfl) | exact pu_ix rfl rfl rfl (by kernel_rfl) | exact pu_unOp rfl | exact pu_binStr rfl rfl rfl | exact pu_len rfl rfl | exact pu_lens rfl rfl | exact pu_pick rfl | exact pu_slice rfl rfl) (fun K hK => ?_) | refine wpX_rd rfl rfl rfl (rd_load rfl) (fun K hK => ?_) | refine wpX_gr rfl rfl rfl (by first | exact gr_buildSlice rfl | exact gr_box rfl | exact gr_alloc rfl) (fun K hK => ?_) | refine wpX_ex rfl rfl rfl (fun K hK => ?_)
            try go_wp2
          refine wpX_done ?_
          go_wp2
          go_roundw
          case rel => exact ⟨j + 1, m + 1, out, by omega, by first | rfl | go_num, HLN.out, by omega, HNO.out, fun k => by
              rw [HMN.out k, HME.out k]
              exact ⟨.inl, fun h => h.elim (fun h => h) fun h => (HME.out k).1 ⟨out[m], List.getElem_mem _, le_trans HZX.out h.1, .inl HZO.out⟩⟩, fun z hz q h hq => HLE.out z hz q h (by omega), HOW.out.kept0 ((Fr.drew (Fr.refl no wr)).alloc _), HGO.out, HNW.out, HF.out.trans ((Fr.drew (Fr.refl no wr)).alloc _) (fun _ _ h => h)⟩
          case measure => simp [intOf]; omega
    · obtain rfl : j = os.length := by omega
      go_wp2
      go_ret
      have hgw := HGO.out
      have hmm := HMM.out
      exact ⟨_, out, rfl, HNO.out, fun k => by
        rw [HME.out k, List.take_of_length_le (Nat.le_refl _)]
        exact ⟨fun ⟨x, hx, h⟩ => ⟨x, (hmm x).1 hx, h⟩, fun ⟨x, hx, h⟩ => ⟨x, (hmm x).2 hx, h⟩⟩, by have := HLN.out; have := HOL.out; omega, (by have h5 := HOW.out; show Ow wr _ 3 (.slice oA n oc) _ _; rw [HLN.out]; exact h5), fun y hy => ((hgw y hy).kept0 F1.out).kept0 HF.out, fun k hk => by have := HNW.out k hk; have := F1.out.size; omega, F1.out.trans HF.out (fun _ _ h => h)⟩
end Go.Proofs.Ytdnohhlgaaihmaa
