import Derived.Test.YtdnohhlgaaihmaaMd31

/- law16: BufferLast, from what came in. -/
namespace Go.Proofs.Ytdnohhlgaaihmaa
open Go.RowKit

theorem allV_last (l : List OpB) (m : Nat) (hm : m < l.length) (hk : l[m].k % 8 < 3) (hno : ∀ j (h : j < l.length), m < j → l[j].k % 8 < 3 → l[j].kb ≠ l[m].kb) :
    allV l l[m].kb = some (if l[m].k % 8 = 2 then ([], true) else (l[m].vb, false)) := by
  have key : ∀ j, m < j → j ≤ l.length → allV (l.take j) l[m].kb = some (if l[m].k % 8 = 2 then ([], true) else (l[m].vb, false)) := by
    intro j
    induction j with
    | zero => intro h; omega
    | succ j ih =>
      intro h1 h2
      rw [allV_succ l j (by omega)]
      rcases Nat.lt_succ_iff_lt_or_eq.1 h1 with h3 | rfl
      · have := ih h3 (by omega)
        unfold doV
        by_cases hj : l[j].k % 8 < 3
        · have hne := hno j (by omega) h3 hj
          split
          · simp only [hne, if_false]; exact this
          · split
            · simp only [hne, if_false]; exact this
            · exact this
        · rw [if_neg (by omega), if_neg (by omega)]; exact this
      · unfold doV
        by_cases h4 : l[m].k % 8 < 2
        · rw [if_pos h4]; simp; omega
        · rw [if_neg h4, if_pos (by omega)]; simp; omega
  have := key l.length hm (Nat.le_refl _)
  rwa [List.take_of_length_le (Nat.le_refl _)] at this

theorem view_pos {l : List SpV} (h : Ris l) {k : List UInt8} {v : List UInt8 × Bool} (hv : viewK l k = some v) : ∃ h : posK l k < l.length, saidK l k = true ∧ l[posK l k].f = k ∧ l[posK l k].t = v.1 ∧ l[posK l k].o = v.2 := by
  unfold viewK at hv
  obtain ⟨y, hy, rfl⟩ := Option.map_eq_some_iff.1 hv
  have hm : y ∈ l := List.mem_of_find?_eq_some hy
  have hf : y.f = k := by have := List.find?_some hy; simpa using this
  obtain ⟨i, hi, rfl⟩ := List.getElem_of_mem hm
  have hp : posK l k = i := by
    refine posK_of (by omega) (fun m h1 h2 => ?_) (fun _ => by rw [hf, cb_self]; omega)
    have := List.pairwise_iff_getElem.1 h m i h1 hi h2
    rw [hf] at this; exact this
  subst hp
  refine ⟨hi, ?_, hf, rfl, rfl⟩
  unfold saidK
  rw [List.getElem?_eq_getElem hi]
  simp [hf, cb_self]

theorem ris_of_pr {os l : List SpV} (h : os.map (fun x => (x.f, x.t, x.o)) = l.map (fun x => (x.f, x.t, x.o))) (hr : Ris l) : Ris os := by
  have e : os.map (fun x => x.f) = l.map (fun x => x.f) := by
    have := congrArg (List.map (fun y : List UInt8 × List UInt8 × Bool => y.1)) h
    simpa [List.map_map, Function.comp_def] using this
  unfold Ris at *
  have h1 : (l.map fun x => x.f).Pairwise lt := List.pairwise_map.2 hr
  rw [← e] at h1
  exact List.pairwise_map.1 h1

set_option maxRecDepth 100000 in
set_option maxHeartbeats 16000000 in
theorem last_walk (w : World) (X : Value) (l : List OpB) (hx : OpsB w X l) (ho : over16 l = false) :
    Calls Try.prog 5 #[X] w fun e w' => e = .returned (.bool true) ∧ Fr no w w' := by
  obtain ⟨n1, n2⟩ := over16_short ho
  obtain ⟨A, c, rfl, hc1, _⟩ := hx.sl.form
  have HX := Lib.hid hx; have HO := Lib.hid ho; have HS := Lib.hid n2; clear hx ho n2
  go_enter Try.func5, Try.ntmps5
  go_wp2_with fail
  refine (much16_any w _ l HX.out).mono ?_
  rintro e w1 ⟨rfl, f1⟩
  rw [HO.out]
  have F1 := Lib.hid f1; clear f1
  go_wp2_with fail
  refine (known16_any w1).mono ?_
  rintro e w2 ⟨rfl, f2⟩
  have F2 := Lib.hid (F1.out.trans f2 (fun _ _ h => h)); clear f2
  go_wp2_with fail
  refine (filled16_any w2 _ l (HX.out.kept0 F2.out) n1 HS.out).mono ?_
  rintro e w3 ⟨p, lv, sl, uv, us, rfl, hb, hv, hu⟩
  have HB := Lib.hid hb; have HV := Lib.hid hv; clear hb hv
  have hsl := HB.out.len
  go_wp2_with fail
  refine (changes_any w3 p lv uv sl us HB.out.bf (by omega)).mono ?_
  rintro e w4 ⟨A4, os, rfl, ht, hpr, f4⟩
  have hro := ris_of_pr hpr HB.out.bf.ris
  have hol : os.length = sl.length := by have := congrArg List.length hpr; simpa using this
  have hos : os.length ≤ 300 := by omega
  have HT := Lib.hid ht; have HRO := Lib.hid hro; have HOL := Lib.hid hol; have F4 := Lib.hid f4; have HB4 := Lib.hid (HB.out.kept0 f4); clear ht hpr hro f4 hol
  go_wp2
  go_loopw [5] (fun i wr => ∃ j : Nat, 1 ≤ j ∧ i = .int .i64 j ∧ Fr no w4 wr) (fun i _ => os.length - (intOf i).toNat)
  case atStart => exact ⟨1, Nat.le_refl _, rfl, Fr.refl _ _⟩
  case round =>
    obtain ⟨j, hj, rfl, hf⟩ := hrel
    have HF := Lib.hid hf; clear hf
    by_cases hlt : j < os.length
    · obtain ⟨j', rfl⟩ : ∃ j', j = j' + 1 := ⟨j - 1, by omega⟩
      have hlt1 : j' < os.length := by omega
      have hw1 : wrap64 (j' : Int) = j' := by unfold wrap64; omega
      obtain ⟨b, o, hA, q0, -, -⟩ := Spans.at HT.out.row.sl (j' + 1) hlt
      obtain ⟨b', o', hA', r0, -, -⟩ := Spans.at HT.out.row.sl j' hlt1
      subst hA
      obtain ⟨rfl, rfl⟩ : b = b' ∧ o = o' := by simpa using hA'
      obtain ⟨FA, hFA⟩ := (HT.out.form os[j' + 1] (List.getElem_mem _)).1
      obtain ⟨FB, hFB⟩ := (HT.out.form os[j'] (List.getElem_mem _)).1
      rw [hFA] at q0; rw [hFB] at r0
      have SA := Lib.hid (hFA ▸ (HT.out.own os[j' + 1] (List.getElem_mem _)).1.sl); have SB := Lib.hid (hFB ▸ (HT.out.own os[j'] (List.getElem_mem _)).1.sl)
      have q0 := HF.out.cell q0 (fun h => h); have r0 := HF.out.cell r0 (fun h => h)
      have hq := World.block_lt_of_cell? _ _ q0
      have hd : decide (cb os[j' + 1].f os[j'].f ≤ 0) = false := by
        have h1 := List.pairwise_iff_getElem.1 HRO.out j' (j' + 1) hlt1 hlt (by omega)
        unfold lt at h1
        have := cb_swap os[j' + 1].f os[j'].f
        exact decide_eq_false (by omega)
      clear hA' hFA hFB
      go_wp2_with fail
      refine wp_region_ord (List.range 14) (fun i => [Kd.p, Kd.p, Kd.p, Kd.p, Kd.l, Kd.l, Kd.p, Kd.p, Kd.p, Kd.p, Kd.p, Kd.l, Kd.l, Kd.p].getD i .e) (by kernel_rfl) (by kernel_rfl) ?_
      iterate 5
        first | (refine wpX_un rfl rfl ?_; go_simp) | first | refine wpX_pu rfl rfl rfl (by first | exact pu_move rfl | exact pu_assign rfl | exact pu_nilCheck rfl rfl | exact pu_binInt rfl rfl rfl | exact pu_conv rfl rfl (by kernel_rfl) | exact pu_fld rfl (by kernel_rfl) | exact pu_ix rfl rfl rfl (by kernel_rfl) | exact pu_unOp rfl | exact pu_binStr rfl rfl rfl | exact pu_len rfl rfl | exact pu_lens rfl rfl | exact pu_pick rfl | exact pu_slice rfl rfl) (fun K hK => ?_) | refine wpX_rd rfl rfl rfl (rd_load rfl) (fun K hK => ?_) | refine wpX_gr rfl rfl rfl (by first | exact gr_buildSlice rfl | exact gr_box rfl | exact gr_alloc rfl) (fun K hK => ?_) | refine wpX_ex rfl rfl rfl (fun K hK => ?_)
        try go_wp2
      refine wpX_lv (.string ⟨os[j' + 1].f.toArray⟩) rfl rfl rfl (fun e => ?_) ?_
      · have := str_ext (P := Try.prog) (src := 34) (dst := 9) (e := 5) (by kernel_rfl) (by kernel_rfl) (by kernel_rfl) (SA.out.kept0 (Fr.drew HF.out)) e
        simp [execOp, this, Act.eval]
      go_simp
      iterate 6
        first | (refine wpX_un rfl rfl ?_; go_simp) | first | refine wpX_pu rfl rfl rfl (by first | exact pu_move rfl | exact pu_assign rfl | exact pu_nilCheck rfl rfl | exact pu_binInt rfl rfl rfl | exact pu_conv rfl rfl (by kernel_rfl) | exact pu_fld rfl (by kernel_rfl) | exact pu_ix rfl rfl rfl (by kernel_rfl) | exact pu_unOp rfl | exact pu_binStr rfl rfl rfl | exact pu_len rfl rfl | exact pu_lens rfl rfl | exact pu_pick rfl | exact pu_slice rfl rfl) (fun K hK => ?_) | refine wpX_rd rfl rfl rfl (rd_load rfl) (fun K hK => ?_) | refine wpX_gr rfl rfl rfl (by first | exact gr_buildSlice rfl | exact gr_box rfl | exact gr_alloc rfl) (fun K hK => ?_) | refine wpX_ex rfl rfl rfl (fun K hK => ?_)
        try go_wp2
      refine wpX_lv (.string ⟨os[j'].f.toArray⟩) rfl rfl rfl (fun e => ?_) ?_
      · have := str_ext (P := Try.prog) (src := 34) (dst := 9) (e := 5) (by kernel_rfl) (by kernel_rfl) (by kernel_rfl) (SB.out.kept0 (Fr.drew HF.out)) e
        simp [execOp, this, Act.eval]
      go_simp
      iterate 1
        first | (refine wpX_un rfl rfl ?_; go_simp) | first | refine wpX_pu rfl rfl rfl (by first | exact pu_move rfl | exact pu_assign rfl | exact pu_nilCheck rfl rfl | exact pu_binInt rfl rfl rfl | exact pu_conv rfl rfl (by kernel_rfl) | exact pu_fld rfl (by kernel_rfl) | exact pu_ix rfl rfl rfl (by kernel_rfl) | exact pu_unOp rfl | exact pu_binStr rfl rfl rfl | exact pu_len rfl rfl | exact pu_lens rfl rfl | exact pu_pick rfl | exact pu_slice rfl rfl) (fun K hK => ?_) | refine wpX_rd rfl rfl rfl (rd_load rfl) (fun K hK => ?_) | refine wpX_gr rfl rfl rfl (by first | exact gr_buildSlice rfl | exact gr_box rfl | exact gr_alloc rfl) (fun K hK => ?_) | refine wpX_ex rfl rfl rfl (fun K hK => ?_)
        try go_wp2
      refine wpX_done ?_
      go_wp2
      go_roundw
      case rel => exact ⟨j' + 1 + 1, by omega, by first | rfl | go_num, Fr.drew HF.out⟩
      case measure => simp [intOf]; omega
    · have hok := HOL.out
      have B5 := Lib.hid (HB4.out.kept0 HF.out); have W5 := Lib.hid ((HB.out.fr.trans F4.out (fun _ _ h => h)).trans HF.out (fun _ _ h => h)); have O5 := Lib.hid (F2.out.trans ((HB.out.fr.trans F4.out (fun _ _ h => h)).trans HF.out (fun _ _ h => h)) (fun _ _ h => h))
      clear hok
      go_wp2
      go_loopw [6] (fun i wq => ∃ i' : Nat, i' ≤ l.length ∧ i = .int .i64 i' ∧ Fr no wr wq) (fun i _ => l.length - (intOf i).toNat)
      case atStart => exact ⟨0, Nat.zero_le _, rfl, Fr.refl _ _⟩
      case round =>
        obtain ⟨i, hi, rfl, hf⟩ := hrel
        have HF6 := Lib.hid hf; clear hf
        have W6 := Lib.hid (O5.out.trans HF6.out (fun _ _ h => h))
        by_cases hli : i < l.length
        · obtain ⟨b, o, KA, kc, VA, vc, rfl, _, q0, q1, q2, _, _, hK, hVs⟩ := HX.out.at i hli
          have Q0 := Lib.hid q0; have Q1 := Lib.hid q1; have HKI := Lib.hid hK
          have q0 := W6.out.cell q0 (fun h => h)
          have hk256 := (HX.out.good l[i] (List.getElem_mem _)).k
          clear q1 q2 hK hVs
          by_cases hk : l[i].k % 8 < 3
          · have t1 : decide ((2 : Int) < (l[i].k : Int) % 8) = false := decide_eq_false (by omega)
            go_wp2
            go_loopw [7, 8] (fun m k wq => ∃ m' k' : Nat, i ≤ m' ∧ m' < l.length ∧ i ≤ k' ∧ k' ≤ l.length ∧ (m' < k' ∨ (m' = i ∧ k' = i)) ∧ m = .int .i64 m' ∧ k = .int .i64 k' ∧ (∃ h : m' < l.length, l[m'].k % 8 < 3 ∧ l[m'].kb = l[i].kb ∧ ∀ j (hj : j < l.length), m' < j → j < k' → l[j].k % 8 < 3 → l[j].kb ≠ l[i].kb) ∧ Fr no wr wq) (fun _ k _ => l.length - (intOf k).toNat)
            case atStart => exact ⟨i, i, Nat.le_refl _, hli, Nat.le_refl _, hi, .inr ⟨rfl, rfl⟩, rfl, rfl, ⟨hli, hk, rfl, fun j hj h1 h2 => by omega⟩, Fr.refl _ _⟩
            case round =>
              obtain ⟨m, k, him, hml, hik, hkl, hmk, rfl, rfl, ⟨hm', hm3, hmb, hmno⟩, hf⟩ := hrel
              have HM3 := Lib.hid (And.intro hm3 hmb); have HNO := Lib.hid hmno; have HFK := Lib.hid hf; have W7 := Lib.hid (W6.out.trans hf (fun _ _ h => h)); clear hm3 hmb hmno hf q0
              by_cases hkl2 : k < l.length
              · obtain ⟨b2, o2, KA2, kc2, VA2, vc2, hA2, -, r0, r1, -, -, -, hK2, -⟩ := HX.out.at k hkl2
                obtain ⟨rfl, rfl⟩ : b = b2 ∧ o = o2 := by simpa using hA2
                have r0 := W7.out.cell r0 (fun h => h); have r1 := W7.out.cell r1 (fun h => h); have q1 := W7.out.cell Q1.out (fun h => h)
                have hq := World.block_lt_of_cell? _ _ r0
                have hk256' := (HX.out.good l[k] (List.getElem_mem _)).k
                have HKK := Lib.hid hK2; clear hK2 hA2
                by_cases hk3 : l[k].k % 8 < 3
                · have t2 : decide ((l[k].k : Int) % 8 < 3) = true := decide_eq_true (by omega)
                  by_cases heq : l[k].kb = l[i].kb
                  · have he : (l[k].kb == l[i].kb) = true := by simp [heq]
                    have HEQ := Lib.hid (And.intro hk3 heq); clear heq hk3
                    go_wp2_with fail
                    refine wp_region_ord (List.range 22) (fun i => [Kd.p, Kd.p, Kd.p, Kd.p, Kd.l, Kd.p, Kd.p, Kd.p, Kd.p, Kd.p, Kd.p, Kd.p, Kd.l, Kd.l, Kd.p, Kd.p, Kd.p, Kd.p, Kd.l, Kd.l, Kd.p, Kd.p].getD i .e) (by kernel_rfl) (by kernel_rfl) ?_
                    iterate 13
                      first | (refine wpX_un rfl rfl ?_; go_simp) | first | refine wpX_pu rfl rfl rfl (by first | exact pu_move rfl | exact pu_assign rfl | exact pu_nilCheck rfl rfl | exact pu_binInt rfl rfl rfl | exact pu_conv rfl rfl (by kernel_rfl) | exact pu_fld rfl (by kernel_rfl) | exact pu_ix rfl rfl rfl (by kernel_rfl) | exact pu_unOp rfl | exact pu_binStr rfl rfl rfl | exact pu_len rfl rfl | exact pu_lens rfl rfl | exact pu_pick rfl | exact pu_slice rfl rfl) (fun K hK => ?_) | refine wpX_rd rfl rfl rfl (rd_load rfl) (fun K hK => ?_) | refine wpX_gr rfl rfl rfl (by first | exact gr_buildSlice rfl | exact gr_box rfl | exact gr_alloc rfl) (fun K hK => ?_) | refine wpX_ex rfl rfl rfl (fun K hK => ?_)
                      try go_wp2
                    refine wpX_lv (.string ⟨l[k].kb.toArray⟩) rfl rfl rfl (fun e => ?_) ?_
                    · have := str_ext (P := Try.prog) (src := 34) (dst := 9) (e := 5) (by kernel_rfl) (by kernel_rfl) (by kernel_rfl) (HKK.out.kept0 (Fr.drew W7.out)) e
                      simp [execOp, this, Act.eval]
                    go_simp
                    iterate 5
                      first | (refine wpX_un rfl rfl ?_; go_simp) | first | refine wpX_pu rfl rfl rfl (by first | exact pu_move rfl | exact pu_assign rfl | exact pu_nilCheck rfl rfl | exact pu_binInt rfl rfl rfl | exact pu_conv rfl rfl (by kernel_rfl) | exact pu_fld rfl (by kernel_rfl) | exact pu_ix rfl rfl rfl (by kernel_rfl) | exact pu_unOp rfl | exact pu_binStr rfl rfl rfl | exact pu_len rfl rfl | exact pu_lens rfl rfl | exact pu_pick rfl | exact pu_slice rfl rfl) (fun K hK => ?_) | refine wpX_rd rfl rfl rfl (rd_load rfl) (fun K hK => ?_) | refine wpX_gr rfl rfl rfl (by first | exact gr_buildSlice rfl | exact gr_box rfl | exact gr_alloc rfl) (fun K hK => ?_) | refine wpX_ex rfl rfl rfl (fun K hK => ?_)
                      try go_wp2
                    refine wpX_lv (.string ⟨l[i].kb.toArray⟩) rfl rfl rfl (fun e => ?_) ?_
                    · have := str_ext (P := Try.prog) (src := 34) (dst := 9) (e := 5) (by kernel_rfl) (by kernel_rfl) (by kernel_rfl) (HKI.out.kept0 (Fr.drew W7.out)) e
                      simp [execOp, this, Act.eval]
                    go_simp
                    iterate 2
                      first | (refine wpX_un rfl rfl ?_; go_simp) | first | refine wpX_pu rfl rfl rfl (by first | exact pu_move rfl | exact pu_assign rfl | exact pu_nilCheck rfl rfl | exact pu_binInt rfl rfl rfl | exact pu_conv rfl rfl (by kernel_rfl) | exact pu_fld rfl (by kernel_rfl) | exact pu_ix rfl rfl rfl (by kernel_rfl) | exact pu_unOp rfl | exact pu_binStr rfl rfl rfl | exact pu_len rfl rfl | exact pu_lens rfl rfl | exact pu_pick rfl | exact pu_slice rfl rfl) (fun K hK => ?_) | refine wpX_rd rfl rfl rfl (rd_load rfl) (fun K hK => ?_) | refine wpX_gr rfl rfl rfl (by first | exact gr_buildSlice rfl | exact gr_box rfl | exact gr_alloc rfl) (fun K hK => ?_) | refine wpX_ex rfl rfl rfl (fun K hK => ?_)
                      try go_wp2
                    refine wpX_done ?_
                    go_wp2
                    go_roundw
                    case rel => exact ⟨k, k + 1, by omega, by omega, by omega, by omega, by omega, by first | rfl | go_num, by first | rfl | go_num, ⟨by omega, HEQ.out.1, HEQ.out.2, fun j hj h1 h2 => by omega⟩, Fr.drew HFK.out⟩
                    case measure => simp [intOf]; omega
                  · have he : (l[k].kb == l[i].kb) = false := by simp [heq]
                    have HEQ := Lib.hid heq; clear heq
                    go_wp2_with fail
                    refine wp_region_ord (List.range 22) (fun i => [Kd.p, Kd.p, Kd.p, Kd.p, Kd.l, Kd.p, Kd.p, Kd.p, Kd.p, Kd.p, Kd.p, Kd.p, Kd.l, Kd.l, Kd.p, Kd.p, Kd.p, Kd.p, Kd.l, Kd.l, Kd.p, Kd.p].getD i .e) (by kernel_rfl) (by kernel_rfl) ?_
                    iterate 13
                      first | (refine wpX_un rfl rfl ?_; go_simp) | first | refine wpX_pu rfl rfl rfl (by first | exact pu_move rfl | exact pu_assign rfl | exact pu_nilCheck rfl rfl | exact pu_binInt rfl rfl rfl | exact pu_conv rfl rfl (by kernel_rfl) | exact pu_fld rfl (by kernel_rfl) | exact pu_ix rfl rfl rfl (by kernel_rfl) | exact pu_unOp rfl | exact pu_binStr rfl rfl rfl | exact pu_len rfl rfl | exact pu_lens rfl rfl | exact pu_pick rfl | exact pu_slice rfl rfl) (fun K hK => ?_) | refine wpX_rd rfl rfl rfl (rd_load rfl) (fun K hK => ?_) | refine wpX_gr rfl rfl rfl (by first | exact gr_buildSlice rfl | exact gr_box rfl | exact gr_alloc rfl) (fun K hK => ?_) | refine wpX_ex rfl rfl rfl (fun K hK => ?_)
                      try go_wp2
                    refine wpX_lv (.string ⟨l[k].kb.toArray⟩) rfl rfl rfl (fun e => ?_) ?_
                    · have := str_ext (P := Try.prog) (src := 34) (dst := 9) (e := 5) (by kernel_rfl) (by kernel_rfl) (by kernel_rfl) (HKK.out.kept0 (Fr.drew W7.out)) e
                      simp [execOp, this, Act.eval]
                    go_simp
                    iterate 5
                      first | (refine wpX_un rfl rfl ?_; go_simp) | first | refine wpX_pu rfl rfl rfl (by first | exact pu_move rfl | exact pu_assign rfl | exact pu_nilCheck rfl rfl | exact pu_binInt rfl rfl rfl | exact pu_conv rfl rfl (by kernel_rfl) | exact pu_fld rfl (by kernel_rfl) | exact pu_ix rfl rfl rfl (by kernel_rfl) | exact pu_unOp rfl | exact pu_binStr rfl rfl rfl | exact pu_len rfl rfl | exact pu_lens rfl rfl | exact pu_pick rfl | exact pu_slice rfl rfl) (fun K hK => ?_) | refine wpX_rd rfl rfl rfl (rd_load rfl) (fun K hK => ?_) | refine wpX_gr rfl rfl rfl (by first | exact gr_buildSlice rfl | exact gr_box rfl | exact gr_alloc rfl) (fun K hK => ?_) | refine wpX_ex rfl rfl rfl (fun K hK => ?_)
                      try go_wp2
                    refine wpX_lv (.string ⟨l[i].kb.toArray⟩) rfl rfl rfl (fun e => ?_) ?_
                    · have := str_ext (P := Try.prog) (src := 34) (dst := 9) (e := 5) (by kernel_rfl) (by kernel_rfl) (by kernel_rfl) (HKI.out.kept0 (Fr.drew W7.out)) e
                      simp [execOp, this, Act.eval]
                    go_simp
                    iterate 2
                      first | (refine wpX_un rfl rfl ?_; go_simp) | first | refine wpX_pu rfl rfl rfl (by first | exact pu_move rfl | exact pu_assign rfl | exact pu_nilCheck rfl rfl | exact pu_binInt rfl rfl rfl | exact pu_conv rfl rfl (by kernel_rfl) | exact pu_fld rfl (by kernel_rfl) | exact pu_ix rfl rfl rfl (by kernel_rfl) | exact pu_unOp rfl | exact pu_binStr rfl rfl rfl | exact pu_len rfl rfl | exact pu_lens rfl rfl | exact pu_pick rfl | exact pu_slice rfl rfl) (fun K hK => ?_) | refine wpX_rd rfl rfl rfl (rd_load rfl) (fun K hK => ?_) | refine wpX_gr rfl rfl rfl (by first | exact gr_buildSlice rfl | exact gr_box rfl | exact gr_alloc rfl) (fun K hK => ?_) | refine wpX_ex rfl rfl rfl (fun K hK => ?_)
                      try go_wp2
                    refine wpX_done ?_
                    go_wp2
                    go_roundw
                    case rel => exact ⟨m, k + 1, him, by omega, by omega, by omega, by omega, by first | rfl | go_num, by first | rfl | go_num, ⟨hml, HM3.out.1, HM3.out.2, fun j hj h1 h2 h3 => by rcases Nat.lt_succ_iff_lt_or_eq.1 h2 with h4 | rfl; exact HNO.out j hj h1 h4 h3; exact HEQ.out⟩, Fr.drew HFK.out⟩
                    case measure => simp [intOf]; omega
                · have t2 : decide ((l[k].k : Int) % 8 < 3) = false := decide_eq_false (by omega)
                  have HK3 := Lib.hid hk3; clear hk3
                  go_wp2_with fail
                  refine wp_region_ord (List.range 22) (fun i => [Kd.p, Kd.p, Kd.p, Kd.p, Kd.l, Kd.p, Kd.p, Kd.p, Kd.p, Kd.p, Kd.p, Kd.p, Kd.l, Kd.l, Kd.p, Kd.p, Kd.p, Kd.p, Kd.l, Kd.l, Kd.p, Kd.p].getD i .e) (by kernel_rfl) (by kernel_rfl) ?_
                  iterate 22
                    first | (refine wpX_un rfl rfl ?_; go_simp) | first | refine wpX_pu rfl rfl rfl (by first | exact pu_move rfl | exact pu_assign rfl | exact pu_nilCheck rfl rfl | exact pu_binInt rfl rfl rfl | exact pu_conv rfl rfl (by kernel_rfl) | exact pu_fld rfl (by kernel_rfl) | exact pu_ix rfl rfl rfl (by kernel_rfl) | exact pu_unOp rfl | exact pu_binStr rfl rfl rfl | exact pu_len rfl rfl | exact pu_lens rfl rfl | exact pu_pick rfl | exact pu_slice rfl rfl) (fun K hK => ?_) | refine wpX_rd rfl rfl rfl (rd_load rfl) (fun K hK => ?_) | refine wpX_gr rfl rfl rfl (by first | exact gr_buildSlice rfl | exact gr_box rfl | exact gr_alloc rfl) (fun K hK => ?_) | refine wpX_ex rfl rfl rfl (fun K hK => ?_)
                    try go_wp2
                  refine wpX_done ?_
                  go_wp2
                  go_roundw
                  case rel => exact ⟨m, k + 1, him, by omega, by omega, by omega, by omega, by first | rfl | go_num, by first | rfl | go_num, ⟨hml, HM3.out.1, HM3.out.2, fun j hj h1 h2 h3 => by rcases Nat.lt_succ_iff_lt_or_eq.1 h2 with h4 | rfl; exact HNO.out j hj h1 h4 h3; exact (HK3.out h3).elim⟩, Fr.drew HFK.out⟩
                  case measure => simp [intOf]; omega
              · obtain rfl : k = l.length := by omega
                have hal := allV_last l m hml HM3.out.1 (fun j hj h1 h2 => by rw [HM3.out.2]; exact HNO.out j hj h1 hj h2)
                rw [HM3.out.2] at hal
                have hview := (HV.out l[i].kb).trans hal
                obtain ⟨hpo, hsd, hyf, hyt, hyo⟩ := view_pos HB.out.bf.ris hview
                obtain ⟨bm, om, KAm, kcm, VAm, vcm, hAm, -, m0, m1, m2, -, -, hKm, hVm⟩ := HX.out.at m hml
                obtain ⟨rfl, rfl⟩ : b = bm ∧ o = om := by simpa using hAm
                have M0 := Lib.hid m0; have M2 := Lib.hid m2; have HVM := Lib.hid hVm; clear m0 m1 m2 hKm hVm hAm hal hview
                have q1 := W7.out.cell Q1.out (fun h => h)
                have hqq := World.block_lt_of_cell? _ _ q1
                have B7 := Lib.hid (B5.out.kept0 (HF6.out.trans HFK.out (fun _ _ h => h)))
                have hl2 := HS.out l[i] (List.getElem_mem _); have hl3 := HS.out l[m] (List.getElem_mem _)
                have HL2 := Lib.hid (And.intro hl2 hl3); clear hl2 hl3
                have HPO := Lib.hid (And.intro hyf (And.intro hyt hyo)); have HSD := Lib.hid hsd; clear hyf hyt hyo hsd
                go_wp2_with fail
                refine (bget_any _ p lv uv _ sl us l[i].kb B7.out.bf (HKI.out.kept0 W7.out) (by omega)).mono ?_
                rintro e w9 hgt
                rcases hgt with ⟨h0, -⟩ | ⟨hpo2, -, F, T, rfl, hC⟩
                · have := HSD.out; rw [this] at h0; cases h0
                have hPO := HPO.out
                clear HPO HSD
                generalize sl[posK sl l[i].kb] = y at hPO hC ⊢
                obtain ⟨hyf, hyt, hyo⟩ := hPO
                obtain ⟨F0, hF0⟩ := hC.fF; obtain ⟨T0, hT0⟩ := hC.fT
                subst hF0; subst hT0
                have W9 := Lib.hid (W7.out.trans hC.fr (fun _ _ h => h)); have FK9 := Lib.hid (HFK.out.trans hC.fr (fun _ _ h => h))
                have HC := Lib.hid hC; clear hC
                have m0 := W9.out.cell M0.out (fun h => h)
                have hqm := World.block_lt_of_cell? _ _ m0
                have hkm := (HX.out.good l[m] (List.getElem_mem _)).k
                have hyE : (y.f == l[i].kb) = true := by rw [hyf]; simp
                have HYT := Lib.hid (And.intro hyf hyt); clear hyf hyt
                by_cases hgone : l[m].k % 8 = 2
                · have t3 : (((l[m].k : Int) % 8) == 2) = true := by simp; omega
                  rw [if_pos hgone] at hyo HYT
                  have hyo : y.o = true := hyo
                  rw [hyo]
                  go_wp2_with fail
                  have hn9 := heap_alloc_new w9 (.cells #[.slice F0 y.f.length y.f.length, .slice T0 y.t.length y.t.length, .bool true] 36)
                  have ha9 := (Fr.refl no w9).alloc (.cells #[.slice F0 y.f.length y.f.length, .slice T0 y.t.length y.t.length, .bool true] 36)
                  generalize w9.heap.size = gx at hn9 ⊢
                  generalize w9.alloc (.cells #[.slice F0 y.f.length y.f.length, .slice T0 y.t.length y.t.length, .bool true] 36) = w10 at hn9 ha9 ⊢
                  have HA := Lib.hid ha9
                  obtain ⟨c0, c1, c2, _, _⟩ := three_cells hn9
                  have q1 := (W9.out.trans ha9 (fun _ _ h => h)).cell Q1.out (fun h => h)
                  have m2 := (W9.out.trans ha9 (fun _ _ h => h)).cell M2.out (fun h => h)
                  clear hn9 ha9 m0
                  refine wp_region_ord (List.range 35) (fun i => [Kd.p, Kd.p, Kd.p, Kd.p, Kd.l, Kd.p, Kd.e, Kd.p, Kd.p, Kd.p, Kd.p, Kd.p, Kd.p, Kd.l, Kd.p, Kd.p, Kd.p, Kd.p, Kd.l, Kd.e, Kd.p, Kd.p, Kd.p, Kd.p, Kd.p, Kd.l, Kd.l, Kd.p, Kd.p, Kd.p, Kd.p, Kd.l, Kd.l, Kd.p, Kd.p].getD i .e) (by kernel_rfl) (by kernel_rfl) ?_
                  iterate 26
                    first | (refine wpX_un rfl rfl ?_; go_simp) | first | refine wpX_pu rfl rfl rfl (by first | exact pu_move rfl | exact pu_assign rfl | exact pu_nilCheck rfl rfl | exact pu_binInt rfl rfl rfl | exact pu_conv rfl rfl (by kernel_rfl) | exact pu_fld rfl (by kernel_rfl) | exact pu_ix rfl rfl rfl (by kernel_rfl) | exact pu_unOp rfl | exact pu_binStr rfl rfl rfl | exact pu_len rfl rfl | exact pu_lens rfl rfl | exact pu_pick rfl | exact pu_slice rfl rfl) (fun K hK => ?_) | refine wpX_rd rfl rfl rfl (rd_load rfl) (fun K hK => ?_) | refine wpX_gr rfl rfl rfl (by first | exact gr_buildSlice rfl | exact gr_box rfl | exact gr_alloc rfl) (fun K hK => ?_) | refine wpX_ex rfl rfl rfl (fun K hK => ?_)
                    try go_wp2
                  refine wpX_lv (.string ⟨y.f.toArray⟩) rfl rfl rfl (fun e => ?_) ?_
                  · have := str_ext (P := Try.prog) (src := 34) (dst := 9) (e := 5) (by kernel_rfl) (by kernel_rfl) (by kernel_rfl) (HC.out.oF.sl.kept0 (Fr.drew HA.out)) e
                    simp [execOp, this, Act.eval]
                  go_simp
                  iterate 5
                    first | (refine wpX_un rfl rfl ?_; go_simp) | first | refine wpX_pu rfl rfl rfl (by first | exact pu_move rfl | exact pu_assign rfl | exact pu_nilCheck rfl rfl | exact pu_binInt rfl rfl rfl | exact pu_conv rfl rfl (by kernel_rfl) | exact pu_fld rfl (by kernel_rfl) | exact pu_ix rfl rfl rfl (by kernel_rfl) | exact pu_unOp rfl | exact pu_binStr rfl rfl rfl | exact pu_len rfl rfl | exact pu_lens rfl rfl | exact pu_pick rfl | exact pu_slice rfl rfl) (fun K hK => ?_) | refine wpX_rd rfl rfl rfl (rd_load rfl) (fun K hK => ?_) | refine wpX_gr rfl rfl rfl (by first | exact gr_buildSlice rfl | exact gr_box rfl | exact gr_alloc rfl) (fun K hK => ?_) | refine wpX_ex rfl rfl rfl (fun K hK => ?_)
                    try go_wp2
                  refine wpX_lv (.string ⟨l[i].kb.toArray⟩) rfl rfl rfl (fun e => ?_) ?_
                  · have := str_ext (P := Try.prog) (src := 34) (dst := 9) (e := 5) (by kernel_rfl) (by kernel_rfl) (by kernel_rfl) (HKI.out.kept0 (W9.out.trans (Fr.drew HA.out) (fun _ _ h => h))) e
                    simp [execOp, this, Act.eval]
                  go_simp
                  iterate 2
                    first | (refine wpX_un rfl rfl ?_; go_simp) | first | refine wpX_pu rfl rfl rfl (by first | exact pu_move rfl | exact pu_assign rfl | exact pu_nilCheck rfl rfl | exact pu_binInt rfl rfl rfl | exact pu_conv rfl rfl (by kernel_rfl) | exact pu_fld rfl (by kernel_rfl) | exact pu_ix rfl rfl rfl (by kernel_rfl) | exact pu_unOp rfl | exact pu_binStr rfl rfl rfl | exact pu_len rfl rfl | exact pu_lens rfl rfl | exact pu_pick rfl | exact pu_slice rfl rfl) (fun K hK => ?_) | refine wpX_rd rfl rfl rfl (rd_load rfl) (fun K hK => ?_) | refine wpX_gr rfl rfl rfl (by first | exact gr_buildSlice rfl | exact gr_box rfl | exact gr_alloc rfl) (fun K hK => ?_) | refine wpX_ex rfl rfl rfl (fun K hK => ?_)
                    try go_wp2
                  refine wpX_done ?_
                  go_wp2
                  go_roundw
                  case rel => exact ⟨i + 1, by omega, by first | rfl | go_num, HF6.out.trans (FK9.out.trans (HA.out.trans (Fr.drew (Fr.refl no _)) (fun _ _ h => h)) (fun _ _ h => h)) (fun _ _ h => h)⟩
                  case measure => simp [intOf]; omega
                · have t3 : (((l[m].k : Int) % 8) == 2) = false := by simp; omega
                  rw [if_neg hgone] at hyo HYT
                  have hyo : y.o = false := hyo
                  rw [hyo]
                  go_wp2_with fail
                  have hn9 := heap_alloc_new w9 (.cells #[.slice F0 y.f.length y.f.length, .slice T0 y.t.length y.t.length, .bool false] 36)
                  have ha9 := (Fr.refl no w9).alloc (.cells #[.slice F0 y.f.length y.f.length, .slice T0 y.t.length y.t.length, .bool false] 36)
                  generalize w9.heap.size = gx at hn9 ⊢
                  generalize w9.alloc (.cells #[.slice F0 y.f.length y.f.length, .slice T0 y.t.length y.t.length, .bool false] 36) = w10 at hn9 ha9 ⊢
                  have HA := Lib.hid ha9
                  obtain ⟨c0, c1, c2, _, _⟩ := three_cells hn9
                  have q1 := (W9.out.trans ha9 (fun _ _ h => h)).cell Q1.out (fun h => h)
                  have m2 := (W9.out.trans ha9 (fun _ _ h => h)).cell M2.out (fun h => h)
                  clear hn9 ha9 m0
                  refine wp_region_ord (List.range 35) (fun i => [Kd.p, Kd.p, Kd.p, Kd.p, Kd.l, Kd.p, Kd.e, Kd.p, Kd.p, Kd.p, Kd.p, Kd.p, Kd.p, Kd.l, Kd.p, Kd.p, Kd.p, Kd.p, Kd.l, Kd.e, Kd.p, Kd.p, Kd.p, Kd.p, Kd.p, Kd.l, Kd.l, Kd.p, Kd.p, Kd.p, Kd.p, Kd.l, Kd.l, Kd.p, Kd.p].getD i .e) (by kernel_rfl) (by kernel_rfl) ?_
                  iterate 19
                    first | (refine wpX_un rfl rfl ?_; go_simp) | first | refine wpX_pu rfl rfl rfl (by first | exact pu_move rfl | exact pu_assign rfl | exact pu_nilCheck rfl rfl | exact pu_binInt rfl rfl rfl | exact pu_conv rfl rfl (by kernel_rfl) | exact pu_fld rfl (by kernel_rfl) | exact pu_ix rfl rfl rfl (by kernel_rfl) | exact pu_unOp rfl | exact pu_binStr rfl rfl rfl | exact pu_len rfl rfl | exact pu_lens rfl rfl | exact pu_pick rfl | exact pu_slice rfl rfl) (fun K hK => ?_) | refine wpX_rd rfl rfl rfl (rd_load rfl) (fun K hK => ?_) | refine wpX_gr rfl rfl rfl (by first | exact gr_buildSlice rfl | exact gr_box rfl | exact gr_alloc rfl) (fun K hK => ?_) | refine wpX_ex rfl rfl rfl (fun K hK => ?_)
                    try go_wp2
                  refine wpX_ex rfl rfl rfl (fun K hK => ?_)
                  go_wp2_with fail
                  refine (same_any _ _ _ y.t l[m].vb (HC.out.oT.sl.kept0 (Fr.drew HA.out)) (HVM.out.kept0 (W9.out.trans (Fr.drew HA.out) (fun _ _ h => h))) (by have := HYT.out.2; rw [this]; have := HL2.out; omega) (by have := HL2.out; omega)).mono ?_
                  rintro e w11 ⟨rfl, n1', hw11⟩
                  have F11 := Lib.hid (show Fr no w10 w11 from hw11 ▸ (Fr.drew (Fr.refl no w10)).trans (Fr.drewN no _ n1') (fun _ _ h => h))
                  have c0 := F11.out.cell c0 (fun h => h); have q1 := F11.out.cell q1 (fun h => h)
                  clear hw11
                  rw [decide_eq_true HYT.out.2]
                  go_wp2
                  iterate 6
                    first | (refine wpX_un rfl rfl ?_; go_simp) | first | refine wpX_pu rfl rfl rfl (by first | exact pu_move rfl | exact pu_assign rfl | exact pu_nilCheck rfl rfl | exact pu_binInt rfl rfl rfl | exact pu_conv rfl rfl (by kernel_rfl) | exact pu_fld rfl (by kernel_rfl) | exact pu_ix rfl rfl rfl (by kernel_rfl) | exact pu_unOp rfl | exact pu_binStr rfl rfl rfl | exact pu_len rfl rfl | exact pu_lens rfl rfl | exact pu_pick rfl | exact pu_slice rfl rfl) (fun K hK => ?_) | refine wpX_rd rfl rfl rfl (rd_load rfl) (fun K hK => ?_) | refine wpX_gr rfl rfl rfl (by first | exact gr_buildSlice rfl | exact gr_box rfl | exact gr_alloc rfl) (fun K hK => ?_) | refine wpX_ex rfl rfl rfl (fun K hK => ?_)
                    try go_wp2
                  refine wpX_lv (.string ⟨y.f.toArray⟩) rfl rfl rfl (fun e => ?_) ?_
                  · have := str_ext (P := Try.prog) (src := 34) (dst := 9) (e := 5) (by kernel_rfl) (by kernel_rfl) (by kernel_rfl) (HC.out.oF.sl.kept0 (HA.out.trans F11.out (fun _ _ h => h))) e
                    simp [execOp, this, Act.eval]
                  go_simp
                  iterate 5
                    first | (refine wpX_un rfl rfl ?_; go_simp) | first | refine wpX_pu rfl rfl rfl (by first | exact pu_move rfl | exact pu_assign rfl | exact pu_nilCheck rfl rfl | exact pu_binInt rfl rfl rfl | exact pu_conv rfl rfl (by kernel_rfl) | exact pu_fld rfl (by kernel_rfl) | exact pu_ix rfl rfl rfl (by kernel_rfl) | exact pu_unOp rfl | exact pu_binStr rfl rfl rfl | exact pu_len rfl rfl | exact pu_lens rfl rfl | exact pu_pick rfl | exact pu_slice rfl rfl) (fun K hK => ?_) | refine wpX_rd rfl rfl rfl (rd_load rfl) (fun K hK => ?_) | refine wpX_gr rfl rfl rfl (by first | exact gr_buildSlice rfl | exact gr_box rfl | exact gr_alloc rfl) (fun K hK => ?_) | refine wpX_ex rfl rfl rfl (fun K hK => ?_)
                    try go_wp2
                  refine wpX_lv (.string ⟨l[i].kb.toArray⟩) rfl rfl rfl (fun e => ?_) ?_
                  · have := str_ext (P := Try.prog) (src := 34) (dst := 9) (e := 5) (by kernel_rfl) (by kernel_rfl) (by kernel_rfl) (HKI.out.kept0 (W9.out.trans (HA.out.trans F11.out (fun _ _ h => h)) (fun _ _ h => h))) e
                    simp [execOp, this, Act.eval]
                  go_simp
                  iterate 2
                    first | (refine wpX_un rfl rfl ?_; go_simp) | first | refine wpX_pu rfl rfl rfl (by first | exact pu_move rfl | exact pu_assign rfl | exact pu_nilCheck rfl rfl | exact pu_binInt rfl rfl rfl | exact pu_conv rfl rfl (by kernel_rfl) | exact pu_fld rfl (by kernel_rfl) | exact pu_ix rfl rfl rfl (by kernel_rfl) | exact pu_unOp rfl | exact pu_binStr rfl rfl rfl | exact pu_len rfl rfl | exact pu_lens rfl rfl | exact pu_pick rfl | exact pu_slice rfl rfl) (fun K hK => ?_) | refine wpX_rd rfl rfl rfl (rd_load rfl) (fun K hK => ?_) | refine wpX_gr rfl rfl rfl (by first | exact gr_buildSlice rfl | exact gr_box rfl | exact gr_alloc rfl) (fun K hK => ?_) | refine wpX_ex rfl rfl rfl (fun K hK => ?_)
                    try go_wp2
                  refine wpX_done ?_
                  go_wp2
                  go_roundw
                  case rel => exact ⟨i + 1, by omega, by first | rfl | go_num, HF6.out.trans (FK9.out.trans (HA.out.trans F11.out (fun _ _ h => h)) (fun _ _ h => h)) (fun _ _ h => h)⟩
                  case measure => simp [intOf]; omega
          · have t1 : decide ((2 : Int) < (l[i].k : Int) % 8) = true := decide_eq_true (by omega)
            go_wp2
            go_roundw
            case rel => exact ⟨i + 1, by omega, by first | rfl | go_num, HF6.out⟩
            case measure => simp [intOf]; omega
        · skip
          have hol := HOL.out
          have hle : decide ((sl.length : Int) ≤ (us.length : Int)) = true := decide_eq_true (by omega)
          have heq : ((os.length : Int) == (sl.length : Int)) = true := by simp [hol]
          have B9 := Lib.hid (B5.out.kept0 HF6.out)
          have HLE := Lib.hid hle; have HEQ := Lib.hid heq
          clear hol hle heq
          go_wp2_with fail
          refine (blen_any _ p lv uv sl us B9.out.bf).mono ?_
          rintro e w9 ⟨rfl, rfl⟩
          have heq := HEQ.out
          go_wp2_with fail
          refine (blen_any _ p lv uv sl us B9.out.bf).mono ?_
          rintro e w9 ⟨rfl, rfl⟩
          go_wp2_with fail
          refine (bmark_any _ p lv uv sl us B9.out.bf).mono ?_
          rintro e w9 ⟨rfl, rfl⟩
          have hle := HLE.out
          go_wp2
          go_ret
          exact ⟨by first | rfl | simp, W6.out⟩

set_option maxRecDepth 100000 in
set_option maxHeartbeats 4000000 in
/-- Whatever comes in. -/
theorem last_any (w : World) (X : Value) (l : List OpB) (hx : OpsB w X l) :
    Calls Try.prog 5 #[X] w fun e w' => e = .returned (.bool true) ∧ Fr no w w' := by
  cases ho : over16 l with
  | false => exact last_walk w X l hx ho
  | true =>
    have HO := Lib.hid ho; clear ho
    go_enter Try.func5, Try.ntmps5
    go_wp2_with fail
    refine (much16_any w _ l hx).mono ?_
    rintro e w1 ⟨rfl, f1⟩
    rw [HO.out]
    have F1 := Lib.hid f1; clear f1
    go_wp2_with fail
    refine (known16_any w1).mono ?_
    rintro e w2 ⟨rfl, f2⟩
    have F2 := Lib.hid (F1.out.trans f2 (fun _ _ h => h)); clear f2
    go_wp2
    go_ret
    exact ⟨rfl, F2.out⟩
end Go.Proofs.Ytdnohhlgaaihmaa
