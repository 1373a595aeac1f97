/- The walk of the law CodeOne. -/
import Derived.Test.YtomnhblecnbmaaaPureOne
import Derived.Test.YtomnhblecnbmaaaKnown
namespace Go.Proofs.Ytomnhblecnbmaaa
open Go.RowKit

set_option maxRecDepth 100000 in
set_option maxHeartbeats 1000000 in
theorem one_long (w : World) (A : Option Addr) (n c : Nat) (v u : Int) (hn : 20000 < n) :
    Calls Try.prog 3 #[.slice A n c, .int .u64 v, .int .u64 u] w fun e w' => e = .returned (.bool true) ∧ Below w.heap.size w w' := by
  go_enter Try.func3, Try.ntmps3
  go_wp2
  go_ret
  exact ⟨rfl, Below.refl _ _⟩

theorem own_nil {p k : Nat} (h : Own p (.slice none 0 0) k) : k = p := by
  rcases h with h | h
  · exact h
  · simp [Value.ownBlock] at h

set_option maxRecDepth 100000 in
set_option maxHeartbeats 600000 in
theorem one_walk (w : World) (x : Value) (l : List UInt8) (v u : Nat) (hv : lt64 v) (hu : lt64 u) (hx : Sl w 1 x l.length (bvs l)) (hl : l.length ≤ 20000) :
    Calls Try.prog 3 #[x, .int .u64 (v : Int), .int .u64 (u : Int)] w fun e w' => e = .returned (.bool true) ∧ Below w.heap.size w w' := by
  obtain ⟨A, c, rfl, hc1, hc2⟩ := hx.form
  have HX := Lib.hid hx; clear hx
  go_enter Try.func3, Try.ntmps3
  go_wp2_with fail
  refine (read_any _ _ _ HX.out (by omega)).mono ?_
  rintro e w1 ⟨q, sv, rfl, hr1, hq1, hk1, hf1⟩
  have HR1 := Lib.hid hr1; have HF1 := Lib.hid hf1; have HQ1 := Lib.hid hq1; have HK1 := Lib.hid hk1; clear hr1 hf1 hk1 hq1
  go_wp2_with fail
  refine (new_any _).mono ?_
  rintro e w2 ⟨p2, rfl, hp2, hp2', hw2, hf2⟩
  go_wp2_with fail
  refine (new_any _).mono ?_
  rintro e w3 ⟨p3, rfl, hp3, hp3', hw3, hf3⟩
  go_wp2_with fail
  refine (new_any _).mono ?_
  rintro e w4 ⟨p4, rfl, hp4, hp4', hw4, hf4⟩
  go_wp2_with fail
  refine (known_any _).mono ?_
  rintro e w5 ⟨rfl, hf5⟩
  have s2 := hf2.size
  have s3 := hf3.size
  have s4 := hf4.size
  have s5 := hf5.size
  have hqlt := (four_cells HR1.out.1).2.2.2.2.2
  have g15 : Fr no w1 w5 := ((hf2.trans hf3 (fun _ _ h => h)).trans hf4 (fun _ _ h => h)).trans hf5 (fun _ _ h => h)
  have HR5 := Lib.hid (HR1.out.kept g15 (fun h => h) (fun _ _ h => h))
  have HW2 := Lib.hid (hw2.kept ((hf3.trans hf4 (fun _ _ h => h)).trans hf5 (fun _ _ h => h)) (fun _ _ h => h))
  have HW3 := Lib.hid (hw3.kept (hf4.trans hf5 (fun _ _ h => h)) (fun _ _ h => h))
  have HW4 := Lib.hid (hw4.kept hf5 (fun _ _ h => h))
  have HF5 := Lib.hid (HF1.out.trans g15 (fun _ _ h => h))
  clear hw2 hw3 hw4 hf2 hf3 hf4 hf5 g15
  go_wp2_with fail
  refine (rvar_any q _ sv l ⟨0, 0, 0⟩ HR5.out).mono ?_
  rintro e w6 ⟨rfl, hr6, hf6⟩
  have HC := Lib.hid (var_case l)
  have HX64 := Lib.hid (var_64 l ⟨0, 0, 0⟩)
  obtain ⟨X, hX⟩ : ∃ X, X = (RS.var l ⟨0, 0, 0⟩).1 := ⟨_, rfl⟩
  obtain ⟨s, hs⟩ : ∃ s, s = (RS.var l ⟨0, 0, 0⟩).2 := ⟨_, rfl⟩
  rw [← hX, ← hs] at HC
  rw [← hX] at HX64
  rw [← hX]
  rw [← hs] at hr6
  clear hX hs
  have HR6 := Lib.hid hr6; have HF6 := Lib.hid hf6; clear hr6 hf6
  go_wp2_with fail
  refine (err_any q _ sv l s HR6.out).mono ?_
  rintro e w7 ⟨rfl, n7, rfl⟩
  have nq2 : ¬ At q p2 := fun h => by have h2 : p2 = q := h; omega
  have nq3 : ¬ At q p3 := fun h => by have h2 : p3 = q := h; omega
  have nq4 : ¬ At q p4 := fun h => by have h2 : p4 = q := h; omega
  have hk1 := HK1.out
  have hq0 : w.heap.size ≤ q := HQ1.out
  have f7 : Fr (At q) w5 (w6.drewN n7) := HF6.out.moreN n7
  have wr2 : Wr (w6.drewN n7) p2 (.slice none 0 0) [] := HW2.out.kept f7 (fun k hk h => nq2 (own_nil hk ▸ h))
  have HW3 := Lib.hid (HW3.out.kept f7 (fun k hk h => nq3 (own_nil hk ▸ h)))
  have HW4 := Lib.hid (HW4.out.kept f7 (fun k hk h => nq4 (own_nil hk ▸ h)))
  have HF7 := Lib.hid (HF5.out.trans f7 (fun k hk h => by have h2 : k = q := h; omega))
  have HR7 := Lib.hid (HR6.out.drewN n7)
  have HW2' := Lib.hid wr2
  clear f7 wr2
  go_wp2_with fail
  refine (varint_any p2 _ _ _ X (by omega) ⟨by have := HX64.out; omega⟩ HW2'.out (by simp)).mono ?_
  rintro e w8 ⟨rfl, A8, n8, c8, hw8, hf8, hm8⟩
  rw [Int.toNat_natCast, List.nil_append] at hw8
  have np : ∀ k, k ≠ p2 → ¬ Own p2 (.slice none 0 0) k := fun k hk h => hk (own_nil h)
  have HR8 := Lib.hid (HR7.out.kept hf8 (np q (by omega)) (fun k hk => np k (by have := hk1 k hk; omega)))
  have HW3 := Lib.hid (HW3.out.kept hf8 (fun k hk => np k (by have := own_nil hk; omega)))
  have HW4 := Lib.hid (HW4.out.kept hf8 (fun k hk => np k (by have := own_nil hk; omega)))
  have HF8 := Lib.hid (HF7.out.trans hf8 (fun k hk h => by have := own_nil h; omega))
  have HW8 := Lib.hid hw8
  clear hf8 hm8 hw8
  go_wp2_with fail
  refine (left_any q _ sv l s HR8.out).mono ?_
  rintro e w9 ⟨rfl, n9, rfl⟩
  have hp : s.pos ≤ l.length := HR8.out.2.2.2.1
  rcases HC.out with ⟨he, hp1, _, hvi⟩ | ⟨he, hp0, hx0⟩
  · have hb : ((s.e : Int) == 0) = true := by simp [he]
    have hb2 : ((s.e : Int) != 0) = false := by simp [he]
    have HVI := Lib.hid hvi; clear hvi he
    go_wp2_with fail
    rw [show (l.length : Int) - ((l.length : Int) - (s.pos : Int)) = (s.pos : Int) from by omega]
    have hd1 : decide ((s.pos : Int) < 1) = false := by simp; omega
    have hd2 : decide (l.length < s.pos) = false := by simp; omega
    refine wp_region_ord [0, 1, 2, 3, 4, 5, 6, 7, 8, 9, 10, 11, 12, 14, 15, 16, 13, 17, 18, 19, 20, 21, 22, 23, 24, 25, 26, 27, 28, 29, 30, 31, 32] (fun i => [Kd.p, Kd.p, Kd.p, Kd.p, Kd.p, Kd.p, Kd.p, Kd.p, Kd.p, Kd.p, Kd.p, Kd.p, Kd.p, Kd.e, Kd.p, Kd.p, Kd.p, Kd.e, Kd.p, Kd.p, Kd.p, Kd.p, Kd.p, Kd.p, Kd.p, Kd.p, Kd.p, Kd.p, Kd.p, Kd.p, Kd.p, Kd.p, Kd.p].getD i .e) (by kernel_rfl) (by kernel_rfl) ?_
    iterate 16
      first | (refine wpX_un rfl rfl ?_; go_simp) | first | refine wpX_pu rfl rfl rfl (by first | exact pu_move rfl | exact pu_assign rfl | exact pu_nilCheck rfl rfl | exact pu_binInt rfl rfl rfl | exact pu_conv rfl rfl (by kernel_rfl) | exact pu_fld rfl (by kernel_rfl) | exact pu_ix rfl rfl rfl (by kernel_rfl) | exact pu_unOp rfl | exact pu_binStr rfl rfl rfl | exact pu_len rfl rfl | exact pu_lens rfl rfl | exact pu_pick rfl | exact pu_slice rfl rfl) (fun K hK => ?_) | refine wpX_rd rfl rfl rfl (rd_load rfl) (fun K hK => ?_) | refine wpX_gr rfl rfl rfl (by first | exact gr_buildSlice rfl | exact gr_box rfl | exact gr_alloc rfl) (fun K hK => ?_) | refine wpX_ex rfl rfl rfl (fun K hK => ?_)
      try go_wp2
    refine wpX_ex rfl rfl rfl (fun K hK => ?_)
    go_wp2_with fail
    refine (bytes_any p2 _ _ _ ((HW8.out.kept (Fr.drewN no _ _) (fun _ _ h => h))) (by have := vi_length X HX64.out; omega)).mono ?_
    rintro e w10 ⟨A10, rfl, hb10, hk10, hf10⟩
    have HB10 := Lib.hid hb10.sl; have HF10 := Lib.hid hf10; clear hb10 hk10 hf10
    have hhead := HX.out.head s.pos hp
    rw [bvs_take] at hhead
    have htl : (l.take s.pos).length = s.pos := by simp; omega
    have hs2 : Sl w10 1 (.slice A s.pos c) (l.take s.pos).length (bvs (l.take s.pos)) := by
      rw [htl]
      exact (hhead.kept0 (HF8.out.moreN _)).kept0 HF10.out
    have HS2 := Lib.hid hs2; clear hhead htl hs2
    have hdec : decide (vi X = l.take s.pos) = true := by rw [HVI.out]; simp
    go_wp2_with fail
    refine wpX_ex rfl rfl rfl (fun K hK => ?_)
    go_wp2_with fail
    refine (same_any _ _ _ (vi X) (l.take s.pos) HB10.out HS2.out (by have := vi_length X HX64.out; omega) (by simp; omega)).mono ?_
    rintro e w11 ⟨rfl, n11, rfl⟩
    go_wp2_with fail
    iterate 15
      first | (refine wpX_un rfl rfl ?_; go_simp) | first | refine wpX_pu rfl rfl rfl (by first | exact pu_move rfl | exact pu_assign rfl | exact pu_nilCheck rfl rfl | exact pu_binInt rfl rfl rfl | exact pu_conv rfl rfl (by kernel_rfl) | exact pu_fld rfl (by kernel_rfl) | exact pu_ix rfl rfl rfl (by kernel_rfl) | exact pu_unOp rfl | exact pu_binStr rfl rfl rfl | exact pu_len rfl rfl | exact pu_lens rfl rfl | exact pu_pick rfl | exact pu_slice rfl rfl) (fun K hK => ?_) | refine wpX_rd rfl rfl rfl (rd_load rfl) (fun K hK => ?_) | refine wpX_gr rfl rfl rfl (by first | exact gr_buildSlice rfl | exact gr_box rfl | exact gr_alloc rfl) (fun K hK => ?_) | refine wpX_ex rfl rfl rfl (fun K hK => ?_)
      try go_wp2
    refine wpX_done ?_
    have HFB := Lib.hid (((HF8.out.moreN _).trans HF10.out (fun _ _ h => h)).moreN n11)
    have HWB3 := Lib.hid ((HW3.out.kept (Fr.drewN no _ _) (fun _ _ h => h)).kept (HF10.out.moreN n11) (fun _ _ h => h))
    have HWB4 := Lib.hid ((HW4.out.kept (Fr.drewN no _ _) (fun _ _ h => h)).kept (HF10.out.moreN n11) (fun _ _ h => h))
    rcases Nat.lt_trichotomy v u with hvu | rfl | hvu
    · have hvu' : (v : Int) < (u : Int) := by omega
      have hl3 := vi_length v (by have := hv.out; omega)
      have hl4 := vi_length u (by have := hu.out; omega)
      have hmono := vi_mono u v u (Nat.le_refl _) (by omega)
      have hd3 : decide (((vi v).length : Int) ≤ ((vi u).length : Int)) = true := by first | (simp; done) | (simp; omega)
      have hd4 : decide (((vi u).length : Int) ≤ 10) = true := by simp; omega
      go_wp2_with fail
      all_goals first | (exfalso; omega) | skip
      refine (varint_any p3 _ _ _ v (by omega) hv HWB3.out (by simp)).mono ?_
      rintro e w12 ⟨rfl, A12, n12, c12, hw12, hf12, hm12⟩
      rw [Int.toNat_natCast, List.nil_append] at hw12
      have HNE12 := Lib.hid (hm12.not (k := p4) HWB4.out.lt (by simp [Value.ownBlock]))
      have HWB4 := Lib.hid (HWB4.out.kept hf12 (fun k hk h => by have := own_nil hk; have := own_nil h; omega))
      have HFB := Lib.hid (HFB.out.trans hf12 (fun k hk h => by have := own_nil h; omega))
      have HWB3 := Lib.hid hw12
      clear hf12 hm12 hw12
      go_wp2_with fail
      all_goals first | (exfalso; omega) | skip
      refine (varint_any p4 _ _ _ u (by omega) hu HWB4.out (by simp)).mono ?_
      rintro e w13 ⟨rfl, A13, n13, c13, hw13, hf13, hm13⟩
      rw [Int.toNat_natCast, List.nil_append] at hw13
      have HWB3 := Lib.hid (HWB3.out.kept hf13 (fun k hk h => by
        have h2 := own_nil h
        rcases hk with hk | hk
        · omega
        · exact HNE12.out (h2 ▸ hk)))
      have HFB := Lib.hid (HFB.out.trans hf13 (fun k hk h => by have := own_nil h; omega))
      have HWB4 := Lib.hid hw13
      clear hf13 hm13 hw13
      go_wp2_with fail
      refine (len_any p3 _ _ _ HWB3.out).mono ?_
      rintro e w14 ⟨rfl, rfl⟩
      go_wp2_with fail
      refine (len_any p4 _ _ _ HWB4.out).mono ?_
      rintro e w15 ⟨rfl, rfl⟩
      go_wp2_with fail
      refine (len_any p4 _ _ _ HWB4.out).mono ?_
      rintro e w16 ⟨rfl, rfl⟩
      go_wp2
      go_ret
      exact ⟨rfl, HFB.out.below (fun _ _ h => h)⟩
    · have hvu' : (v : Int) ≤ (v : Int) := by omega
      have hl3 := vi_length v (by have := hv.out; omega)
      have hl4 := vi_length v (by have := hv.out; omega)
      have hmono := vi_mono v v v (Nat.le_refl _) (by omega)
      have hd3 : decide (((vi v).length : Int) ≤ ((vi v).length : Int)) = true := by first | (simp; done) | (simp; omega)
      have hd4 : decide (((vi v).length : Int) ≤ 10) = true := by simp; omega
      go_wp2_with fail
      all_goals first | (exfalso; omega) | skip
      refine (varint_any p3 _ _ _ v (by omega) hv HWB3.out (by simp)).mono ?_
      rintro e w12 ⟨rfl, A12, n12, c12, hw12, hf12, hm12⟩
      rw [Int.toNat_natCast, List.nil_append] at hw12
      have HNE12 := Lib.hid (hm12.not (k := p4) HWB4.out.lt (by simp [Value.ownBlock]))
      have HWB4 := Lib.hid (HWB4.out.kept hf12 (fun k hk h => by have := own_nil hk; have := own_nil h; omega))
      have HFB := Lib.hid (HFB.out.trans hf12 (fun k hk h => by have := own_nil h; omega))
      have HWB3 := Lib.hid hw12
      clear hf12 hm12 hw12
      go_wp2_with fail
      all_goals first | (exfalso; omega) | skip
      refine (varint_any p4 _ _ _ v (by omega) hv HWB4.out (by simp)).mono ?_
      rintro e w13 ⟨rfl, A13, n13, c13, hw13, hf13, hm13⟩
      rw [Int.toNat_natCast, List.nil_append] at hw13
      have HWB3 := Lib.hid (HWB3.out.kept hf13 (fun k hk h => by
        have h2 := own_nil h
        rcases hk with hk | hk
        · omega
        · exact HNE12.out (h2 ▸ hk)))
      have HFB := Lib.hid (HFB.out.trans hf13 (fun k hk h => by have := own_nil h; omega))
      have HWB4 := Lib.hid hw13
      clear hf13 hm13 hw13
      go_wp2_with fail
      refine (len_any p3 _ _ _ HWB3.out).mono ?_
      rintro e w14 ⟨rfl, rfl⟩
      go_wp2_with fail
      refine (len_any p4 _ _ _ HWB4.out).mono ?_
      rintro e w15 ⟨rfl, rfl⟩
      go_wp2_with fail
      refine (len_any p4 _ _ _ HWB4.out).mono ?_
      rintro e w16 ⟨rfl, rfl⟩
      go_wp2
      go_ret
      exact ⟨rfl, HFB.out.below (fun _ _ h => h)⟩
    · have hvu' : (u : Int) < (v : Int) := by omega
      have hl3 := vi_length u (by have := hu.out; omega)
      have hl4 := vi_length v (by have := hv.out; omega)
      have hmono := vi_mono v u v (Nat.le_refl _) (by omega)
      have hd3 : decide (((vi u).length : Int) ≤ ((vi v).length : Int)) = true := by first | (simp; done) | (simp; omega)
      have hd4 : decide (((vi v).length : Int) ≤ 10) = true := by simp; omega
      go_wp2_with fail
      all_goals first | (exfalso; omega) | skip
      refine (varint_any p3 _ _ _ u (by omega) hu HWB3.out (by simp)).mono ?_
      rintro e w12 ⟨rfl, A12, n12, c12, hw12, hf12, hm12⟩
      rw [Int.toNat_natCast, List.nil_append] at hw12
      have HNE12 := Lib.hid (hm12.not (k := p4) HWB4.out.lt (by simp [Value.ownBlock]))
      have HWB4 := Lib.hid (HWB4.out.kept hf12 (fun k hk h => by have := own_nil hk; have := own_nil h; omega))
      have HFB := Lib.hid (HFB.out.trans hf12 (fun k hk h => by have := own_nil h; omega))
      have HWB3 := Lib.hid hw12
      clear hf12 hm12 hw12
      go_wp2_with fail
      all_goals first | (exfalso; omega) | skip
      refine (varint_any p4 _ _ _ v (by omega) hv HWB4.out (by simp)).mono ?_
      rintro e w13 ⟨rfl, A13, n13, c13, hw13, hf13, hm13⟩
      rw [Int.toNat_natCast, List.nil_append] at hw13
      have HWB3 := Lib.hid (HWB3.out.kept hf13 (fun k hk h => by
        have h2 := own_nil h
        rcases hk with hk | hk
        · omega
        · exact HNE12.out (h2 ▸ hk)))
      have HFB := Lib.hid (HFB.out.trans hf13 (fun k hk h => by have := own_nil h; omega))
      have HWB4 := Lib.hid hw13
      clear hf13 hm13 hw13
      go_wp2_with fail
      refine (len_any p3 _ _ _ HWB3.out).mono ?_
      rintro e w14 ⟨rfl, rfl⟩
      go_wp2_with fail
      refine (len_any p4 _ _ _ HWB4.out).mono ?_
      rintro e w15 ⟨rfl, rfl⟩
      go_wp2_with fail
      refine (len_any p4 _ _ _ HWB4.out).mono ?_
      rintro e w16 ⟨rfl, rfl⟩
      go_wp2
      go_ret
      exact ⟨rfl, HFB.out.below (fun _ _ h => h)⟩
  · have hb : ((s.e : Int) == 0) = false := by simp [he]
    have hb2 : ((s.e : Int) != 0) = true := by simp [he]
    subst hx0
    have HP0 := Lib.hid hp0; clear he hp0
    go_wp2_with fail
    rw [show (l.length : Int) - ((l.length : Int) - (s.pos : Int)) = (s.pos : Int) from by omega, HP0.out]
    refine wp_region_ord [0, 1, 2, 3, 4, 5, 6, 7, 8, 9, 10, 11, 12, 14, 15, 16, 13, 17, 18, 19, 20, 21, 22, 23, 24, 25, 26, 27, 28, 29, 30, 31, 32] (fun i => [Kd.p, Kd.p, Kd.p, Kd.p, Kd.p, Kd.p, Kd.p, Kd.p, Kd.p, Kd.p, Kd.p, Kd.p, Kd.p, Kd.e, Kd.p, Kd.p, Kd.p, Kd.e, Kd.p, Kd.p, Kd.p, Kd.p, Kd.p, Kd.p, Kd.p, Kd.p, Kd.p, Kd.p, Kd.p, Kd.p, Kd.p, Kd.p, Kd.p].getD i .e) (by kernel_rfl) (by kernel_rfl) ?_
    iterate 33
      first | (refine wpX_un rfl rfl ?_; go_simp) | first | refine wpX_pu rfl rfl rfl (by first | exact pu_move rfl | exact pu_assign rfl | exact pu_nilCheck rfl rfl | exact pu_binInt rfl rfl rfl | exact pu_conv rfl rfl (by kernel_rfl) | exact pu_fld rfl (by kernel_rfl) | exact pu_ix rfl rfl rfl (by kernel_rfl) | exact pu_unOp rfl | exact pu_binStr rfl rfl rfl | exact pu_len rfl rfl | exact pu_lens rfl rfl | exact pu_pick rfl | exact pu_slice rfl rfl) (fun K hK => ?_) | refine wpX_rd rfl rfl rfl (rd_load rfl) (fun K hK => ?_) | refine wpX_gr rfl rfl rfl (by first | exact gr_buildSlice rfl | exact gr_box rfl | exact gr_alloc rfl) (fun K hK => ?_) | refine wpX_ex rfl rfl rfl (fun K hK => ?_)
      try go_wp2
    refine wpX_done ?_
    have HFB := Lib.hid ((HF8.out.moreN n9).drew)
    have HWB3 := Lib.hid (HW3.out.kept ((Fr.drewN no _ n9).drew) (fun _ _ h => h))
    have HWB4 := Lib.hid (HW4.out.kept ((Fr.drewN no _ n9).drew) (fun _ _ h => h))
    rcases Nat.lt_trichotomy v u with hvu | rfl | hvu
    · have hvu' : (v : Int) < (u : Int) := by omega
      have hl3 := vi_length v (by have := hv.out; omega)
      have hl4 := vi_length u (by have := hu.out; omega)
      have hmono := vi_mono u v u (Nat.le_refl _) (by omega)
      have hd3 : decide (((vi v).length : Int) ≤ ((vi u).length : Int)) = true := by first | (simp; done) | (simp; omega)
      have hd4 : decide (((vi u).length : Int) ≤ 10) = true := by simp; omega
      go_wp2_with fail
      all_goals first | (exfalso; omega) | skip
      refine (varint_any p3 _ _ _ v (by omega) hv HWB3.out (by simp)).mono ?_
      rintro e w12 ⟨rfl, A12, n12, c12, hw12, hf12, hm12⟩
      rw [Int.toNat_natCast, List.nil_append] at hw12
      have HNE12 := Lib.hid (hm12.not (k := p4) HWB4.out.lt (by simp [Value.ownBlock]))
      have HWB4 := Lib.hid (HWB4.out.kept hf12 (fun k hk h => by have := own_nil hk; have := own_nil h; omega))
      have HFB := Lib.hid (HFB.out.trans hf12 (fun k hk h => by have := own_nil h; omega))
      have HWB3 := Lib.hid hw12
      clear hf12 hm12 hw12
      go_wp2_with fail
      all_goals first | (exfalso; omega) | skip
      refine (varint_any p4 _ _ _ u (by omega) hu HWB4.out (by simp)).mono ?_
      rintro e w13 ⟨rfl, A13, n13, c13, hw13, hf13, hm13⟩
      rw [Int.toNat_natCast, List.nil_append] at hw13
      have HWB3 := Lib.hid (HWB3.out.kept hf13 (fun k hk h => by
        have h2 := own_nil h
        rcases hk with hk | hk
        · omega
        · exact HNE12.out (h2 ▸ hk)))
      have HFB := Lib.hid (HFB.out.trans hf13 (fun k hk h => by have := own_nil h; omega))
      have HWB4 := Lib.hid hw13
      clear hf13 hm13 hw13
      go_wp2_with fail
      refine (len_any p3 _ _ _ HWB3.out).mono ?_
      rintro e w14 ⟨rfl, rfl⟩
      go_wp2_with fail
      refine (len_any p4 _ _ _ HWB4.out).mono ?_
      rintro e w15 ⟨rfl, rfl⟩
      go_wp2_with fail
      refine (len_any p4 _ _ _ HWB4.out).mono ?_
      rintro e w16 ⟨rfl, rfl⟩
      go_wp2
      go_ret
      exact ⟨rfl, HFB.out.below (fun _ _ h => h)⟩
    · have hvu' : (v : Int) ≤ (v : Int) := by omega
      have hl3 := vi_length v (by have := hv.out; omega)
      have hl4 := vi_length v (by have := hv.out; omega)
      have hmono := vi_mono v v v (Nat.le_refl _) (by omega)
      have hd3 : decide (((vi v).length : Int) ≤ ((vi v).length : Int)) = true := by first | (simp; done) | (simp; omega)
      have hd4 : decide (((vi v).length : Int) ≤ 10) = true := by simp; omega
      go_wp2_with fail
      all_goals first | (exfalso; omega) | skip
      refine (varint_any p3 _ _ _ v (by omega) hv HWB3.out (by simp)).mono ?_
      rintro e w12 ⟨rfl, A12, n12, c12, hw12, hf12, hm12⟩
      rw [Int.toNat_natCast, List.nil_append] at hw12
      have HNE12 := Lib.hid (hm12.not (k := p4) HWB4.out.lt (by simp [Value.ownBlock]))
      have HWB4 := Lib.hid (HWB4.out.kept hf12 (fun k hk h => by have := own_nil hk; have := own_nil h; omega))
      have HFB := Lib.hid (HFB.out.trans hf12 (fun k hk h => by have := own_nil h; omega))
      have HWB3 := Lib.hid hw12
      clear hf12 hm12 hw12
      go_wp2_with fail
      all_goals first | (exfalso; omega) | skip
      refine (varint_any p4 _ _ _ v (by omega) hv HWB4.out (by simp)).mono ?_
      rintro e w13 ⟨rfl, A13, n13, c13, hw13, hf13, hm13⟩
      rw [Int.toNat_natCast, List.nil_append] at hw13
      have HWB3 := Lib.hid (HWB3.out.kept hf13 (fun k hk h => by
        have h2 := own_nil h
        rcases hk with hk | hk
        · omega
        · exact HNE12.out (h2 ▸ hk)))
      have HFB := Lib.hid (HFB.out.trans hf13 (fun k hk h => by have := own_nil h; omega))
      have HWB4 := Lib.hid hw13
      clear hf13 hm13 hw13
      go_wp2_with fail
      refine (len_any p3 _ _ _ HWB3.out).mono ?_
      rintro e w14 ⟨rfl, rfl⟩
      go_wp2_with fail
      refine (len_any p4 _ _ _ HWB4.out).mono ?_
      rintro e w15 ⟨rfl, rfl⟩
      go_wp2_with fail
      refine (len_any p4 _ _ _ HWB4.out).mono ?_
      rintro e w16 ⟨rfl, rfl⟩
      go_wp2
      go_ret
      exact ⟨rfl, HFB.out.below (fun _ _ h => h)⟩
    · have hvu' : (u : Int) < (v : Int) := by omega
      have hl3 := vi_length u (by have := hu.out; omega)
      have hl4 := vi_length v (by have := hv.out; omega)
      have hmono := vi_mono v u v (Nat.le_refl _) (by omega)
      have hd3 : decide (((vi u).length : Int) ≤ ((vi v).length : Int)) = true := by first | (simp; done) | (simp; omega)
      have hd4 : decide (((vi v).length : Int) ≤ 10) = true := by simp; omega
      go_wp2_with fail
      all_goals first | (exfalso; omega) | skip
      refine (varint_any p3 _ _ _ u (by omega) hu HWB3.out (by simp)).mono ?_
      rintro e w12 ⟨rfl, A12, n12, c12, hw12, hf12, hm12⟩
      rw [Int.toNat_natCast, List.nil_append] at hw12
      have HNE12 := Lib.hid (hm12.not (k := p4) HWB4.out.lt (by simp [Value.ownBlock]))
      have HWB4 := Lib.hid (HWB4.out.kept hf12 (fun k hk h => by have := own_nil hk; have := own_nil h; omega))
      have HFB := Lib.hid (HFB.out.trans hf12 (fun k hk h => by have := own_nil h; omega))
      have HWB3 := Lib.hid hw12
      clear hf12 hm12 hw12
      go_wp2_with fail
      all_goals first | (exfalso; omega) | skip
      refine (varint_any p4 _ _ _ v (by omega) hv HWB4.out (by simp)).mono ?_
      rintro e w13 ⟨rfl, A13, n13, c13, hw13, hf13, hm13⟩
      rw [Int.toNat_natCast, List.nil_append] at hw13
      have HWB3 := Lib.hid (HWB3.out.kept hf13 (fun k hk h => by
        have h2 := own_nil h
        rcases hk with hk | hk
        · omega
        · exact HNE12.out (h2 ▸ hk)))
      have HFB := Lib.hid (HFB.out.trans hf13 (fun k hk h => by have := own_nil h; omega))
      have HWB4 := Lib.hid hw13
      clear hf13 hm13 hw13
      go_wp2_with fail
      refine (len_any p3 _ _ _ HWB3.out).mono ?_
      rintro e w14 ⟨rfl, rfl⟩
      go_wp2_with fail
      refine (len_any p4 _ _ _ HWB4.out).mono ?_
      rintro e w15 ⟨rfl, rfl⟩
      go_wp2_with fail
      refine (len_any p4 _ _ _ HWB4.out).mono ?_
      rintro e w16 ⟨rfl, rfl⟩
      go_wp2
      go_ret
      exact ⟨rfl, HFB.out.below (fun _ _ h => h)⟩
end Go.Proofs.Ytomnhblecnbmaaa
