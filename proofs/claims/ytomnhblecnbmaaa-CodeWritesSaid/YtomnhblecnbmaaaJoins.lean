/- The walk of the law CodeJoins. -/
import Derived.Test.YtomnhblecnbmaaaOps
import Derived.Test.YtomnhblecnbmaaaFull
import Derived.Test.YtomnhblecnbmaaaCodeY
import Derived.Test.YtomnhblecnbmaaaSame
import Derived.Test.YtomnhblecnbmaaaKnown
namespace Go.Proofs.Ytomnhblecnbmaaa
open Go.RowKit

/-- All bytes of a row of calls. -/
def allB (os : List OpV) : List UInt8 := os.flatMap OpV.bytes

theorem allB_take (os : List OpV) (j : Nat) (h : j < os.length) : allB (os.take (j + 1)) = allB (os.take j) ++ os[j].bytes := by
  unfold allB
  rw [List.take_succ_eq_append_getElem h, List.flatMap_append]; simp

theorem allB_len (w : World) : ∀ (os : List OpV) (_ : ∀ o ∈ os, o.Good w ∧ o.bs.length ≤ 20000), (allB os).length ≤ 10 * total os
  | [], _ => by simp [allB]
  | o :: os, h => by
    have h1 := allB_len w os fun o ho => h o (.tail _ ho)
    obtain ⟨h2, h3⟩ := h o (.head _)
    have h4 := bytes_short o h2.v h3
    unfold allB total at *
    simp only [List.flatMap_cons, List.length_append, List.map_cons, List.sum_cons, List.length_cons]
    omega

theorem le_sum : ∀ (l : List Nat) (x : Nat), x ∈ l → x ≤ l.sum
  | y :: l, x, h => by
    simp only [List.sum_cons]
    rcases List.mem_cons.1 h with rfl | h
    · omega
    · have := le_sum l x h; omega

theorem Ops.below {w w1 : World} {x : Value} {os : List OpV} (h : Ops w x os) (b : Below w.heap.size w w1) : Ops w1 x os :=
  ⟨h.1.below b, fun o ho => ⟨⟨(h.2.1 o ho).1.k, (h.2.1 o ho).1.v, (h.2.1 o ho).1.n0, (h.2.1 o ho).1.n1, (h.2.1 o ho).1.B.below b⟩, (h.2.1 o ho).2⟩, h.2.2⟩

theorem short_of {os : List OpV} (h : total os ≤ 20000) : ∀ o ∈ os, o.bs.length ≤ 20000 := by
  intro o ho
  have : o.bs.length ≤ (os.map (fun o => o.bs.length)).sum := le_sum _ _ (List.mem_map_of_mem ho)
  unfold total at h; omega

theorem total_take_le (os : List OpV) (j : Nat) : total (os.take j) ≤ total os := by
  have := total_le os j
  unfold total at *
  simp only [List.length_take]
  omega

/-- A writer that lies in new memory. -/
structure Nw (w0 w : World) (p : Nat) (sv : Value) (l : List UInt8) : Prop where
  wr : Wr w p sv l
  new : ∀ k, Own p sv k → w0.heap.size ≤ k

theorem Nw.lt {w0 w : World} {p : Nat} {sv : Value} {l : List UInt8} (h : Nw w0 w p sv l) : ∀ k, Own p sv k → k < w.heap.size := by
  rintro k (rfl | hk)
  · exact h.wr.lt
  · exact own_lt h.wr.2.1 k hk

/-- What a writer's call leaves of it, and of any other. -/
theorem Nw.wrote {w0 w w' : World} {p : Nat} {sv : Value} {l bs : List UInt8} (h : Nw w0 w p sv l) (hb : Below w0.heap.size w0 w) (hw : Wrote w w' p sv l bs) :
    ∃ sv', Nw w0 w' p sv' (l ++ bs) ∧ Below w0.heap.size w0 w' ∧ (∀ q sq lq, Nw w0 w q sq lq → (∀ k, Own p sv k → ¬ Own q sq k) → Nw w0 w' q sq lq ∧ ∀ k, Own p sv' k → ¬ Own q sq k) := by
  have hbel := wrote_to hw hb h.new
  obtain ⟨A, n, c, h1, f, m⟩ := hw
  refine ⟨_, ⟨h1, fun k hk => ?_⟩, hbel, fun q sq lq hq hd => ⟨⟨hq.wr.kept f (fun k hk h => hd k h hk), hq.new⟩, fun k hk hqk => ?_⟩⟩
  · by_cases hkw : k < w.heap.size
    · exact h.new k (Own.sub m k hkw hk)
    · have := hb.size; omega
  · exact hd k (Own.sub m k (hq.lt k hqk) hk) hqk

/-- Three writers apart from each other. -/
def W3 (w0 w : World) (a b c : Nat) (la lb lc : List UInt8) : Prop :=
  Below w0.heap.size w0 w ∧ ∃ sa sb sc, Nw w0 w a sa la ∧ Nw w0 w b sb lb ∧ Nw w0 w c sc lc ∧ (∀ k, Own a sa k → ¬ Own b sb k) ∧ (∀ k, Own a sa k → ¬ Own c sc k) ∧ (∀ k, Own b sb k → ¬ Own c sc k)

theorem W3.rot {w0 w : World} {a b c : Nat} {la lb lc : List UInt8} (h : W3 w0 w a b c la lb lc) : W3 w0 w b c a lb lc la := by
  obtain ⟨h0, sa, sb, sc, ha, hb, hc, d1, d2, d3⟩ := h
  exact ⟨h0, sb, sc, sa, hb, hc, ha, d3, fun k h1 h2 => d1 k h2 h1, fun k h1 h2 => d2 k h2 h1⟩

theorem W3.one {w0 w : World} {a b c : Nat} {la lb lc : List UInt8} (h : W3 w0 w a b c la lb lc) : ∃ sa, Nw w0 w a sa la ∧ ∀ w' bs, Wrote w w' a sa la bs → W3 w0 w' a b c (la ++ bs) lb lc := by
  obtain ⟨h0, sa, sb, sc, ha, hb, hc, d1, d2, d3⟩ := h
  refine ⟨sa, ha, fun w' bs hw => ?_⟩
  obtain ⟨sa', ha', h0', hx⟩ := ha.wrote h0 hw
  obtain ⟨hb', e1⟩ := hx b sb lb hb d1
  obtain ⟨hc', e2⟩ := hx c sc lc hc d2
  exact ⟨h0', sa', sb, sc, ha', hb', hc', e1, e2, d3⟩

theorem below_fr {w0 w w1 : World} (hb : Below w0.heap.size w0 w) (f : Fr no w w1) : Below w0.heap.size w0 w1 := by
  have s := hb.size
  exact ⟨f.os.trans hb.os, f.tape.trans hb.tape, f.output.trans hb.output, Nat.le_trans s f.size, fun k hk => (f.block k (by omega) (fun h => h)).trans (hb.block k hk)⟩

theorem W3.later {w0 w w1 : World} {a b c : Nat} {la lb lc : List UInt8} (h : W3 w0 w a b c la lb lc) (f : Fr no w w1) : W3 w0 w1 a b c la lb lc := by
  obtain ⟨h0, sa, sb, sc, ha, hb, hc, d⟩ := h
  exact ⟨below_fr h0 f, sa, sb, sc, ⟨ha.wr.kept f (fun _ _ h => h), ha.new⟩, ⟨hb.wr.kept f (fun _ _ h => h), hb.new⟩, ⟨hc.wr.kept f (fun _ _ h => h), hc.new⟩, d⟩

theorem put_one (w0 w : World) (a b c : Nat) (la lb lc : List UInt8) (h : W3 w0 w a b c la lb lc) (o : OpV) (ho : o.Good w0) (hs : o.bs.length ≤ 20000) (hl : la.length ≤ 900000000) (B : Value) (hB : o.B = B) :
    Calls Try.prog 20 #[.pointer (some ⟨a, 0, none⟩), .agg #[.int .u8 o.k, .int .u64 o.v, .int .i64 o.n, B], B] w.drew fun e w' => ∃ A c', e = .returned (.slice A o.bytes.length c') ∧ W3 w0 w' a b c (la ++ o.bytes) lb lc := by
  subst hB
  obtain ⟨sa, hn, hk⟩ := (h.later ((Fr.refl no w).drew)).one
  have hb := (h.later ((Fr.refl no w).drew)).1
  refine (puts_any w0 w.drew hb a sa la o ho hs o.B (ho.B.below hb) hn.wr hn.new hl).mono ?_
  rintro e w' ⟨A, c', rfl, _, hw⟩
  exact ⟨A, c', rfl, hk _ _ hw⟩

set_option maxRecDepth 100000 in
set_option maxHeartbeats 2000000 in
theorem joins_walk (w : World) (x y : Value) (os ms : List OpV) (hx : Ops w x os) (hy : Ops w y ms) (h1 : total os ≤ 20000) (h2 : total ms ≤ 20000) :
    Calls Try.prog 5 #[x, y] w fun e w' => e = .returned (.bool true) ∧ Below w.heap.size w w' := by
  obtain ⟨A, c, hA, hc1, hc2⟩ := hx.1.form
  subst hA
  obtain ⟨B, d, hB, hd1, hd2⟩ := hy.1.form
  subst hB
  have HX := Lib.hid hx; have HY := Lib.hid hy; clear hx hy hc2 hd2
  go_enter Try.func5, Try.ntmps5
  go_wp2_with fail
  refine (much_any _ _ os HX.out).mono ?_
  rintro e w1 ⟨rfl, n1, rfl⟩
  rw [decide_eq_false (by omega)]
  go_wp2_with fail
  refine (much_any _ _ ms (HY.out.below ((Fr.drewN no w n1).below (fun _ _ h => h)))).mono ?_
  rintro e w2 ⟨rfl, n2, rfl⟩
  rw [decide_eq_false (by omega), World.drewN_drewN]
  go_wp2_with fail
  refine (new_any _).mono ?_
  rintro e w2 ⟨p2, rfl, hp2, hp2', hw2, hf2⟩
  go_wp2_with fail
  refine (new_any _).mono ?_
  rintro e w3 ⟨p3, rfl, hp3, hp3', hw3, hf3⟩
  go_wp2_with fail
  refine (new_any _).mono ?_
  rintro e w4 ⟨p4, rfl, hp4, hp4', hw4, hf4⟩
  go_wp2_with fail
  refine (known_any _).mono ?_
  rintro e w5 ⟨rfl, hf5⟩
  have HW := Lib.hid (show W3 w w5 p2 p3 p4 [] [] [] from by
    have s2 := hf2.size; have s3 := hf3.size; have s4 := hf4.size
    have s0 : (w.drewN (n1 + n2)).heap.size = w.heap.size := rfl
    have o : ∀ p k, Own p (.slice none 0 0) k → k = p := fun p k h => by
      rcases h with h | h
      · exact h
      · simp [Value.ownBlock] at h
    have nw : ∀ p, w.heap.size ≤ p → ∀ k, Own p (.slice none 0 0) k → w.heap.size ≤ k := fun p hp k h => by rw [o p k h]; exact hp
    refine ⟨((((Fr.drewN no w _).trans hf2 (fun _ _ h => h)).trans hf3 (fun _ _ h => h)).trans (hf4.trans hf5 (fun _ _ h => h)) (fun _ _ h => h)).below (fun _ _ h => h), _, _, _, ⟨hw2.kept (hf3.trans (hf4.trans hf5 (fun _ _ h => h)) (fun _ _ h => h)) (fun _ _ h => h), nw _ (by omega)⟩,
      ⟨hw3.kept (hf4.trans hf5 (fun _ _ h => h)) (fun _ _ h => h), nw _ (by omega)⟩, ⟨hw4.kept hf5 (fun _ _ h => h), nw _ (by omega)⟩, fun k h1 h2 => ?_, fun k h1 h2 => ?_, fun k h1 h2 => ?_⟩
    all_goals have e1 := o _ k h1; have e2 := o _ k h2; omega)
  clear hp2 hp2' hw2 hf2 hp3 hp3' hw3 hf3 hp4 hp4' hw4 hf4 hf5
  go_wp2_with fail
  go_loopw [8] (fun i wr => ∃ j : Nat, j ≤ os.length ∧ i = .int .i64 j ∧ W3 w wr p2 p3 p4 (allB (os.take j)) [] (allB (os.take j))) (fun i _ => os.length - (intOf i).toNat)
  case atStart => exact ⟨0, Nat.zero_le _, rfl, HW.out⟩
  case round =>
    obtain ⟨j, hj, rfl, hw3⟩ := hrel
    have HW3 := Lib.hid hw3; clear hw3
    have HL := Lib.hid (show (allB (os.take j)).length ≤ 200000 by
      have := allB_len w (os.take j) (fun o ho => ⟨(HX.out.2.1 o (List.mem_of_mem_take ho)).1, short_of h1 o (List.mem_of_mem_take ho)⟩)
      have := total_take_le os j
      omega)
    have hjl : os.length ≤ 20000 := by unfold total at h1; omega
    by_cases hlt : j < os.length
    · obtain ⟨b, o, rfl, q0, q1, q2, q3⟩ := Ops.at (HX.out.below HW3.out.1).1 j hlt
      obtain ⟨B2, d2, hB2, hB3, hB4⟩ := (HX.out.2.1 os[j] (List.getElem_mem _)).1.B.form
      rw [hB2] at q3
      clear hB3 hB4
      go_wp2_with fail
      refine wp_region_ord (List.range 11) (fun i => [Kd.p, Kd.p, Kd.p, Kd.p, Kd.l, Kd.p, Kd.p, Kd.p, Kd.p, Kd.l, Kd.e].getD i .e) (by kernel_rfl) (by kernel_rfl) ?_
      iterate 10
        first | refine wpX_pu rfl rfl rfl (by first | exact pu_move rfl | exact pu_assign rfl | exact pu_nilCheck rfl rfl | exact pu_binInt rfl rfl rfl | exact pu_conv rfl rfl (by kernel_rfl) | exact pu_fld rfl (by kernel_rfl) | exact pu_ix rfl rfl rfl (by kernel_rfl) | exact pu_unOp rfl | exact pu_binStr rfl rfl rfl | exact pu_len rfl rfl | exact pu_lens rfl rfl | exact pu_pick rfl | exact pu_slice rfl rfl) (fun K hK => ?_) | refine wpX_rd rfl rfl rfl (rd_load rfl) (fun K hK => ?_) | refine wpX_gr rfl rfl rfl (by first | exact gr_buildSlice rfl | exact gr_box rfl | exact gr_alloc rfl) (fun K hK => ?_) | refine wpX_ex rfl rfl rfl (fun K hK => ?_)
        try go_wp2
      refine wpX_ex rfl rfl rfl (fun K hK => ?_)
      go_wp2_with fail
      refine (put_one w wr p2 p3 p4 _ _ _ HW3.out os[j] (HX.out.2.1 _ (List.getElem_mem _)).1 (short_of h1 _ (List.getElem_mem _)) (by have := HL.out; omega) _ hB2).mono ?_
      rintro e w6 ⟨A6, c6, rfl, hw6⟩
      have HW6 := Lib.hid hw6; clear hw6 q0 q1 q2 q3
      go_wp2
      refine wpX_done ?_
      go_wp2
      obtain ⟨b', o', hbo, q0, q1, q2, q3⟩ := Ops.at (HX.out.below HW6.out.1).1 j hlt
      cases hbo
      rw [hB2] at q3
      go_wp2_with fail
      refine wp_region_ord (List.range 11) (fun i => [Kd.p, Kd.p, Kd.p, Kd.p, Kd.l, Kd.p, Kd.p, Kd.p, Kd.p, Kd.l, Kd.e].getD i .e) (by kernel_rfl) (by kernel_rfl) ?_
      iterate 10
        first | refine wpX_pu rfl rfl rfl (by first | exact pu_move rfl | exact pu_assign rfl | exact pu_nilCheck rfl rfl | exact pu_binInt rfl rfl rfl | exact pu_conv rfl rfl (by kernel_rfl) | exact pu_fld rfl (by kernel_rfl) | exact pu_ix rfl rfl rfl (by kernel_rfl) | exact pu_unOp rfl | exact pu_binStr rfl rfl rfl | exact pu_len rfl rfl | exact pu_lens rfl rfl | exact pu_pick rfl | exact pu_slice rfl rfl) (fun K hK => ?_) | refine wpX_rd rfl rfl rfl (rd_load rfl) (fun K hK => ?_) | refine wpX_gr rfl rfl rfl (by first | exact gr_buildSlice rfl | exact gr_box rfl | exact gr_alloc rfl) (fun K hK => ?_) | refine wpX_ex rfl rfl rfl (fun K hK => ?_)
        try go_wp2
      refine wpX_ex rfl rfl rfl (fun K hK => ?_)
      go_wp2_with fail
      refine (put_one w w6 p4 p2 p3 _ _ _ HW6.out.rot.rot os[j] (HX.out.2.1 _ (List.getElem_mem _)).1 (short_of h1 _ (List.getElem_mem _)) (by have := HL.out; omega) _ hB2).mono ?_
      rintro e w7 ⟨A7, c7, rfl, hw7⟩
      have HW7 := Lib.hid hw7; clear hw7 q0 q1 q2 q3
      go_wp2
      refine wpX_done ?_
      go_wp2
      go_roundw
      case rel =>
        refine ⟨j + 1, hlt, by go_num, ?_⟩
        rw [allB_take os j hlt]
        exact HW7.out.rot
      case measure => simp [intOf]; omega
    · obtain rfl : j = os.length := by omega
      rw [List.take_of_length_le (Nat.le_refl _)] at HW3
      go_wp2_with fail
      clear hlt hj hjl HL
      go_loopw [9] (fun i wr => ∃ j : Nat, j ≤ ms.length ∧ i = .int .i64 j ∧ W3 w wr p2 p3 p4 (allB os) (allB (ms.take j)) (allB os ++ allB (ms.take j))) (fun i _ => ms.length - (intOf i).toNat)
      case atStart => exact ⟨0, Nat.zero_le _, rfl, by simpa [allB] using HW3.out⟩
      case round =>
        obtain ⟨j, hj, rfl, hw3⟩ := hrel
        have HL0 := Lib.hid (show (allB os).length ≤ 200000 by
          have := allB_len w os (fun o ho => ⟨(HX.out.2.1 o ho).1, short_of h1 o ho⟩)
          omega)
        have HL := Lib.hid (show (allB (ms.take j)).length ≤ 200000 by
          have := allB_len w (ms.take j) (fun o ho => ⟨(HY.out.2.1 o (List.mem_of_mem_take ho)).1, short_of h2 o (List.mem_of_mem_take ho)⟩)
          have := total_take_le ms j
          omega)
        have HW3 := Lib.hid hw3; clear hw3
        have hjl : ms.length ≤ 20000 := by unfold total at h2; omega
        by_cases hlt : j < ms.length
        · obtain ⟨b, o, rfl, q0, q1, q2, q3⟩ := Ops.at (HY.out.below HW3.out.1).1 j hlt
          obtain ⟨B2, d2, hB2, hB3, hB4⟩ := (HY.out.2.1 ms[j] (List.getElem_mem _)).1.B.form
          rw [hB2] at q3
          clear hB3 hB4
          go_wp2_with fail
          refine wp_region_ord (List.range 11) (fun i => [Kd.p, Kd.p, Kd.p, Kd.p, Kd.l, Kd.p, Kd.p, Kd.p, Kd.p, Kd.l, Kd.e].getD i .e) (by kernel_rfl) (by kernel_rfl) ?_
          iterate 10
            first | refine wpX_pu rfl rfl rfl (by first | exact pu_move rfl | exact pu_assign rfl | exact pu_nilCheck rfl rfl | exact pu_binInt rfl rfl rfl | exact pu_conv rfl rfl (by kernel_rfl) | exact pu_fld rfl (by kernel_rfl) | exact pu_ix rfl rfl rfl (by kernel_rfl) | exact pu_unOp rfl | exact pu_binStr rfl rfl rfl | exact pu_len rfl rfl | exact pu_lens rfl rfl | exact pu_pick rfl | exact pu_slice rfl rfl) (fun K hK => ?_) | refine wpX_rd rfl rfl rfl (rd_load rfl) (fun K hK => ?_) | refine wpX_gr rfl rfl rfl (by first | exact gr_buildSlice rfl | exact gr_box rfl | exact gr_alloc rfl) (fun K hK => ?_) | refine wpX_ex rfl rfl rfl (fun K hK => ?_)
            try go_wp2
          refine wpX_ex rfl rfl rfl (fun K hK => ?_)
          go_wp2_with fail
          refine (put_one w _ p3 p4 p2 _ _ _ HW3.out.rot ms[j] (HY.out.2.1 _ (List.getElem_mem _)).1 (short_of h2 _ (List.getElem_mem _)) (by have := HL.out; omega) _ hB2).mono ?_
          rintro e w6 ⟨A6, c6, rfl, hw6⟩
          have HW6 := Lib.hid hw6; clear hw6 q0 q1 q2 q3
          go_wp2
          refine wpX_done ?_
          go_wp2
          obtain ⟨b', o', hbo, q0, q1, q2, q3⟩ := Ops.at (HY.out.below HW6.out.1).1 j hlt
          cases hbo
          rw [hB2] at q3
          go_wp2_with fail
          refine wp_region_ord (List.range 11) (fun i => [Kd.p, Kd.p, Kd.p, Kd.p, Kd.l, Kd.p, Kd.p, Kd.p, Kd.p, Kd.l, Kd.e].getD i .e) (by kernel_rfl) (by kernel_rfl) ?_
          iterate 10
            first | refine wpX_pu rfl rfl rfl (by first | exact pu_move rfl | exact pu_assign rfl | exact pu_nilCheck rfl rfl | exact pu_binInt rfl rfl rfl | exact pu_conv rfl rfl (by kernel_rfl) | exact pu_fld rfl (by kernel_rfl) | exact pu_ix rfl rfl rfl (by kernel_rfl) | exact pu_unOp rfl | exact pu_binStr rfl rfl rfl | exact pu_len rfl rfl | exact pu_lens rfl rfl | exact pu_pick rfl | exact pu_slice rfl rfl) (fun K hK => ?_) | refine wpX_rd rfl rfl rfl (rd_load rfl) (fun K hK => ?_) | refine wpX_gr rfl rfl rfl (by first | exact gr_buildSlice rfl | exact gr_box rfl | exact gr_alloc rfl) (fun K hK => ?_) | refine wpX_ex rfl rfl rfl (fun K hK => ?_)
            try go_wp2
          refine wpX_ex rfl rfl rfl (fun K hK => ?_)
          go_wp2_with fail
          refine (put_one w _ p4 p2 p3 _ _ _ HW6.out.rot ms[j] (HY.out.2.1 _ (List.getElem_mem _)).1 (short_of h2 _ (List.getElem_mem _)) (by have := HL.out; have := HL0.out; simp; omega) _ hB2).mono ?_
          rintro e w7 ⟨A7, c7, rfl, hw7⟩
          have HW7 := Lib.hid hw7; clear hw7 q0 q1 q2 q3
          go_wp2
          refine wpX_done ?_
          go_wp2
          go_roundw
          case rel =>
            refine ⟨j + 1, hlt, by go_num, ?_⟩
            rw [allB_take ms j hlt, ← List.append_assoc]
            exact HW7.out.rot
          case measure => simp [intOf]; omega
        · obtain rfl : j = ms.length := by omega
          rw [List.take_of_length_le (Nat.le_refl _)] at HW3 HL
          obtain ⟨sa, na, -⟩ := HW3.out.one
          obtain ⟨sb, nb, -⟩ := HW3.out.rot.one
          obtain ⟨sc, nc, -⟩ := HW3.out.rot.rot.one
          have hbel := HW3.out.1
          obtain ⟨L, hL⟩ : ∃ L, L = allB os ++ allB ms := ⟨_, rfl⟩
          rw [← hL] at nc
          have hlL : L.length = (allB os).length + (allB ms).length := by rw [hL, List.length_append]
          have hL4 := Lib.hid (show L.length ≤ 400000 by have := HL0.out; have := HL.out; omega)
          have HLS := Lib.hid hlL; have HLL := Lib.hid hL; clear hL hlL
          have HA := Lib.hid na.wr; have HB := Lib.hid nb.wr; have HC := Lib.hid nc.wr; have HBEL := Lib.hid hbel; clear na nb nc hbel HW3
          go_wp2_with fail
          refine (bytes_any p2 _ _ _ HA.out (by have := HL0.out; omega)).mono ?_
          rintro e w8 ⟨A8, rfl, hb8, hk8, hf8⟩
          have HB8 := Lib.hid hb8.sl; have HF8 := Lib.hid hf8; clear hb8 hk8 hf8
          go_wp2_with fail
          refine (bytes_any p3 _ _ _ (HB.out.kept HF8.out (fun _ _ h => h)) (by have := HL.out; omega)).mono ?_
          rintro e w9 ⟨A9, rfl, hb9, hk9, hf9⟩
          have HB9 := Lib.hid hb9.sl; have HF9 := Lib.hid (HF8.out.trans hf9 (fun _ _ h => h)); have HB8 := Lib.hid (HB8.out.kept0 hf9); clear hb9 hk9 hf9
          go_wp2_with (at_builtin; refine wpList_apf rfl (.tmp 92) (.tmp 94) 22 rfl tbB HB8.out HB9.out rfl rfl ?b1 ?b2 ?go)
          case b1 => have := HL0.out; have := HL.out; simp only [maxLen]; omega
          case b2 => have := HL0.out; have := HL.out; omega
          case go =>
            intro A' N c' w10 hN ho hf10
            obtain rfl : N = L.length := hN.trans HLS.out.symm
            rw [← bvs_append, ← HLL.out] at ho
            clear hN
            have HO := Lib.hid ho; have HF10 := Lib.hid (HF9.out.trans hf10 (fun _ _ h => h)); clear ho hf10
            go_wp2_with fail
            refine (bytes_any p4 _ _ _ (HC.out.kept HF10.out (fun _ _ h => h)) (by have := hL4.out; omega)).mono ?_
            rintro e w11 ⟨A11, rfl, hb11, hk11, hf11⟩
            have HB11 := Lib.hid hb11.sl; have HF11 := Lib.hid (HF10.out.trans hf11 (fun _ _ h => h)); have HO := Lib.hid (HO.out.kept0 hf11); clear hb11 hk11 hf11
            go_wp2_with fail
            refine (same_any _ _ _ L L HO.out HB11.out (by have := hL4.out; omega) (by have := hL4.out; omega)).mono ?_
            rintro e w12 ⟨rfl, n12, rfl⟩
            rw [decide_eq_true rfl]
            have HF12 := Lib.hid (HF11.out.moreN n12)
            go_wp2_with fail
            refine (len_any p2 _ _ _ (HA.out.kept HF12.out (fun _ _ h => h))).mono ?_
            rintro e w13 ⟨rfl, rfl⟩
            go_wp2_with fail
            refine (len_any p3 _ _ _ (HB.out.kept HF12.out (fun _ _ h => h))).mono ?_
            rintro e w13 ⟨rfl, rfl⟩
            go_wp2_with fail
            refine (len_any p4 _ _ _ (HC.out.kept HF12.out (fun _ _ h => h))).mono ?_
            rintro e w13 ⟨rfl, rfl⟩
            have hl1 := HL0.out
            have hl2 := HL.out
            go_wp2
            go_ret
            have e : (wrap64 (((allB os).length : Int) + ((allB ms).length : Int)) == (L.length : Int)) = true := by
              rw [wrap64_id _ (by omega) (by omega), HLS.out]; simp
            exact ⟨congrArg (fun b => Ending.returned (.bool b)) e, below_fr HBEL.out HF12.out⟩

set_option maxRecDepth 100000 in
set_option maxHeartbeats 1000000 in
theorem joins_much (w : World) (x y : Value) (os ms : List OpV) (hx : Ops w x os) (hy : Ops w y ms) (h1 : 20000 < total os ∨ 20000 < total ms) :
    Calls Try.prog 5 #[x, y] w fun e w' => e = .returned (.bool true) ∧ Below w.heap.size w w' := by
  have HX := Lib.hid hx; have HY := Lib.hid hy; clear hx hy
  by_cases h2 : 20000 < total os
  · go_enter Try.func5, Try.ntmps5
    go_wp2_with fail
    refine (much_any _ _ os HX.out).mono ?_
    rintro e w1 ⟨rfl, n1, rfl⟩
    rw [decide_eq_true (by omega)]
    go_wp2
    go_ret
    exact ⟨rfl, (Fr.drewN no w n1).below (fun _ _ h => h)⟩
  · go_enter Try.func5, Try.ntmps5
    go_wp2_with fail
    refine (much_any _ _ os HX.out).mono ?_
    rintro e w1 ⟨rfl, n1, rfl⟩
    rw [decide_eq_false (by omega)]
    go_wp2_with fail
    refine (much_any _ _ ms (HY.out.below ((Fr.drewN no w n1).below (fun _ _ h => h)))).mono ?_
    rintro e w2 ⟨rfl, n2, rfl⟩
    rw [decide_eq_true (by omega), World.drewN_drewN]
    go_wp2
    go_ret
    exact ⟨rfl, (Fr.drewN no w _).below (fun _ _ h => h)⟩
end Go.Proofs.Ytomnhblecnbmaaa
