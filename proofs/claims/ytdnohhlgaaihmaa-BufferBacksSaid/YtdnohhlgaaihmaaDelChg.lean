/- slices.Delete of one change: the row as it was, without it. -/
import Derived.Test.YtdnohhlgaaihmaaInsChg
import Derived.Test.YtdnohhlgaaihmaaBuf3
namespace Go.Proofs.Ytdnohhlgaaihmaa
open Go.RowKit

section
variable {P : Program} {w : World} {o : Oper} {a : Act} {K : Act → World → Prop} {Q : Exit → Act → World → Prop}
/-- append onto the front of a row that has room. -/
theorem run_apn {t e : TypeId} {z : Value} {size bytes : Nat} (tb : Tb P t e z size bytes) (ty : TypeId) {g n c : Nat} {cur : List Value} (hg : Has w g e cur) (hcs : c * size ≤ cur.length)
    {x : Value} {m : Nat} {news : List Value} (hx : Sl w size x m news) (h1 : ∀ u ∈ news, u.oneCell' = true) (hr : n + m ≤ c) :
    ∃ w', (Builtin.append_ #[t, t] ty #[.slice (some ⟨g, 0, none⟩) n c, x]).run P w = .ok (.slice (some ⟨g, 0, none⟩) (n + m) c) w' ∧ Has w' g e (cur.take (n * size) ++ news ++ cur.drop (n * size + m * size)) ∧ Fr (fun k => k = g) w w' := by
  obtain ⟨i, hi, hz0, hz1, hz2⟩ := info_parts tb.info
  obtain ⟨X, cx, rfl, hcx1, hcx2⟩ := hx.form
  by_cases hm : m = 0
  · subst hm
    have hn : news = [] := List.eq_nil_of_length_eq_zero (by simpa using hx.1)
    subst hn
    refine ⟨w, ?_, by simpa using hg, Fr.refl _ _⟩
    have hnc0 : n ≤ c := by omega
    cases X with
    | none => simp [Builtin.append_, run_underlying tb.und, sizeOf, typeInfo, hi, Builtin.lenOf, Builtin.firstCells, storeCells, Nat.not_lt.2 hnc0]
    | some y =>
      have hf := run_firstCells_some (P := P) w i.size 0 y 0 cx [] (by simp) (by simp)
      simp [Builtin.append_, run_underlying tb.und, sizeOf, typeInfo, hi, Builtin.lenOf, hf, storeCells, Nat.not_lt.2 hnc0]
  · obtain ⟨b, off, cap', h2, hnews⟩ : ∃ b off cap', Value.slice X m cx = .slice (some ⟨b, off, none⟩) m cap' ∧ ∀ j u, news[j]? = some u → w.cell? ⟨b, off + j, none⟩ = some u := by
      rcases hx.2 with ⟨_, _, h2⟩ | ⟨b, off, cap', h2, _, _, hc⟩
      · omega
      · exact ⟨b, off, cap', h2, hc⟩
    have hnews' : ∀ j u, news[j]? = some u → w.cell? ((⟨b, off, none⟩ : Addr).add j) = some u := fun j u hu => by rw [Addr.add_lit]; exact hnews j u hu
    rw [h2]
    subst hz1
    have hfit : n * i.size + news.length ≤ cur.toArray.size := by rw [hx.1, ← Nat.add_mul]; exact Nat.le_trans (Nat.mul_le_mul_right _ hr) (by simpa using hcs)
    have hrun := run_append_room (P := P) w t ty e i tb.und hi g n c cur.toArray hg ⟨b, off, none⟩ m cap' news hx.1 hnews' h1 hr hfit
    refine ⟨_, hrun, ?_, ⟨rfl, rfl, rfl, by simp, fun k _ hk => setRow_other w g k _ (fun e => hk e)⟩⟩
    have := setRow_heap w g cur.toArray (cur.toArray.toList.take (n * i.size) ++ news ++ cur.toArray.toList.drop (n * i.size + news.length)).toArray e (0, 0) hg
    rw [hx.1] at this ⊢
    exact this
theorem wp_apn (s x : Operand) (t : TypeId) (ho : o.op = .call { callee := .builtin .append, args := #[s, x], argTypes := #[t, t] }) {e : TypeId} {z : Value} {size bytes : Nat} (tb : Tb P t e z size bytes) {g n c : Nat} {cur : List Value} (hg : Has w g e cur) (hcs : c * size ≤ cur.length)
    {vx : Value} {m : Nat} {news : List Value} (hx : Sl w size vx m news) (hse : a.eval s = .slice (some ⟨g, 0, none⟩) n c) (hxe : a.eval x = vx) (h1 : ∀ u ∈ news, u.oneCell' = true) (hr : n + m ≤ c)
    (h : ∀ N w', N = n + m → Has w' g e (cur.take (n * size) ++ news ++ cur.drop (n * size + m * size)) → Fr (fun k => k = g) w w' → K (a.put o.dst (.slice (some ⟨g, 0, none⟩) N c)) w') : o.wp P a w K Q := by
  obtain ⟨w', hrun, h2, h3⟩ := run_apn tb o.type hg hcs hx h1 hr
  unfold Oper.wp execOp
  simp only [ho, resolve, invoke, builtin, Sem.run_bind, Sem.run_pure, Result.andThen_ok, List.map_toArray, List.map_cons, List.map_nil, hse, hxe, hrun]
  exact h _ w' rfl h2 h3
end

theorem del_room (cur xs : List Value) (i n : Nat) (hx : cur.take (n * 3) = xs) (hl : n * 3 ≤ cur.length) (hi : i < n) :
    (cur.take (i * 3) ++ xs.drop ((i + 1) * 3) ++ cur.drop (i * 3 + (n - (i + 1)) * 3)).take ((n - 1) * 3) = xs.take (i * 3) ++ xs.drop ((i + 1) * 3) := by
  subst hx
  have h1 : (cur.take (n * 3)).take (i * 3) = cur.take (i * 3) := by rw [List.take_take, Nat.min_eq_left (by omega)]
  rw [h1]
  refine List.take_left' ?_
  simp only [List.length_append, List.length_take, List.length_drop]
  omega

set_option maxRecDepth 100000 in
set_option maxHeartbeats 4000000 in
theorem deleteChange (w : World) (g m c i : Nat) (xs : List Value) (hs : Ow w 36 3 (.slice (some ⟨g, 0, none⟩) (m + 1) c) (m + 1) xs) (hi : i ≤ m) (hx1 : ∀ u ∈ xs, u.oneCell' = true) (hn : m ≤ 1000000) :
    Calls Try.prog 130 #[.slice (some ⟨g, 0, none⟩) (m + 1) c, .int .i64 i, .int .i64 ((i : Int) + 1)] w fun e w' =>
      e = .returned (.slice (some ⟨g, 0, none⟩) m c) ∧ Ow w' 36 3 (.slice (some ⟨g, 0, none⟩) m c) m (xs.take (i * 3) ++ xs.drop ((i + 1) * 3)) ∧ Fr (fun k => k = g) w w' := by
  obtain ⟨cur, hg, hcs, hnc, hcm, htk⟩ := hs.has
  have hxl := hs.1
  have hcm' := hcm
  unfold maxLen at hcm'
  have e1 : ((i : Int) == (i : Int) + 1) = false := by simp; omega
  have hni : ¬ m + 1 = i := by omega
  have hci : ¬ c = i := by omega
  have hcmm : ¬ c = m := by omega
  have hsx : Sl w 3 (.slice (some ⟨g, (i + 1) * 3, none⟩) (m - i) (c - (i + 1))) (m - i) (xs.drop ((i + 1) * 3)) := by
    have := hg.sl 3 ((i + 1) * 3) (m - i) (c - (i + 1)) (by omega) (by omega) (by omega)
    rwa [← htk, List.drop_take, show (m + 1) * 3 - (i + 1) * 3 = (m - i) * 3 by omega]
  have hfin : ∀ (w1 w2 : World) (ys : List Value), ys.length = 1 * 3 → Has w2 g 36 ((cur.take (i * 3) ++ xs.drop ((i + 1) * 3) ++ cur.drop (i * 3 + (m - i) * 3)).take (m * 3) ++ ys ++ (cur.take (i * 3) ++ xs.drop ((i + 1) * 3) ++ cur.drop (i * 3 + (m - i) * 3)).drop (m * 3 + 1 * 3)) →
      Ow w2 36 3 (.slice (some ⟨g, 0, none⟩) m c) m (xs.take (i * 3) ++ xs.drop ((i + 1) * 3)) := fun w1 w2 ys hy h => by
    have hlen : (cur.take (i * 3) ++ xs.drop ((i + 1) * 3) ++ cur.drop (i * 3 + (m - i) * 3)).length = cur.length := by
      simp only [List.length_append, List.length_take, List.length_drop]; omega
    have htl : ((cur.take (i * 3) ++ xs.drop ((i + 1) * 3) ++ cur.drop (i * 3 + (m - i) * 3)).take (m * 3)).length = m * 3 := by rw [List.length_take, hlen]; omega
    have := h.ow 3 m c (by rw [List.length_append, List.length_append, htl, List.length_drop, hlen, hy]; omega) (by omega) hcm
    rw [List.append_assoc, List.take_left' htl] at this
    have hd := del_room cur xs i (m + 1) htk (by omega) (by omega)
    rw [show m + 1 - (i + 1) = m - i by omega, show m + 1 - 1 = m by omega] at hd
    rwa [hd] at this
  have HG := Lib.hid hg; have HX1 := Lib.hid hx1; have HXL := Lib.hid hxl; have HCS := Lib.hid hcs; have HFIN := Lib.hid hfin
  have HSX := Lib.hid hsx
  clear hs hg hx1 htk hxl hcs hsx hfin
  by_cases hc1 : c = i + 1
  · obtain rfl := hc1
    obtain rfl : m = i := by omega
    go_enter Try.func130, Try.ntmps130
    go_wp2_with fail
    refine wp_region_ord (List.range 8) (fun i => [Kd.p, Kd.p, Kd.p, Kd.p, Kd.p, Kd.p, Kd.e, Kd.p].getD i .e) (by kernel_rfl) (by kernel_rfl) ?_
    iterate 6
      first | refine wpX_pu rfl rfl rfl (by first | exact pu_move rfl | exact pu_assign rfl | exact pu_nilCheck rfl rfl | exact pu_binInt rfl rfl rfl | exact pu_conv rfl rfl (by kernel_rfl) | exact pu_fld rfl (by kernel_rfl) | exact pu_ix rfl rfl rfl (by kernel_rfl) | exact pu_unOp rfl | exact pu_binStr rfl rfl rfl | exact pu_len rfl rfl | exact pu_lens rfl rfl | exact pu_pick rfl | exact pu_slice rfl rfl) (fun K hK => ?_) | refine wpX_rd rfl rfl rfl (rd_load rfl) (fun K hK => ?_) | refine wpX_gr rfl rfl rfl (by first | exact gr_buildSlice rfl | exact gr_box rfl | exact gr_alloc rfl) (fun K hK => ?_) | refine wpX_ex rfl rfl rfl (fun K hK => ?_)
      try go_wp2
    refine wpX_ex rfl rfl rfl (fun K hK => ?_)
    have hxe : xs.drop ((m + 1) * 3) = [] := by rw [List.drop_of_length_le]; rw [HXL.out]; omega
    refine wp_apn (.tmp 22) (.tmp 25) 30 rfl tbChange (n := m) (m := 0) (news := []) (HG.out.kept (Fr.drew (Fr.refl no w)) (fun h => h)) HCS.out ⟨rfl, .inl ⟨_, rfl, rfl⟩⟩ rfl rfl (fun u hu => by cases hu) (by omega) ?go1
    case go1 =>
      intro N w2 hN hg2 hf2
      obtain rfl : N = m := by omega
      have HG2 := Lib.hid hg2; have HF2 := Lib.hid hf2; have HXE := Lib.hid hxe; clear hg2 hf2 hxe hN
      go_simp
      refine hK _ _ ?_
      clear hK K
      iterate 1
        first | refine wpX_pu rfl rfl rfl (by first | exact pu_move rfl | exact pu_assign rfl | exact pu_nilCheck rfl rfl | exact pu_binInt rfl rfl rfl | exact pu_conv rfl rfl (by kernel_rfl) | exact pu_fld rfl (by kernel_rfl) | exact pu_ix rfl rfl rfl (by kernel_rfl) | exact pu_unOp rfl | exact pu_binStr rfl rfl rfl | exact pu_len rfl rfl | exact pu_lens rfl rfl | exact pu_pick rfl | exact pu_slice rfl rfl) (fun K hK => ?_) | refine wpX_rd rfl rfl rfl (rd_load rfl) (fun K hK => ?_) | refine wpX_gr rfl rfl rfl (by first | exact gr_buildSlice rfl | exact gr_box rfl | exact gr_alloc rfl) (fun K hK => ?_) | refine wpX_ex rfl rfl rfl (fun K hK => ?_)
        try go_wp2
      refine wpX_done ?_
      go_wp2_with (with_reducible refine wpList_cl rfl (.tmp 31) 30 rfl tbChange (by simp [Value.cells, Value.oneCell']) HG2.out rfl ?b2 ?g2)
      case b2 =>
        have := HCS.out; have := HXL.out; simp only [List.length_append, List.length_take, List.length_drop, List.length_nil]; omega
      case g2 =>
        intro w3 ys hy hg3 hf3
        have hf := HFIN.out w3 w3 ys hy (by rw [HXE.out, Nat.sub_self, show cur.take (N * 3) ++ [] ++ cur.drop (N * 3 + 0 * 3) = cur by simp]; simpa only [List.append_assoc, Nat.one_mul] using hg3)
        have hff : Fr (fun k => k = g) w w3 := ((Fr.refl _ w).drew.trans HF2.out (fun _ _ h => h)).trans hf3 (fun _ _ h => h)
        have HF := Lib.hid hf; have HFF := Lib.hid hff; clear hg3 hf3 hf hff
        go_wp2
        go_ret
        exact ⟨rfl, HF.out, HFF.out⟩
  · go_enter Try.func130, Try.ntmps130
    go_wp2_with fail
    refine wp_region_ord (List.range 8) (fun i => [Kd.p, Kd.p, Kd.p, Kd.p, Kd.p, Kd.p, Kd.e, Kd.p].getD i .e) (by kernel_rfl) (by kernel_rfl) ?_
    iterate 6
      first | refine wpX_pu rfl rfl rfl (by first | exact pu_move rfl | exact pu_assign rfl | exact pu_nilCheck rfl rfl | exact pu_binInt rfl rfl rfl | exact pu_conv rfl rfl (by kernel_rfl) | exact pu_fld rfl (by kernel_rfl) | exact pu_ix rfl rfl rfl (by kernel_rfl) | exact pu_unOp rfl | exact pu_binStr rfl rfl rfl | exact pu_len rfl rfl | exact pu_lens rfl rfl | exact pu_pick rfl | exact pu_slice rfl rfl) (fun K hK => ?_) | refine wpX_rd rfl rfl rfl (rd_load rfl) (fun K hK => ?_) | refine wpX_gr rfl rfl rfl (by first | exact gr_buildSlice rfl | exact gr_box rfl | exact gr_alloc rfl) (fun K hK => ?_) | refine wpX_ex rfl rfl rfl (fun K hK => ?_)
      try go_wp2
    refine wpX_ex rfl rfl rfl (fun K hK => ?_)
    have hmi : m + 1 - (i + 1) = m - i := by omega
    refine wp_apn (.tmp 22) (.tmp 25) 30 rfl tbChange (n := i) (m := m - i) (news := xs.drop ((i + 1) * 3)) (HG.out.kept (Fr.drew (Fr.refl no w)) (fun h => h)) HCS.out (HSX.out.kept0 (Fr.drew (Fr.refl no w))) rfl (by first | rfl | (simp only [hmi]; rfl) | (rw [← hmi]; rfl)) (fun u hu => HX1.out u (List.mem_of_mem_drop hu)) (by omega) ?go3
    case go3 =>
      intro N w2 hN hg2 hf2
      obtain rfl : N = m := by omega
      have HG2 := Lib.hid hg2; have HF2 := Lib.hid hf2; clear hg2 hf2 hN hmi
      go_simp
      refine hK _ _ ?_
      clear hK K
      iterate 1
        first | refine wpX_pu rfl rfl rfl (by first | exact pu_move rfl | exact pu_assign rfl | exact pu_nilCheck rfl rfl | exact pu_binInt rfl rfl rfl | exact pu_conv rfl rfl (by kernel_rfl) | exact pu_fld rfl (by kernel_rfl) | exact pu_ix rfl rfl rfl (by kernel_rfl) | exact pu_unOp rfl | exact pu_binStr rfl rfl rfl | exact pu_len rfl rfl | exact pu_lens rfl rfl | exact pu_pick rfl | exact pu_slice rfl rfl) (fun K hK => ?_) | refine wpX_rd rfl rfl rfl (rd_load rfl) (fun K hK => ?_) | refine wpX_gr rfl rfl rfl (by first | exact gr_buildSlice rfl | exact gr_box rfl | exact gr_alloc rfl) (fun K hK => ?_) | refine wpX_ex rfl rfl rfl (fun K hK => ?_)
        try go_wp2
      refine wpX_done ?_
      go_wp2_with (with_reducible refine wpList_cl rfl (.tmp 31) 30 rfl tbChange (by simp [Value.cells, Value.oneCell']) HG2.out rfl ?b4 ?g4)
      case b4 =>
        have := HCS.out; have := HXL.out; simp only [List.length_append, List.length_take, List.length_drop]; omega
      case g4 =>
        intro w3 ys hy hg3 hf3
        have hf := HFIN.out w3 w3 ys hy (by simpa only [List.append_assoc, Nat.one_mul] using hg3)
        have hff : Fr (fun k => k = g) w w3 := ((Fr.refl _ w).drew.trans HF2.out (fun _ _ h => h)).trans hf3 (fun _ _ h => h)
        have HF := Lib.hid hf; have HFF := Lib.hid hff; clear hg3 hf3 hf hff
        go_wp2
        go_ret
        exact ⟨rfl, HF.out, HFF.out⟩
end Go.Proofs.Ytdnohhlgaaihmaa
