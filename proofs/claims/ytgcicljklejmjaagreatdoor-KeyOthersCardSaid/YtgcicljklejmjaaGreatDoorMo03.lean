import Derived.Test.YtgcicljklejmjaaGreatDoorMo02
import Derived.Test.YtgcicljklejmjaaGreatDoorMb02
import Derived.Test.YtgcicljklejmjaaGreatDoorMb16
import Derived.Test.YtgcicljklejmjaaGreatDoorMb04

/- key.Cmp: the order of tuples, by the program. -/
namespace Go.Proofs.YtgcicljklejmjaaGreatDoor
open Go.RowKit Go.Shelf
open Tr

set_option maxRecDepth 100000 in
set_option maxHeartbeats 4000000 in
theorem kcmpT_any (w : World) (X Y D : Value) (l k : List (Tr Mm)) (dl : List Bool) (hx : In w X l) (hy : In w Y k) (hd : Sl w 1 D dl.length (bls dl)) (hdn : dl.length ≤ reachBytes) :
    Calls Tryz.prog 22 #[X, Y, D] w fun e w' => e = .returned (.int .i64 (cmpT (fallsB dl) 0 l k)) ∧ Fr no w w' := by
  obtain ⟨A, c, rfl, _, _⟩ := hx.sl.form
  obtain ⟨B, bc, rfl, _, _⟩ := hy.sl.form
  obtain ⟨DA, dc, rfl, _, _⟩ := hd.form
  have hnl : l.length ≤ 140737488351232 := hx.n
  have hnk : k.length ≤ 140737488351232 := hy.n
  have HX := Lib.hid hx; have HY := Lib.hid hy; have HD := Lib.hid hd; have HDN := Lib.hid hdn
  clear hx hy hd hdn
  have hmin : min (l.length : Int) (k.length : Int) = ((min l.length k.length : Nat) : Int) := by omega
  go_enter Tryz.func22, Tryz.ntmps22
  go_wp2
  go_loopw [14] (fun iv wr => ∃ j : Nat, j ≤ l.length ∧ j ≤ k.length ∧ iv = .int .i64 j ∧ Fr no w wr ∧ cmpT (fallsB dl) 0 l k = cmpT (fallsB dl) j (l.drop j) (k.drop j)) (fun iv _ => l.length - (intOf iv).toNat)
  case atStart => exact ⟨0, Nat.zero_le _, Nat.zero_le _, rfl, Fr.refl _ _, rfl⟩
  case round =>
    obtain ⟨j, hj, hj2, rfl, hfr, hcm⟩ := hrel
    have FR := Lib.hid hfr; have HCM := Lib.hid hcm
    clear hfr hcm
    by_cases hlt : j < l.length ∧ j < k.length
    · obtain ⟨hlt, hlt2⟩ := hlt
      have h1 := HX.out.kept0 FR.out
      have h2 := HY.out.kept0 FR.out
      obtain ⟨xb, xo, KB, kb, KL, kl, KF, kf, rfl, hfj, a0, a1, a2, a3, a4, a5, a6, hgl⟩ := In.get h1 j hlt
      obtain ⟨yb, yo, MB, mb, ML, ml, MF, mf, rfl, hgj, b0, b1, b2, b3, b4, b5, b6, hgm⟩ := In.get h2 j hlt2
      have hcall := fun W (f : Fr no wr W) => vcmp_any l[j] k[j] W ((h1.good _ (List.getElem_mem _)).kept0 f) ((h2.good _ (List.getElem_mem _)).kept0 f)
      have hrg := cmp_range l[j] k[j]
      rw [hfj.agg, hgj.agg] at hcall
      have hst := cmpT_step (fallsB dl) hlt hlt2
      have hneg : IntKind.i64.wrap (- cmp l[j] k[j]) = - cmp l[j] k[j] := IntWalk.i64_in _ ⟨by omega, by omega⟩
      have HC := Lib.hid hcall; have HST := Lib.hid hst
      clear hcall hst h1 h2 hfj hgj hrg
      go_wp2_with fail
      refine wp_region_ord (List.range 10) (fun i => [Kd.p, Kd.p, Kd.p, Kd.l, Kd.p, Kd.p, Kd.p, Kd.l, Kd.g, Kd.p].getD i .e) (by kernel_rfl) (by kernel_rfl) ?_
      iterate 8
        first | refine wpX_pu rfl rfl rfl (by first | exact pu_move rfl | exact pu_assign rfl | exact pu_nilCheck rfl rfl | exact pu_binInt rfl rfl rfl | exact pu_conv rfl rfl (by kernel_rfl) | exact pu_fld rfl (by kernel_rfl) | exact pu_ix rfl rfl rfl (by kernel_rfl) | exact pu_unOp rfl | exact pu_binStr rfl rfl rfl | exact pu_len rfl rfl | exact pu_lens rfl rfl | exact pu_pick rfl | exact pu_slice rfl rfl) (fun K hK => ?_) | refine wpX_rd rfl rfl rfl (rd_load rfl) (fun K hK => ?_) | refine wpX_gr rfl rfl rfl (by first | exact gr_buildSlice rfl | exact gr_box rfl | exact gr_alloc rfl) (fun K hK => ?_) | refine wpX_ex rfl rfl rfl (fun K hK => ?_)
        try go_wp2
      refine wpX_ca rfl rfl rfl (fun K hK => ?_)
      go_wp2_with fail
      refine (HC.out _ (by (repeat first | exact Fr.refl _ _ | exact Fr.drewN _ _ _ | apply Fr.drew | apply Fr.alloc | apply Fr.setAt | apply Fr.moreN))).mono ?_
      rintro e w5 ⟨rfl, fy⟩
      have F50 := Lib.hid fy; have F5 := Lib.hid (FR.out.trans ((by (repeat first | exact Fr.refl _ _ | exact Fr.drewN _ _ _ | apply Fr.drew | apply Fr.alloc | apply Fr.setAt | apply Fr.moreN) : Fr no wr _).trans fy (fun _ _ h => h)) (fun _ _ h => h))
      clear fy
      by_cases hc : cmp l[j] k[j] = 0
      · have hst : cmpT (fallsB dl) 0 l k = cmpT (fallsB dl) (j + 1) (l.drop (j + 1)) (k.drop (j + 1)) := by rw [HCM.out, HST.out, if_neg (by simpa using hc)]
        have HS2 := Lib.hid hst
        rw [hc] at hneg ⊢
        clear hst hc hneg
        go_wp2
        obtain ⟨⟨ea, eb⟩, hext⟩ := F50.out.ext
        refine ⟨⟨ea, eb, hext⟩, hK _ _ ?_⟩
        clear hK K hext ea eb
        first | refine wpX_pu rfl rfl rfl (by first | exact pu_move rfl | exact pu_assign rfl | exact pu_nilCheck rfl rfl | exact pu_binInt rfl rfl rfl | exact pu_conv rfl rfl (by kernel_rfl) | exact pu_fld rfl (by kernel_rfl) | exact pu_ix rfl rfl rfl (by kernel_rfl) | exact pu_unOp rfl | exact pu_binStr rfl rfl rfl | exact pu_len rfl rfl | exact pu_lens rfl rfl | exact pu_pick rfl | exact pu_slice rfl rfl) (fun K hK => ?_) | refine wpX_rd rfl rfl rfl (rd_load rfl) (fun K hK => ?_) | refine wpX_gr rfl rfl rfl (by first | exact gr_buildSlice rfl | exact gr_box rfl | exact gr_alloc rfl) (fun K hK => ?_) | refine wpX_ex rfl rfl rfl (fun K hK => ?_)
        try go_wp2
        refine wpX_done ?_
        clear a0 a1 a2 a3 a4 a5 a6 b0 b1 b2 b3 b4 b5 b6 hgl hgm
        go_wp2
        go_roundw
        case rel => exact ⟨j + 1, by omega, by omega, by go_num, F5.out, HS2.out⟩
        case measure => simp [intOf]; omega
      · have hst : cmpT (fallsB dl) 0 l k = if fallsB dl j then - cmp l[j] k[j] else cmp l[j] k[j] := by rw [HCM.out, HST.out, if_pos hc]
        have gc : (cmp l[j] k[j] != 0) = true := by rw [bne_iff_ne]; exact hc
        have HS2 := Lib.hid hst
        clear hst hc
        go_wp2
        obtain ⟨⟨ea, eb⟩, hext⟩ := F50.out.ext
        refine ⟨⟨ea, eb, hext⟩, hK _ _ ?_⟩
        clear hK K hext ea eb
        first | refine wpX_pu rfl rfl rfl (by first | exact pu_move rfl | exact pu_assign rfl | exact pu_nilCheck rfl rfl | exact pu_binInt rfl rfl rfl | exact pu_conv rfl rfl (by kernel_rfl) | exact pu_fld rfl (by kernel_rfl) | exact pu_ix rfl rfl rfl (by kernel_rfl) | exact pu_unOp rfl | exact pu_binStr rfl rfl rfl | exact pu_len rfl rfl | exact pu_lens rfl rfl | exact pu_pick rfl | exact pu_slice rfl rfl) (fun K hK => ?_) | refine wpX_rd rfl rfl rfl (rd_load rfl) (fun K hK => ?_) | refine wpX_gr rfl rfl rfl (by first | exact gr_buildSlice rfl | exact gr_box rfl | exact gr_alloc rfl) (fun K hK => ?_) | refine wpX_ex rfl rfl rfl (fun K hK => ?_)
        try go_wp2
        refine wpX_done ?_
        clear a0 a1 a2 a3 a4 a5 a6 b0 b1 b2 b3 b4 b5 b6 hgl hgm
        go_wp2_with fail
        refine (falls_any w5 _ dl j (HD.out.kept0 F5.out) HDN.out).mono ?_
        rintro e w6 ⟨rfl, hw⟩
        subst w6
        rw [show dl.getD j false = fallsB dl j from rfl]
        cases hf : fallsB dl j with
        | true =>
          rw [hf, if_pos rfl] at HS2
          go_wp2
          go_ret
          exact ⟨by rw [HS2.out]; rfl, F5.out⟩
        | false =>
          rw [hf, if_neg (by simp)] at HS2
          go_wp2
          go_ret
          exact ⟨by rw [HS2.out]; rfl, F5.out⟩
    · have hen := cmpT_end (fallsB dl) hj hj2 (by omega)
      have HEN := Lib.hid (HCM.out.trans hen)
      clear hen
      have hn : ∀ a b : Int, (a < b ∧ numC a b = -1) ∨ (¬ a < b ∧ b < a ∧ numC a b = 1) ∨ (¬ a < b ∧ ¬ b < a ∧ numC a b = 0) := fun a b => by
        unfold numC
        by_cases h1 : a < b
        · left; exact ⟨h1, if_pos h1⟩
        · by_cases h2 : b < a
          · right; left; exact ⟨h1, h2, by rw [if_neg h1, if_pos h2]⟩
          · right; right; exact ⟨h1, h2, by rw [if_neg h1, if_neg h2]⟩
      rcases hn l.length k.length with ⟨h1, h2⟩ | ⟨h1, h2, h3⟩ | ⟨h1, h2, h3⟩
      · have HV := Lib.hid (HEN.out.trans h2)
        have hA1 : ¬ (j < l.length ∧ j < k.length) := hlt
        have hA2 : ¬ j < l.length := by omega
        clear h2 hlt hA1 hn
        go_wp2
        go_ret
        exact ⟨by rw [HV.out]; rfl, FR.out⟩
      · have HV := Lib.hid (HEN.out.trans h3)
        have hA1 : j < l.length := by omega
        have hA2 : ¬ j < k.length := by omega
        clear h3 hlt hn
        go_wp2
        go_ret
        exact ⟨by rw [HV.out]; rfl, FR.out⟩
      · have HV := Lib.hid (HEN.out.trans h3)
        have hA2 : ¬ j < l.length := by omega
        clear h3 hlt hn
        go_wp2
        go_ret
        exact ⟨by rw [HV.out]; rfl, FR.out⟩

end Go.Proofs.YtgcicljklejmjaaGreatDoor

/- append onto a row of one's own that has room: it stays where it is. General. -/
namespace Go
open Go.RowKit
section
variable {P : Program} {w : World} {o : Oper} {a : Act} {K : Act → World → Prop} {Q : Exit → Act → World → Prop}

theorem run_apr {t e : TypeId} {z : Value} {size bytes : Nat} (tb : Tb P t e z size bytes) (ty : TypeId) {g n cap : Nat} {xs : List Value} (hown : w.ownsRow 0 e size (.slice (some ⟨g, 0, none⟩) n cap) n xs)
    {x : Value} {m : Nat} {news : List Value} (hx : Sl w size x m news) (h1 : ∀ u ∈ news, u.oneCell' = true) (hr : n + m ≤ cap) :
    ∃ w', (Builtin.append_ #[t, t] ty #[.slice (some ⟨g, 0, none⟩) n cap, x]).run P w = .ok (.slice (some ⟨g, 0, none⟩) (n + m) cap) w' ∧ w'.ownsRow 0 e size (.slice (some ⟨g, 0, none⟩) (n + m) cap) (n + m) (xs ++ news) ∧ Fr (fun k => k = g) w w' := by
  obtain ⟨i, hi, hz0, hz1, hz2⟩ := info_parts tb.info
  have hx2 : (x = .slice none 0 0 ∧ m = 0) ∨ ∃ y cap', x = .slice (some y) m cap' ∧ ∀ j u, news[j]? = some u → w.cell? (y.add j) = some u := by
    rcases hx.2 with ⟨Y, h1, h2⟩ | ⟨b, off, cap', h1, _, _, hc⟩
    · subst h1; subst h2
      cases Y with
      | none => exact .inl ⟨rfl, rfl⟩
      | some y => exact .inr ⟨y, 0, rfl, fun j u hu => by
          have hn : news = [] := List.eq_nil_of_length_eq_zero (by simpa using hx.1)
          subst hn; simp at hu⟩
    · exact .inr ⟨⟨b, off, none⟩, cap', h1, fun j u hu => by rw [Addr.add_lit]; exact hc j u hu⟩
  rcases hx2 with ⟨rfl, rfl⟩ | ⟨y, cap', rfl, hnews⟩
  · have hn : news = [] := List.eq_nil_of_length_eq_zero (by simpa using hx.1)
    subst hn
    exact ⟨w, run_append_owned_none (P := P) w 0 t ty e i size tb.und hi _ n xs hown, by simpa using hown, Fr.refl _ _⟩
  · rcases hown.2 with ⟨h, _⟩ | ⟨g', cap0, cur, h, hbg, hg, hnc, hcm, hcs, htake⟩
    · simp at h
    · simp only [Value.slice.injEq, Option.some.injEq, Addr.mk.injEq, and_true, true_and] at h
      obtain ⟨rfl, rfl⟩ := h
      subst hz1
      have hfit : n * i.size + news.length ≤ cur.size := by rw [hx.1, hcs, ← Nat.add_mul]; exact Nat.mul_le_mul_right _ hr
      have hrun := run_append_room (P := P) w t ty e i tb.und hi g n cap cur hg y m cap' news hx.1 hnews h1 hr hfit
      refine ⟨_, hrun, ⟨by rw [List.length_append, hown.1, hx.1, Nat.add_mul], .inr ⟨g, cap, _, rfl, hbg, setRow_heap w g cur _ e _ hg, hr, hcm, ?_, ?_⟩⟩, ⟨rfl, rfl, rfl, by simp, fun k _ hk => setRow_other w g k _ (fun e => hk e)⟩⟩
      · simp only [List.size_toArray, List.length_append, List.length_take, List.length_drop, Array.length_toList]
        omega
      · have hlen : (xs ++ news).length = (n + m) * i.size := by rw [List.length_append, hown.1, hx.1, Nat.add_mul]
        rw [htake, ← hlen]
        exact List.take_left

theorem wp_apr (s x : Operand) (t : TypeId) (ho : o.op = .call { callee := .builtin .append, args := #[s, x], argTypes := #[t, t] })
    {e : TypeId} {z : Value} {size bytes : Nat} (tb : Tb P t e z size bytes) {g n cap : Nat} {xs : List Value} (hown : w.ownsRow 0 e size (.slice (some ⟨g, 0, none⟩) n cap) n xs)
    {vx : Value} {m : Nat} {news : List Value} (hx : Sl w size vx m news) (hse : a.eval s = .slice (some ⟨g, 0, none⟩) n cap) (hxe : a.eval x = vx) (h1 : ∀ u ∈ news, u.oneCell' = true) (hr : n + m ≤ cap)
    (h : ∀ N w', N = n + m → w'.ownsRow 0 e size (.slice (some ⟨g, 0, none⟩) N cap) N (xs ++ news) → Fr (fun k => k = g) w w' → K (a.put o.dst (.slice (some ⟨g, 0, none⟩) N cap)) w') : o.wp P a w K Q := by
  obtain ⟨w', hrun, h2, h3⟩ := run_apr (P := P) tb o.type hown hx h1 hr
  unfold Oper.wp execOp
  simp only [ho, resolve, invoke, builtin, Sem.run_bind, Sem.run_pure, Result.andThen_ok, List.map_toArray, List.map_cons, List.map_nil, hse, hxe, hrun]
  exact h _ w' rfl h2 h3
variable {ops : Array Oper} {rest : List Oper}
theorem wpList_apr (hgd : o.guard = none) (s x : Operand) (t : TypeId) (ho : o.op = .call { callee := .builtin .append, args := #[s, x], argTypes := #[t, t] })
    {e : TypeId} {z : Value} {size bytes : Nat} (tb : Tb P t e z size bytes) {g n cap : Nat} {xs : List Value} (hown : w.ownsRow 0 e size (.slice (some ⟨g, 0, none⟩) n cap) n xs)
    {vx : Value} {m : Nat} {news : List Value} (hx : Sl w size vx m news) (hse : a.eval s = .slice (some ⟨g, 0, none⟩) n cap) (hxe : a.eval x = vx) (h1 : ∀ u ∈ news, u.oneCell' = true) (hr : n + m ≤ cap)
    (h : ∀ N w', N = n + m → w'.ownsRow 0 e size (.slice (some ⟨g, 0, none⟩) N cap) N (xs ++ news) → Fr (fun k => k = g) w w' → wpList P ops Q rest (a.put o.dst (.slice (some ⟨g, 0, none⟩) N cap)) w') : wpList P ops Q (o :: rest) a w :=
  wpList_plain hgd fun _ hK => wp_apr s x t ho tb hown hx hse hxe h1 hr fun N w' h2 h3 h4 => hK _ _ (h N w' h2 h3 h4)
end
end Go

/- What is lent to a call, looked at and written over behind it: LentBytes, WholeBytes, SpoilBytes. -/
namespace Go.Proofs.YtgcicljklejmjaaGreatDoor
open Go.RowKit

/-- At block g lie these bytes, and the two marks behind. -/
def Lent (w : World) (g : Nat) (l : List UInt8) : Prop := w.heap[g]? = some (.cells (bvs (l ++ [91, 92])).toArray 5 (0, 0))

theorem Lent.sl {w : World} {g : Nat} {l : List UInt8} (h : Lent w g l) (hl : l.length ≤ 140737488351232) : Sl w 1 (.slice (some ⟨g, 0, none⟩) l.length (l.length + 2)) l.length (bvs l) := by
  refine ⟨by rw [bvs_length, Nat.mul_one], .inr ⟨g, 0, _, rfl, by omega, by simp only [maxLen]; omega, fun j u hu => ?_⟩⟩
  have hj := (List.getElem?_eq_some_iff.1 hu).1
  rw [Nat.zero_add, cell_of_row w g j _ _ (0, 0) h, bvs_append]
  simp only [List.getElem?_toArray]
  rw [List.getElem?_append_left hj, hu]

set_option maxRecDepth 100000 in
set_option maxHeartbeats 400000 in
theorem lent_any (w : World) (x : Value) (l : List UInt8) (hx : Sl w 1 x l.length (bvs l)) (hl : l.length ≤ 140737488351232) :
    Calls Tryz.prog 18 #[x] w fun e w' => ∃ g, e = .returned (.slice (some ⟨g, 0, none⟩) l.length (l.length + 2)) ∧ w.heap.size ≤ g ∧ Lent w' g l ∧ Fr no w w' := by
  obtain ⟨A, c, rfl, hc1, hc2⟩ := hx.form
  have HX := Lib.hid hx; clear hx hc2
  obtain ⟨inf, hi, hz0, hz1, hz2⟩ := info_parts tbB.info
  obtain ⟨wm, hmk, hown, hgrow⟩ := run_make_own (P := Tryz.prog) w 0 27 5 inf (.int .u8 0) 1 tbB.und hi hz0 hz1 .i64 .i64 (l.length + 2) (by rw [hz2]; omega) (by simp only [maxLen]; omega) (Nat.zero_le _)
  rw [show ((l.length + 2 : Nat) : Int) = (l.length : Int) + 2 from by omega] at hmk
  have hfm : Fr no w wm := (Fr.of_grown hgrow).mono (fun k _ h => by cases h)
  have HO := Lib.hid hown; have HFM := Lib.hid hfm; have HG := Lib.hid (hown.lt _ rfl); clear hown hfm hgrow hi hz0 hz1 hz2
  go_enter Tryz.func18, Tryz.ntmps18
  go_wp2_with (at_builtin; refine wpList_apr rfl (.tmp 8) (.tmp 9) 27 rfl tbB HO.out (HX.out.kept0 HFM.out) rfl rfl (bvs_one l) (by omega) ?go)
  case go =>
    intro N w1 hN ho1 hf1
    obtain rfl : N = l.length := by omega
    have HO1 := Lib.hid ho1; have HF1 := Lib.hid hf1; clear ho1 hf1 hmk hN
    go_wp2_with (at_builtin; refine wpList_apr rfl (.tmp 11) (.tmp 12) 27 rfl tbB (own_kept0 HO1.out ?fr) (Sl.fresh w1 [91, 92] 5 (by rfl) (by simp [maxLen])) rfl rfl (bvs_one _) (by simp) ?go2)
    case fr => (repeat first | exact Fr.refl _ _ | apply Fr.drew | apply Fr.alloc)
    case go2 =>
      intro N w2 hN ho2 hf2
      have HO2 := Lib.hid ho2; have HF2 := Lib.hid hf2; clear ho2 hf2
      obtain rfl : N = l.length + 2 := by simpa using hN
      clear hN
      go_wp2
      go_ret
      have h := HO2.out
      rcases h.2 with ⟨h1, _⟩ | ⟨g, cap, cur, h1, _, hg, _, _, h4, h5⟩
      · cases h1
      · simp only [Value.slice.injEq, Option.some.injEq, Addr.mk.injEq, and_true, true_and] at h1
        obtain ⟨rfl, rfl⟩ := h1
        refine ⟨_, rfl, Nat.le_refl _, ?_, ?_⟩
        · unfold Lent
          rw [hg]
          rw [List.take_of_length_le (by rw [Array.length_toList]; omega)] at h5
          rw [bvs_append, ← h5]
        · have f1 : Fr no w w1 := HFM.out.trans HF1.out (fun k hk h => by omega)
          exact (f1.alloc _).trans HF2.out (fun k hk h => by omega)

theorem Lent.whole {w : World} {g : Nat} {l : List UInt8} (h : Lent w g l) : w.cell? ⟨g, l.length, none⟩ = some (.int .u8 91) ∧ w.cell? ⟨g, l.length + 1, none⟩ = some (.int .u8 92) := by
  constructor
  · rw [cell_of_row w g _ _ _ (0, 0) h]; simp [bvs, Bv]
  · rw [cell_of_row w g _ _ _ (0, 0) h]; simp [bvs, Bv]

theorem Lent.kept {S : Nat → Prop} {w w1 : World} {g : Nat} {l : List UInt8} (h : Lent w g l) (f : Fr S w w1) (hn : ¬ S g) : Lent w1 g l := f.heap h hn

set_option maxRecDepth 100000 in
set_option maxHeartbeats 400000 in
theorem whole_lent (w : World) (g : Nat) (y : Value) (l k : List UInt8) (hx : Lent w g l) (hy : Sl w 1 y k.length (bvs k)) (hl : l.length ≤ 140737488351232) (hk : k.length ≤ 140737488351232) :
    Calls Tryz.prog 20 #[.slice (some ⟨g, 0, none⟩) l.length (l.length + 2), y] w fun e w' => e = .returned (.bool (decide (l = k))) ∧ ∃ n, w' = w.drewN n := by
  obtain ⟨A, c, rfl, hc1, hc2⟩ := hy.form
  obtain ⟨q1, q2⟩ := hx.whole
  have HX := Lib.hid (hx.sl hl); have HY := Lib.hid hy; clear hx hy hc2
  go_enter Tryz.func20, Tryz.ntmps20
  go_wp2_with fail
  refine (same_any _ _ _ l k HX.out HY.out hl hk).mono ?_
  rintro e w1 ⟨rfl, n1, rfl⟩
  go_wp2
  go_ret
  exact ⟨rfl, n1, rfl⟩

end Go.Proofs.YtgcicljklejmjaaGreatDoor

/- The book of lists: bytes put into it. -/
namespace Go.Proofs.YtgcicljklejmjaaGreatDoor
open Go.RowKit

theorem tbRows : Tb Tryz.prog 33 27 (.slice none 0 0) 1 24 := ⟨by kernel_rfl, by kernel_rfl, rfl, by decide⟩

def nilS : Value := .slice none 0 0

/-- A book at block b that holds lists of bytes alone. -/
def Bk (w : World) (b : Nat) (v : Value) (rs : List Value) : Prop :=
  w.heap[b]? = some (.cells (#[v] ++ Array.replicate 22 nilS) 57 (0, 0)) ∧ w.ownsRow 0 27 1 v rs.length rs ∧ v.ownBlock ≠ some b

theorem Bk.cells {w : World} {b : Nat} {v : Value} {rs : List Value} (h : Bk w b v rs) : w.cell? ⟨b, 0, none⟩ = some v ∧ (∀ i, i < 22 → w.cell? ⟨b, i + 1, none⟩ = some (.slice none 0 0)) ∧ (∀ o, w.frozen? ⟨b, o, none⟩ = false) ∧ b < w.heap.size := by
  refine ⟨by simp [World.cell?, h.1], fun i hi => ?_, fun o => by simp [World.frozen?, h.1], (Array.getElem?_eq_some_iff.1 h.1).1⟩
  simp only [World.cell?, h.1, Option.isSome_none, Bool.false_eq_true, if_false]
  rw [Array.getElem?_append_right (by simp), Array.getElem?_replicate]
  rw [if_pos (by simp; omega)]; rfl

set_option maxRecDepth 100000 in
set_option maxHeartbeats 400000 in
theorem book_bytes (b : Nat) (w : World) (v : Value) (rs : List Value) (A : Option Addr) (n c : Nat) (h : Bk w b v rs) (hl : rs.length ≤ 1000000) :
    Calls Tryz.prog 9 #[.pointer (some ⟨b, 0, none⟩), .slice A n c] w fun e w' => e = .returned (.tuple #[]) ∧ ∃ v', Bk w' b v' (rs ++ [.slice A n c]) ∧ Fr (fun k => k = b ∨ v.ownBlock = some k) w w' ∧ Moved w w' v v' := by
  obtain ⟨B, d, rfl⟩ := own_form h.2.1
  obtain ⟨hc0, _, hfz, hbs⟩ := h.cells
  have HB := Lib.hid h; clear h
  go_enter Tryz.func9, Tryz.ntmps9
  go_wp2_with (at_builtin; refine wpList_ap rfl (.tmp 8) (.tmp 10) 33 rfl tbRows HB.out.2.1 ?fr ((Sl.built w _ _).kept0 ((Fr.refl no _))) rfl rfl (by simp [Value.oneCell']) ?b1 ?b2 ?go)
  case fr => (repeat first | exact Fr.refl _ _ | apply Fr.drew | apply Fr.alloc)
  case b1 => simp only [maxLen]; omega
  case b2 => omega
  case go =>
    intro A' N c' w2 ho hf2 hm2
    have hg : Fr (fun k => Value.ownBlock (.slice B rs.length d) = some k) w w2 := Fr.trans (S := fun k => Value.ownBlock (.slice B rs.length d) = some k) (by (repeat first | exact Fr.refl _ _ | apply Fr.drew | apply Fr.alloc)) hf2 (fun _ _ h => h)
    have hc1 := hg.cell hc0 HB.out.2.2
    have hf1 := (hg.frozen (a := ⟨b, 0, none⟩) hbs HB.out.2.2).trans (hfz 0)
    have hheap := hg.heap HB.out.1 HB.out.2.2
    have HO := Lib.hid ho; have HG := Lib.hid hg; have HM := Lib.hid hm2; have HH := Lib.hid hheap; clear ho hf2 hm2 hg hheap
    go_wp2
    go_end0
    obtain rfl : N = (rs ++ [Value.slice A n c]).length := by have := HO.out.1; simpa using this.symm
    have hne : Value.ownBlock (.slice A' (rs ++ [Value.slice A n c]).length c') ≠ some b := HM.out.not (by simp; omega) HB.out.2.2
    refine ⟨rfl, _, ⟨?_, own_set HO.out _ _ (by simpa using hne), hne⟩, ?_, ?_⟩
    · rw [hp_same HH.out]; simp
    · exact (HG.out.mono (fun _ _ h => .inr h)).setCell _ _ (fun _ => .inl rfl)
    · exact (HM.out.first (by simp)).later (by simp [World.setCell])
end Go.Proofs.YtgcicljklejmjaaGreatDoor

/- The owner's check on rows of bytes. -/
namespace Go.Proofs.YtgcicljklejmjaaGreatDoor
open Go.RowKit

theorem sl_at {w : World} {A : Option Addr} {n c : Nat} {xs : List Value} (h : Sl w 1 (.slice A n c) n xs) (i : Nat) (hi : i < xs.length) : ∃ b o, A = some ⟨b, o, none⟩ ∧ w.cell? ⟨b, o + i, none⟩ = some xs[i] := by
  rcases h.2 with ⟨_, h1, h2⟩ | ⟨b, o, cap, h1, _, _, h4⟩
  · have := h.1; omega
  · cases h1; exact ⟨b, o, rfl, h4 i _ (List.getElem?_eq_getElem hi)⟩

/-- The outer row, and the rows. -/
structure Two (w : World) (e : TypeId) (sz : Nat) (X : Value) (vs : List Value) (ns : Nat → Nat) (C : Nat → List Value) : Prop where
  out : Sl w 1 X vs.length vs
  away : ∀ b, X.ownBlock = some b → ¬ InRows vs b
  rows : Rws w e sz vs ns C

theorem Two.kept {w w1 : World} {e : TypeId} {sz : Nat} {X : Value} {vs : List Value} {ns : Nat → Nat} {C : Nat → List Value} {S : Nat → Prop} (h : Two w e sz X vs ns C) (f : Fr S w w1) (h1 : ∀ b, X.ownBlock = some b → ¬ S b) (h2 : ∀ b, InRows vs b → ¬ S b) : Two w1 e sz X vs ns C :=
  ⟨h.out.kept f h1, h.away, h.rows.kept f h2⟩

/-- Midway: the rows are marked, and the first of them have grown into rows lvs, that the row L has. -/
structure Ph2 (w1 w : World) (e eo : TypeId) (sz : Nat) (m : Int → Nat → List Value) (gr : Nat) (X L : Value) (vs lvs : List Value) (ns : Nat → Nat) : Prop where
  two : Two w e sz X vs ns (fun j => mks m j (ns j))
  long : Ow w eo 1 L lvs.length lvs
  many : lvs.length ≤ vs.length
  rows : ∀ j (h : j < lvs.length), Ow w e sz lvs[j] (ns j + gr) (mks m j (ns j) ++ mks m (-1 - j) gr)
  from_ : ∀ j (h : j < lvs.length) (h' : j < vs.length) b, lvs[j].ownBlock = some b → vs[j].ownBlock = some b ∨ w1.heap.size ≤ b
  fresh : ∀ b, L.ownBlock = some b → w1.heap.size ≤ b ∧ ∀ v ∈ lvs, v.ownBlock ≠ some b
  fr : Fr (InRows vs) w1 w
  ltX : ∀ b, X.ownBlock = some b → b < w1.heap.size
  lt : ∀ b, InRows vs b → b < w1.heap.size

/-- A row that grows. -/
structure Ph3 (w1 w : World) (e eo : TypeId) (sz : Nat) (m : Int → Nat → List Value) (gr : Nat) (X L x : Value) (vs lvs : List Value) (ns : Nat → Nat) (k : Nat) : Prop where
  ph2 : Ph2 w1 w e eo sz m gr X L vs lvs ns
  lt : lvs.length < vs.length
  row : Ow w e sz x (ns lvs.length + k) (mks m lvs.length (ns lvs.length) ++ mks m (-1 - lvs.length) k)
  place : (∃ A c, vs[lvs.length] = .slice A (ns lvs.length) c ∧ x = .slice A (ns lvs.length + k) c) ∨ ∀ b, x.ownBlock = some b → w1.heap.size ≤ b ∧ (∀ v ∈ lvs, v.ownBlock ≠ some b) ∧ L.ownBlock ≠ some b

namespace Ph3
variable {w1 w w2 : World} {e eo : TypeId} {sz : Nat} {m : Int → Nat → List Value} {gr : Nat} {X L x : Value} {vs lvs : List Value} {ns : Nat → Nat} {k : Nat}

theorem start (h : Ph2 w1 w e eo sz m gr X L vs lvs ns) (hl : lvs.length < vs.length) : Ph3 w1 w e eo sz m gr X L vs[lvs.length] vs lvs ns 0 := by
  refine ⟨h, hl, by simpa [mks] using h.two.rows.row _ hl, .inl ?_⟩
  obtain ⟨A, c, h1, _⟩ := (h.two.rows.row _ hl).form
  exact ⟨A, c, h1, h1⟩

/-- Where the growing row is not: all others. -/
theorem other (h : Ph3 w1 w e eo sz m gr X L x vs lvs ns k) (b : Nat) (hb : x.ownBlock = some b) :
    (∀ b', X.ownBlock = some b' → b' ≠ b) ∧ (∀ j (hj : j < vs.length), j ≠ lvs.length → vs[j].ownBlock ≠ some b) ∧ L.ownBlock ≠ some b ∧ (∀ v ∈ lvs, v.ownBlock ≠ some b) ∧ (b < w1.heap.size → InRows vs b) := by
  rcases h.place with ⟨A, c, h1, h2⟩ | h1
  · have hvb : (vs[lvs.length]'h.lt).ownBlock = some b := by rw [h1]; rw [h2] at hb; cases A <;> exact hb
    have hin : InRows vs b := ⟨_, List.getElem_mem h.lt, hvb⟩
    have hlt := h.ph2.lt b hin
    refine ⟨fun b' h' e => h.ph2.two.away b' h' (e ▸ hin), fun j hj hne => h.ph2.two.rows.apart _ j h.lt hj b (fun e => hne e.symm) hvb, fun h' => ?_, fun v hv h' => ?_, fun _ => hin⟩
    · have := (h.ph2.fresh b h').1; omega
    · obtain ⟨j, hj, rfl⟩ := List.getElem_of_mem hv
      have hj' : j < vs.length := Nat.lt_of_lt_of_le hj h.ph2.many
      rcases h.ph2.from_ j hj hj' b h' with h'' | h''
      · exact h.ph2.two.rows.apart j _ hj' h.lt b (by omega) h'' hvb
      · omega
  · obtain ⟨h3, h4, h5⟩ := h1 b hb
    refine ⟨fun b' h' e => ?_, fun j hj _ h' => ?_, h5, h4, fun h' => by omega⟩
    · have := h.ph2.ltX b' h'; omega
    · have := h.ph2.lt b ⟨_, List.getElem_mem hj, h'⟩; omega

theorem kept0 (h : Ph3 w1 w e eo sz m gr X L x vs lvs ns k) (f : Fr no w w2) : Ph3 w1 w2 e eo sz m gr X L x vs lvs ns k :=
  ⟨⟨h.ph2.two.kept f (fun _ _ h => h) (fun _ _ h => h), h.ph2.long.kept0 f, h.ph2.many, fun j hj => (h.ph2.rows j hj).kept0 f, h.ph2.from_, h.ph2.fresh, h.ph2.fr.trans f (fun _ _ h => h.elim), h.ph2.ltX, h.ph2.lt⟩, h.lt, h.row.kept0 f, h.place⟩

/-- One more mark behind it. -/
theorem more (hm : ∀ i k, (m i k).length = sz) (h : Ph3 w1 w e eo sz m gr X L x vs lvs ns k) {x' : Value} (ho : Ow w2 e sz x' (ns lvs.length + k + 1) (mks m lvs.length (ns lvs.length) ++ mks m (-1 - lvs.length) k ++ m (-1 - lvs.length) k))
    (hold : Ow w2 e sz x (ns lvs.length + k) (mks m lvs.length (ns lvs.length) ++ mks m (-1 - lvs.length) k)) (f : Fr (fun b => x.ownBlock = some b) w w2) (st : Stays w w2 x x' (ns lvs.length + k) (ns lvs.length + k + 1)) :
    Ph3 w1 w2 e eo sz m gr X L x' vs lvs ns (k + 1) := by
  have hkeep : ∀ j (hj : j < vs.length), Ow w2 e sz vs[j] (ns j) (mks m j (ns j)) := by
    intro j hj
    by_cases hji : j = lvs.length
    · subst hji
      rcases h.place with ⟨A, c, h1, h2⟩ | h1
      · rw [h2] at hold
        have := hold.head (ns lvs.length) (by omega)
        rw [List.take_append_of_le_length (by rw [mks_len hm]; exact Nat.le_refl _), List.take_of_length_le (by rw [mks_len hm]; exact Nat.le_refl _)] at this
        rw [h1]; exact this
      · exact (h.ph2.two.rows.row _ hj).kept f (fun b hb hb2 => by have := (h1 b hb2).1; have := h.ph2.lt b ⟨_, List.getElem_mem hj, hb⟩; omega)
    · exact (h.ph2.two.rows.row _ hj).kept f (fun b hb hb2 => (h.other b hb2).2.1 j hj hji hb)
  refine ⟨⟨⟨h.ph2.two.out.kept f (fun b hb hb2 => (h.other b hb2).1 b hb rfl), h.ph2.two.away, hkeep, h.ph2.two.rows.apart⟩, h.ph2.long.kept f (fun b hb hb2 => (h.other b hb2).2.2.1 hb), h.ph2.many,
    fun j hj => (h.ph2.rows j hj).kept f (fun b hb hb2 => (h.other b hb2).2.2.2.1 _ (List.getElem_mem hj) hb), h.ph2.from_, h.ph2.fresh, h.ph2.fr.trans f (fun b hb hb2 => (h.other b hb2).2.2.2.2 hb), h.ph2.ltX, h.ph2.lt⟩, h.lt, ?_, ?_⟩
  · rw [mks_succ, ← List.append_assoc]; exact ho
  · rcases st with ⟨A, c, h1, h2⟩ | st
    · rcases h.place with ⟨A', c', h3, h4⟩ | h3
      · rw [h4] at h1; cases h1
        exact .inl ⟨A, c, h3, h2⟩
      · refine .inr fun b hb => h3 b ?_
        rw [h1]; rw [h2] at hb; cases A <;> exact hb
    · refine .inr fun b hb => ?_
      obtain ⟨h5, h6⟩ := st b hb
      have hs := h.ph2.fr.size
      refine ⟨by omega, fun v hv h' => ?_, fun h' => ?_⟩
      · obtain ⟨j, hj, rfl⟩ := List.getElem_of_mem hv
        have := (h.ph2.rows j hj).lt b h'; omega
      · have := h.ph2.long.lt b h'; omega

/-- The grown row laid into the long one. -/
theorem laid (h : Ph3 w1 w e eo sz m gr X L x vs lvs ns gr) {L' : Value} (ho : Ow w2 eo 1 L' (lvs.length + 1) (lvs ++ [x])) (f : Fr (fun b => L.ownBlock = some b) w w2) (st : Stays w w2 L L' lvs.length (lvs.length + 1)) :
    Ph2 w1 w2 e eo sz m gr X L' vs (lvs ++ [x]) ns := by
  have hL : ∀ b, L.ownBlock = some b → w1.heap.size ≤ b := fun b hb => (h.ph2.fresh b hb).1
  have hxL : ∀ b, x.ownBlock = some b → L.ownBlock ≠ some b := fun b hb => (h.other b hb).2.2.1
  refine ⟨h.ph2.two.kept f (fun b hb hb2 => by have := h.ph2.ltX b hb; have := hL b hb2; omega) (fun b hb hb2 => by have := h.ph2.lt b hb; have := hL b hb2; omega), by simpa using ho, by have := h.lt; simp; omega, ?_, ?_, ?_, h.ph2.fr.trans f (fun b hb hb2 => by have := hL b hb2; omega), h.ph2.ltX, h.ph2.lt⟩
  · intro j hj
    by_cases hj2 : j < lvs.length
    · rw [List.getElem_append_left hj2]
      exact (h.ph2.rows j hj2).kept f (fun b hb hb2 => (h.ph2.fresh b hb2).2 _ (List.getElem_mem hj2) hb)
    · obtain rfl : j = lvs.length := by simp at hj; omega
      simp only [List.getElem_concat_length]
      exact h.row.kept f (fun b hb hb2 => hxL b hb hb2)
  · intro j hj hj' b hb
    by_cases hj2 : j < lvs.length
    · rw [List.getElem_append_left hj2] at hb
      exact h.ph2.from_ j hj2 hj' b hb
    · obtain rfl : j = lvs.length := by simp at hj; omega
      simp only [List.getElem_concat_length] at hb
      rcases h.place with ⟨A, c, h1, h2⟩ | h1
      · left; rw [h1]; rw [h2] at hb; cases A <;> exact hb
      · exact .inr (h1 b hb).1
  · intro b hb
    rcases st with ⟨A, c, h1, h2⟩ | st
    · have hb' : L.ownBlock = some b := by rw [h1]; rw [h2] at hb; cases A <;> exact hb
      refine ⟨hL b hb', fun v hv h' => ?_⟩
      rcases List.mem_append.1 hv with hv | hv
      · exact (h.ph2.fresh b hb').2 v hv h'
      · simp at hv; subst hv; exact hxL b h' hb'
    · obtain ⟨h5, h6⟩ := st b hb
      have hs := h.ph2.fr.size
      refine ⟨by omega, fun v hv h' => ?_⟩
      rcases List.mem_append.1 hv with hv | hv
      · obtain ⟨j, hj, rfl⟩ := List.getElem_of_mem hv
        have := (h.ph2.rows j hj).lt b h'; omega
      · simp at hv; subst hv; have := h.row.lt b h'; omega
end Ph3

/-- The elements off, off + 1, .. of a slice. -/
def Shows (w : World) (sz : Nat) (v : Value) (off n : Nat) (f : Nat → List Value) : Prop :=
  0 < n → ∃ g c N, v = .slice (some ⟨g, 0, none⟩) N c ∧ off + n ≤ N ∧ N ≤ c ∧ ∀ k, k < n → ∀ (t : Nat) u, (f k)[t]? = some u → w.cell? ⟨g, (off + k) * sz + t, none⟩ = some u

theorem Shows.of {w : World} {e : TypeId} {sz n off k : Nat} {v : Value} {xs ys : List Value} {m : Int → Nat → List Value} {i : Int} (hm : ∀ i k, (m i k).length = sz) (h : Ow w e sz v n (xs ++ mks m i k ++ ys)) (hx : xs.length = off * sz) (hn : off + k ≤ n) : Shows w sz v off k (m i) := by
  intro hk
  obtain ⟨g, c, h1, h2, _, _, _, h3⟩ := h.cells 0 (by omega)
  refine ⟨g, c, n, h1, hn, h2, fun k' hk' t u hu => h3 _ _ ?_⟩
  have ht : t < sz := by have := (List.getElem?_eq_some_iff.1 hu).1; rw [hm] at this; exact this
  have hle : k' * sz + t < k * sz := by
    have : (k' + 1) * sz ≤ k * sz := Nat.mul_le_mul_right _ hk'
    rw [Nat.succ_mul] at this; omega
  rw [Nat.add_mul, Nat.add_assoc, List.append_assoc, List.getElem?_append_right (by omega), hx, Nat.add_sub_cancel_left, List.getElem?_append_left (by rw [mks_len hm]; exact hle), mks_get hm i k' k hk' t ht]
  exact hu

theorem Ph2.at {w1 w : World} {e eo : TypeId} {sz : Nat} {m : Int → Nat → List Value} {gr : Nat} {X L : Value} {vs lvs : List Value} {ns : Nat → Nat} (hm : ∀ i k, (m i k).length = sz) (h : Ph2 w1 w e eo sz m gr X L vs lvs ns) (j : Nat) (hj : j < vs.length) (hl : j < lvs.length) :
    Shows w sz vs[j] 0 (ns j) (m j) ∧ Shows w sz lvs[j] 0 (ns j) (m j) ∧ Shows w sz lvs[j] (ns j) gr (m (-1 - j)) := by
  refine ⟨Shows.of (xs := []) (ys := []) hm (by simpa using h.two.rows.row j hj) (by simp) (by omega), Shows.of (xs := []) (ys := mks m (-1 - j) gr) hm (by simpa using h.rows j hl) (by simp) (by omega), Shows.of (ys := []) hm (by simpa using h.rows j hl) (mks_len hm _ _) (Nat.le_refl _)⟩

/-- The marks of bytes. -/
def mB (i : Int) (k : Nat) : List Value := [.int .u8 ((i * 97 + (k : Int) * 13) % 256)]

theorem mB_len (i : Int) (k : Nat) : (mB i k).length = 1 := rfl

theorem take_set_mark {l : List Value} {m : Int → Nat → List Value} {i : Int} {k : Nat} {u : Value} (h : l.take k = mks m i k) (hk : k < l.length) (hu : m i k = [u]) : (l.set k u).take (k + 1) = mks m i (k + 1) := by
  rw [mks_succ, hu, ← h, List.take_succ_eq_append_getElem (by simpa using hk), List.take_set_of_le (Nat.le_refl _)]
  simp

set_option maxRecDepth 100000 in
set_option maxHeartbeats 4000000 in
theorem own_bytes (w : World) (A : Option Addr) (c : Nat) (vs : List Value) (ns : Nat → Nat) (C0 : Nat → List Value) (h : Two w 5 1 (.slice A vs.length c) vs ns C0) (hX : ∀ b, (Value.slice A vs.length c).ownBlock = some b → b < w.heap.size) (hvs : vs.length ≤ 1000000) (hns : ∀ j, ns j ≤ 140737488351232) :
    Calls Tryz.prog 42 #[.slice A vs.length c] w fun e w' => e = .returned (.bool true) ∧ Fr (InRows vs) w w' := by
  have H := Lib.hid h; have HLX := Lib.hid hX; have HNS := Lib.hid hns; clear h hX hns
  go_enter Tryz.func42, Tryz.ntmps42
  go_wp2
  go_loopw [3] (fun s wr => ∃ (i : Nat) (C : Nat → List Value), i ≤ vs.length ∧ s = .int .i64 i ∧ Two wr 5 1 (.slice A vs.length c) vs ns C ∧ Fr (InRows vs) w wr ∧ ∀ j, j < i → C j = mks mB j (ns j)) (fun s _ => vs.length - (intOf s).toNat)
  case atStart => exact ⟨0, C0, Nat.zero_le _, rfl, H.out, Fr.refl _ _, fun j h => by omega⟩
  case round =>
    obtain ⟨i, C, hi, rfl, ht, hf, hm⟩ := hrel
    have HT := Lib.hid ht; have HF := Lib.hid hf; have HM := Lib.hid hm; clear ht hf hm
    by_cases hlt : i < vs.length
    · go_wp2
      go_loopw [4] (fun s wr => ∃ (k : Nat) (C : Nat → List Value), k ≤ ns i ∧ s = .int .i64 k ∧ Two wr 5 1 (.slice A vs.length c) vs ns C ∧ Fr (InRows vs) w wr ∧ (∀ j, j < i → C j = mks mB j (ns j)) ∧ (C i).take k = mks mB i k) (fun s _ => 140737488351232 - (intOf s).toNat)
      case atStart => exact ⟨0, C, Nat.zero_le _, rfl, HT.out, HF.out, HM.out, by simp [mks]⟩
      case round =>
        obtain ⟨k, C, hk, rfl, ht, hf, hm, hmk⟩ := hrel
        have HT := Lib.hid ht; have HF := Lib.hid hf; have HM := Lib.hid hm; have HK := Lib.hid hmk; clear ht hf hm hmk
        have hk9 : ns i ≤ 140737488351232 := HNS.out i
        obtain ⟨b, o, hA, hcell⟩ := sl_at HT.out.out i hlt
        subst hA
        by_cases hkl : k < ns i
        · have hri := HT.out.rows.row i hlt
          obtain ⟨g, c', hv, _, _, hgl, hz, hcs⟩ := hri.cells k hkl
          have hkC : k < (C i).length := by rw [hri.1]; omega
          obtain ⟨cv, hcv⟩ : ∃ cv, (C i)[k]? = some cv := ⟨_, List.getElem?_eq_getElem hkC⟩
          have hc := hcs k _ hcv
          have hz := hz k
          rw [hv] at hcell
          have HV := Lib.hid hv; have HRI := Lib.hid hri; have HKC := Lib.hid hkC; clear hv hri hcs hkC hcv
          go_wp2
          go_roundw
          case rel =>
            obtain ⟨u, hu⟩ : ∃ u : Value, u = .int .u8 (((i : Int) * 97 + (k : Int) * 13) % 256) := ⟨_, rfl⟩
            rw [← hu]
            have hin : InRows vs g := ⟨vs[i], List.getElem_mem _, by rw [HV.out]; rfl⟩
            have hro : Ow (wr.setCell ⟨g, k, none⟩ u) 5 1 vs[i] (ns i) ((C i).set k u) := by
              have h := HRI.out
              rw [HV.out] at h ⊢
              exact h.set HKC.out u
            have hone := HT.out.rows.one i hlt (w1 := wr.setCell ⟨g, k, none⟩ u) ((Fr.refl _ wr).setCell _ _ (fun _ => by rw [HV.out]; rfl)) _ hro
            refine ⟨k + 1, _, hkl, by go_num, ⟨HT.out.out.kept (S := fun b => b = g) ((Fr.refl _ wr).setCell _ _ (fun _ => rfl)) (fun b' hb' e => HT.out.away b' hb' (by subst e; exact hin)), HT.out.away, hone⟩, HF.out.setCell _ _ (fun _ => hin), fun j hj => ?_, ?_⟩
            · simp only [show ¬ j = i by omega, if_false]
              exact HM.out j hj
            · simp only [if_true]
              exact take_set_mark HK.out HKC.out (by rw [hu]; rfl)
          case measure => simp [intOf]; omega
        · have hkk : k = ns i := by omega
          subst hkk
          obtain ⟨Ai, ci, hv, _, _⟩ := (HT.out.rows.row i hlt).form
          rw [hv] at hcell
          have HV := Lib.hid hv; clear hv
          go_wp2
          go_roundw
          case rel =>
            refine ⟨i + 1, C, hlt, by go_num, HT.out, HF.out, fun j hji => ?_⟩
            by_cases h : j = i
            · subst h
              have h2 := HK.out
              rw [List.take_of_length_le (by rw [(HT.out.rows.row j hlt).1]; omega)] at h2
              exact h2
            · exact HM.out j (by omega)
          case measure => simp [intOf]; omega
    · obtain rfl : i = vs.length := by omega
      clear hlt hi
      have HT1 := Lib.hid (show Two wr 5 1 (.slice A vs.length c) vs ns (fun j => mks mB j (ns j)) from ⟨HT.out.out, HT.out.away, HT.out.rows.congr HM.out⟩)
      clear HT HM
      obtain ⟨w1, rfl⟩ : ∃ w1 : World, w1 = wr := ⟨_, rfl⟩
      go_wp2
      go_loopw [5, 6] (fun L s wr => ∃ (lvs : List Value), s = .int .i64 lvs.length ∧ Ph2 w1 wr 5 27 1 mB 16 (.slice A vs.length c) L vs lvs ns) (fun _ s _ => vs.length - (intOf s).toNat)
      case atStart => exact ⟨[], rfl, HT1.out, ⟨rfl, .inl ⟨rfl, rfl⟩⟩, Nat.zero_le _, fun j h => by simp at h, fun j h => by simp at h, fun b h => by simp [Value.ownBlock] at h, Fr.refl _ _, fun b hb => Nat.lt_of_lt_of_le (HLX.out b hb) HF.out.size, HT1.out.rows.lt⟩
      case round =>
        obtain ⟨lvs, rfl, hp⟩ := hrel
        have hmany := hp.many
        have HP := Lib.hid hp; clear hp
        by_cases hlt : lvs.length < vs.length
        · obtain ⟨b, o, hA, hcell⟩ := sl_at HP.out.two.out lvs.length hlt
          subst hA
          have HS := Lib.hid (Ph3.start HP.out hlt)
          go_wp2
          go_loopw [7, 8] (fun x s wr => ∃ k : Nat, k ≤ 16 ∧ s = .int .i64 k ∧ Ph3 w1 wr 5 27 1 mB 16 (.slice (some ⟨b, o, none⟩) vs.length c) u5 x vs lvs ns k) (fun _ s _ => 16 - (intOf s).toNat)
          case atStart => exact ⟨0, Nat.zero_le _, rfl, HS.out⟩
          case round =>
            obtain ⟨k, hk, rfl, hp⟩ := hrel
            have HP := Lib.hid hp; clear hp
            have hn9 := HNS.out lvs.length
            by_cases hk16 : k < 16
            · go_wp2_with (at_builtin; refine wpList_apo rfl (.tmp 54) (.tmp 62) 27 rfl tbB (HP.out.kept0 ((Fr.refl no _).alloc _)).row (Sl.built wr _ _) rfl rfl (by simp [Value.oneCell']) ?b1 ?b2 ?go)
              case b1 => simp only [maxLen]; omega
              case b2 => omega
              case go =>
                intro A' N c' w2 hN ho hold hf2 hst
                subst hN
                have HPP := Lib.hid (Ph3.more mB_len (HP.out.kept0 ((Fr.refl no _).alloc _)) (by rw [← List.append_assoc] at ho; exact ho) hold hf2 hst)
                clear ho hold hf2 hst
                go_wp2
                go_roundw
                case rel => exact ⟨k + 1, by omega, by go_num, HPP.out⟩
                case measure => simp [intOf]; omega
            · obtain rfl : k = 16 := by omega
              obtain ⟨Ax, cx, hx, _, _⟩ := HP.out.row.form
              subst hx
              go_wp2_with (at_builtin; refine wpList_apo rfl (.tmp 64) (.tmp 66) 33 rfl tbRows (HP.out.kept0 ((Fr.refl no _).alloc _)).ph2.long (Sl.built wr _ _) rfl rfl ?b0 ?b1 ?b2 ?go)
              case b0 => simp [Value.oneCell']
              case b1 => simp only [maxLen]; omega
              case b2 => omega
              case go =>
                intro A' N c' w2 hN ho hold hf2 hst
                subst hN
                have HPP := Lib.hid (Ph3.laid (HP.out.kept0 ((Fr.refl no _).alloc _)) ho hf2 hst)
                clear ho hold hf2 hst
                go_wp2
                go_roundw
                case rel => exact ⟨lvs ++ [_], by simp, HPP.out⟩
                case measure => simp [intOf]; omega
        · have hle : lvs.length = vs.length := by omega
          have hrow := fun j (hj : j < vs.length) => Ph2.at mB_len HP.out j hj (by omega)
          have HR := Lib.hid hrow; clear hrow
          obtain ⟨AL, cL, hL, _, _⟩ := HP.out.long.form
          subst hL
          have HLL := Lib.hid HP.out.long.sl
          go_wp2
          go_loop [9] (fun s => ∃ i : Nat, i ≤ vs.length ∧ s = .int .i64 i) (fun s => vs.length - (intOf s).toNat)
          case atStart => exact ⟨0, Nat.zero_le _, rfl⟩
          case round =>
            obtain ⟨i, hi, rfl⟩ := hrel
            by_cases hlt2 : i < vs.length
            · obtain ⟨b, o, hA, hcell⟩ := sl_at HP.out.two.out i hlt2
              obtain ⟨b2, o2, hA2, hcell2⟩ := sl_at HLL.out i (by omega)
              subst hA; subst hA2
              obtain ⟨Ai, ci, hv, hci, _⟩ := (HP.out.two.rows.row i hlt2).form
              rw [hv] at hcell
              have HV := Lib.hid hv
              have hn9 := HNS.out i
              clear hv
              go_wp2
              go_loop [11] (fun s => ∃ k : Nat, k ≤ ns i ∧ s = .int .i64 k) (fun s => ns i - (intOf s).toNat)
              case atStart => exact ⟨0, Nat.zero_le _, rfl⟩
              case round =>
                obtain ⟨k, hk, rfl⟩ := hrel
                by_cases hkl : k < ns i
                · obtain ⟨g, c1, N1, e1, _, _, q1⟩ := (HR.out i hlt2).1 (by omega)
                  obtain ⟨g2, c2, N2, e2, _, _, q2⟩ := (HR.out i hlt2).2.1 (by omega)
                  replace q1 := q1 k hkl 0 _ rfl
                  replace q2 := q2 k hkl 0 _ rfl
                  simp only [Nat.zero_add, Nat.mul_one, Nat.add_zero] at q1 q2
                  rw [HV.out] at e1
                  rw [e2] at hcell2
                  have HV2 := Lib.hid e2; clear e2
                  cases e1
                  go_wp2
                  go_round
                  case rel => exact ⟨k + 1, hkl, by go_num⟩
                  case measure => simp [intOf]; omega
                · obtain rfl : k = ns i := by omega
                  go_wp2
                  go_loop [12] (fun s => ∃ k : Nat, k ≤ 16 ∧ s = .int .i64 k) (fun s => 16 - (intOf s).toNat)
                  case atStart => exact ⟨0, Nat.zero_le _, rfl⟩
                  case round =>
                    obtain ⟨k, hk, rfl⟩ := hrel
                    by_cases hkl : k < 16
                    · obtain ⟨g2, c2, N2, e2, _, _, q2⟩ := (HR.out i hlt2).2.2 (by omega)
                      replace q2 := q2 k hkl 0 _ rfl
                      simp only [Nat.mul_one, Nat.add_zero] at q2
                      rw [e2] at hcell2
                      have HV2 := Lib.hid e2; clear e2
                      go_wp2
                      go_round
                      case rel => exact ⟨k + 1, hkl, by go_num⟩
                      case measure => simp [intOf]; omega
                    · go_wp2
                      go_round
                      case rel => exact ⟨i + 1, hlt2, by go_num⟩
                      case measure => simp [intOf]; omega
            · go_wp2
              go_ret
              exact ⟨rfl, HF.out.trans HP.out.fr (fun _ _ h => h)⟩
end Go.Proofs.YtgcicljklejmjaaGreatDoor

/- The owner's check on lists that are not there. -/
namespace Go.Proofs.YtgcicljklejmjaaGreatDoor
open Go.RowKit

set_option maxRecDepth 100000 in
set_option maxHeartbeats 400000 in
theorem ownBytes_nil (w : World) : Calls Tryz.prog 42 #[.slice none 0 0] w fun e w' => e = .returned (.bool true) ∧ w' = w := by
  go_enter Tryz.func42, Tryz.ntmps42
  go_wp2
  go_loop [3] (fun i => i = .int .i64 0) (fun _ => 0)
  case atStart => rfl
  case round =>
    subst hrel
    go_wp2
    go_loop [6] (fun i => i = .int .i64 0) (fun _ => 0)
    case atStart => rfl
    case round =>
      subst hrel
      go_wp2
      go_loop [9] (fun i => i = .int .i64 0) (fun _ => 0)
      case atStart => rfl
      case round =>
        subst hrel
        go_wp2
        go_ret
        exact ⟨rfl, rfl⟩

set_option maxRecDepth 100000 in
set_option maxHeartbeats 400000 in
theorem ownTexts_nil (w : World) : Calls Tryz.prog 43 #[.slice none 0 0] w fun e w' => e = .returned (.bool true) ∧ w' = w := by
  go_enter Tryz.func43, Tryz.ntmps43
  go_wp2
  go_loop [3] (fun i => i = .int .i64 0) (fun _ => 0)
  case atStart => rfl
  case round =>
    subst hrel
    go_wp2
    go_loop [6] (fun i => i = .int .i64 0) (fun _ => 0)
    case atStart => rfl
    case round =>
      subst hrel
      go_wp2
      go_loop [9] (fun i => i = .int .i64 0) (fun _ => 0)
      case atStart => rfl
      case round =>
        subst hrel
        go_wp2
        go_ret
        exact ⟨rfl, rfl⟩

set_option maxRecDepth 100000 in
set_option maxHeartbeats 400000 in
theorem ownInts_nil (w : World) : Calls Tryz.prog 44 #[.slice none 0 0] w fun e w' => e = .returned (.bool true) ∧ w' = w := by
  go_enter Tryz.func44, Tryz.ntmps44
  go_wp2
  go_loop [3] (fun i => i = .int .i64 0) (fun _ => 0)
  case atStart => rfl
  case round =>
    subst hrel
    go_wp2
    go_loop [6] (fun i => i = .int .i64 0) (fun _ => 0)
    case atStart => rfl
    case round =>
      subst hrel
      go_wp2
      go_loop [9] (fun i => i = .int .i64 0) (fun _ => 0)
      case atStart => rfl
      case round =>
        subst hrel
        go_wp2
        go_ret
        exact ⟨rfl, rfl⟩

set_option maxRecDepth 100000 in
set_option maxHeartbeats 400000 in
theorem ownLongs_nil (w : World) : Calls Tryz.prog 45 #[.slice none 0 0] w fun e w' => e = .returned (.bool true) ∧ w' = w := by
  go_enter Tryz.func45, Tryz.ntmps45
  go_wp2
  go_loop [3] (fun i => i = .int .i64 0) (fun _ => 0)
  case atStart => rfl
  case round =>
    subst hrel
    go_wp2
    go_loop [6] (fun i => i = .int .i64 0) (fun _ => 0)
    case atStart => rfl
    case round =>
      subst hrel
      go_wp2
      go_loop [9] (fun i => i = .int .i64 0) (fun _ => 0)
      case atStart => rfl
      case round =>
        subst hrel
        go_wp2
        go_ret
        exact ⟨rfl, rfl⟩

set_option maxRecDepth 100000 in
set_option maxHeartbeats 400000 in
theorem ownNumbers_nil (w : World) : Calls Tryz.prog 46 #[.slice none 0 0] w fun e w' => e = .returned (.bool true) ∧ w' = w := by
  go_enter Tryz.func46, Tryz.ntmps46
  go_wp2
  go_loop [3] (fun i => i = .int .i64 0) (fun _ => 0)
  case atStart => rfl
  case round =>
    subst hrel
    go_wp2
    go_loop [6] (fun i => i = .int .i64 0) (fun _ => 0)
    case atStart => rfl
    case round =>
      subst hrel
      go_wp2
      go_loop [9] (fun i => i = .int .i64 0) (fun _ => 0)
      case atStart => rfl
      case round =>
        subst hrel
        go_wp2
        go_ret
        exact ⟨rfl, rfl⟩

set_option maxRecDepth 100000 in
set_option maxHeartbeats 400000 in
theorem ownWords_nil (w : World) : Calls Tryz.prog 47 #[.slice none 0 0] w fun e w' => e = .returned (.bool true) ∧ w' = w := by
  go_enter Tryz.func47, Tryz.ntmps47
  go_wp2
  go_loop [3] (fun i => i = .int .i64 0) (fun _ => 0)
  case atStart => rfl
  case round =>
    subst hrel
    go_wp2
    go_loop [6] (fun i => i = .int .i64 0) (fun _ => 0)
    case atStart => rfl
    case round =>
      subst hrel
      go_wp2
      go_loop [9] (fun i => i = .int .i64 0) (fun _ => 0)
      case atStart => rfl
      case round =>
        subst hrel
        go_wp2
        go_ret
        exact ⟨rfl, rfl⟩

set_option maxRecDepth 100000 in
set_option maxHeartbeats 400000 in
theorem ownSteps_nil (w : World) : Calls Tryz.prog 48 #[.slice none 0 0] w fun e w' => e = .returned (.bool true) ∧ w' = w := by
  go_enter Tryz.func48, Tryz.ntmps48
  go_wp2
  go_loop [3] (fun i => i = .int .i64 0) (fun _ => 0)
  case atStart => rfl
  case round =>
    subst hrel
    go_wp2
    go_loop [6] (fun i => i = .int .i64 0) (fun _ => 0)
    case atStart => rfl
    case round =>
      subst hrel
      go_wp2
      go_loop [9] (fun i => i = .int .i64 0) (fun _ => 0)
      case atStart => rfl
      case round =>
        subst hrel
        go_wp2
        go_ret
        exact ⟨rfl, rfl⟩

set_option maxRecDepth 100000 in
set_option maxHeartbeats 400000 in
theorem ownParts_nil (w : World) : Calls Tryz.prog 49 #[.slice none 0 0] w fun e w' => e = .returned (.bool true) ∧ w' = w := by
  go_enter Tryz.func49, Tryz.ntmps49
  go_wp2
  go_loop [3] (fun i => i = .int .i64 0) (fun _ => 0)
  case atStart => rfl
  case round =>
    subst hrel
    go_wp2
    go_loop [6] (fun i => i = .int .i64 0) (fun _ => 0)
    case atStart => rfl
    case round =>
      subst hrel
      go_wp2
      go_loop [9] (fun i => i = .int .i64 0) (fun _ => 0)
      case atStart => rfl
      case round =>
        subst hrel
        go_wp2
        go_ret
        exact ⟨rfl, rfl⟩

set_option maxRecDepth 100000 in
set_option maxHeartbeats 400000 in
theorem ownDones_nil (w : World) : Calls Tryz.prog 50 #[.slice none 0 0] w fun e w' => e = .returned (.bool true) ∧ w' = w := by
  go_enter Tryz.func50, Tryz.ntmps50
  go_wp2
  go_loop [3] (fun i => i = .int .i64 0) (fun _ => 0)
  case atStart => rfl
  case round =>
    subst hrel
    go_wp2
    go_loop [6] (fun i => i = .int .i64 0) (fun _ => 0)
    case atStart => rfl
    case round =>
      subst hrel
      go_wp2
      go_loop [9] (fun i => i = .int .i64 0) (fun _ => 0)
      case atStart => rfl
      case round =>
        subst hrel
        go_wp2
        go_ret
        exact ⟨rfl, rfl⟩

set_option maxRecDepth 100000 in
set_option maxHeartbeats 400000 in
theorem ownRows_nil (w : World) : Calls Tryz.prog 51 #[.slice none 0 0] w fun e w' => e = .returned (.bool true) ∧ w' = w := by
  go_enter Tryz.func51, Tryz.ntmps51
  go_wp2
  go_loop [3] (fun i => i = .int .i64 0) (fun _ => 0)
  case atStart => rfl
  case round =>
    subst hrel
    go_wp2
    go_loop [6] (fun i => i = .int .i64 0) (fun _ => 0)
    case atStart => rfl
    case round =>
      subst hrel
      go_wp2
      go_loop [9] (fun i => i = .int .i64 0) (fun _ => 0)
      case atStart => rfl
      case round =>
        subst hrel
        go_wp2
        go_ret
        exact ⟨rfl, rfl⟩

set_option maxRecDepth 100000 in
set_option maxHeartbeats 400000 in
theorem ownLists_nil (w : World) : Calls Tryz.prog 52 #[.slice none 0 0] w fun e w' => e = .returned (.bool true) ∧ w' = w := by
  go_enter Tryz.func52, Tryz.ntmps52
  go_wp2
  go_loop [3] (fun i => i = .int .i64 0) (fun _ => 0)
  case atStart => rfl
  case round =>
    subst hrel
    go_wp2
    go_loop [6] (fun i => i = .int .i64 0) (fun _ => 0)
    case atStart => rfl
    case round =>
      subst hrel
      go_wp2
      go_loop [9] (fun i => i = .int .i64 0) (fun _ => 0)
      case atStart => rfl
      case round =>
        subst hrel
        go_wp2
        go_ret
        exact ⟨rfl, rfl⟩

set_option maxRecDepth 100000 in
set_option maxHeartbeats 400000 in
theorem ownIntLists_nil (w : World) : Calls Tryz.prog 53 #[.slice none 0 0] w fun e w' => e = .returned (.bool true) ∧ w' = w := by
  go_enter Tryz.func53, Tryz.ntmps53
  go_wp2
  go_loop [3] (fun i => i = .int .i64 0) (fun _ => 0)
  case atStart => rfl
  case round =>
    subst hrel
    go_wp2
    go_loop [6] (fun i => i = .int .i64 0) (fun _ => 0)
    case atStart => rfl
    case round =>
      subst hrel
      go_wp2
      go_loop [9] (fun i => i = .int .i64 0) (fun _ => 0)
      case atStart => rfl
      case round =>
        subst hrel
        go_wp2
        go_ret
        exact ⟨rfl, rfl⟩

set_option maxRecDepth 100000 in
set_option maxHeartbeats 400000 in
theorem ownPaths_nil (w : World) : Calls Tryz.prog 54 #[.slice none 0 0] w fun e w' => e = .returned (.bool true) ∧ w' = w := by
  go_enter Tryz.func54, Tryz.ntmps54
  go_wp2
  go_loop [3] (fun i => i = .int .i64 0) (fun _ => 0)
  case atStart => rfl
  case round =>
    subst hrel
    go_wp2
    go_loop [6] (fun i => i = .int .i64 0) (fun _ => 0)
    case atStart => rfl
    case round =>
      subst hrel
      go_wp2
      go_loop [9] (fun i => i = .int .i64 0) (fun _ => 0)
      case atStart => rfl
      case round =>
        subst hrel
        go_wp2
        go_ret
        exact ⟨rfl, rfl⟩

set_option maxRecDepth 100000 in
set_option maxHeartbeats 400000 in
theorem ownPairs_nil (w : World) : Calls Tryz.prog 55 #[.slice none 0 0] w fun e w' => e = .returned (.bool true) ∧ w' = w := by
  go_enter Tryz.func55, Tryz.ntmps55
  go_wp2
  go_loop [3] (fun i => i = .int .i64 0) (fun _ => 0)
  case atStart => rfl
  case round =>
    subst hrel
    go_wp2
    go_loop [6] (fun i => i = .int .i64 0) (fun _ => 0)
    case atStart => rfl
    case round =>
      subst hrel
      go_wp2
      go_loop [9] (fun i => i = .int .i64 0) (fun _ => 0)
      case atStart => rfl
      case round =>
        subst hrel
        go_wp2
        go_ret
        exact ⟨rfl, rfl⟩

set_option maxRecDepth 100000 in
set_option maxHeartbeats 400000 in
theorem ownChanges_nil (w : World) : Calls Tryz.prog 56 #[.slice none 0 0] w fun e w' => e = .returned (.bool true) ∧ w' = w := by
  go_enter Tryz.func56, Tryz.ntmps56
  go_wp2
  go_loop [3] (fun i => i = .int .i64 0) (fun _ => 0)
  case atStart => rfl
  case round =>
    subst hrel
    go_wp2
    go_loop [6] (fun i => i = .int .i64 0) (fun _ => 0)
    case atStart => rfl
    case round =>
      subst hrel
      go_wp2
      go_loop [9] (fun i => i = .int .i64 0) (fun _ => 0)
      case atStart => rfl
      case round =>
        subst hrel
        go_wp2
        go_ret
        exact ⟨rfl, rfl⟩

set_option maxRecDepth 100000 in
set_option maxHeartbeats 400000 in
theorem ownSpans_nil (w : World) : Calls Tryz.prog 57 #[.slice none 0 0] w fun e w' => e = .returned (.bool true) ∧ w' = w := by
  go_enter Tryz.func57, Tryz.ntmps57
  go_wp2
  go_loop [3] (fun i => i = .int .i64 0) (fun _ => 0)
  case atStart => rfl
  case round =>
    subst hrel
    go_wp2
    go_loop [6] (fun i => i = .int .i64 0) (fun _ => 0)
    case atStart => rfl
    case round =>
      subst hrel
      go_wp2
      go_loop [9] (fun i => i = .int .i64 0) (fun _ => 0)
      case atStart => rfl
      case round =>
        subst hrel
        go_wp2
        go_ret
        exact ⟨rfl, rfl⟩

set_option maxRecDepth 100000 in
set_option maxHeartbeats 400000 in
theorem ownEntries_nil (w : World) : Calls Tryz.prog 58 #[.slice none 0 0] w fun e w' => e = .returned (.bool true) ∧ w' = w := by
  go_enter Tryz.func58, Tryz.ntmps58
  go_wp2
  go_loop [3] (fun i => i = .int .i64 0) (fun _ => 0)
  case atStart => rfl
  case round =>
    subst hrel
    go_wp2
    go_loop [6] (fun i => i = .int .i64 0) (fun _ => 0)
    case atStart => rfl
    case round =>
      subst hrel
      go_wp2
      go_loop [9] (fun i => i = .int .i64 0) (fun _ => 0)
      case atStart => rfl
      case round =>
        subst hrel
        go_wp2
        go_ret
        exact ⟨rfl, rfl⟩

set_option maxRecDepth 100000 in
set_option maxHeartbeats 400000 in
theorem ownValues_nil (w : World) : Calls Tryz.prog 60 #[.slice none 0 0] w fun e w' => e = .returned (.bool true) ∧ w' = w := by
  go_enter Tryz.func60, Tryz.ntmps60
  go_wp2
  go_loop [3] (fun i => i = .int .i64 0) (fun _ => 0)
  case atStart => rfl
  case round =>
    subst hrel
    go_wp2
    go_loop [6] (fun i => i = .int .i64 0) (fun _ => 0)
    case atStart => rfl
    case round =>
      subst hrel
      go_wp2
      go_loop [9] (fun i => i = .int .i64 0) (fun _ => 0)
      case atStart => rfl
      case round =>
        subst hrel
        go_wp2
        go_ret
        exact ⟨rfl, rfl⟩

set_option maxRecDepth 100000 in
set_option maxHeartbeats 400000 in
theorem ownFields_nil (w : World) : Calls Tryz.prog 61 #[.slice none 0 0] w fun e w' => e = .returned (.bool true) ∧ w' = w := by
  go_enter Tryz.func61, Tryz.ntmps61
  go_wp2
  go_loop [3] (fun i => i = .int .i64 0) (fun _ => 0)
  case atStart => rfl
  case round =>
    subst hrel
    go_wp2
    go_loop [6] (fun i => i = .int .i64 0) (fun _ => 0)
    case atStart => rfl
    case round =>
      subst hrel
      go_wp2
      go_loop [9] (fun i => i = .int .i64 0) (fun _ => 0)
      case atStart => rfl
      case round =>
        subst hrel
        go_wp2
        go_ret
        exact ⟨rfl, rfl⟩

set_option maxRecDepth 100000 in
set_option maxHeartbeats 400000 in
theorem ownIndexes_nil (w : World) : Calls Tryz.prog 62 #[.slice none 0 0] w fun e w' => e = .returned (.bool true) ∧ w' = w := by
  go_enter Tryz.func62, Tryz.ntmps62
  go_wp2
  go_loop [3] (fun i => i = .int .i64 0) (fun _ => 0)
  case atStart => rfl
  case round =>
    subst hrel
    go_wp2
    go_loop [6] (fun i => i = .int .i64 0) (fun _ => 0)
    case atStart => rfl
    case round =>
      subst hrel
      go_wp2
      go_loop [9] (fun i => i = .int .i64 0) (fun _ => 0)
      case atStart => rfl
      case round =>
        subst hrel
        go_wp2
        go_ret
        exact ⟨rfl, rfl⟩

set_option maxRecDepth 100000 in
set_option maxHeartbeats 400000 in
theorem ownEvents_nil (w : World) : Calls Tryz.prog 63 #[.slice none 0 0] w fun e w' => e = .returned (.bool true) ∧ w' = w := by
  go_enter Tryz.func63, Tryz.ntmps63
  go_wp2
  go_loop [3] (fun i => i = .int .i64 0) (fun _ => 0)
  case atStart => rfl
  case round =>
    subst hrel
    go_wp2
    go_loop [6] (fun i => i = .int .i64 0) (fun _ => 0)
    case atStart => rfl
    case round =>
      subst hrel
      go_wp2
      go_loop [9] (fun i => i = .int .i64 0) (fun _ => 0)
      case atStart => rfl
      case round =>
        subst hrel
        go_wp2
        go_ret
        exact ⟨rfl, rfl⟩

set_option maxRecDepth 100000 in
set_option maxHeartbeats 400000 in
theorem ownCommits_nil (w : World) : Calls Tryz.prog 64 #[.slice none 0 0] w fun e w' => e = .returned (.bool true) ∧ w' = w := by
  go_enter Tryz.func64, Tryz.ntmps64
  go_wp2
  go_loop [3] (fun i => i = .int .i64 0) (fun _ => 0)
  case atStart => rfl
  case round =>
    subst hrel
    go_wp2
    go_loop [6] (fun i => i = .int .i64 0) (fun _ => 0)
    case atStart => rfl
    case round =>
      subst hrel
      go_wp2
      go_loop [9] (fun i => i = .int .i64 0) (fun _ => 0)
      case atStart => rfl
      case round =>
        subst hrel
        go_wp2
        go_ret
        exact ⟨rfl, rfl⟩

end Go.Proofs.YtgcicljklejmjaaGreatDoor
