import Derived.Test.YtijcleiekafoiaaGreatDoorMb07

/- value.own, of a value of a right shape. -/
namespace Go.Proofs.YtijcleiekafoiaaGreatDoor
open Go.RowKit
open Tr

theorem rises_iff {α : Type} : ∀ (p : Option (List UInt8)) (l : List (List UInt8 × Tr α)), risesF p l = true ↔ (∀ k (h : k < l.length), nameV l[k].1 = true) ∧ (∀ q, p = some q → ∀ h : 0 < l.length, cb q l[0].1 < 0) ∧ ∀ k (h : k + 1 < l.length), cb l[k].1 l[k + 1].1 < 0
  | _, [] => by simp [risesF]
  | p, x :: l => by
    unfold risesF
    rw [Bool.and_eq_true, Bool.and_eq_true, rises_iff (some x.1) l]
    constructor
    · rintro ⟨⟨h1, h2⟩, h3, h4, h5⟩
      refine ⟨fun k hk => ?_, fun q hq _ => ?_, fun k hk => ?_⟩
      · cases k with
        | zero => exact h1
        | succ k => exact h3 k (by simpa using hk)
      · subst hq; simpa using h2
      · cases k with
        | zero => exact h4 x.1 rfl (by simpa using hk)
        | succ k => exact h5 k (by simpa using hk)
    · rintro ⟨h1, h2, h3⟩
      refine ⟨⟨h1 0 (by simp), ?_⟩, fun k hk => h1 (k + 1) (by simp; omega), fun q hq hl => ?_, fun k hk => h3 (k + 1) (by simp; omega)⟩
      · cases p with
        | none => rfl
        | some q =>
          have := h2 q rfl (by simp)
          simp only [List.getElem_cons_zero] at this
          exact decide_eq_true this
      · cases hq; exact h3 0 (by simpa using hl)

theorem own_rises {x : Tr Mm} (hs : shapeV x = true) (h : risesF none x.f = false) : own x = 30 := by
  unfold own
  rw [if_neg (by rw [hs]; exact Bool.noConfusion), if_pos h]

theorem last_step {α : Type} {f : List (List UInt8 × Tr α)} {m : Nat} {hm : m + 1 < f.length} (h1 : ∀ k (h : k + 1 < f.length), k + 1 < m + 1 → cb f[k].1 f[k + 1].1 < 0) (h2 : 0 < cb f[m + 1].1 f[m].1) (k : Nat) (hk : k + 1 < f.length) (h : k + 1 < m + 1 + 1) : cb f[k].1 f[k + 1].1 < 0 := by
  by_cases h3 : k + 1 < m + 1
  · exact h1 k hk h3
  · obtain rfl : k = m := by omega
    rw [cb_swap]; omega

set_option maxRecDepth 100000 in
set_option maxHeartbeats 8000000 in
theorem own_good (w : World) (x : Tr Mm) {BA LA FA : Option Addr} {bc lc fc : Nat} (hfo : Forms x BA bc LA lc FA fc) (hx : Tr.Good w x) (hT : Tabs w)
    (hba : ∀ W, Fr no w W → Calls Tryz.prog 111 #[.agg #[.int .u8 x.k.toNat, .bool x.b, .int .i64 x.i, .string ⟨x.t.toArray⟩, .slice BA x.bs.length bc, .slice LA x.l.length lc, .slice FA x.f.length fc]] W fun e w' => e = .returned (.agg #[.int .u8 x.k.toNat, .bool x.b, .int .i64 x.i, .string ⟨x.t.toArray⟩, .slice none 0 0, .slice none 0 0, .slice none 0 0]) ∧ Fr no W w')
    (hs : shapeV x = true) :
    Calls Tryz.prog 71 #[.agg #[.int .u8 x.k.toNat, .bool x.b, .int .i64 x.i, .string ⟨x.t.toArray⟩, .slice BA x.bs.length bc, .slice LA x.l.length lc, .slice FA x.f.length fc]] w fun e w' => e = .returned (.int .u16 (own x)) ∧ Fr no w w' := by
  have HBA := Lib.hid hba; have HX := Lib.hid hx; have HT := Lib.hid hT; have HFO := Lib.hid hfo; have HS := Lib.hid hs
  have hnf : x.f.length ≤ 140737488351232 := hx.node.f
  obtain ⟨⟨hk1, hk2⟩, -, -, -, s5, s6, s7⟩ := shape_parts hs
  have d1 : decide ((x.k.toNat : Int) < 1) = false := decide_eq_false (by have := UInt8.le_iff_toNat_le.1 hk1; simp at this; omega)
  have d2 : decide (7 < (x.k.toNat : Int)) = false := decide_eq_false (by have := UInt8.le_iff_toNat_le.1 hk2; simp at this; omega)
  have k5 : ((x.k.toNat : Int) == 5) = (x.k == 5) := kk x.k 5
  have k6 : ((x.k.toNat : Int) == 6) = (x.k == 6) := kk x.k 6
  have k7 : ((x.k.toNat : Int) == 7) = (x.k == 7) := kk x.k 7
  clear hba hx hT hfo hs hk1 hk2
  have pf : x.f = [] ∨ (x.f ≠ [] ∧ x.k = 7) := Classical.byCases (fun h : x.f = [] => .inl h) (fun h => .inr ⟨h, Classical.byContradiction fun h2 => h (s7 h2)⟩)
  have pl : x.l = [] ∨ (x.l ≠ [] ∧ x.k = 6) := Classical.byCases (fun h : x.l = [] => .inl h) (fun h => .inr ⟨h, Classical.byContradiction fun h2 => h (s6 h2)⟩)
  have pb : x.bs = [] ∨ (x.bs ≠ [] ∧ x.k = 5) := Classical.byCases (fun h : x.bs = [] => .inl h) (fun h => .inr ⟨h, Classical.byContradiction fun h2 => h (s5 h2)⟩)
  clear s5 s6 s7
  have lz : ∀ {α : Type} (l : List α), l = [] → ((l.length : Int) == 0) = true := fun l h => by rw [h]; rfl
  have nz : ∀ {α : Type} (l : List α), l ≠ [] → ((l.length : Int) == 0) = false := fun l h => by cases l with | nil => exact absurd rfl h | cons a l => simp; omega
  rcases (show (x.bs = [] ∧ x.l = [] ∧ x.f = []) ∨ (x.k = 5 ∧ x.bs ≠ [] ∧ x.l = [] ∧ x.f = []) ∨ (x.k = 6 ∧ x.bs = [] ∧ x.l ≠ [] ∧ x.f = []) ∨ (x.k = 7 ∧ x.bs = [] ∧ x.l = [] ∧ x.f ≠ []) by
    rcases pb with h5 | ⟨n5, h5⟩
    · rcases pl with h6 | ⟨n6, h6⟩
      · rcases pf with h7 | ⟨n7, h7⟩
        · exact .inl ⟨h5, h6, h7⟩
        · exact .inr (.inr (.inr ⟨h7, h5, h6, n7⟩))
      · exact .inr (.inr (.inl ⟨h6, h5, n6, pf.resolve_right (by rw [h6]; exact fun h => absurd h.2 (by decide))⟩))
    · exact .inr (.inl ⟨h5, n5, pl.resolve_right (by rw [h5]; exact fun h => absurd h.2 (by decide)), pf.resolve_right (by rw [h5]; exact fun h => absurd h.2 (by decide))⟩)) with ⟨h1, h2, h3⟩ | ⟨h0, h1, h2, h3⟩ | ⟨h0, h1, h2, h3⟩ | ⟨h0, h1, h2, h3⟩
  · have p5 := lz x.bs h1; have p6 := lz x.l h2; have p7 := lz x.f h3
    clear pf pl pb lz nz h1 h2 h3
    go_enter Tryz.func71, Tryz.ntmps71
    go_wp2_with fail
    refine (HBA.out _ (by (repeat first | exact Fr.refl _ _ | exact Fr.drewN _ _ _ | apply Fr.drew | apply Fr.alloc | apply Fr.setAt | apply Fr.moreN))).mono ?_
    rintro e w1 ⟨rfl, f1⟩
    have F1 := Lib.hid (Fr.trans (by (repeat first | exact Fr.refl _ _ | exact Fr.drewN _ _ _ | apply Fr.drew | apply Fr.alloc | apply Fr.setAt | apply Fr.moreN) : Fr no w _) f1 (fun _ _ h => h))
    have hb0 := f1.heap (heap_alloc_new w _) (fun h => h)
    have HB0 := Lib.hid hb0
    have hbl := (Array.getElem?_eq_some_iff.1 hb0).1
    have q0 := cell_of_row w1 w.heap.size 0 _ _ (0, 0) hb0
    have q1 := cell_of_row w1 w.heap.size 1 _ _ (0, 0) hb0
    have q2 := cell_of_row w1 w.heap.size 2 _ _ (0, 0) hb0
    have q3 := cell_of_row w1 w.heap.size 3 _ _ (0, 0) hb0
    have q4 := cell_of_row w1 w.heap.size 4 _ _ (0, 0) hb0
    have q5 := cell_of_row w1 w.heap.size 5 _ _ (0, 0) hb0
    have q6 := cell_of_row w1 w.heap.size 6 _ _ (0, 0) hb0
    simp only [List.getElem?_toArray, List.getElem?_cons_succ, List.getElem?_cons_zero] at q0 q1 q2 q3 q4 q5 q6
    clear f1 hb0
    go_wp2
    clear d1 d2 k5 k6 k7 p5 p6 p7
    go_loopw [79] (fun iv wr => ∃ j : Nat, j ≤ x.f.length ∧ iv = .int .i64 j ∧ Fr no w1 wr ∧ (∀ k (h : k < x.f.length), k < j → nameV x.f[k].1 = true) ∧ ∀ k (h : k + 1 < x.f.length), k + 1 < j → cb x.f[k].1 x.f[k + 1].1 < 0) (fun iv _ => x.f.length - (intOf iv).toNat)
    case atStart => exact ⟨0, Nat.zero_le _, rfl, by (repeat first | exact Fr.refl _ _ | exact Fr.drewN _ _ _ | apply Fr.drew | apply Fr.alloc | apply Fr.setAt | apply Fr.moreN), fun k _ h => by omega, fun k _ h => by omega⟩
    case round =>
      obtain ⟨j, hj, rfl, hf, hna, hri⟩ := hrel
      have HF := Lib.hid hf; have HNA := Lib.hid hna; have HRI := Lib.hid hri; clear hf hna hri q0 q1 q2 q3 q4 q5 q6 hbl
      have hb0 := HF.out.heap HB0.out (fun h => h)
      have hbl := (Array.getElem?_eq_some_iff.1 hb0).1
      by_cases hlt : j < x.f.length
      · have hin := (HX.out.kept0 (F1.out.trans HF.out (fun _ _ h => h))).inF; rw [HFO.out.F] at hin
        have HIN := Lib.hid hin; clear hin
        have q6 := cell_of_row wr w.heap.size 6 _ _ (0, 0) hb0
        simp only [List.getElem?_toArray, List.getElem?_cons_succ, List.getElem?_cons_zero] at q6
        clear hb0
        cases hnv : nameV x.f[j].1 with
        | false =>
          obtain ⟨b, o, KB, kb, KL, kl, KF, kf, hA, -, r0, r1, r2, r3, r4, r5, r6, r7, hbl2⟩ := HIN.out.get j hlt
          subst hA
          have HNV := Lib.hid hnv; clear hnv
          go_wp2_with fail
          refine wp_region_ord (List.range 20) (fun i => [Kd.p, Kd.l, Kd.e, Kd.p, Kd.p, Kd.p, Kd.p, Kd.p, Kd.p, Kd.l, Kd.p, Kd.l, Kd.p, Kd.p, Kd.p, Kd.p, Kd.l, Kd.p, Kd.p, Kd.p].getD i .e) (by kernel_rfl) (by kernel_rfl) ?_
          iterate 2
            first | (refine wpX_un rfl rfl ?_; go_simp) | first | refine wpX_pu rfl rfl rfl (by first | exact pu_move rfl | exact pu_assign rfl | exact pu_nilCheck rfl rfl | exact pu_binInt rfl rfl rfl | exact pu_conv rfl rfl (by kernel_rfl) | exact pu_fld rfl (by kernel_rfl) | exact pu_ix rfl rfl rfl (by kernel_rfl) | exact pu_unOp rfl | exact pu_binStr rfl rfl rfl | exact pu_len rfl rfl | exact pu_lens rfl rfl | exact pu_pick rfl | exact pu_slice rfl rfl) (fun K hK => ?_) | refine wpX_rd rfl rfl rfl (rd_load rfl) (fun K hK => ?_) | refine wpX_gr rfl rfl rfl (by first | exact gr_buildSlice rfl | exact gr_box rfl | exact gr_alloc rfl) (fun K hK => ?_) | refine wpX_ex rfl rfl rfl (fun K hK => ?_)
            try go_wp2
          refine wpX_ex rfl rfl rfl (fun K hK => ?_)
          go_wp2_with fail
          refine (name_any _ x.f[j].1 (HX.out.node.n _ (List.getElem_mem _)) (HT.out.kept0 ((F1.out.trans HF.out (fun _ _ h => h)).trans (by (repeat first | exact Fr.refl _ _ | exact Fr.drewN _ _ _ | apply Fr.drew | apply Fr.alloc | apply Fr.setAt | apply Fr.moreN) : Fr no wr _) (fun _ _ h => h)))).mono ?_
          rintro e w3 ⟨rfl, f3⟩
          rw [HNV.out]
          have FEN := Lib.hid ((HF.out.trans (by (repeat first | exact Fr.refl _ _ | exact Fr.drewN _ _ _ | apply Fr.drew | apply Fr.alloc | apply Fr.setAt | apply Fr.moreN) : Fr no wr _) (fun _ _ h => h)).trans f3 (fun _ _ h => h))
          have FEND := Lib.hid (F1.out.trans FEN.out (fun _ _ h => h)); clear f3
          go_wp2_with fail
          iterate 17
            first | (refine wpX_un rfl rfl ?_; go_simp) | first | refine wpX_pu rfl rfl rfl (by first | exact pu_move rfl | exact pu_assign rfl | exact pu_nilCheck rfl rfl | exact pu_binInt rfl rfl rfl | exact pu_conv rfl rfl (by kernel_rfl) | exact pu_fld rfl (by kernel_rfl) | exact pu_ix rfl rfl rfl (by kernel_rfl) | exact pu_unOp rfl | exact pu_binStr rfl rfl rfl | exact pu_len rfl rfl | exact pu_lens rfl rfl | exact pu_pick rfl | exact pu_slice rfl rfl) (fun K hK => ?_) | refine wpX_rd rfl rfl rfl (rd_load rfl) (fun K hK => ?_) | refine wpX_gr rfl rfl rfl (by first | exact gr_buildSlice rfl | exact gr_box rfl | exact gr_alloc rfl) (fun K hK => ?_) | refine wpX_ex rfl rfl rfl (fun K hK => ?_)
            try go_wp2
          refine wpX_done ?_
          go_wp2_with fail
          refine bodyPost_ret (results_tmp rfl _ _ _) rfl ?_
          have hown : own x = 30 := own_rises HS.out (by cases h : risesF none x.f with | false => rfl | true => exact absurd (((rises_iff none x.f).1 h).1 j hlt) (by rw [HNV.out]; exact Bool.noConfusion))
          rw [hown]
          exact ⟨rfl, FEND.out⟩
        | true =>
          have HNV := Lib.hid hnv; clear hnv
          rcases j with _ | m
          · obtain ⟨b, o, KB, kb, KL, kl, KF, kf, hA, -, r0, r1, r2, r3, r4, r5, r6, r7, hbl2⟩ := HIN.out.get 0 hlt
            subst hA
            simp only [Nat.zero_mul, Nat.add_zero] at r0 r1 r2 r3 r4 r5 r6 r7
            go_wp2_with fail
            refine wp_region_ord (List.range 20) (fun i => [Kd.p, Kd.l, Kd.e, Kd.p, Kd.p, Kd.p, Kd.p, Kd.p, Kd.p, Kd.l, Kd.p, Kd.l, Kd.p, Kd.p, Kd.p, Kd.p, Kd.l, Kd.p, Kd.p, Kd.p].getD i .e) (by kernel_rfl) (by kernel_rfl) ?_
            iterate 2
              first | (refine wpX_un rfl rfl ?_; go_simp) | first | refine wpX_pu rfl rfl rfl (by first | exact pu_move rfl | exact pu_assign rfl | exact pu_nilCheck rfl rfl | exact pu_binInt rfl rfl rfl | exact pu_conv rfl rfl (by kernel_rfl) | exact pu_fld rfl (by kernel_rfl) | exact pu_ix rfl rfl rfl (by kernel_rfl) | exact pu_unOp rfl | exact pu_binStr rfl rfl rfl | exact pu_len rfl rfl | exact pu_lens rfl rfl | exact pu_pick rfl | exact pu_slice rfl rfl) (fun K hK => ?_) | refine wpX_rd rfl rfl rfl (rd_load rfl) (fun K hK => ?_) | refine wpX_gr rfl rfl rfl (by first | exact gr_buildSlice rfl | exact gr_box rfl | exact gr_alloc rfl) (fun K hK => ?_) | refine wpX_ex rfl rfl rfl (fun K hK => ?_)
              try go_wp2
            refine wpX_ex rfl rfl rfl (fun K hK => ?_)
            go_wp2_with fail
            refine (name_any _ x.f[0].1 (HX.out.node.n _ (List.getElem_mem _)) (HT.out.kept0 ((F1.out.trans HF.out (fun _ _ h => h)).trans (by (repeat first | exact Fr.refl _ _ | exact Fr.drewN _ _ _ | apply Fr.drew | apply Fr.alloc | apply Fr.setAt | apply Fr.moreN) : Fr no wr _) (fun _ _ h => h)))).mono ?_
            rintro e w3 ⟨rfl, f3⟩
            rw [HNV.out]
            have FEN := Lib.hid ((HF.out.trans (by (repeat first | exact Fr.refl _ _ | exact Fr.drewN _ _ _ | apply Fr.drew | apply Fr.alloc | apply Fr.setAt | apply Fr.moreN) : Fr no wr _) (fun _ _ h => h)).trans f3 (fun _ _ h => h))
            have FEND := Lib.hid (F1.out.trans FEN.out (fun _ _ h => h)); clear f3
            go_wp2_with fail
            iterate 17
              first | (refine wpX_un rfl rfl ?_; go_simp) | first | refine wpX_pu rfl rfl rfl (by first | exact pu_move rfl | exact pu_assign rfl | exact pu_nilCheck rfl rfl | exact pu_binInt rfl rfl rfl | exact pu_conv rfl rfl (by kernel_rfl) | exact pu_fld rfl (by kernel_rfl) | exact pu_ix rfl rfl rfl (by kernel_rfl) | exact pu_unOp rfl | exact pu_binStr rfl rfl rfl | exact pu_len rfl rfl | exact pu_lens rfl rfl | exact pu_pick rfl | exact pu_slice rfl rfl) (fun K hK => ?_) | refine wpX_rd rfl rfl rfl (rd_load rfl) (fun K hK => ?_) | refine wpX_gr rfl rfl rfl (by first | exact gr_buildSlice rfl | exact gr_box rfl | exact gr_alloc rfl) (fun K hK => ?_) | refine wpX_ex rfl rfl rfl (fun K hK => ?_)
              try go_wp2
            refine wpX_done ?_
            go_wp2
            go_roundw
            case rel => exact ⟨0 + 1, by omega, by first | rfl | go_num, FEN.out, fun k hk hlt2 => by
                by_cases h : k < 0
                · exact HNA.out k hk h
                · obtain rfl : k = 0 := by omega
                  exact HNV.out, fun k hk h => by omega⟩
            case measure => simp [intOf]; omega
          · obtain ⟨b, o, KB, kb, KL, kl, KF, kf, hA, -, r0, r1, r2, r3, r4, r5, r6, r7, hbl2⟩ := HIN.out.get (m + 1) hlt
            subst hA
            obtain ⟨b', o', hA2, s0, -⟩ := InF.at HIN.out.sl m (by omega)
            simp only [Option.some.injEq, Addr.mk.injEq, and_true] at hA2
            obtain ⟨rfl, rfl⟩ := hA2
            have gg : decide ((0 : Int) < (m : Int) + 1) = true := decide_eq_true (by omega)
            have gg2 : decide (0 < m + 1) = true := by simp
            by_cases hc : cb x.f[m + 1].1 x.f[m].1 ≤ 0
            · have le8 : decide (cb x.f[m + 1].1 x.f[m].1 ≤ 0) = true := decide_eq_true hc
              have lb8 : (Op.bytesLess x.f[m + 1].1 x.f[m].1 || x.f[m + 1].1 == x.f[m].1) = true := by rw [leq_cb]; exact le8
              have HCC := Lib.hid hc; clear hc
              go_wp2_with fail
              refine wp_region_ord (List.range 20) (fun i => [Kd.p, Kd.l, Kd.e, Kd.p, Kd.p, Kd.p, Kd.p, Kd.p, Kd.p, Kd.l, Kd.p, Kd.l, Kd.p, Kd.p, Kd.p, Kd.p, Kd.l, Kd.p, Kd.p, Kd.p].getD i .e) (by kernel_rfl) (by kernel_rfl) ?_
              iterate 2
                first | (refine wpX_un rfl rfl ?_; go_simp) | first | refine wpX_pu rfl rfl rfl (by first | exact pu_move rfl | exact pu_assign rfl | exact pu_nilCheck rfl rfl | exact pu_binInt rfl rfl rfl | exact pu_conv rfl rfl (by kernel_rfl) | exact pu_fld rfl (by kernel_rfl) | exact pu_ix rfl rfl rfl (by kernel_rfl) | exact pu_unOp rfl | exact pu_binStr rfl rfl rfl | exact pu_len rfl rfl | exact pu_lens rfl rfl | exact pu_pick rfl | exact pu_slice rfl rfl) (fun K hK => ?_) | refine wpX_rd rfl rfl rfl (rd_load rfl) (fun K hK => ?_) | refine wpX_gr rfl rfl rfl (by first | exact gr_buildSlice rfl | exact gr_box rfl | exact gr_alloc rfl) (fun K hK => ?_) | refine wpX_ex rfl rfl rfl (fun K hK => ?_)
                try go_wp2
              refine wpX_ex rfl rfl rfl (fun K hK => ?_)
              go_wp2_with fail
              refine (name_any _ x.f[m + 1].1 (HX.out.node.n _ (List.getElem_mem _)) (HT.out.kept0 ((F1.out.trans HF.out (fun _ _ h => h)).trans (by (repeat first | exact Fr.refl _ _ | exact Fr.drewN _ _ _ | apply Fr.drew | apply Fr.alloc | apply Fr.setAt | apply Fr.moreN) : Fr no wr _) (fun _ _ h => h)))).mono ?_
              rintro e w3 ⟨rfl, f3⟩
              rw [HNV.out]
              have g7 := f3.heap (heap_alloc_new wr (.cells #[.string ⟨x.f[m + 1].1.toArray⟩, .int .u8 x.f[m + 1].2.k.toNat, .bool x.f[m + 1].2.b, .int .i64 x.f[m + 1].2.i, .string ⟨x.f[m + 1].2.t.toArray⟩, .slice KB x.f[m + 1].2.bs.length kb, .slice KL x.f[m + 1].2.l.length kl, .slice KF x.f[m + 1].2.f.length kf] 87)) (fun h => h)
              have r0 := cell_of_row w3 wr.heap.size 0 _ _ (0, 0) g7
              simp only [List.getElem?_toArray, List.getElem?_cons_zero] at r0
              have g8 := (Array.getElem?_eq_some_iff.1 g7).1
              have FW := (by (repeat first | exact Fr.refl _ _ | exact Fr.drewN _ _ _ | apply Fr.drew | apply Fr.alloc | apply Fr.setAt | apply Fr.moreN) : Fr no wr _).trans f3 (fun _ _ h => h)
              have s0 := FW.cell s0 (fun h => h)
              have q6 := FW.cell q6 (fun h => h)
              have hbl := Nat.lt_of_lt_of_le hbl FW.size
              have hbl2 := Nat.lt_of_lt_of_le hbl2 FW.size
              clear g7 FW r1 r2 r3 r4 r5 r6 r7
              have FEN := Lib.hid ((HF.out.trans (by (repeat first | exact Fr.refl _ _ | exact Fr.drewN _ _ _ | apply Fr.drew | apply Fr.alloc | apply Fr.setAt | apply Fr.moreN) : Fr no wr _) (fun _ _ h => h)).trans f3 (fun _ _ h => h))
              have FEND := Lib.hid (F1.out.trans FEN.out (fun _ _ h => h)); clear f3
              go_wp2_with fail
              iterate 17
                first | (refine wpX_un rfl rfl ?_; go_simp) | first | refine wpX_pu rfl rfl rfl (by first | exact pu_move rfl | exact pu_assign rfl | exact pu_nilCheck rfl rfl | exact pu_binInt rfl rfl rfl | exact pu_conv rfl rfl (by kernel_rfl) | exact pu_fld rfl (by kernel_rfl) | exact pu_ix rfl rfl rfl (by kernel_rfl) | exact pu_unOp rfl | exact pu_binStr rfl rfl rfl | exact pu_len rfl rfl | exact pu_lens rfl rfl | exact pu_pick rfl | exact pu_slice rfl rfl) (fun K hK => ?_) | refine wpX_rd rfl rfl rfl (rd_load rfl) (fun K hK => ?_) | refine wpX_gr rfl rfl rfl (by first | exact gr_buildSlice rfl | exact gr_box rfl | exact gr_alloc rfl) (fun K hK => ?_) | refine wpX_ex rfl rfl rfl (fun K hK => ?_)
                try go_wp2
              refine wpX_done ?_
              go_wp2_with fail
              refine bodyPost_ret (results_tmp rfl _ _ _) rfl ?_
              have hown : own x = 30 := own_rises HS.out (by cases h : risesF none x.f with | false => rfl | true => (have h2 := ((rises_iff none x.f).1 h).2.2 m hlt; have h3 := HCC.out; rw [cb_swap] at h2; exfalso; omega))
              rw [hown]
              exact ⟨rfl, FEND.out⟩
            · have le8 : decide (cb x.f[m + 1].1 x.f[m].1 ≤ 0) = false := decide_eq_false hc
              have lb8 : (Op.bytesLess x.f[m + 1].1 x.f[m].1 || x.f[m + 1].1 == x.f[m].1) = false := by rw [leq_cb]; exact le8
              have HCC := Lib.hid hc; clear hc
              go_wp2_with fail
              refine wp_region_ord (List.range 20) (fun i => [Kd.p, Kd.l, Kd.e, Kd.p, Kd.p, Kd.p, Kd.p, Kd.p, Kd.p, Kd.l, Kd.p, Kd.l, Kd.p, Kd.p, Kd.p, Kd.p, Kd.l, Kd.p, Kd.p, Kd.p].getD i .e) (by kernel_rfl) (by kernel_rfl) ?_
              iterate 2
                first | (refine wpX_un rfl rfl ?_; go_simp) | first | refine wpX_pu rfl rfl rfl (by first | exact pu_move rfl | exact pu_assign rfl | exact pu_nilCheck rfl rfl | exact pu_binInt rfl rfl rfl | exact pu_conv rfl rfl (by kernel_rfl) | exact pu_fld rfl (by kernel_rfl) | exact pu_ix rfl rfl rfl (by kernel_rfl) | exact pu_unOp rfl | exact pu_binStr rfl rfl rfl | exact pu_len rfl rfl | exact pu_lens rfl rfl | exact pu_pick rfl | exact pu_slice rfl rfl) (fun K hK => ?_) | refine wpX_rd rfl rfl rfl (rd_load rfl) (fun K hK => ?_) | refine wpX_gr rfl rfl rfl (by first | exact gr_buildSlice rfl | exact gr_box rfl | exact gr_alloc rfl) (fun K hK => ?_) | refine wpX_ex rfl rfl rfl (fun K hK => ?_)
                try go_wp2
              refine wpX_ex rfl rfl rfl (fun K hK => ?_)
              go_wp2_with fail
              refine (name_any _ x.f[m + 1].1 (HX.out.node.n _ (List.getElem_mem _)) (HT.out.kept0 ((F1.out.trans HF.out (fun _ _ h => h)).trans (by (repeat first | exact Fr.refl _ _ | exact Fr.drewN _ _ _ | apply Fr.drew | apply Fr.alloc | apply Fr.setAt | apply Fr.moreN) : Fr no wr _) (fun _ _ h => h)))).mono ?_
              rintro e w3 ⟨rfl, f3⟩
              rw [HNV.out]
              have g7 := f3.heap (heap_alloc_new wr (.cells #[.string ⟨x.f[m + 1].1.toArray⟩, .int .u8 x.f[m + 1].2.k.toNat, .bool x.f[m + 1].2.b, .int .i64 x.f[m + 1].2.i, .string ⟨x.f[m + 1].2.t.toArray⟩, .slice KB x.f[m + 1].2.bs.length kb, .slice KL x.f[m + 1].2.l.length kl, .slice KF x.f[m + 1].2.f.length kf] 87)) (fun h => h)
              have r0 := cell_of_row w3 wr.heap.size 0 _ _ (0, 0) g7
              simp only [List.getElem?_toArray, List.getElem?_cons_zero] at r0
              have g8 := (Array.getElem?_eq_some_iff.1 g7).1
              have FW := (by (repeat first | exact Fr.refl _ _ | exact Fr.drewN _ _ _ | apply Fr.drew | apply Fr.alloc | apply Fr.setAt | apply Fr.moreN) : Fr no wr _).trans f3 (fun _ _ h => h)
              have s0 := FW.cell s0 (fun h => h)
              have q6 := FW.cell q6 (fun h => h)
              have hbl := Nat.lt_of_lt_of_le hbl FW.size
              have hbl2 := Nat.lt_of_lt_of_le hbl2 FW.size
              clear g7 FW r1 r2 r3 r4 r5 r6 r7
              have FEN := Lib.hid ((HF.out.trans (by (repeat first | exact Fr.refl _ _ | exact Fr.drewN _ _ _ | apply Fr.drew | apply Fr.alloc | apply Fr.setAt | apply Fr.moreN) : Fr no wr _) (fun _ _ h => h)).trans f3 (fun _ _ h => h))
              have FEND := Lib.hid (F1.out.trans FEN.out (fun _ _ h => h)); clear f3
              go_wp2_with fail
              iterate 17
                first | (refine wpX_un rfl rfl ?_; go_simp) | first | refine wpX_pu rfl rfl rfl (by first | exact pu_move rfl | exact pu_assign rfl | exact pu_nilCheck rfl rfl | exact pu_binInt rfl rfl rfl | exact pu_conv rfl rfl (by kernel_rfl) | exact pu_fld rfl (by kernel_rfl) | exact pu_ix rfl rfl rfl (by kernel_rfl) | exact pu_unOp rfl | exact pu_binStr rfl rfl rfl | exact pu_len rfl rfl | exact pu_lens rfl rfl | exact pu_pick rfl | exact pu_slice rfl rfl) (fun K hK => ?_) | refine wpX_rd rfl rfl rfl (rd_load rfl) (fun K hK => ?_) | refine wpX_gr rfl rfl rfl (by first | exact gr_buildSlice rfl | exact gr_box rfl | exact gr_alloc rfl) (fun K hK => ?_) | refine wpX_ex rfl rfl rfl (fun K hK => ?_)
                try go_wp2
              refine wpX_done ?_
              go_wp2
              go_roundw
              case rel => exact ⟨(m + 1) + 1, by omega, by first | rfl | go_num, FEN.out, fun k hk hlt2 => by
                  by_cases h : k < (m + 1)
                  · exact HNA.out k hk h
                  · obtain rfl : k = (m + 1) := by omega
                    exact HNV.out, fun k hk h => last_step HRI.out HCC.out k hk h⟩
              case measure => simp [intOf]; omega
      · obtain rfl : j = x.f.length := by omega
        have hri2 : risesF none x.f = true := (rises_iff none x.f).2 ⟨fun k hk => HNA.out k hk hk, fun q h => (by cases h), fun k hk => HRI.out k hk hk⟩
        have HR2 := Lib.hid hri2
        have q3 := cell_of_row wr w.heap.size 3 _ _ (0, 0) hb0
        have q4 := cell_of_row wr w.heap.size 4 _ _ (0, 0) hb0
        simp only [List.getElem?_toArray, List.getElem?_cons_succ, List.getElem?_cons_zero] at q3 q4
        have FX := Lib.hid (F1.out.trans HF.out (fun _ _ h => h))
        clear hri2
        go_wp2_with fail
        refine (valid_any wr x.t HX.out.node.t (HT.out.kept0 FX.out)).mono ?_
        rintro e w3 ⟨rfl, f3⟩
        cases hv : Lib.validD x.t with
        | false =>
          have HV := Lib.hid hv; have F3 := Lib.hid (FX.out.trans f3 (fun _ _ h => h)); clear hv f3
          go_wp2
          refine bodyPost_ret (results_tmp rfl _ _ _) rfl ?_
          have hown : own x = 34 := by unfold own; rw [if_neg (by rw [HS.out]; exact Bool.noConfusion), if_neg (by rw [HR2.out]; exact Bool.noConfusion), if_pos HV.out]
          rw [hown]
          exact ⟨rfl, F3.out⟩
        | true =>
          have q3 := f3.cell q3 (fun h => h)
          have q4 := f3.cell q4 (fun h => h)
          have hbl := Nat.lt_of_lt_of_le hbl f3.size
          have HV := Lib.hid hv; have F3 := Lib.hid (FX.out.trans f3 (fun _ _ h => h)); clear hv f3 hb0
          go_wp2_with fail
          refine (runes_any w3 x.t HX.out.node.t).mono ?_
          rintro e w4 ⟨rfl, f4⟩
          have q4 := f4.cell q4 (fun h => h)
          have hbl := Nat.lt_of_lt_of_le hbl f4.size
          have F4 := Lib.hid (F3.out.trans f4 (fun _ _ h => h)); clear f4
          have hown : own x = if 1000 < Lib.runeCountL x.t ∨ 4000 < x.bs.length then 33 else 0 := by unfold own; rw [if_neg (by rw [HS.out]; exact Bool.noConfusion), if_neg (by rw [HR2.out]; exact Bool.noConfusion), if_neg (by rw [HV.out]; exact Bool.noConfusion)]
          have HOWN := Lib.hid hown; clear hown
          by_cases h1 : 1000 < Lib.runeCountL x.t
          · have g1 : decide ((1000 : Int) < (Lib.runeCountL x.t : Int)) = true := decide_eq_true (by omega)
            have H1 := Lib.hid h1; clear h1
            go_wp2
            refine bodyPost_ret (results_tmp rfl _ _ _) rfl ?_
            rw [HOWN.out, if_pos (.inl H1.out)]
            exact ⟨rfl, F4.out⟩
          · have g1 : decide ((1000 : Int) < (Lib.runeCountL x.t : Int)) = false := decide_eq_false (by omega)
            have H1 := Lib.hid h1; clear h1
            by_cases h2 : 4000 < x.bs.length
            · have g2 : decide ((4000 : Int) < (x.bs.length : Int)) = true := decide_eq_true (by omega)
              have H2 := Lib.hid h2; clear h2
              go_wp2
              refine bodyPost_ret (results_tmp rfl _ _ _) rfl ?_
              rw [HOWN.out, if_pos (.inr H2.out)]
              exact ⟨rfl, F4.out⟩
            · have g2 : decide ((4000 : Int) < (x.bs.length : Int)) = false := decide_eq_false (by omega)
              have H2 := Lib.hid h2; clear h2
              go_wp2
              refine bodyPost_ret (results_tmp rfl _ _ _) rfl ?_
              rw [HOWN.out, if_neg (fun h => h.elim H1.out H2.out)]
              exact ⟨rfl, F4.out⟩
  · have p5 := nz x.bs h1; have p6 := lz x.l h2; have p7 := lz x.f h3
    clear k5 k6 k7
    have k5 : ((x.k.toNat : Int) == 5) = true := by rw [h0]; rfl
    have k6 : ((x.k.toNat : Int) == 6) = false := by rw [h0]; rfl
    have k7 : ((x.k.toNat : Int) == 7) = false := by rw [h0]; rfl
    clear pf pl pb lz nz h0 h1 h2 h3
    go_enter Tryz.func71, Tryz.ntmps71
    go_wp2_with fail
    refine (HBA.out _ (by (repeat first | exact Fr.refl _ _ | exact Fr.drewN _ _ _ | apply Fr.drew | apply Fr.alloc | apply Fr.setAt | apply Fr.moreN))).mono ?_
    rintro e w1 ⟨rfl, f1⟩
    have F1 := Lib.hid (Fr.trans (by (repeat first | exact Fr.refl _ _ | exact Fr.drewN _ _ _ | apply Fr.drew | apply Fr.alloc | apply Fr.setAt | apply Fr.moreN) : Fr no w _) f1 (fun _ _ h => h))
    have hb0 := f1.heap (heap_alloc_new w _) (fun h => h)
    have HB0 := Lib.hid hb0
    have hbl := (Array.getElem?_eq_some_iff.1 hb0).1
    have q0 := cell_of_row w1 w.heap.size 0 _ _ (0, 0) hb0
    have q1 := cell_of_row w1 w.heap.size 1 _ _ (0, 0) hb0
    have q2 := cell_of_row w1 w.heap.size 2 _ _ (0, 0) hb0
    have q3 := cell_of_row w1 w.heap.size 3 _ _ (0, 0) hb0
    have q4 := cell_of_row w1 w.heap.size 4 _ _ (0, 0) hb0
    have q5 := cell_of_row w1 w.heap.size 5 _ _ (0, 0) hb0
    have q6 := cell_of_row w1 w.heap.size 6 _ _ (0, 0) hb0
    simp only [List.getElem?_toArray, List.getElem?_cons_succ, List.getElem?_cons_zero] at q0 q1 q2 q3 q4 q5 q6
    clear f1 hb0
    go_wp2
    clear d1 d2 k5 k6 k7 p5 p6 p7
    go_loopw [79] (fun iv wr => ∃ j : Nat, j ≤ x.f.length ∧ iv = .int .i64 j ∧ Fr no w1 wr ∧ (∀ k (h : k < x.f.length), k < j → nameV x.f[k].1 = true) ∧ ∀ k (h : k + 1 < x.f.length), k + 1 < j → cb x.f[k].1 x.f[k + 1].1 < 0) (fun iv _ => x.f.length - (intOf iv).toNat)
    case atStart => exact ⟨0, Nat.zero_le _, rfl, by (repeat first | exact Fr.refl _ _ | exact Fr.drewN _ _ _ | apply Fr.drew | apply Fr.alloc | apply Fr.setAt | apply Fr.moreN), fun k _ h => by omega, fun k _ h => by omega⟩
    case round =>
      obtain ⟨j, hj, rfl, hf, hna, hri⟩ := hrel
      have HF := Lib.hid hf; have HNA := Lib.hid hna; have HRI := Lib.hid hri; clear hf hna hri q0 q1 q2 q3 q4 q5 q6 hbl
      have hb0 := HF.out.heap HB0.out (fun h => h)
      have hbl := (Array.getElem?_eq_some_iff.1 hb0).1
      by_cases hlt : j < x.f.length
      · have hin := (HX.out.kept0 (F1.out.trans HF.out (fun _ _ h => h))).inF; rw [HFO.out.F] at hin
        have HIN := Lib.hid hin; clear hin
        have q6 := cell_of_row wr w.heap.size 6 _ _ (0, 0) hb0
        simp only [List.getElem?_toArray, List.getElem?_cons_succ, List.getElem?_cons_zero] at q6
        clear hb0
        cases hnv : nameV x.f[j].1 with
        | false =>
          obtain ⟨b, o, KB, kb, KL, kl, KF, kf, hA, -, r0, r1, r2, r3, r4, r5, r6, r7, hbl2⟩ := HIN.out.get j hlt
          subst hA
          have HNV := Lib.hid hnv; clear hnv
          go_wp2_with fail
          refine wp_region_ord (List.range 20) (fun i => [Kd.p, Kd.l, Kd.e, Kd.p, Kd.p, Kd.p, Kd.p, Kd.p, Kd.p, Kd.l, Kd.p, Kd.l, Kd.p, Kd.p, Kd.p, Kd.p, Kd.l, Kd.p, Kd.p, Kd.p].getD i .e) (by kernel_rfl) (by kernel_rfl) ?_
          iterate 2
            first | (refine wpX_un rfl rfl ?_; go_simp) | first | refine wpX_pu rfl rfl rfl (by first | exact pu_move rfl | exact pu_assign rfl | exact pu_nilCheck rfl rfl | exact pu_binInt rfl rfl rfl | exact pu_conv rfl rfl (by kernel_rfl) | exact pu_fld rfl (by kernel_rfl) | exact pu_ix rfl rfl rfl (by kernel_rfl) | exact pu_unOp rfl | exact pu_binStr rfl rfl rfl | exact pu_len rfl rfl | exact pu_lens rfl rfl | exact pu_pick rfl | exact pu_slice rfl rfl) (fun K hK => ?_) | refine wpX_rd rfl rfl rfl (rd_load rfl) (fun K hK => ?_) | refine wpX_gr rfl rfl rfl (by first | exact gr_buildSlice rfl | exact gr_box rfl | exact gr_alloc rfl) (fun K hK => ?_) | refine wpX_ex rfl rfl rfl (fun K hK => ?_)
            try go_wp2
          refine wpX_ex rfl rfl rfl (fun K hK => ?_)
          go_wp2_with fail
          refine (name_any _ x.f[j].1 (HX.out.node.n _ (List.getElem_mem _)) (HT.out.kept0 ((F1.out.trans HF.out (fun _ _ h => h)).trans (by (repeat first | exact Fr.refl _ _ | exact Fr.drewN _ _ _ | apply Fr.drew | apply Fr.alloc | apply Fr.setAt | apply Fr.moreN) : Fr no wr _) (fun _ _ h => h)))).mono ?_
          rintro e w3 ⟨rfl, f3⟩
          rw [HNV.out]
          have FEN := Lib.hid ((HF.out.trans (by (repeat first | exact Fr.refl _ _ | exact Fr.drewN _ _ _ | apply Fr.drew | apply Fr.alloc | apply Fr.setAt | apply Fr.moreN) : Fr no wr _) (fun _ _ h => h)).trans f3 (fun _ _ h => h))
          have FEND := Lib.hid (F1.out.trans FEN.out (fun _ _ h => h)); clear f3
          go_wp2_with fail
          iterate 17
            first | (refine wpX_un rfl rfl ?_; go_simp) | first | refine wpX_pu rfl rfl rfl (by first | exact pu_move rfl | exact pu_assign rfl | exact pu_nilCheck rfl rfl | exact pu_binInt rfl rfl rfl | exact pu_conv rfl rfl (by kernel_rfl) | exact pu_fld rfl (by kernel_rfl) | exact pu_ix rfl rfl rfl (by kernel_rfl) | exact pu_unOp rfl | exact pu_binStr rfl rfl rfl | exact pu_len rfl rfl | exact pu_lens rfl rfl | exact pu_pick rfl | exact pu_slice rfl rfl) (fun K hK => ?_) | refine wpX_rd rfl rfl rfl (rd_load rfl) (fun K hK => ?_) | refine wpX_gr rfl rfl rfl (by first | exact gr_buildSlice rfl | exact gr_box rfl | exact gr_alloc rfl) (fun K hK => ?_) | refine wpX_ex rfl rfl rfl (fun K hK => ?_)
            try go_wp2
          refine wpX_done ?_
          go_wp2_with fail
          refine bodyPost_ret (results_tmp rfl _ _ _) rfl ?_
          have hown : own x = 30 := own_rises HS.out (by cases h : risesF none x.f with | false => rfl | true => exact absurd (((rises_iff none x.f).1 h).1 j hlt) (by rw [HNV.out]; exact Bool.noConfusion))
          rw [hown]
          exact ⟨rfl, FEND.out⟩
        | true =>
          have HNV := Lib.hid hnv; clear hnv
          rcases j with _ | m
          · obtain ⟨b, o, KB, kb, KL, kl, KF, kf, hA, -, r0, r1, r2, r3, r4, r5, r6, r7, hbl2⟩ := HIN.out.get 0 hlt
            subst hA
            simp only [Nat.zero_mul, Nat.add_zero] at r0 r1 r2 r3 r4 r5 r6 r7
            go_wp2_with fail
            refine wp_region_ord (List.range 20) (fun i => [Kd.p, Kd.l, Kd.e, Kd.p, Kd.p, Kd.p, Kd.p, Kd.p, Kd.p, Kd.l, Kd.p, Kd.l, Kd.p, Kd.p, Kd.p, Kd.p, Kd.l, Kd.p, Kd.p, Kd.p].getD i .e) (by kernel_rfl) (by kernel_rfl) ?_
            iterate 2
              first | (refine wpX_un rfl rfl ?_; go_simp) | first | refine wpX_pu rfl rfl rfl (by first | exact pu_move rfl | exact pu_assign rfl | exact pu_nilCheck rfl rfl | exact pu_binInt rfl rfl rfl | exact pu_conv rfl rfl (by kernel_rfl) | exact pu_fld rfl (by kernel_rfl) | exact pu_ix rfl rfl rfl (by kernel_rfl) | exact pu_unOp rfl | exact pu_binStr rfl rfl rfl | exact pu_len rfl rfl | exact pu_lens rfl rfl | exact pu_pick rfl | exact pu_slice rfl rfl) (fun K hK => ?_) | refine wpX_rd rfl rfl rfl (rd_load rfl) (fun K hK => ?_) | refine wpX_gr rfl rfl rfl (by first | exact gr_buildSlice rfl | exact gr_box rfl | exact gr_alloc rfl) (fun K hK => ?_) | refine wpX_ex rfl rfl rfl (fun K hK => ?_)
              try go_wp2
            refine wpX_ex rfl rfl rfl (fun K hK => ?_)
            go_wp2_with fail
            refine (name_any _ x.f[0].1 (HX.out.node.n _ (List.getElem_mem _)) (HT.out.kept0 ((F1.out.trans HF.out (fun _ _ h => h)).trans (by (repeat first | exact Fr.refl _ _ | exact Fr.drewN _ _ _ | apply Fr.drew | apply Fr.alloc | apply Fr.setAt | apply Fr.moreN) : Fr no wr _) (fun _ _ h => h)))).mono ?_
            rintro e w3 ⟨rfl, f3⟩
            rw [HNV.out]
            have FEN := Lib.hid ((HF.out.trans (by (repeat first | exact Fr.refl _ _ | exact Fr.drewN _ _ _ | apply Fr.drew | apply Fr.alloc | apply Fr.setAt | apply Fr.moreN) : Fr no wr _) (fun _ _ h => h)).trans f3 (fun _ _ h => h))
            have FEND := Lib.hid (F1.out.trans FEN.out (fun _ _ h => h)); clear f3
            go_wp2_with fail
            iterate 17
              first | (refine wpX_un rfl rfl ?_; go_simp) | first | refine wpX_pu rfl rfl rfl (by first | exact pu_move rfl | exact pu_assign rfl | exact pu_nilCheck rfl rfl | exact pu_binInt rfl rfl rfl | exact pu_conv rfl rfl (by kernel_rfl) | exact pu_fld rfl (by kernel_rfl) | exact pu_ix rfl rfl rfl (by kernel_rfl) | exact pu_unOp rfl | exact pu_binStr rfl rfl rfl | exact pu_len rfl rfl | exact pu_lens rfl rfl | exact pu_pick rfl | exact pu_slice rfl rfl) (fun K hK => ?_) | refine wpX_rd rfl rfl rfl (rd_load rfl) (fun K hK => ?_) | refine wpX_gr rfl rfl rfl (by first | exact gr_buildSlice rfl | exact gr_box rfl | exact gr_alloc rfl) (fun K hK => ?_) | refine wpX_ex rfl rfl rfl (fun K hK => ?_)
              try go_wp2
            refine wpX_done ?_
            go_wp2
            go_roundw
            case rel => exact ⟨0 + 1, by omega, by first | rfl | go_num, FEN.out, fun k hk hlt2 => by
                by_cases h : k < 0
                · exact HNA.out k hk h
                · obtain rfl : k = 0 := by omega
                  exact HNV.out, fun k hk h => by omega⟩
            case measure => simp [intOf]; omega
          · obtain ⟨b, o, KB, kb, KL, kl, KF, kf, hA, -, r0, r1, r2, r3, r4, r5, r6, r7, hbl2⟩ := HIN.out.get (m + 1) hlt
            subst hA
            obtain ⟨b', o', hA2, s0, -⟩ := InF.at HIN.out.sl m (by omega)
            simp only [Option.some.injEq, Addr.mk.injEq, and_true] at hA2
            obtain ⟨rfl, rfl⟩ := hA2
            have gg : decide ((0 : Int) < (m : Int) + 1) = true := decide_eq_true (by omega)
            have gg2 : decide (0 < m + 1) = true := by simp
            by_cases hc : cb x.f[m + 1].1 x.f[m].1 ≤ 0
            · have le8 : decide (cb x.f[m + 1].1 x.f[m].1 ≤ 0) = true := decide_eq_true hc
              have lb8 : (Op.bytesLess x.f[m + 1].1 x.f[m].1 || x.f[m + 1].1 == x.f[m].1) = true := by rw [leq_cb]; exact le8
              have HCC := Lib.hid hc; clear hc
              go_wp2_with fail
              refine wp_region_ord (List.range 20) (fun i => [Kd.p, Kd.l, Kd.e, Kd.p, Kd.p, Kd.p, Kd.p, Kd.p, Kd.p, Kd.l, Kd.p, Kd.l, Kd.p, Kd.p, Kd.p, Kd.p, Kd.l, Kd.p, Kd.p, Kd.p].getD i .e) (by kernel_rfl) (by kernel_rfl) ?_
              iterate 2
                first | (refine wpX_un rfl rfl ?_; go_simp) | first | refine wpX_pu rfl rfl rfl (by first | exact pu_move rfl | exact pu_assign rfl | exact pu_nilCheck rfl rfl | exact pu_binInt rfl rfl rfl | exact pu_conv rfl rfl (by kernel_rfl) | exact pu_fld rfl (by kernel_rfl) | exact pu_ix rfl rfl rfl (by kernel_rfl) | exact pu_unOp rfl | exact pu_binStr rfl rfl rfl | exact pu_len rfl rfl | exact pu_lens rfl rfl | exact pu_pick rfl | exact pu_slice rfl rfl) (fun K hK => ?_) | refine wpX_rd rfl rfl rfl (rd_load rfl) (fun K hK => ?_) | refine wpX_gr rfl rfl rfl (by first | exact gr_buildSlice rfl | exact gr_box rfl | exact gr_alloc rfl) (fun K hK => ?_) | refine wpX_ex rfl rfl rfl (fun K hK => ?_)
                try go_wp2
              refine wpX_ex rfl rfl rfl (fun K hK => ?_)
              go_wp2_with fail
              refine (name_any _ x.f[m + 1].1 (HX.out.node.n _ (List.getElem_mem _)) (HT.out.kept0 ((F1.out.trans HF.out (fun _ _ h => h)).trans (by (repeat first | exact Fr.refl _ _ | exact Fr.drewN _ _ _ | apply Fr.drew | apply Fr.alloc | apply Fr.setAt | apply Fr.moreN) : Fr no wr _) (fun _ _ h => h)))).mono ?_
              rintro e w3 ⟨rfl, f3⟩
              rw [HNV.out]
              have g7 := f3.heap (heap_alloc_new wr (.cells #[.string ⟨x.f[m + 1].1.toArray⟩, .int .u8 x.f[m + 1].2.k.toNat, .bool x.f[m + 1].2.b, .int .i64 x.f[m + 1].2.i, .string ⟨x.f[m + 1].2.t.toArray⟩, .slice KB x.f[m + 1].2.bs.length kb, .slice KL x.f[m + 1].2.l.length kl, .slice KF x.f[m + 1].2.f.length kf] 87)) (fun h => h)
              have r0 := cell_of_row w3 wr.heap.size 0 _ _ (0, 0) g7
              simp only [List.getElem?_toArray, List.getElem?_cons_zero] at r0
              have g8 := (Array.getElem?_eq_some_iff.1 g7).1
              have FW := (by (repeat first | exact Fr.refl _ _ | exact Fr.drewN _ _ _ | apply Fr.drew | apply Fr.alloc | apply Fr.setAt | apply Fr.moreN) : Fr no wr _).trans f3 (fun _ _ h => h)
              have s0 := FW.cell s0 (fun h => h)
              have q6 := FW.cell q6 (fun h => h)
              have hbl := Nat.lt_of_lt_of_le hbl FW.size
              have hbl2 := Nat.lt_of_lt_of_le hbl2 FW.size
              clear g7 FW r1 r2 r3 r4 r5 r6 r7
              have FEN := Lib.hid ((HF.out.trans (by (repeat first | exact Fr.refl _ _ | exact Fr.drewN _ _ _ | apply Fr.drew | apply Fr.alloc | apply Fr.setAt | apply Fr.moreN) : Fr no wr _) (fun _ _ h => h)).trans f3 (fun _ _ h => h))
              have FEND := Lib.hid (F1.out.trans FEN.out (fun _ _ h => h)); clear f3
              go_wp2_with fail
              iterate 17
                first | (refine wpX_un rfl rfl ?_; go_simp) | first | refine wpX_pu rfl rfl rfl (by first | exact pu_move rfl | exact pu_assign rfl | exact pu_nilCheck rfl rfl | exact pu_binInt rfl rfl rfl | exact pu_conv rfl rfl (by kernel_rfl) | exact pu_fld rfl (by kernel_rfl) | exact pu_ix rfl rfl rfl (by kernel_rfl) | exact pu_unOp rfl | exact pu_binStr rfl rfl rfl | exact pu_len rfl rfl | exact pu_lens rfl rfl | exact pu_pick rfl | exact pu_slice rfl rfl) (fun K hK => ?_) | refine wpX_rd rfl rfl rfl (rd_load rfl) (fun K hK => ?_) | refine wpX_gr rfl rfl rfl (by first | exact gr_buildSlice rfl | exact gr_box rfl | exact gr_alloc rfl) (fun K hK => ?_) | refine wpX_ex rfl rfl rfl (fun K hK => ?_)
                try go_wp2
              refine wpX_done ?_
              go_wp2_with fail
              refine bodyPost_ret (results_tmp rfl _ _ _) rfl ?_
              have hown : own x = 30 := own_rises HS.out (by cases h : risesF none x.f with | false => rfl | true => (have h2 := ((rises_iff none x.f).1 h).2.2 m hlt; have h3 := HCC.out; rw [cb_swap] at h2; exfalso; omega))
              rw [hown]
              exact ⟨rfl, FEND.out⟩
            · have le8 : decide (cb x.f[m + 1].1 x.f[m].1 ≤ 0) = false := decide_eq_false hc
              have lb8 : (Op.bytesLess x.f[m + 1].1 x.f[m].1 || x.f[m + 1].1 == x.f[m].1) = false := by rw [leq_cb]; exact le8
              have HCC := Lib.hid hc; clear hc
              go_wp2_with fail
              refine wp_region_ord (List.range 20) (fun i => [Kd.p, Kd.l, Kd.e, Kd.p, Kd.p, Kd.p, Kd.p, Kd.p, Kd.p, Kd.l, Kd.p, Kd.l, Kd.p, Kd.p, Kd.p, Kd.p, Kd.l, Kd.p, Kd.p, Kd.p].getD i .e) (by kernel_rfl) (by kernel_rfl) ?_
              iterate 2
                first | (refine wpX_un rfl rfl ?_; go_simp) | first | refine wpX_pu rfl rfl rfl (by first | exact pu_move rfl | exact pu_assign rfl | exact pu_nilCheck rfl rfl | exact pu_binInt rfl rfl rfl | exact pu_conv rfl rfl (by kernel_rfl) | exact pu_fld rfl (by kernel_rfl) | exact pu_ix rfl rfl rfl (by kernel_rfl) | exact pu_unOp rfl | exact pu_binStr rfl rfl rfl | exact pu_len rfl rfl | exact pu_lens rfl rfl | exact pu_pick rfl | exact pu_slice rfl rfl) (fun K hK => ?_) | refine wpX_rd rfl rfl rfl (rd_load rfl) (fun K hK => ?_) | refine wpX_gr rfl rfl rfl (by first | exact gr_buildSlice rfl | exact gr_box rfl | exact gr_alloc rfl) (fun K hK => ?_) | refine wpX_ex rfl rfl rfl (fun K hK => ?_)
                try go_wp2
              refine wpX_ex rfl rfl rfl (fun K hK => ?_)
              go_wp2_with fail
              refine (name_any _ x.f[m + 1].1 (HX.out.node.n _ (List.getElem_mem _)) (HT.out.kept0 ((F1.out.trans HF.out (fun _ _ h => h)).trans (by (repeat first | exact Fr.refl _ _ | exact Fr.drewN _ _ _ | apply Fr.drew | apply Fr.alloc | apply Fr.setAt | apply Fr.moreN) : Fr no wr _) (fun _ _ h => h)))).mono ?_
              rintro e w3 ⟨rfl, f3⟩
              rw [HNV.out]
              have g7 := f3.heap (heap_alloc_new wr (.cells #[.string ⟨x.f[m + 1].1.toArray⟩, .int .u8 x.f[m + 1].2.k.toNat, .bool x.f[m + 1].2.b, .int .i64 x.f[m + 1].2.i, .string ⟨x.f[m + 1].2.t.toArray⟩, .slice KB x.f[m + 1].2.bs.length kb, .slice KL x.f[m + 1].2.l.length kl, .slice KF x.f[m + 1].2.f.length kf] 87)) (fun h => h)
              have r0 := cell_of_row w3 wr.heap.size 0 _ _ (0, 0) g7
              simp only [List.getElem?_toArray, List.getElem?_cons_zero] at r0
              have g8 := (Array.getElem?_eq_some_iff.1 g7).1
              have FW := (by (repeat first | exact Fr.refl _ _ | exact Fr.drewN _ _ _ | apply Fr.drew | apply Fr.alloc | apply Fr.setAt | apply Fr.moreN) : Fr no wr _).trans f3 (fun _ _ h => h)
              have s0 := FW.cell s0 (fun h => h)
              have q6 := FW.cell q6 (fun h => h)
              have hbl := Nat.lt_of_lt_of_le hbl FW.size
              have hbl2 := Nat.lt_of_lt_of_le hbl2 FW.size
              clear g7 FW r1 r2 r3 r4 r5 r6 r7
              have FEN := Lib.hid ((HF.out.trans (by (repeat first | exact Fr.refl _ _ | exact Fr.drewN _ _ _ | apply Fr.drew | apply Fr.alloc | apply Fr.setAt | apply Fr.moreN) : Fr no wr _) (fun _ _ h => h)).trans f3 (fun _ _ h => h))
              have FEND := Lib.hid (F1.out.trans FEN.out (fun _ _ h => h)); clear f3
              go_wp2_with fail
              iterate 17
                first | (refine wpX_un rfl rfl ?_; go_simp) | first | refine wpX_pu rfl rfl rfl (by first | exact pu_move rfl | exact pu_assign rfl | exact pu_nilCheck rfl rfl | exact pu_binInt rfl rfl rfl | exact pu_conv rfl rfl (by kernel_rfl) | exact pu_fld rfl (by kernel_rfl) | exact pu_ix rfl rfl rfl (by kernel_rfl) | exact pu_unOp rfl | exact pu_binStr rfl rfl rfl | exact pu_len rfl rfl | exact pu_lens rfl rfl | exact pu_pick rfl | exact pu_slice rfl rfl) (fun K hK => ?_) | refine wpX_rd rfl rfl rfl (rd_load rfl) (fun K hK => ?_) | refine wpX_gr rfl rfl rfl (by first | exact gr_buildSlice rfl | exact gr_box rfl | exact gr_alloc rfl) (fun K hK => ?_) | refine wpX_ex rfl rfl rfl (fun K hK => ?_)
                try go_wp2
              refine wpX_done ?_
              go_wp2
              go_roundw
              case rel => exact ⟨(m + 1) + 1, by omega, by first | rfl | go_num, FEN.out, fun k hk hlt2 => by
                  by_cases h : k < (m + 1)
                  · exact HNA.out k hk h
                  · obtain rfl : k = (m + 1) := by omega
                    exact HNV.out, fun k hk h => last_step HRI.out HCC.out k hk h⟩
              case measure => simp [intOf]; omega
      · obtain rfl : j = x.f.length := by omega
        have hri2 : risesF none x.f = true := (rises_iff none x.f).2 ⟨fun k hk => HNA.out k hk hk, fun q h => (by cases h), fun k hk => HRI.out k hk hk⟩
        have HR2 := Lib.hid hri2
        have q3 := cell_of_row wr w.heap.size 3 _ _ (0, 0) hb0
        have q4 := cell_of_row wr w.heap.size 4 _ _ (0, 0) hb0
        simp only [List.getElem?_toArray, List.getElem?_cons_succ, List.getElem?_cons_zero] at q3 q4
        have FX := Lib.hid (F1.out.trans HF.out (fun _ _ h => h))
        clear hri2
        go_wp2_with fail
        refine (valid_any wr x.t HX.out.node.t (HT.out.kept0 FX.out)).mono ?_
        rintro e w3 ⟨rfl, f3⟩
        cases hv : Lib.validD x.t with
        | false =>
          have HV := Lib.hid hv; have F3 := Lib.hid (FX.out.trans f3 (fun _ _ h => h)); clear hv f3
          go_wp2
          refine bodyPost_ret (results_tmp rfl _ _ _) rfl ?_
          have hown : own x = 34 := by unfold own; rw [if_neg (by rw [HS.out]; exact Bool.noConfusion), if_neg (by rw [HR2.out]; exact Bool.noConfusion), if_pos HV.out]
          rw [hown]
          exact ⟨rfl, F3.out⟩
        | true =>
          have q3 := f3.cell q3 (fun h => h)
          have q4 := f3.cell q4 (fun h => h)
          have hbl := Nat.lt_of_lt_of_le hbl f3.size
          have HV := Lib.hid hv; have F3 := Lib.hid (FX.out.trans f3 (fun _ _ h => h)); clear hv f3 hb0
          go_wp2_with fail
          refine (runes_any w3 x.t HX.out.node.t).mono ?_
          rintro e w4 ⟨rfl, f4⟩
          have q4 := f4.cell q4 (fun h => h)
          have hbl := Nat.lt_of_lt_of_le hbl f4.size
          have F4 := Lib.hid (F3.out.trans f4 (fun _ _ h => h)); clear f4
          have hown : own x = if 1000 < Lib.runeCountL x.t ∨ 4000 < x.bs.length then 33 else 0 := by unfold own; rw [if_neg (by rw [HS.out]; exact Bool.noConfusion), if_neg (by rw [HR2.out]; exact Bool.noConfusion), if_neg (by rw [HV.out]; exact Bool.noConfusion)]
          have HOWN := Lib.hid hown; clear hown
          by_cases h1 : 1000 < Lib.runeCountL x.t
          · have g1 : decide ((1000 : Int) < (Lib.runeCountL x.t : Int)) = true := decide_eq_true (by omega)
            have H1 := Lib.hid h1; clear h1
            go_wp2
            refine bodyPost_ret (results_tmp rfl _ _ _) rfl ?_
            rw [HOWN.out, if_pos (.inl H1.out)]
            exact ⟨rfl, F4.out⟩
          · have g1 : decide ((1000 : Int) < (Lib.runeCountL x.t : Int)) = false := decide_eq_false (by omega)
            have H1 := Lib.hid h1; clear h1
            by_cases h2 : 4000 < x.bs.length
            · have g2 : decide ((4000 : Int) < (x.bs.length : Int)) = true := decide_eq_true (by omega)
              have H2 := Lib.hid h2; clear h2
              go_wp2
              refine bodyPost_ret (results_tmp rfl _ _ _) rfl ?_
              rw [HOWN.out, if_pos (.inr H2.out)]
              exact ⟨rfl, F4.out⟩
            · have g2 : decide ((4000 : Int) < (x.bs.length : Int)) = false := decide_eq_false (by omega)
              have H2 := Lib.hid h2; clear h2
              go_wp2
              refine bodyPost_ret (results_tmp rfl _ _ _) rfl ?_
              rw [HOWN.out, if_neg (fun h => h.elim H1.out H2.out)]
              exact ⟨rfl, F4.out⟩
  · have p5 := lz x.bs h1; have p6 := nz x.l h2; have p7 := lz x.f h3
    clear k5 k6 k7
    have k5 : ((x.k.toNat : Int) == 5) = false := by rw [h0]; rfl
    have k6 : ((x.k.toNat : Int) == 6) = true := by rw [h0]; rfl
    have k7 : ((x.k.toNat : Int) == 7) = false := by rw [h0]; rfl
    clear pf pl pb lz nz h0 h1 h2 h3
    go_enter Tryz.func71, Tryz.ntmps71
    go_wp2_with fail
    refine (HBA.out _ (by (repeat first | exact Fr.refl _ _ | exact Fr.drewN _ _ _ | apply Fr.drew | apply Fr.alloc | apply Fr.setAt | apply Fr.moreN))).mono ?_
    rintro e w1 ⟨rfl, f1⟩
    have F1 := Lib.hid (Fr.trans (by (repeat first | exact Fr.refl _ _ | exact Fr.drewN _ _ _ | apply Fr.drew | apply Fr.alloc | apply Fr.setAt | apply Fr.moreN) : Fr no w _) f1 (fun _ _ h => h))
    have hb0 := f1.heap (heap_alloc_new w _) (fun h => h)
    have HB0 := Lib.hid hb0
    have hbl := (Array.getElem?_eq_some_iff.1 hb0).1
    have q0 := cell_of_row w1 w.heap.size 0 _ _ (0, 0) hb0
    have q1 := cell_of_row w1 w.heap.size 1 _ _ (0, 0) hb0
    have q2 := cell_of_row w1 w.heap.size 2 _ _ (0, 0) hb0
    have q3 := cell_of_row w1 w.heap.size 3 _ _ (0, 0) hb0
    have q4 := cell_of_row w1 w.heap.size 4 _ _ (0, 0) hb0
    have q5 := cell_of_row w1 w.heap.size 5 _ _ (0, 0) hb0
    have q6 := cell_of_row w1 w.heap.size 6 _ _ (0, 0) hb0
    simp only [List.getElem?_toArray, List.getElem?_cons_succ, List.getElem?_cons_zero] at q0 q1 q2 q3 q4 q5 q6
    clear f1 hb0
    go_wp2
    clear d1 d2 k5 k6 k7 p5 p6 p7
    go_loopw [79] (fun iv wr => ∃ j : Nat, j ≤ x.f.length ∧ iv = .int .i64 j ∧ Fr no w1 wr ∧ (∀ k (h : k < x.f.length), k < j → nameV x.f[k].1 = true) ∧ ∀ k (h : k + 1 < x.f.length), k + 1 < j → cb x.f[k].1 x.f[k + 1].1 < 0) (fun iv _ => x.f.length - (intOf iv).toNat)
    case atStart => exact ⟨0, Nat.zero_le _, rfl, by (repeat first | exact Fr.refl _ _ | exact Fr.drewN _ _ _ | apply Fr.drew | apply Fr.alloc | apply Fr.setAt | apply Fr.moreN), fun k _ h => by omega, fun k _ h => by omega⟩
    case round =>
      obtain ⟨j, hj, rfl, hf, hna, hri⟩ := hrel
      have HF := Lib.hid hf; have HNA := Lib.hid hna; have HRI := Lib.hid hri; clear hf hna hri q0 q1 q2 q3 q4 q5 q6 hbl
      have hb0 := HF.out.heap HB0.out (fun h => h)
      have hbl := (Array.getElem?_eq_some_iff.1 hb0).1
      by_cases hlt : j < x.f.length
      · have hin := (HX.out.kept0 (F1.out.trans HF.out (fun _ _ h => h))).inF; rw [HFO.out.F] at hin
        have HIN := Lib.hid hin; clear hin
        have q6 := cell_of_row wr w.heap.size 6 _ _ (0, 0) hb0
        simp only [List.getElem?_toArray, List.getElem?_cons_succ, List.getElem?_cons_zero] at q6
        clear hb0
        cases hnv : nameV x.f[j].1 with
        | false =>
          obtain ⟨b, o, KB, kb, KL, kl, KF, kf, hA, -, r0, r1, r2, r3, r4, r5, r6, r7, hbl2⟩ := HIN.out.get j hlt
          subst hA
          have HNV := Lib.hid hnv; clear hnv
          go_wp2_with fail
          refine wp_region_ord (List.range 20) (fun i => [Kd.p, Kd.l, Kd.e, Kd.p, Kd.p, Kd.p, Kd.p, Kd.p, Kd.p, Kd.l, Kd.p, Kd.l, Kd.p, Kd.p, Kd.p, Kd.p, Kd.l, Kd.p, Kd.p, Kd.p].getD i .e) (by kernel_rfl) (by kernel_rfl) ?_
          iterate 2
            first | (refine wpX_un rfl rfl ?_; go_simp) | first | refine wpX_pu rfl rfl rfl (by first | exact pu_move rfl | exact pu_assign rfl | exact pu_nilCheck rfl rfl | exact pu_binInt rfl rfl rfl | exact pu_conv rfl rfl (by kernel_rfl) | exact pu_fld rfl (by kernel_rfl) | exact pu_ix rfl rfl rfl (by kernel_rfl) | exact pu_unOp rfl | exact pu_binStr rfl rfl rfl | exact pu_len rfl rfl | exact pu_lens rfl rfl | exact pu_pick rfl | exact pu_slice rfl rfl) (fun K hK => ?_) | refine wpX_rd rfl rfl rfl (rd_load rfl) (fun K hK => ?_) | refine wpX_gr rfl rfl rfl (by first | exact gr_buildSlice rfl | exact gr_box rfl | exact gr_alloc rfl) (fun K hK => ?_) | refine wpX_ex rfl rfl rfl (fun K hK => ?_)
            try go_wp2
          refine wpX_ex rfl rfl rfl (fun K hK => ?_)
          go_wp2_with fail
          refine (name_any _ x.f[j].1 (HX.out.node.n _ (List.getElem_mem _)) (HT.out.kept0 ((F1.out.trans HF.out (fun _ _ h => h)).trans (by (repeat first | exact Fr.refl _ _ | exact Fr.drewN _ _ _ | apply Fr.drew | apply Fr.alloc | apply Fr.setAt | apply Fr.moreN) : Fr no wr _) (fun _ _ h => h)))).mono ?_
          rintro e w3 ⟨rfl, f3⟩
          rw [HNV.out]
          have FEN := Lib.hid ((HF.out.trans (by (repeat first | exact Fr.refl _ _ | exact Fr.drewN _ _ _ | apply Fr.drew | apply Fr.alloc | apply Fr.setAt | apply Fr.moreN) : Fr no wr _) (fun _ _ h => h)).trans f3 (fun _ _ h => h))
          have FEND := Lib.hid (F1.out.trans FEN.out (fun _ _ h => h)); clear f3
          go_wp2_with fail
          iterate 17
            first | (refine wpX_un rfl rfl ?_; go_simp) | first | refine wpX_pu rfl rfl rfl (by first | exact pu_move rfl | exact pu_assign rfl | exact pu_nilCheck rfl rfl | exact pu_binInt rfl rfl rfl | exact pu_conv rfl rfl (by kernel_rfl) | exact pu_fld rfl (by kernel_rfl) | exact pu_ix rfl rfl rfl (by kernel_rfl) | exact pu_unOp rfl | exact pu_binStr rfl rfl rfl | exact pu_len rfl rfl | exact pu_lens rfl rfl | exact pu_pick rfl | exact pu_slice rfl rfl) (fun K hK => ?_) | refine wpX_rd rfl rfl rfl (rd_load rfl) (fun K hK => ?_) | refine wpX_gr rfl rfl rfl (by first | exact gr_buildSlice rfl | exact gr_box rfl | exact gr_alloc rfl) (fun K hK => ?_) | refine wpX_ex rfl rfl rfl (fun K hK => ?_)
            try go_wp2
          refine wpX_done ?_
          go_wp2_with fail
          refine bodyPost_ret (results_tmp rfl _ _ _) rfl ?_
          have hown : own x = 30 := own_rises HS.out (by cases h : risesF none x.f with | false => rfl | true => exact absurd (((rises_iff none x.f).1 h).1 j hlt) (by rw [HNV.out]; exact Bool.noConfusion))
          rw [hown]
          exact ⟨rfl, FEND.out⟩
        | true =>
          have HNV := Lib.hid hnv; clear hnv
          rcases j with _ | m
          · obtain ⟨b, o, KB, kb, KL, kl, KF, kf, hA, -, r0, r1, r2, r3, r4, r5, r6, r7, hbl2⟩ := HIN.out.get 0 hlt
            subst hA
            simp only [Nat.zero_mul, Nat.add_zero] at r0 r1 r2 r3 r4 r5 r6 r7
            go_wp2_with fail
            refine wp_region_ord (List.range 20) (fun i => [Kd.p, Kd.l, Kd.e, Kd.p, Kd.p, Kd.p, Kd.p, Kd.p, Kd.p, Kd.l, Kd.p, Kd.l, Kd.p, Kd.p, Kd.p, Kd.p, Kd.l, Kd.p, Kd.p, Kd.p].getD i .e) (by kernel_rfl) (by kernel_rfl) ?_
            iterate 2
              first | (refine wpX_un rfl rfl ?_; go_simp) | first | refine wpX_pu rfl rfl rfl (by first | exact pu_move rfl | exact pu_assign rfl | exact pu_nilCheck rfl rfl | exact pu_binInt rfl rfl rfl | exact pu_conv rfl rfl (by kernel_rfl) | exact pu_fld rfl (by kernel_rfl) | exact pu_ix rfl rfl rfl (by kernel_rfl) | exact pu_unOp rfl | exact pu_binStr rfl rfl rfl | exact pu_len rfl rfl | exact pu_lens rfl rfl | exact pu_pick rfl | exact pu_slice rfl rfl) (fun K hK => ?_) | refine wpX_rd rfl rfl rfl (rd_load rfl) (fun K hK => ?_) | refine wpX_gr rfl rfl rfl (by first | exact gr_buildSlice rfl | exact gr_box rfl | exact gr_alloc rfl) (fun K hK => ?_) | refine wpX_ex rfl rfl rfl (fun K hK => ?_)
              try go_wp2
            refine wpX_ex rfl rfl rfl (fun K hK => ?_)
            go_wp2_with fail
            refine (name_any _ x.f[0].1 (HX.out.node.n _ (List.getElem_mem _)) (HT.out.kept0 ((F1.out.trans HF.out (fun _ _ h => h)).trans (by (repeat first | exact Fr.refl _ _ | exact Fr.drewN _ _ _ | apply Fr.drew | apply Fr.alloc | apply Fr.setAt | apply Fr.moreN) : Fr no wr _) (fun _ _ h => h)))).mono ?_
            rintro e w3 ⟨rfl, f3⟩
            rw [HNV.out]
            have FEN := Lib.hid ((HF.out.trans (by (repeat first | exact Fr.refl _ _ | exact Fr.drewN _ _ _ | apply Fr.drew | apply Fr.alloc | apply Fr.setAt | apply Fr.moreN) : Fr no wr _) (fun _ _ h => h)).trans f3 (fun _ _ h => h))
            have FEND := Lib.hid (F1.out.trans FEN.out (fun _ _ h => h)); clear f3
            go_wp2_with fail
            iterate 17
              first | (refine wpX_un rfl rfl ?_; go_simp) | first | refine wpX_pu rfl rfl rfl (by first | exact pu_move rfl | exact pu_assign rfl | exact pu_nilCheck rfl rfl | exact pu_binInt rfl rfl rfl | exact pu_conv rfl rfl (by kernel_rfl) | exact pu_fld rfl (by kernel_rfl) | exact pu_ix rfl rfl rfl (by kernel_rfl) | exact pu_unOp rfl | exact pu_binStr rfl rfl rfl | exact pu_len rfl rfl | exact pu_lens rfl rfl | exact pu_pick rfl | exact pu_slice rfl rfl) (fun K hK => ?_) | refine wpX_rd rfl rfl rfl (rd_load rfl) (fun K hK => ?_) | refine wpX_gr rfl rfl rfl (by first | exact gr_buildSlice rfl | exact gr_box rfl | exact gr_alloc rfl) (fun K hK => ?_) | refine wpX_ex rfl rfl rfl (fun K hK => ?_)
              try go_wp2
            refine wpX_done ?_
            go_wp2
            go_roundw
            case rel => exact ⟨0 + 1, by omega, by first | rfl | go_num, FEN.out, fun k hk hlt2 => by
                by_cases h : k < 0
                · exact HNA.out k hk h
                · obtain rfl : k = 0 := by omega
                  exact HNV.out, fun k hk h => by omega⟩
            case measure => simp [intOf]; omega
          · obtain ⟨b, o, KB, kb, KL, kl, KF, kf, hA, -, r0, r1, r2, r3, r4, r5, r6, r7, hbl2⟩ := HIN.out.get (m + 1) hlt
            subst hA
            obtain ⟨b', o', hA2, s0, -⟩ := InF.at HIN.out.sl m (by omega)
            simp only [Option.some.injEq, Addr.mk.injEq, and_true] at hA2
            obtain ⟨rfl, rfl⟩ := hA2
            have gg : decide ((0 : Int) < (m : Int) + 1) = true := decide_eq_true (by omega)
            have gg2 : decide (0 < m + 1) = true := by simp
            by_cases hc : cb x.f[m + 1].1 x.f[m].1 ≤ 0
            · have le8 : decide (cb x.f[m + 1].1 x.f[m].1 ≤ 0) = true := decide_eq_true hc
              have lb8 : (Op.bytesLess x.f[m + 1].1 x.f[m].1 || x.f[m + 1].1 == x.f[m].1) = true := by rw [leq_cb]; exact le8
              have HCC := Lib.hid hc; clear hc
              go_wp2_with fail
              refine wp_region_ord (List.range 20) (fun i => [Kd.p, Kd.l, Kd.e, Kd.p, Kd.p, Kd.p, Kd.p, Kd.p, Kd.p, Kd.l, Kd.p, Kd.l, Kd.p, Kd.p, Kd.p, Kd.p, Kd.l, Kd.p, Kd.p, Kd.p].getD i .e) (by kernel_rfl) (by kernel_rfl) ?_
              iterate 2
                first | (refine wpX_un rfl rfl ?_; go_simp) | first | refine wpX_pu rfl rfl rfl (by first | exact pu_move rfl | exact pu_assign rfl | exact pu_nilCheck rfl rfl | exact pu_binInt rfl rfl rfl | exact pu_conv rfl rfl (by kernel_rfl) | exact pu_fld rfl (by kernel_rfl) | exact pu_ix rfl rfl rfl (by kernel_rfl) | exact pu_unOp rfl | exact pu_binStr rfl rfl rfl | exact pu_len rfl rfl | exact pu_lens rfl rfl | exact pu_pick rfl | exact pu_slice rfl rfl) (fun K hK => ?_) | refine wpX_rd rfl rfl rfl (rd_load rfl) (fun K hK => ?_) | refine wpX_gr rfl rfl rfl (by first | exact gr_buildSlice rfl | exact gr_box rfl | exact gr_alloc rfl) (fun K hK => ?_) | refine wpX_ex rfl rfl rfl (fun K hK => ?_)
                try go_wp2
              refine wpX_ex rfl rfl rfl (fun K hK => ?_)
              go_wp2_with fail
              refine (name_any _ x.f[m + 1].1 (HX.out.node.n _ (List.getElem_mem _)) (HT.out.kept0 ((F1.out.trans HF.out (fun _ _ h => h)).trans (by (repeat first | exact Fr.refl _ _ | exact Fr.drewN _ _ _ | apply Fr.drew | apply Fr.alloc | apply Fr.setAt | apply Fr.moreN) : Fr no wr _) (fun _ _ h => h)))).mono ?_
              rintro e w3 ⟨rfl, f3⟩
              rw [HNV.out]
              have g7 := f3.heap (heap_alloc_new wr (.cells #[.string ⟨x.f[m + 1].1.toArray⟩, .int .u8 x.f[m + 1].2.k.toNat, .bool x.f[m + 1].2.b, .int .i64 x.f[m + 1].2.i, .string ⟨x.f[m + 1].2.t.toArray⟩, .slice KB x.f[m + 1].2.bs.length kb, .slice KL x.f[m + 1].2.l.length kl, .slice KF x.f[m + 1].2.f.length kf] 87)) (fun h => h)
              have r0 := cell_of_row w3 wr.heap.size 0 _ _ (0, 0) g7
              simp only [List.getElem?_toArray, List.getElem?_cons_zero] at r0
              have g8 := (Array.getElem?_eq_some_iff.1 g7).1
              have FW := (by (repeat first | exact Fr.refl _ _ | exact Fr.drewN _ _ _ | apply Fr.drew | apply Fr.alloc | apply Fr.setAt | apply Fr.moreN) : Fr no wr _).trans f3 (fun _ _ h => h)
              have s0 := FW.cell s0 (fun h => h)
              have q6 := FW.cell q6 (fun h => h)
              have hbl := Nat.lt_of_lt_of_le hbl FW.size
              have hbl2 := Nat.lt_of_lt_of_le hbl2 FW.size
              clear g7 FW r1 r2 r3 r4 r5 r6 r7
              have FEN := Lib.hid ((HF.out.trans (by (repeat first | exact Fr.refl _ _ | exact Fr.drewN _ _ _ | apply Fr.drew | apply Fr.alloc | apply Fr.setAt | apply Fr.moreN) : Fr no wr _) (fun _ _ h => h)).trans f3 (fun _ _ h => h))
              have FEND := Lib.hid (F1.out.trans FEN.out (fun _ _ h => h)); clear f3
              go_wp2_with fail
              iterate 17
                first | (refine wpX_un rfl rfl ?_; go_simp) | first | refine wpX_pu rfl rfl rfl (by first | exact pu_move rfl | exact pu_assign rfl | exact pu_nilCheck rfl rfl | exact pu_binInt rfl rfl rfl | exact pu_conv rfl rfl (by kernel_rfl) | exact pu_fld rfl (by kernel_rfl) | exact pu_ix rfl rfl rfl (by kernel_rfl) | exact pu_unOp rfl | exact pu_binStr rfl rfl rfl | exact pu_len rfl rfl | exact pu_lens rfl rfl | exact pu_pick rfl | exact pu_slice rfl rfl) (fun K hK => ?_) | refine wpX_rd rfl rfl rfl (rd_load rfl) (fun K hK => ?_) | refine wpX_gr rfl rfl rfl (by first | exact gr_buildSlice rfl | exact gr_box rfl | exact gr_alloc rfl) (fun K hK => ?_) | refine wpX_ex rfl rfl rfl (fun K hK => ?_)
                try go_wp2
              refine wpX_done ?_
              go_wp2_with fail
              refine bodyPost_ret (results_tmp rfl _ _ _) rfl ?_
              have hown : own x = 30 := own_rises HS.out (by cases h : risesF none x.f with | false => rfl | true => (have h2 := ((rises_iff none x.f).1 h).2.2 m hlt; have h3 := HCC.out; rw [cb_swap] at h2; exfalso; omega))
              rw [hown]
              exact ⟨rfl, FEND.out⟩
            · have le8 : decide (cb x.f[m + 1].1 x.f[m].1 ≤ 0) = false := decide_eq_false hc
              have lb8 : (Op.bytesLess x.f[m + 1].1 x.f[m].1 || x.f[m + 1].1 == x.f[m].1) = false := by rw [leq_cb]; exact le8
              have HCC := Lib.hid hc; clear hc
              go_wp2_with fail
              refine wp_region_ord (List.range 20) (fun i => [Kd.p, Kd.l, Kd.e, Kd.p, Kd.p, Kd.p, Kd.p, Kd.p, Kd.p, Kd.l, Kd.p, Kd.l, Kd.p, Kd.p, Kd.p, Kd.p, Kd.l, Kd.p, Kd.p, Kd.p].getD i .e) (by kernel_rfl) (by kernel_rfl) ?_
              iterate 2
                first | (refine wpX_un rfl rfl ?_; go_simp) | first | refine wpX_pu rfl rfl rfl (by first | exact pu_move rfl | exact pu_assign rfl | exact pu_nilCheck rfl rfl | exact pu_binInt rfl rfl rfl | exact pu_conv rfl rfl (by kernel_rfl) | exact pu_fld rfl (by kernel_rfl) | exact pu_ix rfl rfl rfl (by kernel_rfl) | exact pu_unOp rfl | exact pu_binStr rfl rfl rfl | exact pu_len rfl rfl | exact pu_lens rfl rfl | exact pu_pick rfl | exact pu_slice rfl rfl) (fun K hK => ?_) | refine wpX_rd rfl rfl rfl (rd_load rfl) (fun K hK => ?_) | refine wpX_gr rfl rfl rfl (by first | exact gr_buildSlice rfl | exact gr_box rfl | exact gr_alloc rfl) (fun K hK => ?_) | refine wpX_ex rfl rfl rfl (fun K hK => ?_)
                try go_wp2
              refine wpX_ex rfl rfl rfl (fun K hK => ?_)
              go_wp2_with fail
              refine (name_any _ x.f[m + 1].1 (HX.out.node.n _ (List.getElem_mem _)) (HT.out.kept0 ((F1.out.trans HF.out (fun _ _ h => h)).trans (by (repeat first | exact Fr.refl _ _ | exact Fr.drewN _ _ _ | apply Fr.drew | apply Fr.alloc | apply Fr.setAt | apply Fr.moreN) : Fr no wr _) (fun _ _ h => h)))).mono ?_
              rintro e w3 ⟨rfl, f3⟩
              rw [HNV.out]
              have g7 := f3.heap (heap_alloc_new wr (.cells #[.string ⟨x.f[m + 1].1.toArray⟩, .int .u8 x.f[m + 1].2.k.toNat, .bool x.f[m + 1].2.b, .int .i64 x.f[m + 1].2.i, .string ⟨x.f[m + 1].2.t.toArray⟩, .slice KB x.f[m + 1].2.bs.length kb, .slice KL x.f[m + 1].2.l.length kl, .slice KF x.f[m + 1].2.f.length kf] 87)) (fun h => h)
              have r0 := cell_of_row w3 wr.heap.size 0 _ _ (0, 0) g7
              simp only [List.getElem?_toArray, List.getElem?_cons_zero] at r0
              have g8 := (Array.getElem?_eq_some_iff.1 g7).1
              have FW := (by (repeat first | exact Fr.refl _ _ | exact Fr.drewN _ _ _ | apply Fr.drew | apply Fr.alloc | apply Fr.setAt | apply Fr.moreN) : Fr no wr _).trans f3 (fun _ _ h => h)
              have s0 := FW.cell s0 (fun h => h)
              have q6 := FW.cell q6 (fun h => h)
              have hbl := Nat.lt_of_lt_of_le hbl FW.size
              have hbl2 := Nat.lt_of_lt_of_le hbl2 FW.size
              clear g7 FW r1 r2 r3 r4 r5 r6 r7
              have FEN := Lib.hid ((HF.out.trans (by (repeat first | exact Fr.refl _ _ | exact Fr.drewN _ _ _ | apply Fr.drew | apply Fr.alloc | apply Fr.setAt | apply Fr.moreN) : Fr no wr _) (fun _ _ h => h)).trans f3 (fun _ _ h => h))
              have FEND := Lib.hid (F1.out.trans FEN.out (fun _ _ h => h)); clear f3
              go_wp2_with fail
              iterate 17
                first | (refine wpX_un rfl rfl ?_; go_simp) | first | refine wpX_pu rfl rfl rfl (by first | exact pu_move rfl | exact pu_assign rfl | exact pu_nilCheck rfl rfl | exact pu_binInt rfl rfl rfl | exact pu_conv rfl rfl (by kernel_rfl) | exact pu_fld rfl (by kernel_rfl) | exact pu_ix rfl rfl rfl (by kernel_rfl) | exact pu_unOp rfl | exact pu_binStr rfl rfl rfl | exact pu_len rfl rfl | exact pu_lens rfl rfl | exact pu_pick rfl | exact pu_slice rfl rfl) (fun K hK => ?_) | refine wpX_rd rfl rfl rfl (rd_load rfl) (fun K hK => ?_) | refine wpX_gr rfl rfl rfl (by first | exact gr_buildSlice rfl | exact gr_box rfl | exact gr_alloc rfl) (fun K hK => ?_) | refine wpX_ex rfl rfl rfl (fun K hK => ?_)
                try go_wp2
              refine wpX_done ?_
              go_wp2
              go_roundw
              case rel => exact ⟨(m + 1) + 1, by omega, by first | rfl | go_num, FEN.out, fun k hk hlt2 => by
                  by_cases h : k < (m + 1)
                  · exact HNA.out k hk h
                  · obtain rfl : k = (m + 1) := by omega
                    exact HNV.out, fun k hk h => last_step HRI.out HCC.out k hk h⟩
              case measure => simp [intOf]; omega
      · obtain rfl : j = x.f.length := by omega
        have hri2 : risesF none x.f = true := (rises_iff none x.f).2 ⟨fun k hk => HNA.out k hk hk, fun q h => (by cases h), fun k hk => HRI.out k hk hk⟩
        have HR2 := Lib.hid hri2
        have q3 := cell_of_row wr w.heap.size 3 _ _ (0, 0) hb0
        have q4 := cell_of_row wr w.heap.size 4 _ _ (0, 0) hb0
        simp only [List.getElem?_toArray, List.getElem?_cons_succ, List.getElem?_cons_zero] at q3 q4
        have FX := Lib.hid (F1.out.trans HF.out (fun _ _ h => h))
        clear hri2
        go_wp2_with fail
        refine (valid_any wr x.t HX.out.node.t (HT.out.kept0 FX.out)).mono ?_
        rintro e w3 ⟨rfl, f3⟩
        cases hv : Lib.validD x.t with
        | false =>
          have HV := Lib.hid hv; have F3 := Lib.hid (FX.out.trans f3 (fun _ _ h => h)); clear hv f3
          go_wp2
          refine bodyPost_ret (results_tmp rfl _ _ _) rfl ?_
          have hown : own x = 34 := by unfold own; rw [if_neg (by rw [HS.out]; exact Bool.noConfusion), if_neg (by rw [HR2.out]; exact Bool.noConfusion), if_pos HV.out]
          rw [hown]
          exact ⟨rfl, F3.out⟩
        | true =>
          have q3 := f3.cell q3 (fun h => h)
          have q4 := f3.cell q4 (fun h => h)
          have hbl := Nat.lt_of_lt_of_le hbl f3.size
          have HV := Lib.hid hv; have F3 := Lib.hid (FX.out.trans f3 (fun _ _ h => h)); clear hv f3 hb0
          go_wp2_with fail
          refine (runes_any w3 x.t HX.out.node.t).mono ?_
          rintro e w4 ⟨rfl, f4⟩
          have q4 := f4.cell q4 (fun h => h)
          have hbl := Nat.lt_of_lt_of_le hbl f4.size
          have F4 := Lib.hid (F3.out.trans f4 (fun _ _ h => h)); clear f4
          have hown : own x = if 1000 < Lib.runeCountL x.t ∨ 4000 < x.bs.length then 33 else 0 := by unfold own; rw [if_neg (by rw [HS.out]; exact Bool.noConfusion), if_neg (by rw [HR2.out]; exact Bool.noConfusion), if_neg (by rw [HV.out]; exact Bool.noConfusion)]
          have HOWN := Lib.hid hown; clear hown
          by_cases h1 : 1000 < Lib.runeCountL x.t
          · have g1 : decide ((1000 : Int) < (Lib.runeCountL x.t : Int)) = true := decide_eq_true (by omega)
            have H1 := Lib.hid h1; clear h1
            go_wp2
            refine bodyPost_ret (results_tmp rfl _ _ _) rfl ?_
            rw [HOWN.out, if_pos (.inl H1.out)]
            exact ⟨rfl, F4.out⟩
          · have g1 : decide ((1000 : Int) < (Lib.runeCountL x.t : Int)) = false := decide_eq_false (by omega)
            have H1 := Lib.hid h1; clear h1
            by_cases h2 : 4000 < x.bs.length
            · have g2 : decide ((4000 : Int) < (x.bs.length : Int)) = true := decide_eq_true (by omega)
              have H2 := Lib.hid h2; clear h2
              go_wp2
              refine bodyPost_ret (results_tmp rfl _ _ _) rfl ?_
              rw [HOWN.out, if_pos (.inr H2.out)]
              exact ⟨rfl, F4.out⟩
            · have g2 : decide ((4000 : Int) < (x.bs.length : Int)) = false := decide_eq_false (by omega)
              have H2 := Lib.hid h2; clear h2
              go_wp2
              refine bodyPost_ret (results_tmp rfl _ _ _) rfl ?_
              rw [HOWN.out, if_neg (fun h => h.elim H1.out H2.out)]
              exact ⟨rfl, F4.out⟩
  · have p5 := lz x.bs h1; have p6 := lz x.l h2; have p7 := nz x.f h3
    clear k5 k6 k7
    have k5 : ((x.k.toNat : Int) == 5) = false := by rw [h0]; rfl
    have k6 : ((x.k.toNat : Int) == 6) = false := by rw [h0]; rfl
    have k7 : ((x.k.toNat : Int) == 7) = true := by rw [h0]; rfl
    clear pf pl pb lz nz h0 h1 h2 h3
    go_enter Tryz.func71, Tryz.ntmps71
    go_wp2_with fail
    refine (HBA.out _ (by (repeat first | exact Fr.refl _ _ | exact Fr.drewN _ _ _ | apply Fr.drew | apply Fr.alloc | apply Fr.setAt | apply Fr.moreN))).mono ?_
    rintro e w1 ⟨rfl, f1⟩
    have F1 := Lib.hid (Fr.trans (by (repeat first | exact Fr.refl _ _ | exact Fr.drewN _ _ _ | apply Fr.drew | apply Fr.alloc | apply Fr.setAt | apply Fr.moreN) : Fr no w _) f1 (fun _ _ h => h))
    have hb0 := f1.heap (heap_alloc_new w _) (fun h => h)
    have HB0 := Lib.hid hb0
    have hbl := (Array.getElem?_eq_some_iff.1 hb0).1
    have q0 := cell_of_row w1 w.heap.size 0 _ _ (0, 0) hb0
    have q1 := cell_of_row w1 w.heap.size 1 _ _ (0, 0) hb0
    have q2 := cell_of_row w1 w.heap.size 2 _ _ (0, 0) hb0
    have q3 := cell_of_row w1 w.heap.size 3 _ _ (0, 0) hb0
    have q4 := cell_of_row w1 w.heap.size 4 _ _ (0, 0) hb0
    have q5 := cell_of_row w1 w.heap.size 5 _ _ (0, 0) hb0
    have q6 := cell_of_row w1 w.heap.size 6 _ _ (0, 0) hb0
    simp only [List.getElem?_toArray, List.getElem?_cons_succ, List.getElem?_cons_zero] at q0 q1 q2 q3 q4 q5 q6
    clear f1 hb0
    go_wp2
    clear d1 d2 k5 k6 k7 p5 p6 p7
    go_loopw [79] (fun iv wr => ∃ j : Nat, j ≤ x.f.length ∧ iv = .int .i64 j ∧ Fr no w1 wr ∧ (∀ k (h : k < x.f.length), k < j → nameV x.f[k].1 = true) ∧ ∀ k (h : k + 1 < x.f.length), k + 1 < j → cb x.f[k].1 x.f[k + 1].1 < 0) (fun iv _ => x.f.length - (intOf iv).toNat)
    case atStart => exact ⟨0, Nat.zero_le _, rfl, by (repeat first | exact Fr.refl _ _ | exact Fr.drewN _ _ _ | apply Fr.drew | apply Fr.alloc | apply Fr.setAt | apply Fr.moreN), fun k _ h => by omega, fun k _ h => by omega⟩
    case round =>
      obtain ⟨j, hj, rfl, hf, hna, hri⟩ := hrel
      have HF := Lib.hid hf; have HNA := Lib.hid hna; have HRI := Lib.hid hri; clear hf hna hri q0 q1 q2 q3 q4 q5 q6 hbl
      have hb0 := HF.out.heap HB0.out (fun h => h)
      have hbl := (Array.getElem?_eq_some_iff.1 hb0).1
      by_cases hlt : j < x.f.length
      · have hin := (HX.out.kept0 (F1.out.trans HF.out (fun _ _ h => h))).inF; rw [HFO.out.F] at hin
        have HIN := Lib.hid hin; clear hin
        have q6 := cell_of_row wr w.heap.size 6 _ _ (0, 0) hb0
        simp only [List.getElem?_toArray, List.getElem?_cons_succ, List.getElem?_cons_zero] at q6
        clear hb0
        cases hnv : nameV x.f[j].1 with
        | false =>
          obtain ⟨b, o, KB, kb, KL, kl, KF, kf, hA, -, r0, r1, r2, r3, r4, r5, r6, r7, hbl2⟩ := HIN.out.get j hlt
          subst hA
          have HNV := Lib.hid hnv; clear hnv
          go_wp2_with fail
          refine wp_region_ord (List.range 20) (fun i => [Kd.p, Kd.l, Kd.e, Kd.p, Kd.p, Kd.p, Kd.p, Kd.p, Kd.p, Kd.l, Kd.p, Kd.l, Kd.p, Kd.p, Kd.p, Kd.p, Kd.l, Kd.p, Kd.p, Kd.p].getD i .e) (by kernel_rfl) (by kernel_rfl) ?_
          iterate 2
            first | (refine wpX_un rfl rfl ?_; go_simp) | first | refine wpX_pu rfl rfl rfl (by first | exact pu_move rfl | exact pu_assign rfl | exact pu_nilCheck rfl rfl | exact pu_binInt rfl rfl rfl | exact pu_conv rfl rfl (by kernel_rfl) | exact pu_fld rfl (by kernel_rfl) | exact pu_ix rfl rfl rfl (by kernel_rfl) | exact pu_unOp rfl | exact pu_binStr rfl rfl rfl | exact pu_len rfl rfl | exact pu_lens rfl rfl | exact pu_pick rfl | exact pu_slice rfl rfl) (fun K hK => ?_) | refine wpX_rd rfl rfl rfl (rd_load rfl) (fun K hK => ?_) | refine wpX_gr rfl rfl rfl (by first | exact gr_buildSlice rfl | exact gr_box rfl | exact gr_alloc rfl) (fun K hK => ?_) | refine wpX_ex rfl rfl rfl (fun K hK => ?_)
            try go_wp2
          refine wpX_ex rfl rfl rfl (fun K hK => ?_)
          go_wp2_with fail
          refine (name_any _ x.f[j].1 (HX.out.node.n _ (List.getElem_mem _)) (HT.out.kept0 ((F1.out.trans HF.out (fun _ _ h => h)).trans (by (repeat first | exact Fr.refl _ _ | exact Fr.drewN _ _ _ | apply Fr.drew | apply Fr.alloc | apply Fr.setAt | apply Fr.moreN) : Fr no wr _) (fun _ _ h => h)))).mono ?_
          rintro e w3 ⟨rfl, f3⟩
          rw [HNV.out]
          have FEN := Lib.hid ((HF.out.trans (by (repeat first | exact Fr.refl _ _ | exact Fr.drewN _ _ _ | apply Fr.drew | apply Fr.alloc | apply Fr.setAt | apply Fr.moreN) : Fr no wr _) (fun _ _ h => h)).trans f3 (fun _ _ h => h))
          have FEND := Lib.hid (F1.out.trans FEN.out (fun _ _ h => h)); clear f3
          go_wp2_with fail
          iterate 17
            first | (refine wpX_un rfl rfl ?_; go_simp) | first | refine wpX_pu rfl rfl rfl (by first | exact pu_move rfl | exact pu_assign rfl | exact pu_nilCheck rfl rfl | exact pu_binInt rfl rfl rfl | exact pu_conv rfl rfl (by kernel_rfl) | exact pu_fld rfl (by kernel_rfl) | exact pu_ix rfl rfl rfl (by kernel_rfl) | exact pu_unOp rfl | exact pu_binStr rfl rfl rfl | exact pu_len rfl rfl | exact pu_lens rfl rfl | exact pu_pick rfl | exact pu_slice rfl rfl) (fun K hK => ?_) | refine wpX_rd rfl rfl rfl (rd_load rfl) (fun K hK => ?_) | refine wpX_gr rfl rfl rfl (by first | exact gr_buildSlice rfl | exact gr_box rfl | exact gr_alloc rfl) (fun K hK => ?_) | refine wpX_ex rfl rfl rfl (fun K hK => ?_)
            try go_wp2
          refine wpX_done ?_
          go_wp2_with fail
          refine bodyPost_ret (results_tmp rfl _ _ _) rfl ?_
          have hown : own x = 30 := own_rises HS.out (by cases h : risesF none x.f with | false => rfl | true => exact absurd (((rises_iff none x.f).1 h).1 j hlt) (by rw [HNV.out]; exact Bool.noConfusion))
          rw [hown]
          exact ⟨rfl, FEND.out⟩
        | true =>
          have HNV := Lib.hid hnv; clear hnv
          rcases j with _ | m
          · obtain ⟨b, o, KB, kb, KL, kl, KF, kf, hA, -, r0, r1, r2, r3, r4, r5, r6, r7, hbl2⟩ := HIN.out.get 0 hlt
            subst hA
            simp only [Nat.zero_mul, Nat.add_zero] at r0 r1 r2 r3 r4 r5 r6 r7
            go_wp2_with fail
            refine wp_region_ord (List.range 20) (fun i => [Kd.p, Kd.l, Kd.e, Kd.p, Kd.p, Kd.p, Kd.p, Kd.p, Kd.p, Kd.l, Kd.p, Kd.l, Kd.p, Kd.p, Kd.p, Kd.p, Kd.l, Kd.p, Kd.p, Kd.p].getD i .e) (by kernel_rfl) (by kernel_rfl) ?_
            iterate 2
              first | (refine wpX_un rfl rfl ?_; go_simp) | first | refine wpX_pu rfl rfl rfl (by first | exact pu_move rfl | exact pu_assign rfl | exact pu_nilCheck rfl rfl | exact pu_binInt rfl rfl rfl | exact pu_conv rfl rfl (by kernel_rfl) | exact pu_fld rfl (by kernel_rfl) | exact pu_ix rfl rfl rfl (by kernel_rfl) | exact pu_unOp rfl | exact pu_binStr rfl rfl rfl | exact pu_len rfl rfl | exact pu_lens rfl rfl | exact pu_pick rfl | exact pu_slice rfl rfl) (fun K hK => ?_) | refine wpX_rd rfl rfl rfl (rd_load rfl) (fun K hK => ?_) | refine wpX_gr rfl rfl rfl (by first | exact gr_buildSlice rfl | exact gr_box rfl | exact gr_alloc rfl) (fun K hK => ?_) | refine wpX_ex rfl rfl rfl (fun K hK => ?_)
              try go_wp2
            refine wpX_ex rfl rfl rfl (fun K hK => ?_)
            go_wp2_with fail
            refine (name_any _ x.f[0].1 (HX.out.node.n _ (List.getElem_mem _)) (HT.out.kept0 ((F1.out.trans HF.out (fun _ _ h => h)).trans (by (repeat first | exact Fr.refl _ _ | exact Fr.drewN _ _ _ | apply Fr.drew | apply Fr.alloc | apply Fr.setAt | apply Fr.moreN) : Fr no wr _) (fun _ _ h => h)))).mono ?_
            rintro e w3 ⟨rfl, f3⟩
            rw [HNV.out]
            have FEN := Lib.hid ((HF.out.trans (by (repeat first | exact Fr.refl _ _ | exact Fr.drewN _ _ _ | apply Fr.drew | apply Fr.alloc | apply Fr.setAt | apply Fr.moreN) : Fr no wr _) (fun _ _ h => h)).trans f3 (fun _ _ h => h))
            have FEND := Lib.hid (F1.out.trans FEN.out (fun _ _ h => h)); clear f3
            go_wp2_with fail
            iterate 17
              first | (refine wpX_un rfl rfl ?_; go_simp) | first | refine wpX_pu rfl rfl rfl (by first | exact pu_move rfl | exact pu_assign rfl | exact pu_nilCheck rfl rfl | exact pu_binInt rfl rfl rfl | exact pu_conv rfl rfl (by kernel_rfl) | exact pu_fld rfl (by kernel_rfl) | exact pu_ix rfl rfl rfl (by kernel_rfl) | exact pu_unOp rfl | exact pu_binStr rfl rfl rfl | exact pu_len rfl rfl | exact pu_lens rfl rfl | exact pu_pick rfl | exact pu_slice rfl rfl) (fun K hK => ?_) | refine wpX_rd rfl rfl rfl (rd_load rfl) (fun K hK => ?_) | refine wpX_gr rfl rfl rfl (by first | exact gr_buildSlice rfl | exact gr_box rfl | exact gr_alloc rfl) (fun K hK => ?_) | refine wpX_ex rfl rfl rfl (fun K hK => ?_)
              try go_wp2
            refine wpX_done ?_
            go_wp2
            go_roundw
            case rel => exact ⟨0 + 1, by omega, by first | rfl | go_num, FEN.out, fun k hk hlt2 => by
                by_cases h : k < 0
                · exact HNA.out k hk h
                · obtain rfl : k = 0 := by omega
                  exact HNV.out, fun k hk h => by omega⟩
            case measure => simp [intOf]; omega
          · obtain ⟨b, o, KB, kb, KL, kl, KF, kf, hA, -, r0, r1, r2, r3, r4, r5, r6, r7, hbl2⟩ := HIN.out.get (m + 1) hlt
            subst hA
            obtain ⟨b', o', hA2, s0, -⟩ := InF.at HIN.out.sl m (by omega)
            simp only [Option.some.injEq, Addr.mk.injEq, and_true] at hA2
            obtain ⟨rfl, rfl⟩ := hA2
            have gg : decide ((0 : Int) < (m : Int) + 1) = true := decide_eq_true (by omega)
            have gg2 : decide (0 < m + 1) = true := by simp
            by_cases hc : cb x.f[m + 1].1 x.f[m].1 ≤ 0
            · have le8 : decide (cb x.f[m + 1].1 x.f[m].1 ≤ 0) = true := decide_eq_true hc
              have lb8 : (Op.bytesLess x.f[m + 1].1 x.f[m].1 || x.f[m + 1].1 == x.f[m].1) = true := by rw [leq_cb]; exact le8
              have HCC := Lib.hid hc; clear hc
              go_wp2_with fail
              refine wp_region_ord (List.range 20) (fun i => [Kd.p, Kd.l, Kd.e, Kd.p, Kd.p, Kd.p, Kd.p, Kd.p, Kd.p, Kd.l, Kd.p, Kd.l, Kd.p, Kd.p, Kd.p, Kd.p, Kd.l, Kd.p, Kd.p, Kd.p].getD i .e) (by kernel_rfl) (by kernel_rfl) ?_
              iterate 2
                first | (refine wpX_un rfl rfl ?_; go_simp) | first | refine wpX_pu rfl rfl rfl (by first | exact pu_move rfl | exact pu_assign rfl | exact pu_nilCheck rfl rfl | exact pu_binInt rfl rfl rfl | exact pu_conv rfl rfl (by kernel_rfl) | exact pu_fld rfl (by kernel_rfl) | exact pu_ix rfl rfl rfl (by kernel_rfl) | exact pu_unOp rfl | exact pu_binStr rfl rfl rfl | exact pu_len rfl rfl | exact pu_lens rfl rfl | exact pu_pick rfl | exact pu_slice rfl rfl) (fun K hK => ?_) | refine wpX_rd rfl rfl rfl (rd_load rfl) (fun K hK => ?_) | refine wpX_gr rfl rfl rfl (by first | exact gr_buildSlice rfl | exact gr_box rfl | exact gr_alloc rfl) (fun K hK => ?_) | refine wpX_ex rfl rfl rfl (fun K hK => ?_)
                try go_wp2
              refine wpX_ex rfl rfl rfl (fun K hK => ?_)
              go_wp2_with fail
              refine (name_any _ x.f[m + 1].1 (HX.out.node.n _ (List.getElem_mem _)) (HT.out.kept0 ((F1.out.trans HF.out (fun _ _ h => h)).trans (by (repeat first | exact Fr.refl _ _ | exact Fr.drewN _ _ _ | apply Fr.drew | apply Fr.alloc | apply Fr.setAt | apply Fr.moreN) : Fr no wr _) (fun _ _ h => h)))).mono ?_
              rintro e w3 ⟨rfl, f3⟩
              rw [HNV.out]
              have g7 := f3.heap (heap_alloc_new wr (.cells #[.string ⟨x.f[m + 1].1.toArray⟩, .int .u8 x.f[m + 1].2.k.toNat, .bool x.f[m + 1].2.b, .int .i64 x.f[m + 1].2.i, .string ⟨x.f[m + 1].2.t.toArray⟩, .slice KB x.f[m + 1].2.bs.length kb, .slice KL x.f[m + 1].2.l.length kl, .slice KF x.f[m + 1].2.f.length kf] 87)) (fun h => h)
              have r0 := cell_of_row w3 wr.heap.size 0 _ _ (0, 0) g7
              simp only [List.getElem?_toArray, List.getElem?_cons_zero] at r0
              have g8 := (Array.getElem?_eq_some_iff.1 g7).1
              have FW := (by (repeat first | exact Fr.refl _ _ | exact Fr.drewN _ _ _ | apply Fr.drew | apply Fr.alloc | apply Fr.setAt | apply Fr.moreN) : Fr no wr _).trans f3 (fun _ _ h => h)
              have s0 := FW.cell s0 (fun h => h)
              have q6 := FW.cell q6 (fun h => h)
              have hbl := Nat.lt_of_lt_of_le hbl FW.size
              have hbl2 := Nat.lt_of_lt_of_le hbl2 FW.size
              clear g7 FW r1 r2 r3 r4 r5 r6 r7
              have FEN := Lib.hid ((HF.out.trans (by (repeat first | exact Fr.refl _ _ | exact Fr.drewN _ _ _ | apply Fr.drew | apply Fr.alloc | apply Fr.setAt | apply Fr.moreN) : Fr no wr _) (fun _ _ h => h)).trans f3 (fun _ _ h => h))
              have FEND := Lib.hid (F1.out.trans FEN.out (fun _ _ h => h)); clear f3
              go_wp2_with fail
              iterate 17
                first | (refine wpX_un rfl rfl ?_; go_simp) | first | refine wpX_pu rfl rfl rfl (by first | exact pu_move rfl | exact pu_assign rfl | exact pu_nilCheck rfl rfl | exact pu_binInt rfl rfl rfl | exact pu_conv rfl rfl (by kernel_rfl) | exact pu_fld rfl (by kernel_rfl) | exact pu_ix rfl rfl rfl (by kernel_rfl) | exact pu_unOp rfl | exact pu_binStr rfl rfl rfl | exact pu_len rfl rfl | exact pu_lens rfl rfl | exact pu_pick rfl | exact pu_slice rfl rfl) (fun K hK => ?_) | refine wpX_rd rfl rfl rfl (rd_load rfl) (fun K hK => ?_) | refine wpX_gr rfl rfl rfl (by first | exact gr_buildSlice rfl | exact gr_box rfl | exact gr_alloc rfl) (fun K hK => ?_) | refine wpX_ex rfl rfl rfl (fun K hK => ?_)
                try go_wp2
              refine wpX_done ?_
              go_wp2_with fail
              refine bodyPost_ret (results_tmp rfl _ _ _) rfl ?_
              have hown : own x = 30 := own_rises HS.out (by cases h : risesF none x.f with | false => rfl | true => (have h2 := ((rises_iff none x.f).1 h).2.2 m hlt; have h3 := HCC.out; rw [cb_swap] at h2; exfalso; omega))
              rw [hown]
              exact ⟨rfl, FEND.out⟩
            · have le8 : decide (cb x.f[m + 1].1 x.f[m].1 ≤ 0) = false := decide_eq_false hc
              have lb8 : (Op.bytesLess x.f[m + 1].1 x.f[m].1 || x.f[m + 1].1 == x.f[m].1) = false := by rw [leq_cb]; exact le8
              have HCC := Lib.hid hc; clear hc
              go_wp2_with fail
              refine wp_region_ord (List.range 20) (fun i => [Kd.p, Kd.l, Kd.e, Kd.p, Kd.p, Kd.p, Kd.p, Kd.p, Kd.p, Kd.l, Kd.p, Kd.l, Kd.p, Kd.p, Kd.p, Kd.p, Kd.l, Kd.p, Kd.p, Kd.p].getD i .e) (by kernel_rfl) (by kernel_rfl) ?_
              iterate 2
                first | (refine wpX_un rfl rfl ?_; go_simp) | first | refine wpX_pu rfl rfl rfl (by first | exact pu_move rfl | exact pu_assign rfl | exact pu_nilCheck rfl rfl | exact pu_binInt rfl rfl rfl | exact pu_conv rfl rfl (by kernel_rfl) | exact pu_fld rfl (by kernel_rfl) | exact pu_ix rfl rfl rfl (by kernel_rfl) | exact pu_unOp rfl | exact pu_binStr rfl rfl rfl | exact pu_len rfl rfl | exact pu_lens rfl rfl | exact pu_pick rfl | exact pu_slice rfl rfl) (fun K hK => ?_) | refine wpX_rd rfl rfl rfl (rd_load rfl) (fun K hK => ?_) | refine wpX_gr rfl rfl rfl (by first | exact gr_buildSlice rfl | exact gr_box rfl | exact gr_alloc rfl) (fun K hK => ?_) | refine wpX_ex rfl rfl rfl (fun K hK => ?_)
                try go_wp2
              refine wpX_ex rfl rfl rfl (fun K hK => ?_)
              go_wp2_with fail
              refine (name_any _ x.f[m + 1].1 (HX.out.node.n _ (List.getElem_mem _)) (HT.out.kept0 ((F1.out.trans HF.out (fun _ _ h => h)).trans (by (repeat first | exact Fr.refl _ _ | exact Fr.drewN _ _ _ | apply Fr.drew | apply Fr.alloc | apply Fr.setAt | apply Fr.moreN) : Fr no wr _) (fun _ _ h => h)))).mono ?_
              rintro e w3 ⟨rfl, f3⟩
              rw [HNV.out]
              have g7 := f3.heap (heap_alloc_new wr (.cells #[.string ⟨x.f[m + 1].1.toArray⟩, .int .u8 x.f[m + 1].2.k.toNat, .bool x.f[m + 1].2.b, .int .i64 x.f[m + 1].2.i, .string ⟨x.f[m + 1].2.t.toArray⟩, .slice KB x.f[m + 1].2.bs.length kb, .slice KL x.f[m + 1].2.l.length kl, .slice KF x.f[m + 1].2.f.length kf] 87)) (fun h => h)
              have r0 := cell_of_row w3 wr.heap.size 0 _ _ (0, 0) g7
              simp only [List.getElem?_toArray, List.getElem?_cons_zero] at r0
              have g8 := (Array.getElem?_eq_some_iff.1 g7).1
              have FW := (by (repeat first | exact Fr.refl _ _ | exact Fr.drewN _ _ _ | apply Fr.drew | apply Fr.alloc | apply Fr.setAt | apply Fr.moreN) : Fr no wr _).trans f3 (fun _ _ h => h)
              have s0 := FW.cell s0 (fun h => h)
              have q6 := FW.cell q6 (fun h => h)
              have hbl := Nat.lt_of_lt_of_le hbl FW.size
              have hbl2 := Nat.lt_of_lt_of_le hbl2 FW.size
              clear g7 FW r1 r2 r3 r4 r5 r6 r7
              have FEN := Lib.hid ((HF.out.trans (by (repeat first | exact Fr.refl _ _ | exact Fr.drewN _ _ _ | apply Fr.drew | apply Fr.alloc | apply Fr.setAt | apply Fr.moreN) : Fr no wr _) (fun _ _ h => h)).trans f3 (fun _ _ h => h))
              have FEND := Lib.hid (F1.out.trans FEN.out (fun _ _ h => h)); clear f3
              go_wp2_with fail
              iterate 17
                first | (refine wpX_un rfl rfl ?_; go_simp) | first | refine wpX_pu rfl rfl rfl (by first | exact pu_move rfl | exact pu_assign rfl | exact pu_nilCheck rfl rfl | exact pu_binInt rfl rfl rfl | exact pu_conv rfl rfl (by kernel_rfl) | exact pu_fld rfl (by kernel_rfl) | exact pu_ix rfl rfl rfl (by kernel_rfl) | exact pu_unOp rfl | exact pu_binStr rfl rfl rfl | exact pu_len rfl rfl | exact pu_lens rfl rfl | exact pu_pick rfl | exact pu_slice rfl rfl) (fun K hK => ?_) | refine wpX_rd rfl rfl rfl (rd_load rfl) (fun K hK => ?_) | refine wpX_gr rfl rfl rfl (by first | exact gr_buildSlice rfl | exact gr_box rfl | exact gr_alloc rfl) (fun K hK => ?_) | refine wpX_ex rfl rfl rfl (fun K hK => ?_)
                try go_wp2
              refine wpX_done ?_
              go_wp2
              go_roundw
              case rel => exact ⟨(m + 1) + 1, by omega, by first | rfl | go_num, FEN.out, fun k hk hlt2 => by
                  by_cases h : k < (m + 1)
                  · exact HNA.out k hk h
                  · obtain rfl : k = (m + 1) := by omega
                    exact HNV.out, fun k hk h => last_step HRI.out HCC.out k hk h⟩
              case measure => simp [intOf]; omega
      · obtain rfl : j = x.f.length := by omega
        have hri2 : risesF none x.f = true := (rises_iff none x.f).2 ⟨fun k hk => HNA.out k hk hk, fun q h => (by cases h), fun k hk => HRI.out k hk hk⟩
        have HR2 := Lib.hid hri2
        have q3 := cell_of_row wr w.heap.size 3 _ _ (0, 0) hb0
        have q4 := cell_of_row wr w.heap.size 4 _ _ (0, 0) hb0
        simp only [List.getElem?_toArray, List.getElem?_cons_succ, List.getElem?_cons_zero] at q3 q4
        have FX := Lib.hid (F1.out.trans HF.out (fun _ _ h => h))
        clear hri2
        go_wp2_with fail
        refine (valid_any wr x.t HX.out.node.t (HT.out.kept0 FX.out)).mono ?_
        rintro e w3 ⟨rfl, f3⟩
        cases hv : Lib.validD x.t with
        | false =>
          have HV := Lib.hid hv; have F3 := Lib.hid (FX.out.trans f3 (fun _ _ h => h)); clear hv f3
          go_wp2
          refine bodyPost_ret (results_tmp rfl _ _ _) rfl ?_
          have hown : own x = 34 := by unfold own; rw [if_neg (by rw [HS.out]; exact Bool.noConfusion), if_neg (by rw [HR2.out]; exact Bool.noConfusion), if_pos HV.out]
          rw [hown]
          exact ⟨rfl, F3.out⟩
        | true =>
          have q3 := f3.cell q3 (fun h => h)
          have q4 := f3.cell q4 (fun h => h)
          have hbl := Nat.lt_of_lt_of_le hbl f3.size
          have HV := Lib.hid hv; have F3 := Lib.hid (FX.out.trans f3 (fun _ _ h => h)); clear hv f3 hb0
          go_wp2_with fail
          refine (runes_any w3 x.t HX.out.node.t).mono ?_
          rintro e w4 ⟨rfl, f4⟩
          have q4 := f4.cell q4 (fun h => h)
          have hbl := Nat.lt_of_lt_of_le hbl f4.size
          have F4 := Lib.hid (F3.out.trans f4 (fun _ _ h => h)); clear f4
          have hown : own x = if 1000 < Lib.runeCountL x.t ∨ 4000 < x.bs.length then 33 else 0 := by unfold own; rw [if_neg (by rw [HS.out]; exact Bool.noConfusion), if_neg (by rw [HR2.out]; exact Bool.noConfusion), if_neg (by rw [HV.out]; exact Bool.noConfusion)]
          have HOWN := Lib.hid hown; clear hown
          by_cases h1 : 1000 < Lib.runeCountL x.t
          · have g1 : decide ((1000 : Int) < (Lib.runeCountL x.t : Int)) = true := decide_eq_true (by omega)
            have H1 := Lib.hid h1; clear h1
            go_wp2
            refine bodyPost_ret (results_tmp rfl _ _ _) rfl ?_
            rw [HOWN.out, if_pos (.inl H1.out)]
            exact ⟨rfl, F4.out⟩
          · have g1 : decide ((1000 : Int) < (Lib.runeCountL x.t : Int)) = false := decide_eq_false (by omega)
            have H1 := Lib.hid h1; clear h1
            by_cases h2 : 4000 < x.bs.length
            · have g2 : decide ((4000 : Int) < (x.bs.length : Int)) = true := decide_eq_true (by omega)
              have H2 := Lib.hid h2; clear h2
              go_wp2
              refine bodyPost_ret (results_tmp rfl _ _ _) rfl ?_
              rw [HOWN.out, if_pos (.inr H2.out)]
              exact ⟨rfl, F4.out⟩
            · have g2 : decide ((4000 : Int) < (x.bs.length : Int)) = false := decide_eq_false (by omega)
              have H2 := Lib.hid h2; clear h2
              go_wp2
              refine bodyPost_ret (results_tmp rfl _ _ _) rfl ?_
              rw [HOWN.out, if_neg (fun h => h.elim H1.out H2.out)]
              exact ⟨rfl, F4.out⟩

set_option maxRecDepth 100000 in
/-- value.own. -/
theorem own_any (w : World) (x : Tr Mm) (hx : Tr.Good w x) (hT : Tabs w) : Calls Tryz.prog 71 #[x.agg] w fun e w' => e = .returned (.int .u16 (own x)) ∧ Fr no w w' := by
  obtain ⟨BA, bc, LA, lc, FA, fc, hf⟩ := hx.node.forms
  have hba := fun W (f : Fr no w W) => bare_any W x (hx.kept0 f)
  rw [hf.agg] at hba ⊢
  unfold bareAgg at hba
  cases hs : shapeV x with
  | true =>
    obtain ⟨-, sb, si, st, -, -, -⟩ := shape_parts hs
    have e1 : (x.k == 2 && x.b) = x.b := by
      by_cases h : x.k = 2
      · rw [h]; rfl
      · rw [sb h, Bool.and_false]
    have e2 : (if x.k = 3 then x.i else 0) = x.i := by
      by_cases h : x.k = 3
      · rw [if_pos h]
      · rw [if_neg h, si h]
    have e3 : (if x.k = 4 then x.t else []) = x.t := by
      by_cases h : x.k = 4
      · rw [if_pos h]
      · rw [if_neg h, st h]
    rw [e1, e2, e3] at hba
    exact own_good w x hf hx hT hba hs
  | false =>
    have ho : own x = 30 := by unfold own; rw [if_pos hs]
    rw [ho]
    refine own_bad w x _ _ _ hba _ _ _ _ _ _ _ _ _ _ _ rfl rfl rfl rfl rfl rfl rfl rfl rfl rfl rfl ?_
    rw [← hs]
    unfold shapeV
    have k5 : ((x.k.toNat : Int) == 5) = (x.k == 5) := kk x.k 5
    have k6 : ((x.k.toNat : Int) == 6) = (x.k == 6) := kk x.k 6
    have k7 : ((x.k.toNat : Int) == 7) = (x.k == 7) := kk x.k 7
    have d1 : (!decide ((x.k.toNat : Int) < 1)) = decide (1 ≤ x.k) := by
      rw [Bool.eq_iff_iff, Bool.not_eq_true', decide_eq_false_iff_not, decide_eq_true_eq, UInt8.le_iff_toNat_le]; simp; omega
    have d2 : (!decide (7 < (x.k.toNat : Int))) = decide (x.k ≤ 7) := by
      rw [Bool.eq_iff_iff, Bool.not_eq_true', decide_eq_false_iff_not, decide_eq_true_eq, UInt8.le_iff_toNat_le]; simp; omega
    have lz : ∀ {α : Type} (l : List α), ((l.length : Int) == 0) = l.isEmpty := fun l => by cases l with | nil => rfl | cons a l => simp; omega
    have b1 : (x.b == (x.k == 2 && x.b)) = (x.k == 2 || !x.b) := by cases x.b <;> cases (x.k == 2) <;> rfl
    have b2 : (x.i == if x.k = 3 then x.i else 0) = (x.k == 3 || x.i == 0) := by
      by_cases h : x.k = 3
      · rw [if_pos h, h]; simp
      · rw [if_neg h, beq_eq_false_iff_ne.2 h, Bool.false_or]
    have b3 : (x.t == if x.k = 4 then x.t else []) = (x.k == 4 || x.t.isEmpty) := by
      by_cases h : x.k = 4
      · rw [if_pos h, h]; simp
      · rw [if_neg h, beq_eq_false_iff_ne.2 h, Bool.false_or]; cases x.t <;> rfl
    rw [d1, d2, b1, b2, b3, lz, lz, lz, k5, k6, k7]
    simp only [Bool.and_assoc, Bool.or_comm]
end Go.Proofs.YtijcleiekafoiaaGreatDoor
