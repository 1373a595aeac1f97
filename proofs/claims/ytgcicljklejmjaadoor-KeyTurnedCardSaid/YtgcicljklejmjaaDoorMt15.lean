import Derived.Test.YtgcicljklejmjaaDoorMt11
import Derived.Test.YtgcicljklejmjaaDoorMt09
import Derived.Test.YtgcicljklejmjaaDoorMt03
import Derived.Test.YtgcicljklejmjaaDoorMt14
import Derived.OwnWalk
import Derived.Test.YtgcicljklejmjaaDoorMt07
import Derived.Test.YtgcicljklejmjaaDoorMt12
import Derived.Test.YtgcicljklejmjaaDoorProg
import Derived.Test.YtgcicljklejmjaaDoorMt02
import Derived.KernelRfl
import Derived.Lib.Hide
import Derived.Deep.QuietTactic
import Derived.BigQuiet

/- key.falls, key.Encode: a tuple's bytes. -/
namespace Go.Proofs.YtgcicljklejmjaaDoor
open Go.RowKit Go.Shelf
open Tr

theorem bls_at {w : World} {A : Option Addr} {c : Nat} {l : List Bool} (h : Sl w 1 (.slice A l.length c) l.length (bls l)) (k : Nat) (hk : k < l.length) : ∃ b o, A = some ⟨b, o, none⟩ ∧ w.cell? ⟨b, o + k, none⟩ = some (.bool l[k]) := by
  rcases h.2 with ⟨_, h1, h2⟩ | ⟨b, o, cap, h1, h2, h3, h4⟩
  · omega
  · cases h1
    exact ⟨b, o, rfl, h4 k _ (by unfold bls; rw [List.getElem?_map, List.getElem?_eq_getElem hk]; rfl)⟩

set_option maxRecDepth 100000 in
set_option maxHeartbeats 400000 in
theorem falls_any (w : World) (D : Value) (dl : List Bool) (i : Nat) (hd : Sl w 1 D dl.length (bls dl)) (hn : dl.length ≤ reachBytes) :
    Calls Tryd.prog 32 #[D, .int .i64 (i : Int)] w fun e w' => e = .returned (.bool (dl.getD i false)) ∧ w' = w := by
  obtain ⟨A, c, rfl, hc1, hc2⟩ := hd.form
  have hn : dl.length ≤ 140737488351232 := hn
  by_cases h : i < dl.length
  · obtain ⟨b, o, rfl, h1⟩ := bls_at hd i h
    have he : dl.getD i false = dl[i] := by simp [h]
    rw [he]
    have HD := Lib.hid hd; clear hd he
    go_enter Tryd.func32, Tryd.ntmps32
    go_wp2
    go_ret
    exact ⟨rfl, rfl⟩
  · have he : dl.getD i false = false := by simp [List.getElem?_eq_none (Nat.le_of_not_lt h)]
    rw [he]
    have HD := Lib.hid hd; clear hd he
    go_enter Tryd.func32, Tryd.ntmps32
    go_wp2
    go_ret
    exact ⟨rfl, rfl⟩

def fallsB (dl : List Bool) (i : Nat) : Bool := dl.getD i false

/-- What Encode says. -/
def EncOut (dl : List Bool) (l : List (Tr Mm)) (w : World) (e : Ending) (w' : World) : Prop :=
  Fr no w w' ∧ ((tupErr l = 0 ∧ ∃ A n, e = .returned (.tuple #[.slice A n n, .int .u16 0]) ∧ n = (encT (fallsB dl) 0 l).length ∧ Ow w' 5 1 (.slice A n n) n (bvs (encT (fallsB dl) 0 l)) ∧ ∀ k, Value.ownBlock (.slice A n n) = some k → w.heap.size ≤ k)
    ∨ (tupErr l ≠ 0 ∧ e = .returned (.tuple #[.slice none 0 0, .int .u16 (tupErr l)])))

theorem tupErr_at {l : List (Tr Mm)} {j : Nat} (hn : l.length ≤ 4) (hj : j < l.length) (h0 : ∀ i (hi : i < l.length), i < j → oneErr l[i] = 0) (hne : oneErr l[j] ≠ 0) : tupErr l = oneErr l[j] := by
  have h1 : firstErr (l.map oneErr) = oneErr l[j] := by
    rw [firstErr_at (i := j) (by simpa using hj) (fun i hi h => by simpa using h0 i (by simpa using hi) h) (by simpa using hne)]
    simp
  unfold tupErr
  rw [if_neg (by omega), h1, if_pos hne]
theorem encT_snoc (d : Nat → Bool) {l : List (Tr Mm)} {j : Nat} (hj : j < l.length) : encT d 0 (l.take (j + 1)) = encT d 0 (l.take j) ++ encD (d j) l[j] := by
  have h : ∀ (k : Nat) (a : List (Tr Mm)) (x : Tr Mm), encT d k (a ++ [x]) = encT d k a ++ encD (d (k + a.length)) x := by
    intro k a
    induction a generalizing k with
    | nil => intro x; simp [encT]
    | cons y a ih => intro x; simp only [List.cons_append, encT, ih, List.append_assoc, List.length_cons]; rw [show k + 1 + a.length = k + (a.length + 1) by omega]
  rw [List.take_succ_eq_append_getElem hj, h, List.length_take, Nat.min_eq_left (Nat.le_of_lt hj), Nat.zero_add]
theorem encT_le (d : Nat → Bool) (l : List (Tr Mm)) (h : ∀ x ∈ l, oneErr x = 0) (i : Nat) : (encT d i l).length ≤ 160 * l.length := by
  induction l generalizing i with
  | nil => simp [encT]
  | cons x l ih =>
    have h1 := (oneErr_zero.1 (h x (.head _))).2.2
    have h2 := ih (fun y hy => h y (.tail _ hy)) (i + 1)
    simp only [encT, List.length_append, encD_len, List.length_cons]
    omega

set_option maxRecDepth 100000 in
set_option maxHeartbeats 4000000 in
theorem encode_any (w : World) (X D : Value) (l : List (Tr Mm)) (dl : List Bool) (hx : In w X l) (hd : Sl w 1 D dl.length (bls dl)) (hdn : dl.length ≤ reachBytes) (hT : Tabs w) :
    Calls Tryd.prog 26 #[X, D] w fun e w' => EncOut dl l w e w' := by
  obtain ⟨A, c, rfl, hc1, hc2⟩ := hx.sl.form
  obtain ⟨DA, dc, rfl, hd1, hd2⟩ := hd.form
  have hnl : l.length ≤ 140737488351232 := hx.n
  have HX := Lib.hid hx; have HD := Lib.hid hd; have HDN := Lib.hid hdn; have HT := Lib.hid hT
  clear hx hd hdn hT
  by_cases hn : l.length ≤ 4
  · go_enter Tryd.func26, Tryd.ntmps26
    go_wp2
    go_loopw [6, 16] (fun bv iv wr => ∃ (j n : Nat) (B : Option Addr) (bc : Nat), j ≤ l.length ∧ iv = .int .i64 j ∧ bv = .slice B n bc ∧ n = (encT (fallsB dl) 0 (l.take j)).length ∧ Ow wr 5 1 (.slice B n bc) n (bvs (encT (fallsB dl) 0 (l.take j))) ∧ (∀ k, Value.ownBlock (.slice B n bc) = some k → w.heap.size ≤ k) ∧ Fr no w wr ∧ (∀ i (hi : i < l.length), i < j → oneErr l[i] = 0)) (fun _ iv _ => l.length - (intOf iv).toNat)
    case atStart => exact ⟨0, 0, none, 0, Nat.zero_le _, rfl, rfl, by simp [encT], ⟨by simp [encT, bvs], .inl ⟨rfl, rfl⟩⟩, (fun _ h => nomatch h), Fr.refl _ _, fun i _ h => by omega⟩
    case round =>
      obtain ⟨j, n, B, bc, hj, rfl, rfl, hnn, how, hfs, hfr, h0⟩ := hrel
      have hnb : n ≤ 640 := by
        have := encT_le (fallsB dl) (l.take j) (fun x hx => by
          obtain ⟨i, hi, rfl⟩ := List.getElem_of_mem hx
          rw [List.getElem_take]
          rw [List.length_take] at hi
          exact h0 i (by omega) (by omega)) 0
        rw [List.length_take] at this
        omega
      by_cases hlt : j < l.length
      · have hX := HX.out.kept0 hfr
        obtain ⟨b, o, KB, kb, KL, kl, KF, kf, rfl, hfj, q0, q1, q2, q3, q4, q5, q6, hgl⟩ := In.get hX j hlt
        have hfal := fun W (f : Fr no w W) => falls_any W (.slice DA dl.length dc) dl j (HD.out.kept0 f) HDN.out
        have hone := fun W (f : Fr no wr W) => one_any W l[j] (dl.getD j false) ((hX.good _ (List.getElem_mem _)).kept0 f) ((HT.out.kept0 hfr).kept0 f)
        rw [hfj.agg] at hone
        have HFAL := Lib.hid hfal; have HONE := Lib.hid hone; have HFR := Lib.hid hfr; have HOW := Lib.hid how; have HFS := Lib.hid hfs; have H0 := Lib.hid h0; have HNN := Lib.hid hnn
        clear hfal hone hfr hX hfj how hfs h0 hnn
        go_wp2_with fail
        refine wp_region_ord (List.range 10) (fun i => [Kd.l, Kd.p, Kd.p, Kd.g, Kd.g, Kd.p, Kd.p, Kd.p, Kd.p, Kd.p].getD i .e) (by kernel_rfl) (by kernel_rfl) ?_
        iterate 3
          first | refine wpX_pu rfl rfl rfl (by first | exact pu_move rfl | exact pu_assign rfl | exact pu_nilCheck rfl rfl | exact pu_binInt rfl rfl rfl | exact pu_conv rfl rfl (by kernel_rfl) | exact pu_fld rfl (by kernel_rfl) | exact pu_ix rfl rfl rfl (by kernel_rfl) | exact pu_unOp rfl | exact pu_binStr rfl rfl rfl | exact pu_len rfl rfl | exact pu_lens rfl rfl | exact pu_pick rfl | exact pu_slice rfl rfl) (fun K hK => ?_) | refine wpX_rd rfl rfl rfl (rd_load rfl) (fun K hK => ?_) | refine wpX_gr rfl rfl rfl (by first | exact gr_buildSlice rfl | exact gr_box rfl | exact gr_alloc rfl) (fun K hK => ?_) | refine wpX_ex rfl rfl rfl (fun K hK => ?_)
          try go_wp2
        refine wpX_ca rfl rfl rfl (fun K hK => ?_)
        go_wp2_with fail
        refine (HFAL.out _ (HFR.out.trans (by (repeat first | exact Fr.refl _ _ | exact Fr.drewN _ _ _ | apply Fr.drew | apply Fr.alloc | apply Fr.setAt | apply Fr.moreN) : Fr no wr _) (fun _ _ h => h))).mono ?_
        rintro e w2 ⟨rfl, rfl⟩
        go_wp2
        refine ⟨⟨#[], _, (World.ext_self _).symm⟩, hK _ _ ?_⟩
        clear hK K
        refine wpX_ca rfl rfl rfl (fun K hK => ?_)
        go_wp2_with fail
        refine (HONE.out _ (by (repeat first | exact Fr.refl _ _ | exact Fr.drewN _ _ _ | apply Fr.drew | apply Fr.alloc | apply Fr.setAt | apply Fr.moreN))).mono ?_
        rintro e w5 ⟨f5, ⟨hoj, E, en, rfl, hel, hoe, hfe⟩ | ⟨hne, rfl⟩⟩
        · have F50 := Lib.hid f5; have F5 := Lib.hid ((by (repeat first | exact Fr.refl _ _ | exact Fr.drewN _ _ _ | apply Fr.drew | apply Fr.alloc | apply Fr.setAt | apply Fr.moreN) : Fr no wr _).trans f5 (fun _ _ h => h)); have HOJ := Lib.hid hoj; have HEL := Lib.hid hel; have HOE := Lib.hid hoe; have HFE := Lib.hid hfe
          have henl : en ≤ 160 := by rw [hel, encD_len]; exact (oneErr_zero.1 hoj).2.2
          clear f5 hoj hel hoe hfe
          go_wp2
          obtain ⟨⟨xa, xb⟩, hext⟩ := F50.out.ext
          refine ⟨⟨xa, xb, hext⟩, hK _ _ ?_⟩
          clear hK K hext xa xb
          first | refine wpX_pu rfl rfl rfl (by first | exact pu_move rfl | exact pu_assign rfl | exact pu_nilCheck rfl rfl | exact pu_binInt rfl rfl rfl | exact pu_conv rfl rfl (by kernel_rfl) | exact pu_fld rfl (by kernel_rfl) | exact pu_ix rfl rfl rfl (by kernel_rfl) | exact pu_unOp rfl | exact pu_binStr rfl rfl rfl | exact pu_len rfl rfl | exact pu_lens rfl rfl | exact pu_pick rfl | exact pu_slice rfl rfl) (fun K hK => ?_) | refine wpX_rd rfl rfl rfl (rd_load rfl) (fun K hK => ?_) | refine wpX_gr rfl rfl rfl (by first | exact gr_buildSlice rfl | exact gr_box rfl | exact gr_alloc rfl) (fun K hK => ?_) | refine wpX_ex rfl rfl rfl (fun K hK => ?_)
          try go_wp2
          refine wpX_pv (.slice E en en) rfl rfl rfl (fun w' => by first | rfl | simp [execOp, Act.eval]) ?_
          refine wpX_pv (.int .u16 0) rfl rfl rfl (fun w' => by first | rfl | simp [execOp, Act.eval]) ?_
          go_simp
          iterate 2
            first | refine wpX_pu rfl rfl rfl (by first | exact pu_move rfl | exact pu_assign rfl | exact pu_nilCheck rfl rfl | exact pu_binInt rfl rfl rfl | exact pu_conv rfl rfl (by kernel_rfl) | exact pu_fld rfl (by kernel_rfl) | exact pu_ix rfl rfl rfl (by kernel_rfl) | exact pu_unOp rfl | exact pu_binStr rfl rfl rfl | exact pu_len rfl rfl | exact pu_lens rfl rfl | exact pu_pick rfl | exact pu_slice rfl rfl) (fun K hK => ?_) | refine wpX_rd rfl rfl rfl (rd_load rfl) (fun K hK => ?_) | refine wpX_gr rfl rfl rfl (by first | exact gr_buildSlice rfl | exact gr_box rfl | exact gr_alloc rfl) (fun K hK => ?_) | refine wpX_ex rfl rfl rfl (fun K hK => ?_)
            try go_wp2
          refine wpX_done ?_
          have gne : ((0 : Int) != 0) = false := rfl
          go_wp2_with (at_builtin; refine wpList_apo (n := n) (xs := bvs (encT (fallsB dl) 0 (l.take j))) (m := en) (news := bvs (encD (dl.getD j false) l[j])) rfl (.tmp 32) (.tmp 33) 22 rfl tbB ((HOW.out.kept0 F5.out)) HOE.out.sl rfl rfl (bvs_one _) ?b1 ?b2 ?go)
          case b1 => simp only [maxLen]; omega
          case b2 => omega
          case go =>
            intro A' N c' w7 hN ho7 _ hf7 hs7
            subst hN
            have hown : ∀ k, Value.ownBlock (.slice A' (n + en) c') = some k → w.heap.size ≤ k := fun k hk => by
              rcases stays_own hs7 k hk with h | h
              · exact HFS.out k h
              · have h1 := HFR.out.size; have h2 := F5.out.size; omega
            have hfr7 : Fr no w w7 := (HFR.out.trans F5.out (fun _ _ h => h)).trans hf7 (fun k hk h => by have := HFS.out k h; omega)
            have hes : encT (fallsB dl) 0 (l.take (j + 1)) = encT (fallsB dl) 0 (l.take j) ++ encD (dl.getD j false) l[j] := encT_snoc (fallsB dl) hlt
            have HO7 := Lib.hid ho7; have HF7 := Lib.hid hfr7; have HOWN := Lib.hid hown; have HES := Lib.hid hes
            clear ho7 hf7 hs7 hown hfr7 hes
            go_wp2
            go_roundw
            case rel => exact ⟨j + 1, n + en, A', c', by omega, by go_num, rfl, by rw [HES.out, List.length_append, HNN.out, HEL.out], by rw [HES.out, bvs_append]; exact HO7.out, HOWN.out, HF7.out, fun i hi h => by
              by_cases hij : i = j
              · subst hij; exact HOJ.out
              · exact H0.out i hi (by omega)⟩
            case measure => simp [intOf]; omega
        · have HNE := Lib.hid hne; have F50 := Lib.hid f5; have F5 := Lib.hid ((by (repeat first | exact Fr.refl _ _ | exact Fr.drewN _ _ _ | apply Fr.drew | apply Fr.alloc | apply Fr.setAt | apply Fr.moreN) : Fr no wr _).trans f5 (fun _ _ h => h))
          have gne : ((oneErr l[j] : Int) != 0) = true := by rw [bne_iff_ne]; omega
          clear hne f5
          go_wp2
          obtain ⟨⟨xa, xb⟩, hext⟩ := F50.out.ext
          refine ⟨⟨xa, xb, hext⟩, hK _ _ ?_⟩
          clear hK K hext xa xb
          first | refine wpX_pu rfl rfl rfl (by first | exact pu_move rfl | exact pu_assign rfl | exact pu_nilCheck rfl rfl | exact pu_binInt rfl rfl rfl | exact pu_conv rfl rfl (by kernel_rfl) | exact pu_fld rfl (by kernel_rfl) | exact pu_ix rfl rfl rfl (by kernel_rfl) | exact pu_unOp rfl | exact pu_binStr rfl rfl rfl | exact pu_len rfl rfl | exact pu_lens rfl rfl | exact pu_pick rfl | exact pu_slice rfl rfl) (fun K hK => ?_) | refine wpX_rd rfl rfl rfl (rd_load rfl) (fun K hK => ?_) | refine wpX_gr rfl rfl rfl (by first | exact gr_buildSlice rfl | exact gr_box rfl | exact gr_alloc rfl) (fun K hK => ?_) | refine wpX_ex rfl rfl rfl (fun K hK => ?_)
          try go_wp2
          refine wpX_pv (.slice none 0 0) rfl rfl rfl (fun w' => by first | rfl | simp [execOp, Act.eval]) ?_
          refine wpX_pv (.int .u16 (oneErr l[j])) rfl rfl rfl (fun w' => by first | rfl | simp [execOp, Act.eval]) ?_
          go_simp
          iterate 2
            first | refine wpX_pu rfl rfl rfl (by first | exact pu_move rfl | exact pu_assign rfl | exact pu_nilCheck rfl rfl | exact pu_binInt rfl rfl rfl | exact pu_conv rfl rfl (by kernel_rfl) | exact pu_fld rfl (by kernel_rfl) | exact pu_ix rfl rfl rfl (by kernel_rfl) | exact pu_unOp rfl | exact pu_binStr rfl rfl rfl | exact pu_len rfl rfl | exact pu_lens rfl rfl | exact pu_pick rfl | exact pu_slice rfl rfl) (fun K hK => ?_) | refine wpX_rd rfl rfl rfl (rd_load rfl) (fun K hK => ?_) | refine wpX_gr rfl rfl rfl (by first | exact gr_buildSlice rfl | exact gr_box rfl | exact gr_alloc rfl) (fun K hK => ?_) | refine wpX_ex rfl rfl rfl (fun K hK => ?_)
            try go_wp2
          refine wpX_done ?_
          go_wp2
          go_ret2
          have ht := tupErr_at hn hlt H0.out HNE.out
          exact ⟨HFR.out.trans F5.out (fun _ _ h => h), .inr ⟨by rw [ht]; exact HNE.out, by rw [ht]; rfl⟩⟩
      · obtain rfl : j = l.length := by omega
        rw [List.take_length] at hnn how
        have he0 : firstErr (l.map oneErr) = 0 := firstErr_zero.2 (fun e he => by
          obtain ⟨x, hx, rfl⟩ := List.mem_map.1 he
          obtain ⟨i, hi, rfl⟩ := List.getElem_of_mem hx
          exact h0 i hi hi)
        by_cases hlong : 160 < n
        · have ht : tupErr l = 42 := by
            unfold tupErr
            rw [if_neg (by omega), if_neg (by omega), if_pos (by rw [encT_len (fun _ => false) 0 0 l, ← encT_len (fallsB dl) 0 0 l]; omega)]
          have HT1 := Lib.hid ht; have HFR := Lib.hid hfr
          clear ht hfr how hfs h0 hnn he0
          go_wp2
          go_ret2
          exact ⟨HFR.out, .inr ⟨by rw [HT1.out]; omega, by rw [HT1.out]; rfl⟩⟩
        · have ht : tupErr l = 0 := by
            unfold tupErr
            rw [if_neg (by omega), if_neg (by omega), if_neg (by rw [← encT_len (fallsB dl) 0 0 l]; omega)]
          have hbc : n ≤ bc := by
            obtain ⟨A', c', h1, h2, _⟩ := how.sl.form
            cases h1; exact h2
          have owc := own_clip how
          have hfs2 : ∀ k, Value.ownBlock (.slice B n n) = some k → w.heap.size ≤ k := fun k hk => hfs k (by cases B <;> exact hk)
          have HT1 := Lib.hid ht; have HFR := Lib.hid hfr; have OWC := Lib.hid owc; have HNN := Lib.hid hnn; have HFS := Lib.hid hfs2
          clear ht hfr how hfs h0 hnn he0 owc hfs2
          go_wp2_with fail
          refine (bclip_any wr B n bc hbc).mono ?_
          rintro e w9 ⟨rfl, hw⟩
          subst w9
          go_wp2
          go_ret2
          exact ⟨HFR.out, .inl ⟨HT1.out, B, n, rfl, HNN.out, OWC.out, HFS.out⟩⟩
  · have ht : tupErr l = 1 := by unfold tupErr; rw [if_pos (by omega)]
    have HT1 := Lib.hid ht; clear ht
    go_enter Tryd.func26, Tryd.ntmps26
    go_wp2
    go_ret2
    exact ⟨Fr.refl _ _, .inr ⟨by rw [HT1.out]; omega, by rw [HT1.out]; rfl⟩⟩
end Go.Proofs.YtgcicljklejmjaaDoor

/- key.Decode: the tuple that bytes are. -/
namespace Go.Proofs.YtgcicljklejmjaaDoor
open Go.RowKit Go.Shelf
open Tr

/-- A row of values of one's own, all blocks from lo on. -/
structure VRow (lo : Nat) (w : World) (ys : List (Tr Mm)) (A : Option Addr) (c : Nat) : Prop where
  ow : Ow w 33 7 (.slice A ys.length c) ys.length (ys.flatMap cells)
  own : ∀ k, Value.ownBlock (.slice A ys.length c) = some k → lo ≤ k
  each : ∀ y ∈ ys, Tr.Own w y
  good : ∀ y ∈ ys, Tr.Good w y
  pw : ys.Pairwise fun y z => ∀ k, Blk y k → ¬ Blk z k
  yn : ∀ y ∈ ys, ∀ k, Blk y k → lo ≤ k ∧ Value.ownBlock (.slice A ys.length c) ≠ some k
theorem VRow.nil (lo : Nat) (w : World) : VRow lo w [] none 0 := ⟨ow_none _ _ _, (fun _ h => nomatch h), (fun _ h => nomatch h), (fun _ h => nomatch h), List.Pairwise.nil, (fun _ h => nomatch h)⟩
theorem VRow.kept {lo : Nat} {w w1 : World} {ys : List (Tr Mm)} {A : Option Addr} {c : Nat} (h : VRow lo w ys A c) (f : Fr no w w1) : VRow lo w1 ys A c :=
  ⟨h.ow.kept0 f, h.own, fun y hy => (h.each y hy).kept0 f, fun y hy => (h.good y hy).kept0 f, h.pw, h.yn⟩
theorem VRow.clip {lo : Nat} {w : World} {ys : List (Tr Mm)} {A : Option Addr} {c : Nat} (h : VRow lo w ys A c) : VRow lo w ys A ys.length :=
  ⟨own_clip h.ow, fun k hk => h.own k (by cases A <;> exact hk), h.each, h.good, h.pw, fun y hy k hk => ⟨(h.yn y hy k hk).1, fun e => (h.yn y hy k hk).2 (by cases A <;> exact e)⟩⟩
theorem VRow.inn {lo : Nat} {w : World} {ys : List (Tr Mm)} {A : Option Addr} {c : Nat} (h : VRow lo w ys A c) (hn : ys.length ≤ 1000000000) : In w (.slice A ys.length c) ys :=
  ⟨h.ow.sl, h.good, by simp only [reachBytes]; omega, by simp only [reachBytes]; omega⟩

/-- A value more. -/
theorem VRow.push {lo : Nat} {w w5 W6 w7 : World} {ys : List (Tr Mm)} {A A' : Option Addr} {c c' : Nat} {y : Tr Mm} (h : VRow lo w ys A c) (hlo : lo ≤ w.heap.size) (f5 : Fr no w w5) (ho : Tr.Own w5 y) (hg : Tr.Good w5 y) (hb : ∀ k, Blk y k → w.heap.size ≤ k)
    (f6 : Fr no w5 W6) (o7 : Ow w7 33 7 (.slice A' (ys.length + 1) c') (ys.length + 1) (ys.flatMap cells ++ y.cells)) (f7 : Fr (fun k => Value.ownBlock (.slice A ys.length c) = some k) W6 w7) (st : Stays W6 w7 (.slice A ys.length c) (.slice A' (ys.length + 1) c') ys.length (ys.length + 1)) :
    VRow lo w7 (ys ++ [y]) A' c' := by
  have e1 : (ys ++ [y]).length = ys.length + 1 := by simp
  have hs5 := f5.size; have hs6 := f6.size
  have hnot := stays_own st
  have hz : ∀ z ∈ ys, Tr.Own w7 z := fun z hz => (((h.each z hz).kept0 f5).kept0 f6).kept f7 (fun k hk h1 => (h.yn z hz k hk).2 h1)
  have hy : Tr.Own w7 y := (ho.kept0 f6).kept f7 (fun k hk h1 => by have := h.ow.lt k h1; have := hb k hk; omega)
  refine ⟨?_, ?_, ?_, ?_, ?_, ?_⟩
  · rw [e1, List.flatMap_append, List.flatMap_singleton]; exact o7
  · rw [e1]
    intro k hk
    rcases hnot k hk with h1 | h1
    · exact h.own k h1
    · omega
  · intro z hzm
    rcases List.mem_append.1 hzm with hzm | hzm
    · exact hz z hzm
    · rw [List.mem_singleton.1 hzm]; exact hy
  · intro z hzm
    rcases List.mem_append.1 hzm with hzm | hzm
    · exact (hz z hzm).good rfl (h.good z hzm)
    · rw [List.mem_singleton.1 hzm]; exact hy.good rfl hg
  · refine List.pairwise_append.2 ⟨h.pw, List.pairwise_singleton _ _, fun z hz z' hz' k hk hk2 => ?_⟩
    rw [List.mem_singleton.1 hz'] at hk2
    have := (h.each z hz).lt k hk; have := hb k hk2; omega
  · intro z hz k hk
    rw [e1]
    rcases List.mem_append.1 hz with hz | hz
    · refine ⟨(h.yn z hz k hk).1, fun h1 => ?_⟩
      rcases hnot k h1 with h2 | h2
      · exact (h.yn z hz k hk).2 h2
      · have := (h.each z hz).lt k hk; omega
    · rw [List.mem_singleton.1 hz] at hk
      refine ⟨by have := hb k hk; omega, fun h1 => ?_⟩
      rcases hnot k h1 with h2 | h2
      · have := h.ow.lt k h2; have := hb k hk; omega
      · have := ho.lt k hk; omega

/-- What Decode says. -/
def DecOut (dl : List Bool) (b : List UInt8) (w : World) (e : Ending) (w' : World) : Prop :=
  Fr no w w' ∧ ((∃ ys A n, decT (fallsB dl) b.length 0 b = .ok (ys.map bare) ∧ n = ys.length ∧ n ≤ 4 ∧ e = .returned (.tuple #[.slice A n n, .int .u16 0, .int .i64 0]) ∧ VRow w.heap.size w' ys A n)
    ∨ ∃ m, decT (fallsB dl) b.length 0 b = .error m ∧ m ≤ b.length ∧ e = .returned (.tuple #[.slice none 0 0, .int .u16 40, .int .i64 ((b.length - m : Nat) : Int)]))

/-- How far Decode has come: the values so far, the bytes left. -/
def DecAt (d : Nat → Bool) (b : List UInt8) (ys : List (Tr Mm)) (s : List UInt8) : Prop :=
  ∃ n, s.length ≤ n ∧ decT d b.length 0 b = match decT d n ys.length s with | .error m => .error m | .ok l => .ok (ys.map bare ++ l)
theorem DecAt.first (d : Nat → Bool) (b : List UInt8) : DecAt d b [] b := ⟨b.length, Nat.le_refl _, by
  show _ = match decT d b.length 0 b with | .error m => Except.error m | .ok l => .ok ([] ++ l)
  cases decT d b.length 0 b <;> rfl⟩
theorem DecAt.done {d : Nat → Bool} {b : List UInt8} {ys : List (Tr Mm)} (h : DecAt d b ys []) : decT d b.length 0 b = .ok (ys.map bare) := by
  obtain ⟨n, _, h⟩ := h
  rw [h]
  cases n <;> simp [decT]
theorem DecAt.none {d : Nat → Bool} {b s : List UInt8} {ys : List (Tr Mm)} (h : DecAt d b ys s) (hs : s ≠ []) (he : splitE (d ys.length) s = .none) : decT d b.length 0 b = .error s.length := by
  obtain ⟨n, hn, h⟩ := h
  cases n with
  | zero => exact absurd (List.eq_nil_of_length_eq_zero (by omega)) hs
  | succ n => rw [h, decT_cons hs, he]
theorem DecAt.many {d : Nat → Bool} {b s : List UInt8} {ys : List (Tr Mm)} (h : DecAt d b ys s) (hs : s ≠ []) (h4 : ys.length = 4) : decT d b.length 0 b = .error s.length := by
  obtain ⟨n, hn, h⟩ := h
  cases n with
  | zero => exact absurd (List.eq_nil_of_length_eq_zero (by omega)) hs
  | succ n =>
    rw [h, decT_cons hs]
    cases splitE (d ys.length) s with
    | none => rfl
    | some p => simp only [if_pos h4]
theorem DecAt.next {d : Nat → Bool} {b s t : List UInt8} {ys : List (Tr Mm)} {y : Tr Mm} (h : DecAt d b ys s) (hs : s ≠ []) (h4 : ys.length ≠ 4) (he : splitE (d ys.length) s = some (bare y, t)) : DecAt d b (ys ++ [y]) t := by
  obtain ⟨n, hn, h⟩ := h
  have hlt := splitE_less he
  cases n with
  | zero => exact absurd (List.eq_nil_of_length_eq_zero (by omega)) hs
  | succ n =>
    refine ⟨n, by omega, ?_⟩
    rw [h, decT_cons hs, he]
    simp only [if_neg h4, List.length_append, List.length_singleton]
    cases decT d n (ys.length + 1) t <;> simp

set_option maxRecDepth 100000 in
set_option maxHeartbeats 4000000 in
theorem decode_any (w : World) (X D : Value) (b : List UInt8) (dl : List Bool) (hx : Sl w 1 X b.length (bvs b)) (hl : b.length ≤ 1000000000) (hX : ∀ k, X.ownBlock = some k → k < w.heap.size) (hd : Sl w 1 D dl.length (bls dl)) (hdn : dl.length ≤ reachBytes) (hT : Tabs w) :
    Calls Tryd.prog 11 #[X, D] w fun e w' => DecOut dl b w e w' := by
  obtain ⟨A, c, rfl, hc1, hc2⟩ := hx.form
  obtain ⟨DA, dc, rfl, hd1, hd2⟩ := hd.form
  have HX := Lib.hid hx; have HD := Lib.hid hd; have HDN := Lib.hid hdn; have HT := Lib.hid hT; have HXB := Lib.hid hX
  clear hx hd hdn hT hX
  go_enter Tryd.func11, Tryd.ntmps11
  go_wp2
  go_loopw [7, 8] (fun ov rv wr => ∃ (ys : List (Tr Mm)) (s : List UInt8) (O R : Option Addr) (oc rc : Nat), ov = .slice O ys.length oc ∧ rv = .slice R s.length rc ∧ ys.length ≤ 4 ∧ s.length ≤ b.length ∧ DecAt (fallsB dl) b ys s ∧ VRow w.heap.size wr ys O oc ∧
    Sl wr 1 (.slice R s.length rc) s.length (bvs s) ∧ (∀ k, Value.ownBlock (.slice R s.length rc) = some k → k < wr.heap.size ∧ Value.ownBlock (.slice O ys.length oc) ≠ some k) ∧ Fr no w wr) (fun _ rv _ => match rv with | .slice _ n _ => n | _ => 0)
  case atStart => exact ⟨[], b, none, A, 0, c, rfl, rfl, by simp, Nat.le_refl _, DecAt.first _ _, VRow.nil _ _, HX.out, fun k hk => ⟨HXB.out k hk, fun h => nomatch h⟩, Fr.refl _ _⟩
  case round =>
    obtain ⟨ys, s, O, R, oc, rc, rfl, rfl, h4, hsl, hda, hvr, hrs, hrn, hfr⟩ := hrel
    cases s with
    | nil =>
      have hnc : ys.length ≤ oc := by
        obtain ⟨A', c', h1, h2, _⟩ := hvr.ow.sl.form
        cases h1; exact h2
      have HDA := Lib.hid hda; have HVR := Lib.hid hvr; have HFR := Lib.hid hfr
      clear hda hvr hfr hrs hrn
      go_wp2_with fail
      refine (scpV_any wr O ys.length oc hnc).mono ?_
      rintro e w9 ⟨rfl, hw⟩
      subst w9
      go_wp2
      go_ret3
      exact ⟨HFR.out, .inl ⟨ys, O, ys.length, HDA.out.done, rfl, h4, rfl, HVR.out.clip⟩⟩
    | cons c0 s =>
      have hfal := fun W (f : Fr no w W) => falls_any W (.slice DA dl.length dc) dl ys.length (HD.out.kept0 f) HDN.out
      have hspl := fun down => split_any wr (.slice R (c0 :: s).length rc) (c0 :: s) down hrs (by omega) (HT.out.kept0 hfr) (fun k hk => (hrn k hk).1)
      have hne : (c0 :: s) ≠ [] := by simp
      have HFAL := Lib.hid hfal; have HSPL := Lib.hid hspl; have HDA := Lib.hid hda; have HVR := Lib.hid hvr; have HFR := Lib.hid hfr; have HRN := Lib.hid hrn; have HNE := Lib.hid hne; have HRS := Lib.hid hrs
      clear hfal hspl hda hvr hfr hrn hne hrs
      simp only [List.length_cons] at hsl
      have hi1 : IntKind.i64.wrap ((b.length : Int) - ((s.length : Int) + 1)) = ((b.length - (s.length + 1) : Nat) : Int) := by
        rw [show (b.length : Int) - ((s.length : Int) + 1) = ((b.length - (s.length + 1) : Nat) : Int) by omega]
        exact IntWalk.i64_in _ ⟨by omega, by omega⟩
      go_wp2_with fail
      refine (HFAL.out wr HFR.out).mono ?_
      rintro e w2 ⟨rfl, rfl⟩
      go_wp2_with fail
      refine (HSPL.out _).mono ?_
      rintro e w5 ⟨f5, ⟨y, t, T, n, hsp, hn, rfl, hoy, hgy, hby, hot, htn⟩ | ⟨hsp, rfl⟩⟩
      · obtain ⟨YB, yb, YL, yl, YF, yf, hfy⟩ := hgy.node.forms
        rw [hfy.agg]
        have hyc : y.cells = [.int .u8 y.k.toNat, .bool y.b, .int .i64 y.i, .string ⟨y.t.toArray⟩, .slice YB y.bs.length yb, .slice YL y.l.length yl, .slice YF y.f.length yf] := by unfold cells; rw [hfy.B, hfy.L, hfy.F]
        have htl := splitE_less hsp
        simp only [List.length_cons] at htl
        have HSP := Lib.hid hsp; have HN := Lib.hid hn; have F5 := Lib.hid f5; have HOY := Lib.hid hoy; have HGY := Lib.hid hgy; have HBY := Lib.hid hby; have HOT := Lib.hid hot; have HTN := Lib.hid htn; have HYC := Lib.hid hyc
        clear hsp hn f5 hoy hgy hby hot htn hyc hfy
        by_cases h44 : ys.length = 4
        · have hde := HDA.out.many HNE.out h44
          have HDE := Lib.hid hde
          have g4 : ((ys.length : Int) == 4) = true := by rw [h44]; rfl
          have gne : ((0 : Int) != 0) = false := rfl
          clear hde h44
          go_wp2
          go_ret3
          exact ⟨(HFR.out.trans F5.out (fun _ _ h => h)).alloc _, .inr ⟨_, HDE.out, by simp only [List.length_cons]; omega, rfl⟩⟩
        · have g4 : ((ys.length : Int) == 4) = false := by rw [beq_eq_false_iff_ne]; omega
          have gne : ((0 : Int) != 0) = false := rfl
          have hal := (Fr.refl no w5).alloc (.cells #[.int .u8 y.k.toNat, .bool y.b, .int .i64 y.i, .string ⟨y.t.toArray⟩, .slice YB y.bs.length yb, .slice YL y.l.length yl, .slice YF y.f.length yf] 33)
          have hal2 := hal.alloc (.cells #[.int .u8 y.k.toNat, .bool y.b, .int .i64 y.i, .string ⟨y.t.toArray⟩, .slice YB y.bs.length yb, .slice YL y.l.length yl, .slice YF y.f.length yf] 33)
          have hbx := built7 (w5.alloc (.cells #[.int .u8 y.k.toNat, .bool y.b, .int .i64 y.i, .string ⟨y.t.toArray⟩, .slice YB y.bs.length yb, .slice YL y.l.length yl, .slice YF y.f.length yf] 33)) (.int .u8 y.k.toNat) (.bool y.b) (.int .i64 y.i) (.string ⟨y.t.toArray⟩) (.slice YB y.bs.length yb) (.slice YL y.l.length yl) (.slice YF y.f.length yf) 33
          rw [World.size_alloc] at hbx
          have HBX := Lib.hid hbx; clear hbx
          have HAL := Lib.hid hal2; have H44 := Lib.hid h44
          clear hal hal2 h44
          go_wp2_with (at_builtin; refine wpList_apo (n := ys.length) (xs := ys.flatMap cells) (m := 1) (news := [.int .u8 y.k.toNat, .bool y.b, .int .i64 y.i, .string ⟨y.t.toArray⟩, .slice YB y.bs.length yb, .slice YL y.l.length yl, .slice YF y.f.length yf]) rfl (.tmp 38) (.tmp 40) 25 rfl tbV (((HVR.out.ow.kept0 F5.out).kept0 HAL.out)) HBX.out rfl rfl (by intro u hu; simp only [List.mem_cons, List.not_mem_nil, or_false] at hu; rcases hu with rfl | rfl | rfl | rfl | rfl | rfl | rfl <;> rfl) ?b1 ?b2 ?go)
          case b1 => simp only [maxLen]; omega
          case b2 => omega
          case go =>
            intro A' N c' w7 hN ho7 _ hf7 hs7
            subst hN
            have hlo := HFR.out.size
            have hpu := HVR.out.push hlo F5.out HOY.out HGY.out (show ∀ k, Blk y k → w2.heap.size ≤ k from HBY.out) HAL.out (by rw [HYC.out]; exact ho7) hf7 hs7
            have hfr7 : Fr no w w7 := ((HFR.out.trans F5.out (fun _ _ h => h)).trans HAL.out (fun _ _ h => h)).trans hf7 (fun k hk h => by have := HVR.out.own k h; omega)
            have hsl7 : Sl w7 1 (.slice T n n) n (bvs t) := ((HOT.out.kept0 HAL.out).kept hf7 (fun k hk h => by have h1 := (HTN.out k hk).1; have h2 := HVR.out.ow.lt k h; omega)).sl
            have hrn7 : ∀ k, Value.ownBlock (.slice T n n) = some k → k < w7.heap.size ∧ Value.ownBlock (.slice A' (ys.length + 1) c') ≠ some k := fun k hk => by
              have h0 := HOT.out.lt k hk
              have h1 := HAL.out.size; have h2 := hf7.size
              refine ⟨by omega, fun h => ?_⟩
              rcases stays_own hs7 k h with h3 | h3
              · have h4 := HVR.out.ow.lt k h3; have h5 := (HTN.out k hk).1; omega
              · omega
            have hda2 := HDA.out.next HNE.out H44.out HSP.out
            have HPU := Lib.hid hpu; have F7 := Lib.hid hfr7; have S7 := Lib.hid hsl7; have R7 := Lib.hid hrn7; have D2 := Lib.hid hda2
            have hy5 : ys.length + 1 ≤ 4 := by have := H44.out; omega
            clear ho7 hf7 hs7 hpu hfr7 hsl7 hrn7 hda2 hlo
            go_wp2
            go_roundw
            case rel => exact ⟨ys ++ [y], t, A', T, c', n, by rw [List.length_append]; rfl, by rw [HN.out], by rw [List.length_append]; exact hy5, by omega, D2.out, HPU.out, by rw [← HN.out]; exact S7.out, by rw [← HN.out, List.length_append]; exact R7.out, F7.out⟩
            case measure => have := HN.out; simp only [List.length_cons]; omega
      · have hde := HDA.out.none HNE.out hsp
        have HDE := Lib.hid hde; have F5 := Lib.hid (HFR.out.trans f5 (fun _ _ h => h))
        clear hde f5 hsp
        go_wp2
        go_ret3
        exact ⟨F5.out.alloc _, .inr ⟨_, HDE.out, by simp only [List.length_cons]; omega, rfl⟩⟩
end Go.Proofs.YtgcicljklejmjaaDoor

/- key.After; order: bytes compared. -/
namespace Go.Proofs.YtgcicljklejmjaaDoor
open Go.RowKit Go.Shelf
open Tr

set_option maxRecDepth 100000 in
set_option maxHeartbeats 400000 in
theorem order_any (w : World) (X Y : Value) (a b : List UInt8) (hx : Sl w 1 X a.length (bvs a)) (hy : Sl w 1 Y b.length (bvs b)) :
    Calls Tryd.prog 27 #[X, Y] w fun e w' => e = .returned (.int .i64 (cb a b)) ∧ w' = w := by
  have s1 := run_str (P := Tryd.prog) (src := 22) (dst := 9) (e := 5) w (by kernel_rfl) (by kernel_rfl) (by kernel_rfl) hx
  have s2 := run_str (P := Tryd.prog) (src := 22) (dst := 9) (e := 5) w (by kernel_rfl) (by kernel_rfl) (by kernel_rfl) hy
  clear hx hy
  have hr := cb_range a b
  by_cases h1 : cb a b < 0
  · have e1 : cb a b = -1 := by omega
    have g1 : Op.bytesLess a b = true := by rw [less_cb]; exact decide_eq_true h1
    have HE := Lib.hid e1; clear e1 h1 hr
    go_enter Tryd.func27, Tryd.ntmps27
    go_wp2
    go_ret
    exact ⟨by rw [HE.out]; rfl, rfl⟩
  · have g1 : Op.bytesLess a b = false := by rw [less_cb]; exact decide_eq_false h1
    by_cases h2 : cb a b ≤ 0
    · have e1 : cb a b = 0 := by omega
      have g2 : decide (cb a b ≤ 0) = true := decide_eq_true h2
      have HE := Lib.hid e1; clear e1 h1 h2 hr
      go_enter Tryd.func27, Tryd.ntmps27
      go_wp2
      go_ret
      exact ⟨by rw [HE.out]; rfl, rfl⟩
    · have e1 : cb a b = 1 := by omega
      have g2 : decide (cb a b ≤ 0) = false := decide_eq_false h2
      have HE := Lib.hid e1; clear e1 h1 h2 hr
      go_enter Tryd.func27, Tryd.ntmps27
      go_wp2
      go_ret
      exact ⟨by rw [HE.out]; rfl, rfl⟩

/-- What After says. -/
def AftOut (b : List UInt8) (w : World) (e : Ending) (w' : World) : Prop :=
  Fr no w w' ∧ ((after b = none ∧ e = .returned (.tuple #[.slice none 0 0, .bool false]))
    ∨ ∃ a A n, after b = some a ∧ e = .returned (.tuple #[.slice A n n, .bool true]) ∧ n = a.length ∧ Ow w' 5 1 (.slice A n n) n (bvs a) ∧ ∀ k, Value.ownBlock (.slice A n n) = some k → w.heap.size ≤ k)

theorem ow_last {w : World} {e : TypeId} {g n c j : Nat} {l : List UInt8} (u : UInt8) (h : Ow w e 1 (.slice (some ⟨g, 0, none⟩) n c) n (bvs l)) : Ow (w.setCell ⟨g, j, none⟩ (.int .u8 u.toNat)) e 1 (.slice (some ⟨g, 0, none⟩) n c) n (bvs (l.set j u)) := by
  obtain ⟨_, cur, hcu, h1, h2, h3, h4⟩ := here h
  have hl := h.1
  refine ⟨by rw [bvs_length, List.length_set, ← bvs_length]; exact hl, .inr ⟨g, c, cur.setIfInBounds j (.int .u8 u.toNat), rfl, hp_same hcu j _, h1, h2, by simpa using h3, ?_⟩⟩
  rw [Array.toList_setIfInBounds, List.take_set, h4]
  unfold bvs
  rw [List.map_set]
  rfl

set_option maxRecDepth 100000 in
set_option maxHeartbeats 1000000 in
theorem after_any (w : World) (X : Value) (b : List UInt8) (hx : Sl w 1 X b.length (bvs b)) (hl : b.length ≤ 1000000000) :
    Calls Tryd.prog 30 #[X] w fun e w' => AftOut b w e w' := by
  obtain ⟨A, c, rfl, hc1, hc2⟩ := hx.form
  have HX := Lib.hid hx
  clear hx
  go_enter Tryd.func30, Tryd.ntmps30
  go_wp2
  go_loop [4] (fun v => ∃ n : Nat, n ≤ b.length ∧ v = .int .i64 n ∧ ∀ j (hj : j < b.length), n ≤ j → b[j] = 255) (fun v => (intOf v).toNat)
  case atStart => exact ⟨b.length, Nat.le_refl _, rfl, fun j hj h => by omega⟩
  case round =>
    obtain ⟨n, hn, rfl, hall⟩ := hrel
    have HA := Lib.hid hall; clear hall
    cases n with
    | zero =>
      have ha : after b = none := after_zero (fun j hj => HA.out j hj (Nat.zero_le _))
      have HAF := Lib.hid ha; clear ha
      go_wp2
      go_ret2
      exact ⟨Fr.refl _ _, .inl ⟨HAF.out, rfl⟩⟩
    | succ m =>
      obtain ⟨g, o, rfl, hcell⟩ := HX.out.byte m (by omega)
      have hi : IntKind.i64.wrap (((m + 1 : Nat) : Int) - 1) = (m : Int) := by
        rw [show (((m + 1 : Nat) : Int) - 1) = (m : Int) by omega]
        exact IntWalk.i64_in _ ⟨by omega, by omega⟩
      by_cases h255 : b[m] = 255
      · have gc : ((b[m].toNat : Int) == 255) = true := by rw [h255]; rfl
        have H2 := Lib.hid h255; clear h255
        go_wp2
        go_round
        case rel => exact ⟨m, by omega, by first | rfl | go_num, fun j hj h => by
          by_cases hjm : j = m
          · subst hjm; exact H2.out
          · exact HA.out j hj (by omega)⟩
        case measure => simp [intOf]
      · have gc : ((b[m].toNat : Int) == 255) = false := byte_ne h255 rfl
        have haf : after b = some (b.take m ++ [b[m] + 1]) := after_at (by omega) (fun j hj h => HA.out j hj h) h255
        have H2 := Lib.hid h255; have HAF := Lib.hid haf; clear h255 haf
        obtain ⟨T, hT⟩ : ∃ T, T = b.take (m + 1) := ⟨_, rfl⟩
        have htk : T.length = m + 1 := by rw [hT, List.length_take]; omega
        have hhd : Sl w 1 (.slice (some ⟨g, o, none⟩) (m + 1) c) (m + 1) (bvs T) := by rw [hT, ← bvs_take]; exact HX.out.head (m + 1) hn
        rw [← htk] at hhd
        have hu8 : IntKind.u8.wrap ((b[m].toNat : Int) + 1) = ((b[m] + 1).toNat : Int) := by
          have h1 : b[m].toNat < 255 := by
            have h2 := b[m].toNat_lt
            have h3 : b[m].toNat ≠ 255 := fun e => H2.out (UInt8.toNat_inj.1 (by rw [e]; rfl))
            omega
          have h4 : (b[m] + 1).toNat = b[m].toNat + 1 := by rw [UInt8.toNat_add]; simp; omega
          rw [h4]
          simp only [IntKind.wrap, IntKind.bits, IntKind.signed, Bool.false_and, Bool.false_eq_true, if_false]
          omega
        have hbc := bclone_any w (.slice (some ⟨g, o, none⟩) T.length c) T hhd (by omega)
        rw [htk] at hbc
        have HBC := Lib.hid hbc; have HTK := Lib.hid htk; have HTT := Lib.hid hT; have HU8 := Lib.hid hu8
        clear hbc htk hhd hu8 hT
        go_wp2_with fail
        refine HBC.out.mono ?_
        rintro e w2 ⟨D, c2, rfl, ow2, nb2, f2⟩
        have hc2 : m + 1 ≤ c2 := by
          obtain ⟨A', c', h1, h2, _⟩ := ow2.sl.form
          cases h1; exact h2
        have owc := own_clip ow2
        have hdn : ∀ k, Value.ownBlock (.slice D (m + 1) (m + 1)) = some k → w.heap.size ≤ k := fun k hk => nb2 k (by cases D <;> exact hk)
        clear ow2 nb2
        go_wp2_with fail
        refine (bclip_any w2 D (m + 1) c2 hc2).mono ?_
        rintro e w3 ⟨rfl, hw⟩
        subst w3
        obtain ⟨d, rfl⟩ := here_some owc (by omega)
        have hsl := owc.sl
        rw [← HTK.out] at hsl
        obtain ⟨d', o', hA, hcm⟩ := hsl.byte m (by rw [HTK.out]; omega)
        simp only [Option.some.injEq, Addr.mk.injEq, and_true] at hA
        obtain ⟨rfl, rfl⟩ := hA
        have hTm : T[m]'(by rw [HTK.out]; omega) = b[m] := by simp only [HTT.out, List.getElem_take]
        rw [Nat.zero_add, hTm] at hcm
        obtain ⟨_, cur, hcu, -⟩ := here owc
        have gz : ∀ q, w2.frozen? ⟨d, q, none⟩ = false := fun q => by simp [World.frozen?, hcu]
        have gl := (Array.getElem?_eq_some_iff.1 hcu).1
        have hu8 := HU8.out
        have OWC := Lib.hid owc; have HDN := Lib.hid hdn; have F2 := Lib.hid f2
        clear owc hdn f2 hsl hcu
        go_wp2
        go_ret2
        have hset := Fr.setCell (Fr.refl (fun k => k = d) w2) ⟨d, m, none⟩ (.int .u8 (b[m] + 1).toNat) (fun _ => rfl)
        refine ⟨F2.out.trans hset (fun k hk h => by have := HDN.out d rfl; omega), .inr ⟨_, _, _, HAF.out, rfl, by simp; omega, ?_, HDN.out⟩⟩
        have h5 := ow_last (j := m) (b[m] + 1) OWC.out
        have h6 : T.set m (b[m] + 1) = b.take m ++ [b[m] + 1] := by
          rw [HTT.out, List.take_succ_eq_append_getElem (by omega), List.set_append_right _ _ (by rw [List.length_take]; omega), List.length_take, Nat.min_eq_left (by omega), Nat.sub_self]
          rfl
        rw [h6] at h5
        exact h5
end Go.Proofs.YtgcicljklejmjaaDoor

/- Two byte lists, compared. -/
namespace Go.Proofs.YtgcicljklejmjaaDoor
open Go.RowKit

set_option maxRecDepth 100000 in
set_option maxHeartbeats 400000 in
theorem same_any (w : World) (x y : Value) (l k : List UInt8) (hx : Sl w 1 x l.length (bvs l)) (hy : Sl w 1 y k.length (bvs k)) (hl : l.length ≤ 140737488351232) (hk : k.length ≤ 140737488351232) :
    Calls Tryd.prog 22 #[x, y] w fun e w' => e = .returned (.bool (decide (l = k))) ∧ ∃ n, w' = w.drewN n := by
  obtain ⟨A, c, rfl, hc1, hc2⟩ := hx.form
  obtain ⟨B, d, rfl, hd1, hd2⟩ := hy.form
  have HX := Lib.hid hx; have HY := Lib.hid hy; clear hx hy
  by_cases hlen : l.length = k.length
  · have hb : ((l.length : Int) != (k.length : Int)) = false := by simp [hlen]
    have HLEN := Lib.hid hlen; clear hlen
    go_enter Tryd.func22, Tryd.ntmps22
    go_wp2
    go_loopw [5] (fun i wr => ∃ j n : Nat, j ≤ l.length ∧ i = .int .i64 j ∧ wr = w.drewN n ∧ l.take j = k.take j) (fun i _ => l.length - (intOf i).toNat)
    case atStart => exact ⟨0, 0, Nat.zero_le _, rfl, rfl, rfl⟩
    case round =>
      obtain ⟨j, n, hj, rfl, rfl, ht⟩ := hrel
      have HT := Lib.hid ht; clear ht
      by_cases hlt : j < l.length
      · have hlt2 : j < k.length := by have := HLEN.out; omega
        obtain ⟨b, o, rfl, h1⟩ := HX.out.byte j hlt
        obtain ⟨b2, o2, rfl, h2⟩ := HY.out.byte j hlt2
        have e1 : l.take (j + 1) = l.take j ++ [l[j]] := by rw [List.take_succ_eq_append_getElem hlt]
        have e2 : k.take (j + 1) = k.take j ++ [k[j]] := by rw [List.take_succ_eq_append_getElem hlt2]
        by_cases he : l[j] = k[j]
        · have e3 : l.take (j + 1) = k.take (j + 1) := by rw [e1, e2, HT.out, he]
          rw [← he] at h2
          have hb2 : ((l[j].toNat : Int) != (l[j].toNat : Int)) = false := by simp
          have HE := Lib.hid e3; clear e1 e2 e3 he
          go_wp2
          go_quiet (fail)
          go_wp2
          go_roundw
          case rel => exact ⟨j + 1, _, by omega, by go_num, rfl, HE.out⟩
          case measure => simp [intOf]; omega
        · have hb2 : ((l[j].toNat : Int) != (k[j].toNat : Int)) = true := by
            rw [bne_iff_ne]; intro h; exact he (UInt8.toNat_inj.1 (by omega))
          have hne : decide (l = k) = false := by
            rw [decide_eq_false_iff_not]; intro h; subst h; exact he rfl
          have HE := Lib.hid he; have HN := Lib.hid hne; clear e1 e2 he hne
          go_wp2
          go_quiet (fail)
          go_wp2
          go_ret
          exact ⟨by rw [HN.out]; rfl, _, World.drewN_drewN _ _ _⟩
      · go_wp2
        go_ret
        have e : l = k := by
          have h := HT.out
          rw [List.take_of_length_le (by omega), List.take_of_length_le (by have := HLEN.out; omega)] at h
          exact h
        exact ⟨by simp [e], n, rfl⟩
  · have hb : ((l.length : Int) != (k.length : Int)) = true := by rw [bne_iff_ne]; omega
    have hne : decide (l = k) = false := by
      rw [decide_eq_false_iff_not]; intro h; subst h; exact hlen rfl
    have HN := Lib.hid hne; clear hlen hne
    go_enter Tryd.func22, Tryd.ntmps22
    go_wp2
    go_ret
    exact ⟨by rw [HN.out]; rfl, 0, rfl⟩
end Go.Proofs.YtgcicljklejmjaaDoor
