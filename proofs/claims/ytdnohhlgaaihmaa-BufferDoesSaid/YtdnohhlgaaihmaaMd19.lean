import Derived.Test.YtdnohhlgaaihmaaMd17
import Derived.Test.YtdnohhlgaaihmaaMd18

/- codicilref16: pairs as a buffer changes them: Seen. (printed by mkseen.py) -/
namespace Go.Proofs.Ytdnohhlgaaihmaa
open Go.RowKit

def PrV.of (x : SpV) : PrV := ⟨x.F, x.T, x.f, x.t⟩
def putL (x : SpV) : List PrV := if x.o then [] else [PrV.of x]
def dropEq (k : List UInt8) : List PrV → List PrV
  | [] => []
  | y :: l => if y.k = k then l else y :: l
/-- Pairs that rise, as changes that rise turn them. -/
def seenL : List SpV → List PrV → List PrV
  | [], l => l
  | x :: c, l => l.takeWhile (fun y => decide (cb y.k x.f < 0)) ++ (putL x ++ seenL c (dropEq x.f (l.dropWhile (fun y => decide (cb y.k x.f < 0)))))
theorem seen_nil (l : List PrV) : seenL [] l = l := rfl
theorem seen_lt {x : SpV} {y : PrV} {c : List SpV} {l : List PrV} (h : cb y.k x.f < 0) : seenL (x :: c) (y :: l) = y :: seenL (x :: c) l := by
  simp [seenL, h]
theorem seen_eq {x : SpV} {y : PrV} {c : List SpV} {l : List PrV} (h : y.k = x.f) : seenL (x :: c) (y :: l) = putL x ++ seenL c l := by
  simp [seenL, h, cb_self, dropEq]
theorem seen_gt {x : SpV} {y : PrV} {c : List SpV} {l : List PrV} (h : ¬ cb y.k x.f < 0) (he : y.k ≠ x.f) : seenL (x :: c) (y :: l) = putL x ++ seenL c (y :: l) := by
  simp [seenL, h, he, dropEq]
theorem seen_end {x : SpV} {c : List SpV} : seenL (x :: c) [] = putL x ++ seenL c [] := by
  simp [seenL, dropEq]

theorem flat_len2 (l : List PrV) : (l.flatMap PrV.cells).length = l.length * 2 := by
  induction l with
  | nil => rfl
  | cons a l ih => simp [List.flatMap_cons, ih, PrV.cells, Nat.succ_mul]
theorem putL_len (x : SpV) : (putL x).length ≤ 1 := by unfold putL; split <;> simp
theorem dropEq_len (k : List UInt8) (l : List PrV) : (dropEq k l).length ≤ l.length := by
  unfold dropEq; split
  · exact Nat.le_refl _
  · split <;> simp
theorem dropEq_sub (k : List UInt8) (l : List PrV) {y : PrV} (h : y ∈ dropEq k l) : y ∈ l := by
  unfold dropEq at h
  split at h
  · exact h
  · split at h
    · exact List.mem_cons_of_mem _ h
    · exact h
theorem seenL_len : ∀ (c : List SpV) (l : List PrV), (seenL c l).length ≤ l.length + c.length
  | [], l => by simp [seenL]
  | x :: c, l => by
    have h1 := seenL_len c (dropEq x.f (l.dropWhile (fun y => decide (cb y.k x.f < 0))))
    have h2 := dropEq_len x.f (l.dropWhile (fun y => decide (cb y.k x.f < 0)))
    have h3 := putL_len x
    have h4 := congrArg List.length (List.takeWhile_append_dropWhile (p := fun y : PrV => decide (cb y.k x.f < 0)) (l := l))
    simp only [List.length_append] at h4
    simp only [seenL, List.length_append, List.length_cons]
    omega
theorem seenL_mem : ∀ (c : List SpV) (l : List PrV) (y : PrV), y ∈ seenL c l → y ∈ l ∨ ∃ x ∈ c, y = PrV.of x
  | [], l, y, h => .inl h
  | x :: c, l, y, h => by
    simp only [seenL, List.mem_append] at h
    rcases h with h | h | h
    · exact .inl ((List.takeWhile_sublist _).subset h)
    · unfold putL at h
      split at h
      · cases h
      · exact .inr ⟨x, List.mem_cons_self .., List.mem_singleton.1 h⟩
    · rcases seenL_mem c _ y h with h | ⟨z, hz, h⟩
      · exact .inl ((List.dropWhile_sublist _).subset (dropEq_sub _ _ h))
      · exact .inr ⟨z, List.mem_cons_of_mem _ hz, h⟩

theorem tbPair : Tb Try.prog 22 40 (.agg #[.slice none 0 0, .slice none 0 0]) 2 48 := ⟨by kernel_rfl, by kernel_rfl, rfl, by decide⟩
theorem one_pair {w : World} {vb : Nat} {us : List Value} (hv : Has w vb 40 us) (hu : us.length = 2) : Sl w 2 (.slice (some ⟨vb, 0, none⟩) 1 1) 1 us := by
  have h := hv.sl 2 0 1 1 (by omega) (Nat.le_refl _) (by simp [maxLen])
  rwa [List.drop_zero, List.take_of_length_le (by omega)] at h

set_option maxRecDepth 100000 in
set_option maxHeartbeats 8000000 in
theorem seen_any (w : World) (p : Nat) (sv X : Value) (l : List SpV) (ps : List PrV) (hs : Rf w p sv l) (hl : l.length ≤ 100000) (hx : Pairs w X ps) (hps : ps.length ≤ 100000) :
    Calls Try.prog 19 #[.pointer (some ⟨p, 0, none⟩), X] w fun e w' => ∃ ov, e = .returned ov ∧ Ow w' 40 2 ov (seenL (chgL l) ps).length ((seenL (chgL l) ps).flatMap PrV.cells) ∧ (∀ q, ov.ownBlock = some q → w.heap.size ≤ q) ∧ Fr no w w' := by
  obtain ⟨XA, Xc, rfl, _, _⟩ := hx.sl.form
  have hm : (chgL l).length ≤ 100000 := Nat.le_trans (chg_len l) hl
  have HS := Lib.hid hs; have HX := Lib.hid hx; clear hs hx
  go_enter Try.func19, Try.ntmps19
  go_wp2_with fail
  refine (rchanges_any w p sv l HS.out hl).mono ?_
  rintro e w1 ⟨ov, rfl, hc1, hc2, hc3⟩
  obtain ⟨cA, cc, rfl, _, _⟩ := hc1.form
  have HC := Lib.hid hc1; have HCN := Lib.hid hc2; have F1 := Lib.hid hc3; clear hc1 hc2 hc3
  go_wp2
  go_loopw [5, 7, 8] (fun ov k i wr => ∃ (kn inn : Nat) (out : List PrV), kn ≤ (chgL l).length ∧ inn ≤ ps.length ∧ k = .int .i64 kn ∧ i = .int .i64 inn ∧ out ++ seenL ((chgL l).drop kn) (ps.drop inn) = seenL (chgL l) ps ∧ out.length ≤ kn + inn ∧ Ow wr 40 2 ov out.length (out.flatMap PrV.cells) ∧ (∀ q, ov.ownBlock = some q → w1.heap.size ≤ q) ∧ Fr no w1 wr) (fun _ k i _ => ps.length - (intOf i).toNat + ((chgL l).length - (intOf k).toNat))
  case atStart => exact ⟨0, 0, [], Nat.zero_le _, Nat.zero_le _, rfl, rfl, rfl, Nat.zero_le _, ow_nil _ _ _, fun k hk => by simp [Value.ownBlock] at hk, Fr.refl _ _⟩
  case round =>
    obtain ⟨k, i, out, hk, hi, rfl, rfl, hseen, hol, ho, hnew, hf⟩ := hrel
    obtain ⟨oA, oc, rfl, _, _⟩ := ho.form
    have HSEEN := Lib.hid hseen; have HOW := Lib.hid ho; have HNEW := Lib.hid hnew; have HF := Lib.hid hf; clear hseen ho hnew hf
    by_cases hkm : k < (chgL l).length
    · obtain ⟨cb_, co, hcA, q0, q1, q2⟩ := Spans.at (HC.out.kept0 HF.out).sl k hkm
      have hxg := HS.out.good (chgL l)[k] (mem_chg _ _ (List.getElem_mem _))
      obtain ⟨FA, fc, hFA, _, _⟩ := hxg.F.form
      obtain ⟨TA, tc, hTA, _, _⟩ := hxg.T.form
      rw [hFA] at q0; rw [hTA] at q1
      have CF := Lib.hid (hFA ▸ (hxg.F.kept0 F1.out).kept0 HF.out); have CT := Lib.hid (hTA ▸ (hxg.T.kept0 F1.out).kept0 HF.out)
      have HFT := Lib.hid (And.intro hFA hTA)
      subst hcA
      have Q0 := Lib.hid q0; have Q1 := Lib.hid q1; have Q2 := Lib.hid q2
      have hq := World.block_lt_of_cell? _ _ q0
      have hdk : (chgL l).drop k = (chgL l)[k] :: (chgL l).drop (k + 1) := List.drop_eq_getElem_cons hkm
      have HDK := Lib.hid hdk
      have hkb : ((k : Int) == ((chgL l).length : Int)) = false := by simp; omega
      clear hxg hFA hTA hdk
      by_cases hin : i < ps.length
      · obtain ⟨pb, po, KA, kc, VA, vc, hXA, -, p0, p1, hg, hK, hV⟩ := ((HX.out.kept0 F1.out).kept0 HF.out).at i hin
        have KG := Lib.hid hg; have HKV := Lib.hid (And.intro hK hV)
        subst hXA
        have P0 := Lib.hid p0; have P1 := Lib.hid p1
        have hp := World.block_lt_of_cell? _ _ p0
        have hdi : ps.drop i = ps[i] :: ps.drop (i + 1) := List.drop_eq_getElem_cons hin
        have HDI := Lib.hid hdi
        clear hg hK hV hdi
        by_cases hc : cb ps[i].k (chgL l)[k].f < 0
        · have hbl : Op.bytesLess ps[i].k (chgL l)[k].f = true := by rw [less_cb]; exact decide_eq_true hc
          have HCC := Lib.hid hc; clear hc
          go_wp2_with fail
          refine wp_region_ord (List.range 25) (fun i => [Kd.p, Kd.p, Kd.p, Kd.p, Kd.p, Kd.p, Kd.p, Kd.p, Kd.p, Kd.p, Kd.p, Kd.p, Kd.p, Kd.p, Kd.l, Kd.l, Kd.p, Kd.p, Kd.p, Kd.p, Kd.l, Kd.l, Kd.p, Kd.p, Kd.p].getD i .e) (by kernel_rfl) (by kernel_rfl) ?_
          iterate 15
            first | (refine wpX_un rfl rfl ?_; go_simp) | first | refine wpX_pu rfl rfl rfl (by first | exact pu_move rfl | exact pu_assign rfl | exact pu_nilCheck rfl rfl | exact pu_binInt rfl rfl rfl | exact pu_conv rfl rfl (by kernel_rfl) | exact pu_fld rfl (by kernel_rfl) | exact pu_ix rfl rfl rfl (by kernel_rfl) | exact pu_unOp rfl | exact pu_binStr rfl rfl rfl | exact pu_len rfl rfl | exact pu_lens rfl rfl | exact pu_pick rfl | exact pu_slice rfl rfl) (fun K hK => ?_) | refine wpX_rd rfl rfl rfl (rd_load rfl) (fun K hK => ?_) | refine wpX_gr rfl rfl rfl (by first | exact gr_buildSlice rfl | exact gr_box rfl | exact gr_alloc rfl) (fun K hK => ?_) | refine wpX_ex rfl rfl rfl (fun K hK => ?_)
            try go_wp2
          refine wpX_lv (.string ⟨ps[i].k.toArray⟩) rfl rfl rfl (fun e => ?_) ?_
          · have := str_ext (P := Try.prog) (src := 34) (dst := 9) (e := 5) (by kernel_rfl) (by kernel_rfl) (by kernel_rfl) (KG.out.K.kept0 (Fr.drew (Fr.refl no _))) e
            simp [execOp, this, Act.eval]
          go_simp
          iterate 5
            first | (refine wpX_un rfl rfl ?_; go_simp) | first | refine wpX_pu rfl rfl rfl (by first | exact pu_move rfl | exact pu_assign rfl | exact pu_nilCheck rfl rfl | exact pu_binInt rfl rfl rfl | exact pu_conv rfl rfl (by kernel_rfl) | exact pu_fld rfl (by kernel_rfl) | exact pu_ix rfl rfl rfl (by kernel_rfl) | exact pu_unOp rfl | exact pu_binStr rfl rfl rfl | exact pu_len rfl rfl | exact pu_lens rfl rfl | exact pu_pick rfl | exact pu_slice rfl rfl) (fun K hK => ?_) | refine wpX_rd rfl rfl rfl (rd_load rfl) (fun K hK => ?_) | refine wpX_gr rfl rfl rfl (by first | exact gr_buildSlice rfl | exact gr_box rfl | exact gr_alloc rfl) (fun K hK => ?_) | refine wpX_ex rfl rfl rfl (fun K hK => ?_)
            try go_wp2
          refine wpX_lv (.string ⟨(chgL l)[k].f.toArray⟩) rfl rfl rfl (fun e => ?_) ?_
          · have := str_ext (P := Try.prog) (src := 34) (dst := 9) (e := 5) (by kernel_rfl) (by kernel_rfl) (by kernel_rfl) (CF.out.kept0 (Fr.drew (Fr.refl no _))) e
            simp [execOp, this, Act.eval]
          go_simp
          iterate 3
            first | (refine wpX_un rfl rfl ?_; go_simp) | first | refine wpX_pu rfl rfl rfl (by first | exact pu_move rfl | exact pu_assign rfl | exact pu_nilCheck rfl rfl | exact pu_binInt rfl rfl rfl | exact pu_conv rfl rfl (by kernel_rfl) | exact pu_fld rfl (by kernel_rfl) | exact pu_ix rfl rfl rfl (by kernel_rfl) | exact pu_unOp rfl | exact pu_binStr rfl rfl rfl | exact pu_len rfl rfl | exact pu_lens rfl rfl | exact pu_pick rfl | exact pu_slice rfl rfl) (fun K hK => ?_) | refine wpX_rd rfl rfl rfl (rd_load rfl) (fun K hK => ?_) | refine wpX_gr rfl rfl rfl (by first | exact gr_buildSlice rfl | exact gr_box rfl | exact gr_alloc rfl) (fun K hK => ?_) | refine wpX_ex rfl rfl rfl (fun K hK => ?_)
            try go_wp2
          refine wpX_done ?_
          have hw5 := (Fr.drew (Fr.refl no wr) : Fr no wr wr.drew)
          have W5 := Lib.hid hw5; clear hw5
          have p0 := W5.out.cell P0.out (fun h => h); have p1 := W5.out.cell P1.out (fun h => h)
          have hpq := World.block_lt_of_cell? _ _ p0
          have hxx := fun v => one_pair (w := World.alloc v (.cells #[.slice KA ps[i].k.length kc, .slice VA ps[i].v.length vc] 40)) (heap_alloc_new v _ : Has _ v.heap.size 40 [.slice KA ps[i].k.length kc, .slice VA ps[i].v.length vc]) rfl
          have hal := fun v => (Fr.refl no v).alloc (.cells #[.slice KA ps[i].k.length kc, .slice VA ps[i].v.length vc] 40)
          have HXX := Lib.hid hxx; have HAL := Lib.hid hal; clear hxx hal
          go_wp2_with (at_builtin; refine wpList_apo rfl (.tmp 46) (.tmp 51) 22 rfl tbPair ((HOW.out.kept0 W5.out).kept0 (HAL.out _)) (HXX.out _) rfl rfl ?oa ?ba ?ca ?goa)
          case oa => exact ⟨rfl, rfl⟩
          case ba => simp only [maxLen]; omega
          case ca => omega
          case goa =>
            intro NB NN nd w6 hN ho _ hf hst
            subst hN
            have hw6 := ((HF.out.trans W5.out (fun _ _ h => h)).trans (HAL.out _) (fun _ _ h => h)).trans (S := no) hf (fun q hq e => by have := HNEW.out q e; omega)
            have hm6 := own_new HNEW.out ((HF.out.trans W5.out (fun _ _ h => h)).trans (HAL.out _) (fun _ _ h => h)).size hst
            have HW6 := Lib.hid hw6; have HM6 := Lib.hid hm6; have HO := Lib.hid ho
            clear hw6 hm6 ho hf hst
            go_wp2
            go_roundw
            case rel =>
              refine ⟨k, i + 1, out ++ [ps[i]], by first | exact hk | exact Nat.le_refl _, by omega, rfl, by go_num, ?_, by simp; omega, ?_, HM6.out, HW6.out⟩
              · rw [← HSEEN.out, HDI.out]
                rw [HDK.out, seen_lt HCC.out]; simp
              · have hcl : ps[i].cells = [.slice KA ps[i].k.length kc, .slice VA ps[i].v.length vc] := by unfold PrV.cells; rw [HKV.out.1, HKV.out.2]
                rw [List.length_append, List.length_singleton, List.flatMap_append, List.flatMap_singleton, hcl]
                exact HO.out
            case measure => simp [intOf]; omega
        · have hbl : Op.bytesLess ps[i].k (chgL l)[k].f = false := by rw [less_cb]; exact decide_eq_false hc
          have HCC := Lib.hid hc; clear hc
          by_cases hke : ps[i].k = (chgL l)[k].f
          · have he : (ps[i].k == (chgL l)[k].f) = true := by simp [hke]
            have HKE := Lib.hid hke; clear hke
            go_wp2_with fail
            refine wp_region_ord (List.range 25) (fun i => [Kd.p, Kd.p, Kd.p, Kd.p, Kd.p, Kd.p, Kd.p, Kd.p, Kd.p, Kd.p, Kd.p, Kd.p, Kd.p, Kd.p, Kd.l, Kd.l, Kd.p, Kd.p, Kd.p, Kd.p, Kd.l, Kd.l, Kd.p, Kd.p, Kd.p].getD i .e) (by kernel_rfl) (by kernel_rfl) ?_
            iterate 15
              first | (refine wpX_un rfl rfl ?_; go_simp) | first | refine wpX_pu rfl rfl rfl (by first | exact pu_move rfl | exact pu_assign rfl | exact pu_nilCheck rfl rfl | exact pu_binInt rfl rfl rfl | exact pu_conv rfl rfl (by kernel_rfl) | exact pu_fld rfl (by kernel_rfl) | exact pu_ix rfl rfl rfl (by kernel_rfl) | exact pu_unOp rfl | exact pu_binStr rfl rfl rfl | exact pu_len rfl rfl | exact pu_lens rfl rfl | exact pu_pick rfl | exact pu_slice rfl rfl) (fun K hK => ?_) | refine wpX_rd rfl rfl rfl (rd_load rfl) (fun K hK => ?_) | refine wpX_gr rfl rfl rfl (by first | exact gr_buildSlice rfl | exact gr_box rfl | exact gr_alloc rfl) (fun K hK => ?_) | refine wpX_ex rfl rfl rfl (fun K hK => ?_)
              try go_wp2
            refine wpX_lv (.string ⟨ps[i].k.toArray⟩) rfl rfl rfl (fun e => ?_) ?_
            · have := str_ext (P := Try.prog) (src := 34) (dst := 9) (e := 5) (by kernel_rfl) (by kernel_rfl) (by kernel_rfl) (KG.out.K.kept0 (Fr.drew (Fr.refl no _))) e
              simp [execOp, this, Act.eval]
            go_simp
            iterate 5
              first | (refine wpX_un rfl rfl ?_; go_simp) | first | refine wpX_pu rfl rfl rfl (by first | exact pu_move rfl | exact pu_assign rfl | exact pu_nilCheck rfl rfl | exact pu_binInt rfl rfl rfl | exact pu_conv rfl rfl (by kernel_rfl) | exact pu_fld rfl (by kernel_rfl) | exact pu_ix rfl rfl rfl (by kernel_rfl) | exact pu_unOp rfl | exact pu_binStr rfl rfl rfl | exact pu_len rfl rfl | exact pu_lens rfl rfl | exact pu_pick rfl | exact pu_slice rfl rfl) (fun K hK => ?_) | refine wpX_rd rfl rfl rfl (rd_load rfl) (fun K hK => ?_) | refine wpX_gr rfl rfl rfl (by first | exact gr_buildSlice rfl | exact gr_box rfl | exact gr_alloc rfl) (fun K hK => ?_) | refine wpX_ex rfl rfl rfl (fun K hK => ?_)
              try go_wp2
            refine wpX_lv (.string ⟨(chgL l)[k].f.toArray⟩) rfl rfl rfl (fun e => ?_) ?_
            · have := str_ext (P := Try.prog) (src := 34) (dst := 9) (e := 5) (by kernel_rfl) (by kernel_rfl) (by kernel_rfl) (CF.out.kept0 (Fr.drew (Fr.refl no _))) e
              simp [execOp, this, Act.eval]
            go_simp
            iterate 3
              first | (refine wpX_un rfl rfl ?_; go_simp) | first | refine wpX_pu rfl rfl rfl (by first | exact pu_move rfl | exact pu_assign rfl | exact pu_nilCheck rfl rfl | exact pu_binInt rfl rfl rfl | exact pu_conv rfl rfl (by kernel_rfl) | exact pu_fld rfl (by kernel_rfl) | exact pu_ix rfl rfl rfl (by kernel_rfl) | exact pu_unOp rfl | exact pu_binStr rfl rfl rfl | exact pu_len rfl rfl | exact pu_lens rfl rfl | exact pu_pick rfl | exact pu_slice rfl rfl) (fun K hK => ?_) | refine wpX_rd rfl rfl rfl (rd_load rfl) (fun K hK => ?_) | refine wpX_gr rfl rfl rfl (by first | exact gr_buildSlice rfl | exact gr_box rfl | exact gr_alloc rfl) (fun K hK => ?_) | refine wpX_ex rfl rfl rfl (fun K hK => ?_)
              try go_wp2
            refine wpX_done ?_
            have hW5 := (Fr.drew (Fr.refl no wr) : Fr no wr wr.drew)
            have W5 := Lib.hid hW5; clear hW5
            have q0 := W5.out.cell Q0.out (fun h => h); have q1 := W5.out.cell Q1.out (fun h => h); have q2 := W5.out.cell Q2.out (fun h => h)
            have p0 := W5.out.cell P0.out (fun h => h)
            have hqW5 := World.block_lt_of_cell? _ _ q0
            have hpW5 := World.block_lt_of_cell? _ _ p0
            go_wp2_with fail
            refine wp_region_ord (List.range 19) (fun i => [Kd.p, Kd.p, Kd.p, Kd.p, Kd.p, Kd.p, Kd.p, Kd.p, Kd.p, Kd.l, Kd.l, Kd.p, Kd.p, Kd.p, Kd.p, Kd.l, Kd.l, Kd.p, Kd.p].getD i .e) (by kernel_rfl) (by kernel_rfl) ?_
            iterate 10
              first | (refine wpX_un rfl rfl ?_; go_simp) | first | refine wpX_pu rfl rfl rfl (by first | exact pu_move rfl | exact pu_assign rfl | exact pu_nilCheck rfl rfl | exact pu_binInt rfl rfl rfl | exact pu_conv rfl rfl (by kernel_rfl) | exact pu_fld rfl (by kernel_rfl) | exact pu_ix rfl rfl rfl (by kernel_rfl) | exact pu_unOp rfl | exact pu_binStr rfl rfl rfl | exact pu_len rfl rfl | exact pu_lens rfl rfl | exact pu_pick rfl | exact pu_slice rfl rfl) (fun K hK => ?_) | refine wpX_rd rfl rfl rfl (rd_load rfl) (fun K hK => ?_) | refine wpX_gr rfl rfl rfl (by first | exact gr_buildSlice rfl | exact gr_box rfl | exact gr_alloc rfl) (fun K hK => ?_) | refine wpX_ex rfl rfl rfl (fun K hK => ?_)
              try go_wp2
            refine wpX_lv (.string ⟨ps[i].k.toArray⟩) rfl rfl rfl (fun e => ?_) ?_
            · have := str_ext (P := Try.prog) (src := 34) (dst := 9) (e := 5) (by kernel_rfl) (by kernel_rfl) (by kernel_rfl) (KG.out.K.kept0 (Fr.drew (Fr.drew (Fr.refl no wr) : Fr no wr wr.drew))) e
              simp [execOp, this, Act.eval]
            go_simp
            iterate 5
              first | (refine wpX_un rfl rfl ?_; go_simp) | first | refine wpX_pu rfl rfl rfl (by first | exact pu_move rfl | exact pu_assign rfl | exact pu_nilCheck rfl rfl | exact pu_binInt rfl rfl rfl | exact pu_conv rfl rfl (by kernel_rfl) | exact pu_fld rfl (by kernel_rfl) | exact pu_ix rfl rfl rfl (by kernel_rfl) | exact pu_unOp rfl | exact pu_binStr rfl rfl rfl | exact pu_len rfl rfl | exact pu_lens rfl rfl | exact pu_pick rfl | exact pu_slice rfl rfl) (fun K hK => ?_) | refine wpX_rd rfl rfl rfl (rd_load rfl) (fun K hK => ?_) | refine wpX_gr rfl rfl rfl (by first | exact gr_buildSlice rfl | exact gr_box rfl | exact gr_alloc rfl) (fun K hK => ?_) | refine wpX_ex rfl rfl rfl (fun K hK => ?_)
              try go_wp2
            refine wpX_lv (.string ⟨(chgL l)[k].f.toArray⟩) rfl rfl rfl (fun e => ?_) ?_
            · have := str_ext (P := Try.prog) (src := 34) (dst := 9) (e := 5) (by kernel_rfl) (by kernel_rfl) (by kernel_rfl) (CF.out.kept0 (Fr.drew (Fr.drew (Fr.refl no wr) : Fr no wr wr.drew))) e
              simp [execOp, this, Act.eval]
            go_simp
            iterate 2
              first | (refine wpX_un rfl rfl ?_; go_simp) | first | refine wpX_pu rfl rfl rfl (by first | exact pu_move rfl | exact pu_assign rfl | exact pu_nilCheck rfl rfl | exact pu_binInt rfl rfl rfl | exact pu_conv rfl rfl (by kernel_rfl) | exact pu_fld rfl (by kernel_rfl) | exact pu_ix rfl rfl rfl (by kernel_rfl) | exact pu_unOp rfl | exact pu_binStr rfl rfl rfl | exact pu_len rfl rfl | exact pu_lens rfl rfl | exact pu_pick rfl | exact pu_slice rfl rfl) (fun K hK => ?_) | refine wpX_rd rfl rfl rfl (rd_load rfl) (fun K hK => ?_) | refine wpX_gr rfl rfl rfl (by first | exact gr_buildSlice rfl | exact gr_box rfl | exact gr_alloc rfl) (fun K hK => ?_) | refine wpX_ex rfl rfl rfl (fun K hK => ?_)
              try go_wp2
            refine wpX_done ?_
            have hW7 := (Fr.drew (Fr.drew (Fr.refl no wr)) : Fr no wr wr.drew.drew)
            have W7 := Lib.hid hW7; clear hW7
            have q0 := W7.out.cell Q0.out (fun h => h); have q1 := W7.out.cell Q1.out (fun h => h); have q2 := W7.out.cell Q2.out (fun h => h)
            have hqW7 := World.block_lt_of_cell? _ _ q0
            rcases ho : (chgL l)[k].o with _ | _
            · have HOO := Lib.hid ho
              rw [ho] at q2
              clear ho
              go_wp2_with fail
              refine wp_region_ord (List.range 15) (fun i => [Kd.p, Kd.p, Kd.p, Kd.p, Kd.p, Kd.l, Kd.p, Kd.p, Kd.p, Kd.p, Kd.l, Kd.g, Kd.g, Kd.e, Kd.p].getD i .e) (by kernel_rfl) (by kernel_rfl) ?_
              have hW8 := (Fr.drew (Fr.drew (Fr.drew (Fr.refl no wr))) : Fr no wr wr.drew.drew.drew)
              have W8 := Lib.hid hW8; clear hW8
              have q0 := W8.out.cell Q0.out (fun h => h); have q1 := W8.out.cell Q1.out (fun h => h); have q2 := W8.out.cell Q2.out (fun h => h)
              have hqW8 := World.block_lt_of_cell? _ _ q0
              iterate 11
                first | (refine wpX_un rfl rfl ?_; go_simp) | first | refine wpX_pu rfl rfl rfl (by first | exact pu_move rfl | exact pu_assign rfl | exact pu_nilCheck rfl rfl | exact pu_binInt rfl rfl rfl | exact pu_conv rfl rfl (by kernel_rfl) | exact pu_fld rfl (by kernel_rfl) | exact pu_ix rfl rfl rfl (by kernel_rfl) | exact pu_unOp rfl | exact pu_binStr rfl rfl rfl | exact pu_len rfl rfl | exact pu_lens rfl rfl | exact pu_pick rfl | exact pu_slice rfl rfl) (fun K hK => ?_) | refine wpX_rd rfl rfl rfl (rd_load rfl) (fun K hK => ?_) | refine wpX_gr rfl rfl rfl (by first | exact gr_buildSlice rfl | exact gr_box rfl | exact gr_alloc rfl) (fun K hK => ?_) | refine wpX_ex rfl rfl rfl (fun K hK => ?_)
                try go_wp2
              refine wpX_ca rfl rfl rfl (fun K hK => ?_)
              go_wp2
              refine ⟨⟨#[], _, (World.ext_self _).symm⟩, hK _ _ ?_⟩
              clear hK K
              refine wpX_gr rfl rfl rfl (gr_buildSlice rfl) (fun K hK => ?_)
              go_simp
              refine hK _ _ ?_
              clear hK K
              have hxx := one_pair (w := World.alloc wr.drew.drew.drew (.cells #[.slice FA (chgL l)[k].f.length fc, .slice TA (chgL l)[k].t.length tc] 40)) (heap_alloc_new _ _ : Has _ wr.drew.drew.drew.heap.size 40 [.slice FA (chgL l)[k].f.length fc, .slice TA (chgL l)[k].t.length tc]) rfl
              have hal := (Fr.refl no wr.drew.drew.drew).alloc (.cells #[.slice FA (chgL l)[k].f.length fc, .slice TA (chgL l)[k].t.length tc] 40)
              have HXX := Lib.hid hxx; have HAL := Lib.hid hal; clear hxx hal
              refine wpX_ex rfl rfl rfl (fun K hK => ?_)
              refine wp_apo (.tmp 82) (.tmp 94) 22 rfl tbPair ((HOW.out.kept0 W8.out).kept0 HAL.out) HXX.out rfl rfl ?oq ?bq ?cq ?goq
              case oq => intro u hu; simp only [List.mem_cons, List.not_mem_nil, or_false] at hu; rcases hu with rfl | rfl <;> rfl
              case bq => simp only [maxLen]; omega
              case cq => omega
              case goq =>
                intro NB NN nd w6 hN ho _ hf hst
                subst hN
                have hw6 := ((HF.out.trans W8.out (fun _ _ h => h)).trans HAL.out (fun _ _ h => h)).trans (S := no) hf (fun q hq e => by have := HNEW.out q e; omega)
                have hm6 := own_new HNEW.out ((HF.out.trans W8.out (fun _ _ h => h)).trans HAL.out (fun _ _ h => h)).size hst
                have HW6 := Lib.hid hw6; have HM6 := Lib.hid hm6; have HO := Lib.hid ho
                clear hw6 hm6 ho hf hst
                go_simp
                refine hK _ _ ?_
                clear hK K
                iterate 1
                  first | refine wpX_pu rfl rfl rfl (by first | exact pu_move rfl | exact pu_assign rfl | exact pu_nilCheck rfl rfl | exact pu_binInt rfl rfl rfl | exact pu_conv rfl rfl (by kernel_rfl) | exact pu_fld rfl (by kernel_rfl) | exact pu_ix rfl rfl rfl (by kernel_rfl) | exact pu_unOp rfl | exact pu_binStr rfl rfl rfl | exact pu_len rfl rfl | exact pu_lens rfl rfl | exact pu_pick rfl | exact pu_slice rfl rfl) (fun K hK => ?_) | refine wpX_rd rfl rfl rfl (rd_load rfl) (fun K hK => ?_) | refine wpX_gr rfl rfl rfl (by first | exact gr_buildSlice rfl | exact gr_box rfl | exact gr_alloc rfl) (fun K hK => ?_) | refine wpX_ex rfl rfl rfl (fun K hK => ?_)
                  try go_wp2
                refine wpX_done ?_
                go_wp2
                go_roundw
                case rel =>
                  have hpt : putL (chgL l)[k] = [PrV.of (chgL l)[k]] := by unfold putL; rw [HOO.out]; rfl
                  refine ⟨k + 1, i + 1, out ++ [PrV.of (chgL l)[k]], by omega, by first | omega | exact Nat.le_refl _, by go_num, by first | rfl | go_num, ?_, by simp; omega, ?_, HM6.out, HW6.out⟩
                  · rw [← HSEEN.out, HDK.out]
                    rw [HDI.out, seen_eq HKE.out]
                    rw [hpt]; simp
                  · have hcl : (PrV.of (chgL l)[k]).cells = [.slice FA (chgL l)[k].f.length fc, .slice TA (chgL l)[k].t.length tc] := by unfold PrV.cells PrV.of; rw [HFT.out.1, HFT.out.2]
                    rw [List.length_append, List.length_singleton, List.flatMap_append, List.flatMap_singleton, hcl]
                    exact HO.out
                case measure => simp [intOf]; omega
            · have HOO := Lib.hid ho
              rw [ho] at q2
              clear ho
              go_wp2
              go_roundw
              case rel =>
                have hpt : putL (chgL l)[k] = [] := by unfold putL; rw [HOO.out]; rfl
                refine ⟨k + 1, i + 1, out, by omega, by first | omega | exact Nat.le_refl _, by go_num, by first | rfl | go_num, ?_, by omega, HOW.out.kept0 W7.out, HNEW.out, HF.out.trans W7.out (fun _ _ h => h)⟩
                · rw [← HSEEN.out, HDK.out]
                  rw [HDI.out, seen_eq HKE.out]
                  rw [hpt]; simp
              case measure => simp [intOf]; omega
          · have he : (ps[i].k == (chgL l)[k].f) = false := by simp [hke]
            have HKE := Lib.hid hke; clear hke
            go_wp2_with fail
            refine wp_region_ord (List.range 25) (fun i => [Kd.p, Kd.p, Kd.p, Kd.p, Kd.p, Kd.p, Kd.p, Kd.p, Kd.p, Kd.p, Kd.p, Kd.p, Kd.p, Kd.p, Kd.l, Kd.l, Kd.p, Kd.p, Kd.p, Kd.p, Kd.l, Kd.l, Kd.p, Kd.p, Kd.p].getD i .e) (by kernel_rfl) (by kernel_rfl) ?_
            iterate 15
              first | (refine wpX_un rfl rfl ?_; go_simp) | first | refine wpX_pu rfl rfl rfl (by first | exact pu_move rfl | exact pu_assign rfl | exact pu_nilCheck rfl rfl | exact pu_binInt rfl rfl rfl | exact pu_conv rfl rfl (by kernel_rfl) | exact pu_fld rfl (by kernel_rfl) | exact pu_ix rfl rfl rfl (by kernel_rfl) | exact pu_unOp rfl | exact pu_binStr rfl rfl rfl | exact pu_len rfl rfl | exact pu_lens rfl rfl | exact pu_pick rfl | exact pu_slice rfl rfl) (fun K hK => ?_) | refine wpX_rd rfl rfl rfl (rd_load rfl) (fun K hK => ?_) | refine wpX_gr rfl rfl rfl (by first | exact gr_buildSlice rfl | exact gr_box rfl | exact gr_alloc rfl) (fun K hK => ?_) | refine wpX_ex rfl rfl rfl (fun K hK => ?_)
              try go_wp2
            refine wpX_lv (.string ⟨ps[i].k.toArray⟩) rfl rfl rfl (fun e => ?_) ?_
            · have := str_ext (P := Try.prog) (src := 34) (dst := 9) (e := 5) (by kernel_rfl) (by kernel_rfl) (by kernel_rfl) (KG.out.K.kept0 (Fr.drew (Fr.refl no _))) e
              simp [execOp, this, Act.eval]
            go_simp
            iterate 5
              first | (refine wpX_un rfl rfl ?_; go_simp) | first | refine wpX_pu rfl rfl rfl (by first | exact pu_move rfl | exact pu_assign rfl | exact pu_nilCheck rfl rfl | exact pu_binInt rfl rfl rfl | exact pu_conv rfl rfl (by kernel_rfl) | exact pu_fld rfl (by kernel_rfl) | exact pu_ix rfl rfl rfl (by kernel_rfl) | exact pu_unOp rfl | exact pu_binStr rfl rfl rfl | exact pu_len rfl rfl | exact pu_lens rfl rfl | exact pu_pick rfl | exact pu_slice rfl rfl) (fun K hK => ?_) | refine wpX_rd rfl rfl rfl (rd_load rfl) (fun K hK => ?_) | refine wpX_gr rfl rfl rfl (by first | exact gr_buildSlice rfl | exact gr_box rfl | exact gr_alloc rfl) (fun K hK => ?_) | refine wpX_ex rfl rfl rfl (fun K hK => ?_)
              try go_wp2
            refine wpX_lv (.string ⟨(chgL l)[k].f.toArray⟩) rfl rfl rfl (fun e => ?_) ?_
            · have := str_ext (P := Try.prog) (src := 34) (dst := 9) (e := 5) (by kernel_rfl) (by kernel_rfl) (by kernel_rfl) (CF.out.kept0 (Fr.drew (Fr.refl no _))) e
              simp [execOp, this, Act.eval]
            go_simp
            iterate 3
              first | (refine wpX_un rfl rfl ?_; go_simp) | first | refine wpX_pu rfl rfl rfl (by first | exact pu_move rfl | exact pu_assign rfl | exact pu_nilCheck rfl rfl | exact pu_binInt rfl rfl rfl | exact pu_conv rfl rfl (by kernel_rfl) | exact pu_fld rfl (by kernel_rfl) | exact pu_ix rfl rfl rfl (by kernel_rfl) | exact pu_unOp rfl | exact pu_binStr rfl rfl rfl | exact pu_len rfl rfl | exact pu_lens rfl rfl | exact pu_pick rfl | exact pu_slice rfl rfl) (fun K hK => ?_) | refine wpX_rd rfl rfl rfl (rd_load rfl) (fun K hK => ?_) | refine wpX_gr rfl rfl rfl (by first | exact gr_buildSlice rfl | exact gr_box rfl | exact gr_alloc rfl) (fun K hK => ?_) | refine wpX_ex rfl rfl rfl (fun K hK => ?_)
              try go_wp2
            refine wpX_done ?_
            have hW5 := (Fr.drew (Fr.refl no wr) : Fr no wr wr.drew)
            have W5 := Lib.hid hW5; clear hW5
            have q0 := W5.out.cell Q0.out (fun h => h); have q1 := W5.out.cell Q1.out (fun h => h); have q2 := W5.out.cell Q2.out (fun h => h)
            have p0 := W5.out.cell P0.out (fun h => h)
            have hqW5 := World.block_lt_of_cell? _ _ q0
            have hpW5 := World.block_lt_of_cell? _ _ p0
            go_wp2_with fail
            refine wp_region_ord (List.range 19) (fun i => [Kd.p, Kd.p, Kd.p, Kd.p, Kd.p, Kd.p, Kd.p, Kd.p, Kd.p, Kd.l, Kd.l, Kd.p, Kd.p, Kd.p, Kd.p, Kd.l, Kd.l, Kd.p, Kd.p].getD i .e) (by kernel_rfl) (by kernel_rfl) ?_
            iterate 10
              first | (refine wpX_un rfl rfl ?_; go_simp) | first | refine wpX_pu rfl rfl rfl (by first | exact pu_move rfl | exact pu_assign rfl | exact pu_nilCheck rfl rfl | exact pu_binInt rfl rfl rfl | exact pu_conv rfl rfl (by kernel_rfl) | exact pu_fld rfl (by kernel_rfl) | exact pu_ix rfl rfl rfl (by kernel_rfl) | exact pu_unOp rfl | exact pu_binStr rfl rfl rfl | exact pu_len rfl rfl | exact pu_lens rfl rfl | exact pu_pick rfl | exact pu_slice rfl rfl) (fun K hK => ?_) | refine wpX_rd rfl rfl rfl (rd_load rfl) (fun K hK => ?_) | refine wpX_gr rfl rfl rfl (by first | exact gr_buildSlice rfl | exact gr_box rfl | exact gr_alloc rfl) (fun K hK => ?_) | refine wpX_ex rfl rfl rfl (fun K hK => ?_)
              try go_wp2
            refine wpX_lv (.string ⟨ps[i].k.toArray⟩) rfl rfl rfl (fun e => ?_) ?_
            · have := str_ext (P := Try.prog) (src := 34) (dst := 9) (e := 5) (by kernel_rfl) (by kernel_rfl) (by kernel_rfl) (KG.out.K.kept0 (Fr.drew (Fr.drew (Fr.refl no wr) : Fr no wr wr.drew))) e
              simp [execOp, this, Act.eval]
            go_simp
            iterate 5
              first | (refine wpX_un rfl rfl ?_; go_simp) | first | refine wpX_pu rfl rfl rfl (by first | exact pu_move rfl | exact pu_assign rfl | exact pu_nilCheck rfl rfl | exact pu_binInt rfl rfl rfl | exact pu_conv rfl rfl (by kernel_rfl) | exact pu_fld rfl (by kernel_rfl) | exact pu_ix rfl rfl rfl (by kernel_rfl) | exact pu_unOp rfl | exact pu_binStr rfl rfl rfl | exact pu_len rfl rfl | exact pu_lens rfl rfl | exact pu_pick rfl | exact pu_slice rfl rfl) (fun K hK => ?_) | refine wpX_rd rfl rfl rfl (rd_load rfl) (fun K hK => ?_) | refine wpX_gr rfl rfl rfl (by first | exact gr_buildSlice rfl | exact gr_box rfl | exact gr_alloc rfl) (fun K hK => ?_) | refine wpX_ex rfl rfl rfl (fun K hK => ?_)
              try go_wp2
            refine wpX_lv (.string ⟨(chgL l)[k].f.toArray⟩) rfl rfl rfl (fun e => ?_) ?_
            · have := str_ext (P := Try.prog) (src := 34) (dst := 9) (e := 5) (by kernel_rfl) (by kernel_rfl) (by kernel_rfl) (CF.out.kept0 (Fr.drew (Fr.drew (Fr.refl no wr) : Fr no wr wr.drew))) e
              simp [execOp, this, Act.eval]
            go_simp
            iterate 2
              first | (refine wpX_un rfl rfl ?_; go_simp) | first | refine wpX_pu rfl rfl rfl (by first | exact pu_move rfl | exact pu_assign rfl | exact pu_nilCheck rfl rfl | exact pu_binInt rfl rfl rfl | exact pu_conv rfl rfl (by kernel_rfl) | exact pu_fld rfl (by kernel_rfl) | exact pu_ix rfl rfl rfl (by kernel_rfl) | exact pu_unOp rfl | exact pu_binStr rfl rfl rfl | exact pu_len rfl rfl | exact pu_lens rfl rfl | exact pu_pick rfl | exact pu_slice rfl rfl) (fun K hK => ?_) | refine wpX_rd rfl rfl rfl (rd_load rfl) (fun K hK => ?_) | refine wpX_gr rfl rfl rfl (by first | exact gr_buildSlice rfl | exact gr_box rfl | exact gr_alloc rfl) (fun K hK => ?_) | refine wpX_ex rfl rfl rfl (fun K hK => ?_)
              try go_wp2
            refine wpX_done ?_
            have hW7 := (Fr.drew (Fr.drew (Fr.refl no wr)) : Fr no wr wr.drew.drew)
            have W7 := Lib.hid hW7; clear hW7
            have q0 := W7.out.cell Q0.out (fun h => h); have q1 := W7.out.cell Q1.out (fun h => h); have q2 := W7.out.cell Q2.out (fun h => h)
            have hqW7 := World.block_lt_of_cell? _ _ q0
            rcases ho : (chgL l)[k].o with _ | _
            · have HOO := Lib.hid ho
              rw [ho] at q2
              clear ho
              go_wp2_with fail
              refine wp_region_ord (List.range 15) (fun i => [Kd.p, Kd.p, Kd.p, Kd.p, Kd.p, Kd.l, Kd.p, Kd.p, Kd.p, Kd.p, Kd.l, Kd.g, Kd.g, Kd.e, Kd.p].getD i .e) (by kernel_rfl) (by kernel_rfl) ?_
              have hW8 := (Fr.drew (Fr.drew (Fr.drew (Fr.refl no wr))) : Fr no wr wr.drew.drew.drew)
              have W8 := Lib.hid hW8; clear hW8
              have q0 := W8.out.cell Q0.out (fun h => h); have q1 := W8.out.cell Q1.out (fun h => h); have q2 := W8.out.cell Q2.out (fun h => h)
              have hqW8 := World.block_lt_of_cell? _ _ q0
              iterate 11
                first | (refine wpX_un rfl rfl ?_; go_simp) | first | refine wpX_pu rfl rfl rfl (by first | exact pu_move rfl | exact pu_assign rfl | exact pu_nilCheck rfl rfl | exact pu_binInt rfl rfl rfl | exact pu_conv rfl rfl (by kernel_rfl) | exact pu_fld rfl (by kernel_rfl) | exact pu_ix rfl rfl rfl (by kernel_rfl) | exact pu_unOp rfl | exact pu_binStr rfl rfl rfl | exact pu_len rfl rfl | exact pu_lens rfl rfl | exact pu_pick rfl | exact pu_slice rfl rfl) (fun K hK => ?_) | refine wpX_rd rfl rfl rfl (rd_load rfl) (fun K hK => ?_) | refine wpX_gr rfl rfl rfl (by first | exact gr_buildSlice rfl | exact gr_box rfl | exact gr_alloc rfl) (fun K hK => ?_) | refine wpX_ex rfl rfl rfl (fun K hK => ?_)
                try go_wp2
              refine wpX_ca rfl rfl rfl (fun K hK => ?_)
              go_wp2
              refine ⟨⟨#[], _, (World.ext_self _).symm⟩, hK _ _ ?_⟩
              clear hK K
              refine wpX_gr rfl rfl rfl (gr_buildSlice rfl) (fun K hK => ?_)
              go_simp
              refine hK _ _ ?_
              clear hK K
              have hxx := one_pair (w := World.alloc wr.drew.drew.drew (.cells #[.slice FA (chgL l)[k].f.length fc, .slice TA (chgL l)[k].t.length tc] 40)) (heap_alloc_new _ _ : Has _ wr.drew.drew.drew.heap.size 40 [.slice FA (chgL l)[k].f.length fc, .slice TA (chgL l)[k].t.length tc]) rfl
              have hal := (Fr.refl no wr.drew.drew.drew).alloc (.cells #[.slice FA (chgL l)[k].f.length fc, .slice TA (chgL l)[k].t.length tc] 40)
              have HXX := Lib.hid hxx; have HAL := Lib.hid hal; clear hxx hal
              refine wpX_ex rfl rfl rfl (fun K hK => ?_)
              refine wp_apo (.tmp 82) (.tmp 94) 22 rfl tbPair ((HOW.out.kept0 W8.out).kept0 HAL.out) HXX.out rfl rfl ?og ?bg ?cg ?gog
              case og => intro u hu; simp only [List.mem_cons, List.not_mem_nil, or_false] at hu; rcases hu with rfl | rfl <;> rfl
              case bg => simp only [maxLen]; omega
              case cg => omega
              case gog =>
                intro NB NN nd w6 hN ho _ hf hst
                subst hN
                have hw6 := ((HF.out.trans W8.out (fun _ _ h => h)).trans HAL.out (fun _ _ h => h)).trans (S := no) hf (fun q hq e => by have := HNEW.out q e; omega)
                have hm6 := own_new HNEW.out ((HF.out.trans W8.out (fun _ _ h => h)).trans HAL.out (fun _ _ h => h)).size hst
                have HW6 := Lib.hid hw6; have HM6 := Lib.hid hm6; have HO := Lib.hid ho
                clear hw6 hm6 ho hf hst
                go_simp
                refine hK _ _ ?_
                clear hK K
                iterate 1
                  first | refine wpX_pu rfl rfl rfl (by first | exact pu_move rfl | exact pu_assign rfl | exact pu_nilCheck rfl rfl | exact pu_binInt rfl rfl rfl | exact pu_conv rfl rfl (by kernel_rfl) | exact pu_fld rfl (by kernel_rfl) | exact pu_ix rfl rfl rfl (by kernel_rfl) | exact pu_unOp rfl | exact pu_binStr rfl rfl rfl | exact pu_len rfl rfl | exact pu_lens rfl rfl | exact pu_pick rfl | exact pu_slice rfl rfl) (fun K hK => ?_) | refine wpX_rd rfl rfl rfl (rd_load rfl) (fun K hK => ?_) | refine wpX_gr rfl rfl rfl (by first | exact gr_buildSlice rfl | exact gr_box rfl | exact gr_alloc rfl) (fun K hK => ?_) | refine wpX_ex rfl rfl rfl (fun K hK => ?_)
                  try go_wp2
                refine wpX_done ?_
                go_wp2
                go_roundw
                case rel =>
                  have hpt : putL (chgL l)[k] = [PrV.of (chgL l)[k]] := by unfold putL; rw [HOO.out]; rfl
                  refine ⟨k + 1, i, out ++ [PrV.of (chgL l)[k]], by omega, by first | omega | exact Nat.le_refl _, by go_num, by first | rfl | go_num, ?_, by simp; omega, ?_, HM6.out, HW6.out⟩
                  · rw [← HSEEN.out, HDK.out]
                    rw [HDI.out, seen_gt (x := (chgL l)[k]) (y := ps[i]) (by have := HCC.out; omega) HKE.out]
                    rw [hpt]; simp
                  · have hcl : (PrV.of (chgL l)[k]).cells = [.slice FA (chgL l)[k].f.length fc, .slice TA (chgL l)[k].t.length tc] := by unfold PrV.cells PrV.of; rw [HFT.out.1, HFT.out.2]
                    rw [List.length_append, List.length_singleton, List.flatMap_append, List.flatMap_singleton, hcl]
                    exact HO.out
                case measure => simp [intOf]; omega
            · have HOO := Lib.hid ho
              rw [ho] at q2
              clear ho
              go_wp2
              go_roundw
              case rel =>
                have hpt : putL (chgL l)[k] = [] := by unfold putL; rw [HOO.out]; rfl
                refine ⟨k + 1, i, out, by omega, by first | omega | exact Nat.le_refl _, by go_num, by first | rfl | go_num, ?_, by omega, HOW.out.kept0 W7.out, HNEW.out, HF.out.trans W7.out (fun _ _ h => h)⟩
                · rw [← HSEEN.out, HDK.out]
                  rw [HDI.out, seen_gt (x := (chgL l)[k]) (y := ps[i]) (by have := HCC.out; omega) HKE.out]
                  rw [hpt]; simp
              case measure => simp [intOf]; omega
      · obtain rfl : i = ps.length := by omega
        go_wp2_with fail
        refine wp_region_ord (List.range 25) (fun i => [Kd.p, Kd.p, Kd.p, Kd.p, Kd.p, Kd.p, Kd.p, Kd.p, Kd.p, Kd.p, Kd.p, Kd.p, Kd.p, Kd.p, Kd.l, Kd.l, Kd.p, Kd.p, Kd.p, Kd.p, Kd.l, Kd.l, Kd.p, Kd.p, Kd.p].getD i .e) (by kernel_rfl) (by kernel_rfl) ?_
        iterate 25
          first | (refine wpX_un rfl rfl ?_; go_simp) | first | refine wpX_pu rfl rfl rfl (by first | exact pu_move rfl | exact pu_assign rfl | exact pu_nilCheck rfl rfl | exact pu_binInt rfl rfl rfl | exact pu_conv rfl rfl (by kernel_rfl) | exact pu_fld rfl (by kernel_rfl) | exact pu_ix rfl rfl rfl (by kernel_rfl) | exact pu_unOp rfl | exact pu_binStr rfl rfl rfl | exact pu_len rfl rfl | exact pu_lens rfl rfl | exact pu_pick rfl | exact pu_slice rfl rfl) (fun K hK => ?_) | refine wpX_rd rfl rfl rfl (rd_load rfl) (fun K hK => ?_) | refine wpX_gr rfl rfl rfl (by first | exact gr_buildSlice rfl | exact gr_box rfl | exact gr_alloc rfl) (fun K hK => ?_) | refine wpX_ex rfl rfl rfl (fun K hK => ?_)
          try go_wp2
        refine wpX_done ?_
        have hW5 := (Fr.drew (Fr.refl no wr) : Fr no wr wr.drew)
        have W5 := Lib.hid hW5; clear hW5
        have q0 := W5.out.cell Q0.out (fun h => h); have q1 := W5.out.cell Q1.out (fun h => h); have q2 := W5.out.cell Q2.out (fun h => h)
        have hqW5 := World.block_lt_of_cell? _ _ q0
        go_wp2_with fail
        refine wp_region_ord (List.range 19) (fun i => [Kd.p, Kd.p, Kd.p, Kd.p, Kd.p, Kd.p, Kd.p, Kd.p, Kd.p, Kd.l, Kd.l, Kd.p, Kd.p, Kd.p, Kd.p, Kd.l, Kd.l, Kd.p, Kd.p].getD i .e) (by kernel_rfl) (by kernel_rfl) ?_
        iterate 19
          first | (refine wpX_un rfl rfl ?_; go_simp) | first | refine wpX_pu rfl rfl rfl (by first | exact pu_move rfl | exact pu_assign rfl | exact pu_nilCheck rfl rfl | exact pu_binInt rfl rfl rfl | exact pu_conv rfl rfl (by kernel_rfl) | exact pu_fld rfl (by kernel_rfl) | exact pu_ix rfl rfl rfl (by kernel_rfl) | exact pu_unOp rfl | exact pu_binStr rfl rfl rfl | exact pu_len rfl rfl | exact pu_lens rfl rfl | exact pu_pick rfl | exact pu_slice rfl rfl) (fun K hK => ?_) | refine wpX_rd rfl rfl rfl (rd_load rfl) (fun K hK => ?_) | refine wpX_gr rfl rfl rfl (by first | exact gr_buildSlice rfl | exact gr_box rfl | exact gr_alloc rfl) (fun K hK => ?_) | refine wpX_ex rfl rfl rfl (fun K hK => ?_)
          try go_wp2
        refine wpX_done ?_
        have hW7 := (Fr.drew (Fr.drew (Fr.refl no wr)) : Fr no wr wr.drew.drew)
        have W7 := Lib.hid hW7; clear hW7
        have q0 := W7.out.cell Q0.out (fun h => h); have q1 := W7.out.cell Q1.out (fun h => h); have q2 := W7.out.cell Q2.out (fun h => h)
        have hqW7 := World.block_lt_of_cell? _ _ q0
        rcases ho : (chgL l)[k].o with _ | _
        · have HOO := Lib.hid ho
          rw [ho] at q2
          clear ho
          go_wp2_with fail
          refine wp_region_ord (List.range 15) (fun i => [Kd.p, Kd.p, Kd.p, Kd.p, Kd.p, Kd.l, Kd.p, Kd.p, Kd.p, Kd.p, Kd.l, Kd.g, Kd.g, Kd.e, Kd.p].getD i .e) (by kernel_rfl) (by kernel_rfl) ?_
          have hW8 := (Fr.drew (Fr.drew (Fr.drew (Fr.refl no wr))) : Fr no wr wr.drew.drew.drew)
          have W8 := Lib.hid hW8; clear hW8
          have q0 := W8.out.cell Q0.out (fun h => h); have q1 := W8.out.cell Q1.out (fun h => h); have q2 := W8.out.cell Q2.out (fun h => h)
          have hqW8 := World.block_lt_of_cell? _ _ q0
          iterate 11
            first | (refine wpX_un rfl rfl ?_; go_simp) | first | refine wpX_pu rfl rfl rfl (by first | exact pu_move rfl | exact pu_assign rfl | exact pu_nilCheck rfl rfl | exact pu_binInt rfl rfl rfl | exact pu_conv rfl rfl (by kernel_rfl) | exact pu_fld rfl (by kernel_rfl) | exact pu_ix rfl rfl rfl (by kernel_rfl) | exact pu_unOp rfl | exact pu_binStr rfl rfl rfl | exact pu_len rfl rfl | exact pu_lens rfl rfl | exact pu_pick rfl | exact pu_slice rfl rfl) (fun K hK => ?_) | refine wpX_rd rfl rfl rfl (rd_load rfl) (fun K hK => ?_) | refine wpX_gr rfl rfl rfl (by first | exact gr_buildSlice rfl | exact gr_box rfl | exact gr_alloc rfl) (fun K hK => ?_) | refine wpX_ex rfl rfl rfl (fun K hK => ?_)
            try go_wp2
          refine wpX_ca rfl rfl rfl (fun K hK => ?_)
          go_wp2
          refine ⟨⟨#[], _, (World.ext_self _).symm⟩, hK _ _ ?_⟩
          clear hK K
          refine wpX_gr rfl rfl rfl (gr_buildSlice rfl) (fun K hK => ?_)
          go_simp
          refine hK _ _ ?_
          clear hK K
          have hxx := one_pair (w := World.alloc wr.drew.drew.drew (.cells #[.slice FA (chgL l)[k].f.length fc, .slice TA (chgL l)[k].t.length tc] 40)) (heap_alloc_new _ _ : Has _ wr.drew.drew.drew.heap.size 40 [.slice FA (chgL l)[k].f.length fc, .slice TA (chgL l)[k].t.length tc]) rfl
          have hal := (Fr.refl no wr.drew.drew.drew).alloc (.cells #[.slice FA (chgL l)[k].f.length fc, .slice TA (chgL l)[k].t.length tc] 40)
          have HXX := Lib.hid hxx; have HAL := Lib.hid hal; clear hxx hal
          refine wpX_ex rfl rfl rfl (fun K hK => ?_)
          refine wp_apo (.tmp 82) (.tmp 94) 22 rfl tbPair ((HOW.out.kept0 W8.out).kept0 HAL.out) HXX.out rfl rfl ?oz ?bz ?cz ?goz
          case oz => intro u hu; simp only [List.mem_cons, List.not_mem_nil, or_false] at hu; rcases hu with rfl | rfl <;> rfl
          case bz => simp only [maxLen]; omega
          case cz => omega
          case goz =>
            intro NB NN nd w6 hN ho _ hf hst
            subst hN
            have hw6 := ((HF.out.trans W8.out (fun _ _ h => h)).trans HAL.out (fun _ _ h => h)).trans (S := no) hf (fun q hq e => by have := HNEW.out q e; omega)
            have hm6 := own_new HNEW.out ((HF.out.trans W8.out (fun _ _ h => h)).trans HAL.out (fun _ _ h => h)).size hst
            have HW6 := Lib.hid hw6; have HM6 := Lib.hid hm6; have HO := Lib.hid ho
            clear hw6 hm6 ho hf hst
            go_simp
            refine hK _ _ ?_
            clear hK K
            iterate 1
              first | refine wpX_pu rfl rfl rfl (by first | exact pu_move rfl | exact pu_assign rfl | exact pu_nilCheck rfl rfl | exact pu_binInt rfl rfl rfl | exact pu_conv rfl rfl (by kernel_rfl) | exact pu_fld rfl (by kernel_rfl) | exact pu_ix rfl rfl rfl (by kernel_rfl) | exact pu_unOp rfl | exact pu_binStr rfl rfl rfl | exact pu_len rfl rfl | exact pu_lens rfl rfl | exact pu_pick rfl | exact pu_slice rfl rfl) (fun K hK => ?_) | refine wpX_rd rfl rfl rfl (rd_load rfl) (fun K hK => ?_) | refine wpX_gr rfl rfl rfl (by first | exact gr_buildSlice rfl | exact gr_box rfl | exact gr_alloc rfl) (fun K hK => ?_) | refine wpX_ex rfl rfl rfl (fun K hK => ?_)
              try go_wp2
            refine wpX_done ?_
            go_wp2
            go_roundw
            case rel =>
              have hpt : putL (chgL l)[k] = [PrV.of (chgL l)[k]] := by unfold putL; rw [HOO.out]; rfl
              refine ⟨k + 1, ps.length, out ++ [PrV.of (chgL l)[k]], by omega, by first | omega | exact Nat.le_refl _, by go_num, by first | rfl | go_num, ?_, by simp; omega, ?_, HM6.out, HW6.out⟩
              · rw [← HSEEN.out, HDK.out]
                rw [List.drop_length, seen_end]
                rw [hpt]; simp
              · have hcl : (PrV.of (chgL l)[k]).cells = [.slice FA (chgL l)[k].f.length fc, .slice TA (chgL l)[k].t.length tc] := by unfold PrV.cells PrV.of; rw [HFT.out.1, HFT.out.2]
                rw [List.length_append, List.length_singleton, List.flatMap_append, List.flatMap_singleton, hcl]
                exact HO.out
            case measure => simp [intOf]; omega
        · have HOO := Lib.hid ho
          rw [ho] at q2
          clear ho
          go_wp2
          go_roundw
          case rel =>
            have hpt : putL (chgL l)[k] = [] := by unfold putL; rw [HOO.out]; rfl
            refine ⟨k + 1, ps.length, out, by omega, by first | omega | exact Nat.le_refl _, by go_num, by first | rfl | go_num, ?_, by omega, HOW.out.kept0 W7.out, HNEW.out, HF.out.trans W7.out (fun _ _ h => h)⟩
            · rw [← HSEEN.out, HDK.out]
              rw [List.drop_length, seen_end]
              rw [hpt]; simp
          case measure => simp [intOf]; omega
    · obtain rfl : k = (chgL l).length := by omega
      by_cases hin : i < ps.length
      · obtain ⟨pb, po, KA, kc, VA, vc, hXA, -, p0, p1, hg, hK, hV⟩ := ((HX.out.kept0 F1.out).kept0 HF.out).at i hin
        have KG := Lib.hid hg; have HKV := Lib.hid (And.intro hK hV)
        subst hXA
        have P0 := Lib.hid p0; have P1 := Lib.hid p1
        have hp := World.block_lt_of_cell? _ _ p0
        have hdi : ps.drop i = ps[i] :: ps.drop (i + 1) := List.drop_eq_getElem_cons hin
        have HDI := Lib.hid hdi
        clear hg hK hV hdi
        go_wp2_with fail
        refine wp_region_ord (List.range 25) (fun i => [Kd.p, Kd.p, Kd.p, Kd.p, Kd.p, Kd.p, Kd.p, Kd.p, Kd.p, Kd.p, Kd.p, Kd.p, Kd.p, Kd.p, Kd.l, Kd.l, Kd.p, Kd.p, Kd.p, Kd.p, Kd.l, Kd.l, Kd.p, Kd.p, Kd.p].getD i .e) (by kernel_rfl) (by kernel_rfl) ?_
        iterate 25
          first | (refine wpX_un rfl rfl ?_; go_simp) | first | refine wpX_pu rfl rfl rfl (by first | exact pu_move rfl | exact pu_assign rfl | exact pu_nilCheck rfl rfl | exact pu_binInt rfl rfl rfl | exact pu_conv rfl rfl (by kernel_rfl) | exact pu_fld rfl (by kernel_rfl) | exact pu_ix rfl rfl rfl (by kernel_rfl) | exact pu_unOp rfl | exact pu_binStr rfl rfl rfl | exact pu_len rfl rfl | exact pu_lens rfl rfl | exact pu_pick rfl | exact pu_slice rfl rfl) (fun K hK => ?_) | refine wpX_rd rfl rfl rfl (rd_load rfl) (fun K hK => ?_) | refine wpX_gr rfl rfl rfl (by first | exact gr_buildSlice rfl | exact gr_box rfl | exact gr_alloc rfl) (fun K hK => ?_) | refine wpX_ex rfl rfl rfl (fun K hK => ?_)
          try go_wp2
        refine wpX_done ?_
        have hw5 := (Fr.drew (Fr.refl no wr) : Fr no wr wr.drew)
        have W5 := Lib.hid hw5; clear hw5
        have p0 := W5.out.cell P0.out (fun h => h); have p1 := W5.out.cell P1.out (fun h => h)
        have hpq := World.block_lt_of_cell? _ _ p0
        have hxx := fun v => one_pair (w := World.alloc v (.cells #[.slice KA ps[i].k.length kc, .slice VA ps[i].v.length vc] 40)) (heap_alloc_new v _ : Has _ v.heap.size 40 [.slice KA ps[i].k.length kc, .slice VA ps[i].v.length vc]) rfl
        have hal := fun v => (Fr.refl no v).alloc (.cells #[.slice KA ps[i].k.length kc, .slice VA ps[i].v.length vc] 40)
        have HXX := Lib.hid hxx; have HAL := Lib.hid hal; clear hxx hal
        go_wp2_with (at_builtin; refine wpList_apo rfl (.tmp 46) (.tmp 51) 22 rfl tbPair ((HOW.out.kept0 W5.out).kept0 (HAL.out _)) (HXX.out _) rfl rfl ?oe ?be ?ce ?goe)
        case oe => exact ⟨rfl, rfl⟩
        case be => simp only [maxLen]; omega
        case ce => omega
        case goe =>
          intro NB NN nd w6 hN ho _ hf hst
          subst hN
          have hw6 := ((HF.out.trans W5.out (fun _ _ h => h)).trans (HAL.out _) (fun _ _ h => h)).trans (S := no) hf (fun q hq e => by have := HNEW.out q e; omega)
          have hm6 := own_new HNEW.out ((HF.out.trans W5.out (fun _ _ h => h)).trans (HAL.out _) (fun _ _ h => h)).size hst
          have HW6 := Lib.hid hw6; have HM6 := Lib.hid hm6; have HO := Lib.hid ho
          clear hw6 hm6 ho hf hst
          go_wp2
          go_roundw
          case rel =>
            refine ⟨(chgL l).length, i + 1, out ++ [ps[i]], by first | exact hk | exact Nat.le_refl _, by omega, rfl, by go_num, ?_, by simp; omega, ?_, HM6.out, HW6.out⟩
            · rw [← HSEEN.out, HDI.out]
              rw [List.drop_length, seen_nil, seen_nil]; simp
            · have hcl : ps[i].cells = [.slice KA ps[i].k.length kc, .slice VA ps[i].v.length vc] := by unfold PrV.cells; rw [HKV.out.1, HKV.out.2]
              rw [List.length_append, List.length_singleton, List.flatMap_append, List.flatMap_singleton, hcl]
              exact HO.out
          case measure => simp [intOf]; omega
      · obtain rfl : i = ps.length := by omega
        go_wp2
        go_ret
        have h := HSEEN.out
        rw [List.drop_length, List.drop_length, seen_nil, List.append_nil] at h
        subst h
        exact ⟨_, rfl, HOW.out, fun q hq => by have := HNEW.out q hq; have := F1.out.size; omega, F1.out.trans HF.out (fun _ _ h => h)⟩
end Go.Proofs.Ytdnohhlgaaihmaa
