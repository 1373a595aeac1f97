import Derived.Test.YtdnohhlgaaihmaaMt03
import Derived.Test.YtdnohhlgaaihmaaMt05
import Derived.Lib.Overlaps
import Derived.Laws.Externs
import Derived.Test.YtdnohhlgaaihmaaMt04

/- slices.Insert and slices.Replace of one element into a row of one's own, elements of three cells. -/
namespace Go.Proofs.Ytdnohhlgaaihmaa
open Go.RowKit

theorem tbSpan : Tb Try.prog 90 100 (.agg #[.slice none 0 0, .slice none 0 0, .bool false]) 3 56 := ⟨by kernel_rfl, by kernel_rfl, rfl, by decide⟩

/-- What a call leaves that turned a row of one's own. -/
def Turned (w w' : World) (e : TypeId) (v : Value) (N : Nat) (ys : List Value) (en : Ending) : Prop :=
  ∃ A c, en = .returned (.slice A N c) ∧ Ow w' e 3 (.slice A N c) N ys ∧ Fr (fun k => v.ownBlock = some k) w w' ∧ Moved w w' v (.slice A N c)

theorem stays_moved {w w' : World} {v v' : Value} {n N : Nat} (h : Stays w w' v v' n N) : Moved w w' v v' := by
  rcases h with ⟨A, c, rfl, rfl⟩ | h
  · left; cases A <;> rfl
  · exact .inr h

theorem cut3 (us : List Value) (h : us.length = 3) (n : Nat) (hn : 1 ≤ n) : us.take (min 1 n * 3) = us := by rw [Nat.min_eq_left hn]; exact List.take_of_length_le (by omega)

set_option maxRecDepth 100000 in
set_option maxHeartbeats 4000000 in
theorem insertSpan (w : World) (A : Option Addr) (n c i vb : Nat) (xs us : List Value) (hs : Ow w 100 3 (.slice A n c) n xs) (hi : i ≤ n) (hu : us.length = 3) (hv : Has w vb 100 us) (hvb : ∀ k, (Value.slice A n c).ownBlock = some k → k ≠ vb) (hx1 : ∀ u ∈ xs, u.oneCell' = true) (hu1 : ∀ u ∈ us, u.oneCell' = true) (hn : n ≤ 1000000) :
    Calls Try.prog 135 #[.slice A n c, .int .i64 i, .slice (some ⟨vb, 0, none⟩) 1 1] w fun e w' => Turned w w' 100 (.slice A n c) (n + 1) (xs.take (i * 3) ++ us ++ xs.drop (i * 3)) e := by
  have hvs : Sl w 3 (.slice (some ⟨vb, 0, none⟩) 1 1) 1 us := by
    have h := hv.sl 3 0 1 1 (by omega) (Nat.le_refl _) (by simp [maxLen])
    rwa [List.drop_zero, List.take_of_length_le (by omega)] at h
  obtain ⟨A', c', hf, hnc, hcm⟩ := hs.form
  cases hf
  have HV := Lib.hid hv; have HVS := Lib.hid hvs; have HVB := Lib.hid hvb; have HX1 := Lib.hid hx1; have HU1 := Lib.hid hu1; have HU := Lib.hid hu
  clear hv hvs hvb hx1 hu1 hu
  by_cases hin : i = n
  · subst hin
    have hxl := hs.1
    have HS := Lib.hid hs; clear hs
    by_cases hic : c = i
    all_goals
      try subst hic
      go_enter Try.func135, Try.ntmps135
      go_wp2_with (at_builtin; refine wpList_apo rfl (.tmp 23) (.tmp 24) 90 rfl tbSpan HS.out HVS.out rfl rfl HU1.out ?b1 ?b2 ?go)
      case b1 => simp only [maxLen]; omega
      case b2 => omega
      case go =>
        intro B N d w' hN ho _ hf2 hst
        subst hN
        have HO := Lib.hid ho; have HF := Lib.hid hf2; have HST := Lib.hid hst; clear ho hf2 hst
        go_wp2
        go_ret
        refine ⟨B, d, rfl, ?_, HF.out, stays_moved HST.out⟩
        rw [List.take_of_length_le (by omega), List.drop_of_length_le (by omega), List.append_nil]
        exact HO.out
  · have hil : i < n := by omega
    have hbin : ((i : Int) == (n : Int)) = false := by rw [beq_eq_false_iff_ne]; omega
    obtain ⟨g, rfl⟩ : ∃ g, A = some ⟨g, 0, none⟩ := by
      obtain ⟨g, c2, h, _⟩ := hs.cells i hil
      cases h; exact ⟨g, rfl⟩
    obtain ⟨cur, hg, hcl, _, _, hcx⟩ := hs.has
    have hxl := hs.1
    have HG := Lib.hid hg; have HCX := Lib.hid hcx; have HS := Lib.hid hs
    have hgv : g ≠ vb := HVB.out g rfl
    have hglt : g < w.heap.size := (Array.getElem?_eq_some_iff.1 hg).1
    clear hg hcx hs hin
    by_cases hroom : n + 1 ≤ c
    · have hi1 : ¬ (c = i) := by omega
      have hi2 : ¬ (c = i + 1) := by omega
      have hover := Lib.run_overlaps_apart (P := Try.prog) w 90 4 100 Try.underlying90 3 (fun _ => by kernel_rfl) ⟨vb, 0, none⟩ ⟨g, (i + 1) * 3, none⟩ 1 1 (n - i) (c - (i + 1)) (fun e => hgv e.symm) 100 100 3 cur.length (by have h := HV.out; unfold Has at h; simp only [World.shape?, h, Option.some.injEq, Prod.mk.injEq, true_and]; simpa using HU.out) (by have h := HG.out; unfold Has at h; simp only [World.shape?, h]; simp) (by omega) (by have h := HV.out; unfold Has at h; simp [World.frozen?, h]) (by have h := HV.out; unfold Has at h; simp [World.frozen?, h])
      have HOV := Lib.hid hover; clear hover
      have hb1 : decide ((c : Int) < (n : Int) + 1) = false := by simp; omega
      have hi3 : (0 : Int) ≤ (i : Int) + 1 := by omega
      go_enter Try.func135, Try.ntmps135
      go_wp2
      rw [run_callFunc_extern Try.func136 (by kernel_rfl) (by kernel_rfl) (by kernel_rfl) (e := Extern.SlicesOverlaps.overlaps #[90, 90] #[4]) (by kernel_rfl), HOV.out]
      simp only [Result.andThen]
      rw [Oper.upon_value]
      go_wp2_with fail
      refine wp_region_ord (List.range 9) (fun i => [Kd.p, Kd.p, Kd.p, Kd.p, Kd.p, Kd.p, Kd.p, Kd.p, Kd.e].getD i .e) (by kernel_rfl) (by kernel_rfl) ?_
      iterate 8
        first | refine wpX_pu rfl rfl rfl (by first | exact pu_move rfl | exact pu_assign rfl | exact pu_nilCheck rfl rfl | exact pu_binInt rfl rfl rfl | exact pu_conv rfl rfl (by kernel_rfl) | exact pu_fld rfl (by kernel_rfl) | exact pu_ix rfl rfl rfl (by kernel_rfl) | exact pu_unOp rfl | exact pu_binStr rfl rfl rfl | exact pu_len rfl rfl | exact pu_lens rfl rfl | exact pu_pick rfl | exact pu_slice rfl rfl) (fun K hK => ?_) | refine wpX_rd rfl rfl rfl (rd_load rfl) (fun K hK => ?_) | refine wpX_gr rfl rfl rfl (by first | exact gr_buildSlice rfl | exact gr_box rfl | exact gr_alloc rfl) (fun K hK => ?_) | refine wpX_ex rfl rfl rfl (fun K hK => ?_)
        try go_wp2
      refine wpX_ex rfl rfl rfl (fun K hK => ?_)
      refine wp_cp (.tmp 73) (.tmp 76) 90 90 rfl tbSpan (HG.out.kept (Fr.drew (Fr.refl no w)) (fun h => h)) ((HG.out.kept (Fr.drew (Fr.refl no w)) (fun h => h)).sl 3 (i * 3) (n + 1 - i) (c - i) (by omega) (by omega) (by omega)) rfl rfl (by omega) ?h1 ?go
      case h1 =>
        intro u hu
        rw [Nat.min_eq_right (by omega), List.take_take, Nat.min_eq_left (by omega)] at hu
        refine HX1.out u ?_
        rw [← HCX.out]
        exact List.mem_of_mem_drop (i := i * 3) (by rw [List.drop_take]; have e : n * 3 - i * 3 = (n - i) * 3 := (by omega); rw [e]; exact hu)
      case go =>
        intro w2 hg2 hf2
        rw [Nat.min_eq_right (by omega)] at hg2
        have HG2 := Lib.hid hg2; have HF2 := Lib.hid hf2; clear hg2 hf2
        go_simp
        refine hK _ _ ?_
        clear hK K
        refine wpX_done ?_
        have hvs2 : Sl w2 3 (.slice (some ⟨vb, 0, none⟩) 1 1) 1 us := (HVS.out.kept0 (Fr.drew (Fr.refl no w))).kept HF2.out (fun k hk e => by have h1 : vb = k := (by simpa [Value.ownBlock] using hk); omega)
        have HVS2 := Lib.hid hvs2; clear hvs2
        go_wp2_with (with_reducible refine wpList_cp rfl (.tmp 80) (.tmp 81) 90 90 rfl tbSpan HG2.out HVS2.out rfl rfl ?b1 (fun u hu => HU1.out u (List.mem_of_mem_take hu)) ?go)
        case b1 => simp only [List.length_append, List.length_take, List.length_drop]; omega
        case go =>
          intro w3 hg3 hf3
          rw [cut3 us HU.out _ (by omega), Nat.min_eq_left (by omega)] at hg3
          have HG3 := Lib.hid hg3; have HF3 := Lib.hid hf3; clear hg3 hf3
          go_wp2
          go_ret
          have hln : (cur.take ((i + 1) * 3) ++ ((cur.drop (i * 3)).take ((n + 1 - i) * 3)).take ((n - i) * 3) ++ cur.drop ((i + 1) * 3 + (n - i) * 3)).length = cur.length := by
            simp only [List.length_append, List.length_take, List.length_drop]; omega
          have how := HG3.out.ow 3 (n + 1) c (by have := HU.out; simp only [List.length_append, List.length_take, List.length_drop] at hln ⊢; omega) hroom hcm
          have hir := ins_room cur xs us i n HCX.out (by omega) hi HU.out
          dsimp only at hir
          simp only [Nat.one_mul, List.append_assoc] at how hir
          rw [hir, ← List.append_assoc] at how
          refine ⟨_, _, rfl, how, ?_, .inl rfl⟩
          have f1 : Fr (fun k => k = g) w w3 := (fr_sooner (Fr.drew (Fr.refl no w)) HF2.out).trans HF3.out (fun _ _ h => h)
          exact f1.mono (fun k _ h => by rw [h]; rfl)
    · have hcn : c = n := by omega
      subst hcn
      have hb1 : decide ((c : Int) < (c : Int) + 1) = true := by simp; omega
      have hta : (xs.take (i * 3)).length = i * 3 := by rw [List.length_take]; omega
      have HTA := Lib.hid hta; clear hta
      go_enter Try.func135, Try.ntmps135
      go_wp2_with (at_builtin; refine wpList_apm rfl (.tmp 34) (.tmp 39) 90 3 rfl tbSpan Try.underlying3 (m := c + 1 - i) HTA.out ?hxs rfl rfl ?hmi ?b0 ?b1 ?b2 ?b3 ?go)
      case hxs =>
        intro j u hu
        rw [Addr.add_lit, Nat.zero_add]
        obtain ⟨g2, c2, h, _, _, _, _, hc⟩ := HS.out.cells i hil
        cases h
        exact hc j u (by rw [List.getElem?_take] at hu; split at hu; exact hu; cases hu)
      case hmi => omega
      case b0 => omega
      case b1 => omega
      case b2 => simp only [maxLen]; omega
      case b3 => omega
      case go =>
        intro d N ys w2 hN hd1 hd2 hln hg2 hf2 hsz2
        obtain rfl : N = c + 1 := by omega
        have HG2 := Lib.hid hg2; have HF2 := Lib.hid hf2; have HLN := Lib.hid hln; have HSZ := Lib.hid hsz2
        have HVS2 := Lib.hid (HVS.out.kept0 hf2)
        clear hg2 hf2 hln hN hsz2
        go_wp2_with (with_reducible refine wpList_cp rfl (.tmp 43) (.tmp 44) 90 90 rfl tbSpan HG2.out HVS2.out rfl rfl ?b1 (fun u hu => HU1.out u (List.mem_of_mem_take hu)) ?go)
        case b1 => have hL := HLN.out; have hT := HTA.out; rw [List.length_append]; (try simp only [List.length_append] at hL); omega
        case go =>
          intro w3 hg3 hf3
          rw [cut3 us HU.out _ (by omega), Nat.min_eq_left (by omega)] at hg3
          have hs3 : Sl w3 3 (.slice (some ⟨g, i * 3, none⟩) (c - i) (c - i)) (c - i) (xs.drop (i * 3)) := by
            have h := (HG.out.kept HF2.out (fun h => h)).kept hf3 (fun e => by omega)
            have h2 := h.sl 3 (i * 3) (c - i) (c - i) (by omega) (Nat.le_refl _) (by omega)
            rw [← HCX.out, List.drop_take]
            have e : c * 3 - i * 3 = (c - i) * 3 := by omega
            rw [e]; exact h2
          have HG3 := Lib.hid hg3; have HF3 := Lib.hid hf3; have HS3 := Lib.hid hs3; clear hg3 hf3 hs3
          go_wp2_with fail
          refine wp_region_ord (List.range 9) (fun i => [Kd.p, Kd.p, Kd.p, Kd.p, Kd.p, Kd.p, Kd.p, Kd.p, Kd.e].getD i .e) (by kernel_rfl) (by kernel_rfl) ?_
          iterate 8
            first | refine wpX_pu rfl rfl rfl (by first | exact pu_move rfl | exact pu_assign rfl | exact pu_nilCheck rfl rfl | exact pu_binInt rfl rfl rfl | exact pu_conv rfl rfl (by kernel_rfl) | exact pu_fld rfl (by kernel_rfl) | exact pu_ix rfl rfl rfl (by kernel_rfl) | exact pu_unOp rfl | exact pu_binStr rfl rfl rfl | exact pu_len rfl rfl | exact pu_lens rfl rfl | exact pu_pick rfl | exact pu_slice rfl rfl) (fun K hK => ?_) | refine wpX_rd rfl rfl rfl (rd_load rfl) (fun K hK => ?_) | refine wpX_gr rfl rfl rfl (by first | exact gr_buildSlice rfl | exact gr_box rfl | exact gr_alloc rfl) (fun K hK => ?_) | refine wpX_ex rfl rfl rfl (fun K hK => ?_)
            try go_wp2
          refine wpX_ex rfl rfl rfl (fun K hK => ?_)
          refine wp_cp (.tmp 50) (.tmp 53) 90 90 rfl tbSpan (HG3.out.kept (Fr.drew (Fr.refl no _)) (fun h => h)) (HS3.out.kept0 (Fr.drew (Fr.refl no _))) rfl rfl ?b1 (fun u hu => HX1.out u (List.mem_of_mem_drop (List.mem_of_mem_take hu))) ?go
          case b1 => have := HLN.out; have := HU.out; simp only [List.length_append, List.length_take, List.length_drop] at this ⊢; omega
          case go =>
            intro w4 hg4 hf4
            rw [Nat.min_eq_left (by omega)] at hg4
            have HG4 := Lib.hid hg4; have HF4 := Lib.hid hf4; clear hg4 hf4
            go_simp
            refine hK _ _ ?_
            clear hK K
            refine wpX_done ?_
            go_wp2
            go_ret
            have hxd : (xs.drop (i * 3)).take ((c - i) * 3) = xs.drop (i * 3) := List.take_of_length_le (by rw [List.length_drop]; omega)
            have hL := HLN.out
            have hU := HU.out
            have hT := HTA.out
            (try simp only [List.length_append] at hL)
            have how := HG4.out.ow 3 (c + 1) d (by simp only [List.length_append, List.length_take, List.length_drop] at hT ⊢; omega) hd1 hd2
            have hir := ins_new xs us ys i c hxl (by omega) hi HU.out
            dsimp only at hir
            have htt : (xs.take (i * 3) ++ ys).take (i * 3) = xs.take (i * 3) := List.take_left' hT
            simp only [Nat.one_mul, hxd, htt, List.append_assoc] at how hir
            rw [hir, ← List.append_assoc] at how
            have f3 : Fr no w w4 := by
              have f1 : Fr (fun k => k = w.heap.size) w2 w4 := HF3.out.trans (fr_sooner (Fr.drew (Fr.refl no _)) HF4.out) (fun _ _ h => h)
              exact HF2.out.trans f1 (fun k hk h => by omega)
            refine ⟨_, _, rfl, how, f3.mono (fun _ _ h => h.elim), .inr fun k hk => ?_⟩
            have hk' : w.heap.size = k := by simpa [Value.ownBlock] using hk
            have h2 := HSZ.out
            have h3 := HF3.out.size
            have h4 := HF4.out.size
            replace h4 : w3.heap.size ≤ w4.heap.size := h4
            omega

set_option maxRecDepth 100000 in
set_option maxHeartbeats 4000000 in
theorem replaceSpan (w : World) (A : Option Addr) (n c i j vb : Nat) (xs us : List Value) (hs : Ow w 100 3 (.slice A n c) n xs) (hij : i ≤ j) (hj : j ≤ n) (hu : us.length = 3) (hv : Has w vb 100 us) (hvb : ∀ k, (Value.slice A n c).ownBlock = some k → k ≠ vb) (hx1 : ∀ u ∈ xs, u.oneCell' = true) (hu1 : ∀ u ∈ us, u.oneCell' = true) (hn : n ≤ 1000000) :
    Calls Try.prog 115 #[.slice A n c, .int .i64 i, .int .i64 j, .slice (some ⟨vb, 0, none⟩) 1 1] w fun e w' => Turned w w' 100 (.slice A n c) (n + 1 - (j - i)) (xs.take (i * 3) ++ us ++ xs.drop (j * 3)) e := by
  obtain ⟨A', c', hf, hnc, hcm⟩ := hs.form
  cases hf
  by_cases h0 : i = j
  · subst h0
    rw [Nat.sub_self, Nat.sub_zero]
    have hins := insertSpan w A n c i vb xs us hs hj hu hv hvb hx1 hu1 hn
    have HI := Lib.hid hins; clear hins hs hu hv hvb hx1 hu1
    by_cases hic : c = i
    all_goals
      try subst hic
      go_enter Try.func115, Try.ntmps115
      go_wp2_with fail
      with_reducible refine HI.out.mono ?_
      rintro e w1 ⟨B, d, rfl, h1, h2, h3⟩
      have H1 := Lib.hid h1; have H2 := Lib.hid h2; have H3 := Lib.hid h3; clear h1 h2 h3
      go_wp2
      go_ret
      exact ⟨B, d, rfl, H1.out, H2.out, H3.out⟩
  · have hlt : i < j := by omega
    have hbij : ((i : Int) == (j : Int)) = false := by rw [beq_eq_false_iff_ne]; omega
    obtain ⟨g, rfl⟩ : ∃ g, A = some ⟨g, 0, none⟩ := by
      obtain ⟨g, c2, h, _⟩ := hs.cells i (by omega)
      cases h; exact ⟨g, rfl⟩
    obtain ⟨cur, hg, hcl, _, _, hcx⟩ := hs.has
    have hxl := hs.1
    have hgv : g ≠ vb := hvb g rfl
    have hglt : g < w.heap.size := (Array.getElem?_eq_some_iff.1 hg).1
    have hci : ¬ (c = i) := by omega
    have hvs : Sl w 3 (.slice (some ⟨vb, 0, none⟩) 1 1) 1 us := by
      have h := hv.sl 3 0 1 1 (by omega) (Nat.le_refl _) (by simp [maxLen])
      rwa [List.drop_zero, List.take_of_length_le (by omega)] at h
    have HV := Lib.hid hv; have HVS := Lib.hid hvs; have HX1 := Lib.hid hx1; have HU1 := Lib.hid hu1; have HU := Lib.hid hu
    have HG := Lib.hid hg; have HCX := Lib.hid hcx; have HS := Lib.hid hs
    clear hv hvs hvb hx1 hu1 hu hg hcx hs h0
    by_cases hjn : j = n
    · subst hjn
      have hsi := HS.out.head i (by omega)
      have HSI := Lib.hid hsi; clear hsi
      have hci1 : ¬ (c = i + 1) ∨ c = i + 1 := by omega
      go_enter Try.func115, Try.ntmps115
      go_wp2_with (at_builtin; refine wpList_apo rfl (.tmp 32) (.tmp 33) 90 rfl tbSpan HSI.out HVS.out rfl rfl HU1.out ?b1 ?b2 ?go)
      case b1 => simp only [maxLen]; omega
      case b2 => omega
      case go =>
        intro B N d w2 hN ho hold hf2 hst
        subst hN
        have HOLD := Lib.hid hold; clear hold
        have ho2 := ho.form
        obtain ⟨_, _, hq, hnd, hdm⟩ := ho2
        cases hq
        have HO := Lib.hid ho; have HF2 := Lib.hid hf2; have HST := Lib.hid hst; clear ho hf2 hst
        have hgrow : ∀ k, (Value.slice B (i + 1) d).ownBlock = some k → k = g ∨ w.heap.size ≤ k := fun k hk => by
          rcases HST.out with ⟨A', c', h, h'⟩ | h
          · cases h; cases h'
            left; simpa [Value.ownBlock] using hk.symm
          · exact .inr (h k hk).1
        by_cases hlast : i + 1 = j
        · have hb : decide (i + 1 < j) = false := by simp; omega
          have hb' : decide ((i : Int) + 1 < (j : Int)) = false := by simp; omega
          have hjl : j - (j - i - 1) = j := by omega
          go_wp2
          go_ret
          rw [show j + 1 - (j - i) = i + 1 by omega, List.drop_of_length_le (show xs.length ≤ j * 3 by omega), List.append_nil]
          have hmv := stays_moved HST.out
          exact ⟨B, d, rfl, HO.out, HF2.out, hmv⟩
        · have hb' : decide ((i : Int) + 1 < (j : Int)) = true := by simp; omega
          have hb : decide (i + 1 < j) = true := by simp; omega
          have hci2 : ¬ (c = i + 1) := by omega
          obtain ⟨cur2, hg2, hl2⟩ : ∃ cur2, Has w2 g 100 cur2 ∧ c * 3 ≤ cur2.length := by
            rcases HST.out with ⟨A', c', h, h'⟩ | h
            · cases h; cases h'
              obtain ⟨cur2, h1, h2, _⟩ := HO.out.has
              exact ⟨cur2, h1, h2⟩
            · obtain ⟨cur2, h1, h2, _⟩ := HOLD.out.has
              exact ⟨cur2, h1, h2⟩
          have HG2 := Lib.hid hg2; clear hg2
          go_wp2_with (with_reducible refine wpList_cl rfl (.tmp 43) 90 rfl tbSpan (by simp [Value.cells, Value.oneCell']) HG2.out rfl ?b1 ?go)
          case b1 => omega
          case go =>
            intro w3 ys hys hg3 hf3
            have HG3 := Lib.hid hg3; have HF3 := Lib.hid hf3; clear hg3 hf3
            go_wp2
            go_ret
            rw [show j + 1 - (j - i) = i + 1 by omega, List.drop_of_length_le (show xs.length ≤ j * 3 by omega), List.append_nil]
            have hmv := (stays_moved HST.out).later HF3.out.size
            refine ⟨B, d, rfl, ?_, HF2.out.trans HF3.out (fun k _ h => by rw [h]; rfl), hmv⟩
            rcases HST.out with ⟨A', c', h, h'⟩ | h
            · cases h; cases h'
              obtain ⟨cur3, h1, h2, h3, h4, h5⟩ := HO.out.has
              have e : cur3 = cur2 := by
                have := HG2.out.symm.trans h1
                simp only [Option.some.injEq, Obj.cells.injEq, and_true] at this
                have := congrArg Array.toList this
                simpa using this.symm
              subst e
              have hq := HG3.out.ow 3 (i + 1) c (by simp only [List.length_append, List.length_take, List.length_drop]; omega) h3 h4
              (try simp only [List.append_assoc] at hq)
              rw [List.take_append_of_le_length (by rw [List.length_take]; omega), List.take_take, Nat.min_self, h5] at hq
              exact hq
            · exact HO.out.kept HF3.out (fun k hk e => by have := (h k hk).1; omega)
    · have hjl : j < n := by omega
      have hcj : ¬ (c = j) := by omega
      have hcii : ¬ (c = i + 1) := by omega
      have hbjn : ((j : Int) == (n : Int)) = false := by rw [beq_eq_false_iff_ne]; omega
      have hle : decide ((i : Int) + 1 ≤ (j : Int)) = true := by simp; omega
      have hgt : decide ((c : Int) < (i : Int) + 1 + ((n : Int) - (j : Int))) = false := by simp; omega
      go_enter Try.func115, Try.ntmps115
      go_wp2
      refine wp_region_ord (List.range 13) (fun i => [Kd.p, Kd.p, Kd.p, Kd.p, Kd.p, Kd.p, Kd.p, Kd.p, Kd.p, Kd.p, Kd.p, Kd.p, Kd.p].getD i .e) (by kernel_rfl) (by kernel_rfl) ?_
      iterate 13
        first | refine wpX_pu rfl rfl rfl (by first | exact pu_move rfl | exact pu_assign rfl | exact pu_nilCheck rfl rfl | exact pu_binInt rfl rfl rfl | exact pu_conv rfl rfl (by kernel_rfl) | exact pu_fld rfl (by kernel_rfl) | exact pu_ix rfl rfl rfl (by kernel_rfl) | exact pu_unOp rfl | exact pu_binStr rfl rfl rfl | exact pu_len rfl rfl | exact pu_lens rfl rfl | exact pu_pick rfl | exact pu_slice rfl rfl) (fun K hK => ?_) | refine wpX_rd rfl rfl rfl (rd_load rfl) (fun K hK => ?_) | refine wpX_gr rfl rfl rfl (by first | exact gr_buildSlice rfl | exact gr_box rfl | exact gr_alloc rfl) (fun K hK => ?_) | refine wpX_ex rfl rfl rfl (fun K hK => ?_)
        try go_wp2
      refine wpX_done ?_
      go_wp2_with (with_reducible refine wpList_cp rfl (.tmp 95) (.tmp 96) 90 90 rfl tbSpan (HG.out.kept (Fr.drew (Fr.refl no w)) (fun h => h)) (HVS.out.kept0 (Fr.drew (Fr.refl no w))) rfl rfl ?b1 (fun u hu => HU1.out u (List.mem_of_mem_take hu)) ?go)
      case b1 => omega
      case go =>
        intro w2 hg2 hf2
        rw [cut3 us HU.out _ (by omega), Nat.min_eq_left (by omega)] at hg2
        have HG2 := Lib.hid hg2; have HF2 := Lib.hid hf2; clear hg2 hf2
        have hl2 : (cur.take (i * 3) ++ us ++ cur.drop (i * 3 + 3)).length = cur.length := by
          have := HU.out
          simp only [List.length_append, List.length_take, List.length_drop]; omega
        have HL2 := Lib.hid hl2; clear hl2
        obtain ⟨cur1, hcur1⟩ : ∃ cur1, cur1 = cur.take (i * 3) ++ us ++ cur.drop (i * 3 + 3) := ⟨_, rfl⟩
        have HC1 := Lib.hid hcur1
        have hg2' : Has w2 g 100 cur1 := by
          have h := HG2.out
          simp only [Nat.one_mul, List.append_assoc] at h
          rw [hcur1, List.append_assoc]; exact h
        rw [← hcur1] at HL2
        have HG2 := Lib.hid hg2'
        clear hg2' hcur1
        have hl1 : cur1.length = cur.length := HL2.out
        go_wp2_with fail
        refine wp_region_ord (List.range 10) (fun i => [Kd.p, Kd.p, Kd.p, Kd.p, Kd.p, Kd.p, Kd.p, Kd.p, Kd.p, Kd.e].getD i .e) (by kernel_rfl) (by kernel_rfl) ?_
        iterate 9
          first | refine wpX_pu rfl rfl rfl (by first | exact pu_move rfl | exact pu_assign rfl | exact pu_nilCheck rfl rfl | exact pu_binInt rfl rfl rfl | exact pu_conv rfl rfl (by kernel_rfl) | exact pu_fld rfl (by kernel_rfl) | exact pu_ix rfl rfl rfl (by kernel_rfl) | exact pu_unOp rfl | exact pu_binStr rfl rfl rfl | exact pu_len rfl rfl | exact pu_lens rfl rfl | exact pu_pick rfl | exact pu_slice rfl rfl) (fun K hK => ?_) | refine wpX_rd rfl rfl rfl (rd_load rfl) (fun K hK => ?_) | refine wpX_gr rfl rfl rfl (by first | exact gr_buildSlice rfl | exact gr_box rfl | exact gr_alloc rfl) (fun K hK => ?_) | refine wpX_ex rfl rfl rfl (fun K hK => ?_)
          try go_wp2
        refine wpX_ex rfl rfl rfl (fun K hK => ?_)
        refine wp_cp (.tmp 103) (.tmp 106) 90 90 rfl tbSpan (dLen := n - j) (dCap := c - (i + 1)) (off := (i + 1) * 3) (HG2.out.kept (Fr.drew (Fr.refl no _)) (fun h => h)) ((HG2.out.kept (Fr.drew (Fr.refl no _)) (fun h => h)).sl 3 (j * 3) (n - j) (c - j) (by omega) (by omega) (by omega)) ?hd rfl (by omega) ?h1 ?go
        case hd => first | rfl | (unfold Act.eval; simp; done) | (unfold Act.eval; simp; omega)
        case h1 =>
          intro u hu
          have hm := rep_mid cur xs us i j n HCX.out (by omega) hlt hj HU.out
          rw [← HC1.out] at hm
          have h2 := List.mem_of_mem_take hu
          rw [hm] at h2
          exact HX1.out u (List.mem_of_mem_drop h2)
        case go =>
          intro w3 hg3 hf3
          rw [Nat.min_eq_left (by omega), List.take_take, Nat.min_self] at hg3
          have HG3 := Lib.hid hg3; have HF3 := Lib.hid hf3; clear hg3 hf3
          go_simp
          refine hK _ _ ?_
          clear hK K
          refine wpX_done ?_
          by_cases hct : c = i + 1 + (n - j)
          · go_wp2_with (with_reducible refine wpList_cl rfl (.tmp 110) 90 rfl tbSpan (by simp [Value.cells, Value.oneCell']) (off := 0) HG3.out rfl ?b1 ?go)
            case b1 => rw [show n - (i + 1 + (n - j)) = 0 by omega]; omega
            intro w4 ys hys hg4 hf4
            have HG4 := Lib.hid hg4; have HF4 := Lib.hid hf4; have HYS := Lib.hid hys; clear hg4 hf4 hys
            go_wp2
            go_ret
            have hF : Fr (fun k => k = g) w w4 := ((fr_sooner (Fr.drew (Fr.refl no w)) HF2.out).trans (fr_sooner (Fr.drew (Fr.refl no _)) HF3.out) (fun _ _ h => h)).trans HF4.out (fun _ _ h => h)
            have hrr := rep_room cur xs us ys i j n HCX.out (by omega) hlt hj HU.out (by have := HYS.out; omega)
            dsimp only at hrr
            rw [← HC1.out] at hrr
            have hy0 : ys = [] := List.eq_nil_of_length_eq_zero (by have := HYS.out; rw [show n - (i + 1 + (n - j)) = 0 by omega] at this; omega)
            have hg := HG4.out
            rw [show n - (i + 1 + (n - j)) = 0 by omega, hy0] at hg
            simp only [List.take_zero, List.nil_append, Nat.zero_mul, Nat.zero_add, List.drop_zero] at hg
            rw [show j - i - 1 = 0 by omega, hy0] at hrr
            simp only [List.append_nil, Nat.zero_mul, Nat.add_zero, List.take_append_drop] at hrr
            have how := hg.ow 3 (i + 1 + (n - j)) c (by simp only [List.length_append, List.length_take, List.length_drop]; omega) (by omega) hcm
            (try simp only [List.append_assoc] at how)
            simp only [List.append_assoc] at hrr
            rw [hrr, ← List.append_assoc] at how
            rw [show n + 1 - (j - i) = i + 1 + (n - j) by omega]
            rw [hct] at how
            exact ⟨_, _, rfl, how, hF.mono (fun k _ h => by rw [h]; rfl), .inl rfl⟩
          · go_wp2_with (with_reducible refine wpList_cl rfl (.tmp 110) 90 rfl tbSpan (by simp [Value.cells, Value.oneCell']) HG3.out rfl ?bz ?gz)
            case bz => simp only [List.length_append, List.length_take, List.length_drop]; omega
            intro w4 ys hys hg4 hf4
            have HG4 := Lib.hid hg4; have HF4 := Lib.hid hf4; have HYS := Lib.hid hys; clear hg4 hf4 hys
            go_wp2
            go_ret
            have hF : Fr (fun k => k = g) w w4 := ((fr_sooner (Fr.drew (Fr.refl no w)) HF2.out).trans (fr_sooner (Fr.drew (Fr.refl no _)) HF3.out) (fun _ _ h => h)).trans HF4.out (fun _ _ h => h)
            have hrr := rep_room cur xs us ys i j n HCX.out (by omega) hlt hj HU.out (by have := HYS.out; omega)
            dsimp only at hrr
            rw [← HC1.out] at hrr
            have hg := HG4.out
            rw [show n - (i + 1 + (n - j)) = j - i - 1 by omega] at hg
            have how := hg.ow 3 (i + 1 + (n - j)) c (by have := HYS.out; simp only [List.length_append, List.length_take, List.length_drop]; omega) (by omega) hcm
            (try simp only [List.append_assoc] at how)
            simp only [List.append_assoc] at hrr
            rw [hrr, ← List.append_assoc] at how
            rw [show n + 1 - (j - i) = i + 1 + (n - j) by omega]
            exact ⟨_, _, rfl, how, hF.mono (fun k _ h => by rw [h]; rfl), .inl rfl⟩
end Go.Proofs.Ytdnohhlgaaihmaa

/- What things of a call's own take up in memory: each its own blocks. General. -/
namespace Go
open Go.RowKit

def Dj (S T : Nat → Prop) : Prop := ∀ k, S k → ¬ T k

theorem Dj.symm {S T : Nat → Prop} (h : Dj S T) : Dj T S := fun k h1 h2 => h k h2 h1

/-- The blocks of a slice's row. -/
def ob (v : Value) : Nat → Prop := fun k => v.ownBlock = some k

/-- One block. -/
def at1 (g : Nat) : Nat → Prop := fun k => k = g

/-- Footprints, apart from each other, of blocks from lo on, below hi. -/
structure Sep (lo hi : Nat) (F : List (Nat → Prop)) : Prop where
  dj : F.Pairwise Dj
  bd : ∀ S ∈ F, ∀ k, S k → lo ≤ k ∧ k < hi

namespace Sep
variable {lo hi hi' : Nat} {F : List (Nat → Prop)}
theorem nil (lo hi : Nat) : Sep lo hi [] := ⟨.nil, by simp⟩
theorem later (h : Sep lo hi F) (hh : hi ≤ hi') : Sep lo hi' F := ⟨h.dj, fun S hS k hk => ⟨(h.bd S hS k hk).1, Nat.lt_of_lt_of_le (h.bd S hS k hk).2 hh⟩⟩
theorem ne (h : Sep lo hi F) (i j : Nat) (hij : i ≠ j) {S T : Nat → Prop} (hi : F[i]? = some S) (hj : F[j]? = some T) : Dj S T := by
  obtain ⟨hi1, rfl⟩ := List.getElem?_eq_some_iff.1 hi
  obtain ⟨hj1, rfl⟩ := List.getElem?_eq_some_iff.1 hj
  rcases Nat.lt_or_gt_of_ne hij with h1 | h1
  · exact List.pairwise_iff_getElem.1 h.dj i j hi1 hj1 h1
  · exact (List.pairwise_iff_getElem.1 h.dj j i hj1 hi1 h1).symm
theorem lo_of (h : Sep lo hi F) (i : Nat) {S : Nat → Prop} (hS : F[i]? = some S) (k : Nat) (hk : S k) : lo ≤ k ∧ k < hi := h.bd S (List.mem_of_getElem? hS) k hk
/-- One of them goes on: in its own blocks, and in new ones. -/
theorem upd (h : Sep lo hi F) (i : Nat) {S : Nat → Prop} (S' : Nat → Prop) (hS : F[i]? = some S) (hh : hi ≤ hi') (hl : lo ≤ hi) (h' : ∀ k, S' k → S k ∨ (hi ≤ k ∧ k < hi')) : Sep lo hi' (F.set i S') := by
  have key : ∀ k, S' k → lo ≤ k ∧ k < hi' := fun k hk => by
    rcases h' k hk with h1 | h1
    · have := h.lo_of i hS k h1; omega
    · omega
  refine ⟨List.pairwise_iff_getElem.2 fun a b ha hb hab => ?_, fun T hT k hk => ?_⟩
  · simp only [List.length_set] at ha hb
    have other : ∀ c (hc : c < F.length), i ≠ c → Dj S' F[c] := fun c hc hne k hk hk2 => by
      rcases h' k hk with h1 | h1
      · exact h.ne i c hne hS (List.getElem?_eq_getElem hc) k h1 hk2
      · have := (h.lo_of c (List.getElem?_eq_getElem hc) k hk2).2; omega
    by_cases h1 : i = a
    · subst h1
      rw [List.getElem_set_self, List.getElem_set_ne (by omega)]
      exact other b hb (by omega)
    · rw [List.getElem_set_ne h1]
      by_cases h2 : i = b
      · subst h2
        rw [List.getElem_set_self]
        exact (other a ha (by omega)).symm
      · rw [List.getElem_set_ne h2]
        exact List.pairwise_iff_getElem.1 h.dj a b ha hb hab
  · rcases List.mem_or_eq_of_mem_set hT with h1 | rfl
    · have := h.bd T h1 k hk; omega
    · exact key k hk
/-- A new one. -/
theorem cons (h : Sep lo hi F) {S : Nat → Prop} (hh : hi ≤ hi') (hl : lo ≤ hi) (h' : ∀ k, S k → hi ≤ k ∧ k < hi') : Sep lo hi' (S :: F) := by
  refine ⟨List.pairwise_cons.2 ⟨fun T hT k hk hk2 => ?_, h.dj⟩, fun T hT k hk => ?_⟩
  · have := (h.bd T hT k hk2).2; have := (h' k hk).1; omega
  · rcases List.mem_cons.1 hT with rfl | h1
    · have := h' k hk; omega
    · have := h.bd T h1 k hk; omega
theorem tail {S : Nat → Prop} (h : Sep lo hi (S :: F)) : Sep lo hi F := ⟨(List.pairwise_cons.1 h.dj).2, fun T hT => h.bd T (List.mem_cons_of_mem _ hT)⟩
/-- Less of one of them. -/
theorem less (h : Sep lo hi F) (i : Nat) {S : Nat → Prop} (S' : Nat → Prop) (hS : F[i]? = some S) (hl : lo ≤ hi) (h' : ∀ k, S' k → S k) : Sep lo hi (F.set i S') := h.upd i S' hS (Nat.le_refl _) hl (fun k hk => .inl (h' k hk))
end Sep

theorem Moved.blk {w w' : World} {v v' : Value} (m : Moved w w' v v') (k : Nat) (h : ob v' k) : ob v k ∨ (w.heap.size ≤ k ∧ k < w'.heap.size) := by
  rcases m with m | m
  · exact .inl (m.symm.trans h)
  · exact .inr (m k h)
end Go

/- reads.Set: Span adds all keys of a span. -/
namespace Go.Proofs.Ytdnohhlgaaihmaa
open Go.RowKit

set_option maxRecDepth 100000 in
set_option maxHeartbeats 400000 in
theorem rown_any (w : World) (x : Value) (l : List UInt8) (hx : Sl w 1 x l.length (bvs l)) (hl : l.length ≤ 140737488351232) :
    Calls Try.prog 111 #[x] w fun e w' => ∃ A, e = .returned (.slice A l.length l.length) ∧ Ow w' 5 1 (.slice A l.length l.length) l.length (bvs l) ∧ (∀ k, Value.ownBlock (.slice A l.length l.length) = some k → w.heap.size ≤ k) ∧ Fr no w w' := by
  have HX := Lib.hid hx; clear hx
  go_enter Try.func111, Try.ntmps111
  go_wp2_with fail
  refine (bclone_any _ _ l HX.out hl).mono ?_
  rintro e w1 ⟨A1, c1, rfl, ho, hfresh, hf⟩
  obtain ⟨A2, c2, h1, h2, h3⟩ := ho.form
  cases h1
  have HO := Lib.hid ho; have HFR := Lib.hid hfresh; have HF := Lib.hid hf; clear ho hfresh hf h3
  go_wp2_with fail
  refine (bclip_any _ _ _ _ h2).mono ?_
  rintro e w2 ⟨rfl, rfl⟩
  go_wp2
  go_ret
  exact ⟨A1, rfl, HO.out.clip, fun k hk => HFR.out k (by cases A1 <;> exact hk), HF.out⟩

namespace SpV
/-- One more span met. -/
def merge (x y : SpV) : SpV :=
  let a : SpV := if cb y.f x.f < 0 then { x with F := y.F, f := y.f } else x
  if a.o then a else if y.o then { a with o := true, T := .slice none 0 0, t := [] } else if 0 < cb y.t a.t then { a with T := y.T, t := y.t } else a

/-- All that are met, and what comes of it. -/
def mt : List SpV → SpV → Nat × SpV
  | [], x => (0, x)
  | y :: ys, x => if reach x.o x.t y.f then ((mt ys (merge x y)).1 + 1, (mt ys (merge x y)).2) else (0, x)

/-- The place of the first that reaches x. -/
def fst_ (l : List SpV) (k : List UInt8) : Nat := (l.findIdx? fun y => reach y.o y.t k).getD l.length

/-- A span added. -/
def add (l : List SpV) (x : SpV) : List SpV :=
  l.take (fst_ l x.f) ++ [(mt (l.drop (fst_ l x.f)) x).2] ++ l.drop (fst_ l x.f + (mt (l.drop (fst_ l x.f)) x).1)

theorem fst_le (l : List SpV) (k : List UInt8) : fst_ l k ≤ l.length := by
  unfold fst_
  cases h : l.findIdx? (fun y => reach y.o y.t k) with
  | none => simp
  | some i => have := (List.findIdx?_eq_some_iff_getElem.1 h).1; simp; omega

theorem mt_le : ∀ (l : List SpV) (x : SpV), (mt l x).1 ≤ l.length
  | [], x => by simp [mt]
  | y :: ys, x => by
    unfold mt
    split
    · have := mt_le ys (merge x y); simp; omega
    · simp

theorem fits_fst (l : List SpV) (k : List UInt8) : (fits (fun y => reach y.o y.t k) l = -1 ∧ fst_ l k = l.length) ∨ (fits (fun y => reach y.o y.t k) l = (fst_ l k : Int) ∧ fst_ l k < l.length) := by
  unfold fits fst_
  cases h : l.findIdx? (fun y => reach y.o y.t k) with
  | none => left; simp
  | some i => right; have := (List.findIdx?_eq_some_iff_getElem.1 h).1; simp; exact this
end SpV

/-- What a set takes up: itself, its row, its spans' bytes. -/
def SeF (p : Nat) (sv : Value) (l : List SpV) : Nat → Prop := fun k => k = p ∨ sv.ownBlock = some k ∨ ∃ x ∈ l, x.F.ownBlock = some k ∨ x.T.ownBlock = some k

/-- A set at block p. -/
structure Se (w : World) (p : Nat) (sv : Value) (l : List SpV) : Prop where
  at_ : w.heap[p]? = some (.cells #[sv] 159 (0, 0))
  row : Ow w 100 3 sv l.length (l.flatMap SpV.cells)
  good : ∀ x ∈ l, x.Good w
  ne : sv.ownBlock ≠ some p
  apart : ∀ x ∈ l, ∀ k, x.F.ownBlock = some k ∨ x.T.ownBlock = some k → k ≠ p ∧ sv.ownBlock ≠ some k ∧ k < w.heap.size

theorem Se.kept {w w1 : World} {p : Nat} {sv : Value} {l : List SpV} {S : Nat → Prop} (h : Se w p sv l) (f : Fr S w w1) (hn : Dj (SeF p sv l) S) : Se w1 p sv l :=
  ⟨f.heap h.at_ (hn p (.inl rfl)), h.row.kept f (fun k hk => hn k (.inr (.inl hk))), fun x hx => (h.good x hx).kept f (fun k hk => hn k (.inr (.inr ⟨x, hx, .inl hk⟩))) (fun k hk => hn k (.inr (.inr ⟨x, hx, .inr hk⟩))), h.ne, fun x hx k hk => by obtain ⟨h1, h2, h3⟩ := h.apart x hx k hk; exact ⟨h1, h2, Nat.lt_of_lt_of_le h3 f.size⟩⟩
theorem Se.kept0 {w w1 : World} {p : Nat} {sv : Value} {l : List SpV} (h : Se w p sv l) (f : Fr no w w1) : Se w1 p sv l := h.kept f (fun _ _ h => h)

/-- A span in a variable of its own. -/
def VarAt (w : World) (b : Nat) (x : SpV) : Prop := w.heap[b]? = some (.cells #[x.F, x.T, .bool x.o] 100 (0, 0))

theorem VarAt.cells {w : World} {b : Nat} {x : SpV} (h : VarAt w b x) : w.cell? ⟨b, 0, none⟩ = some x.F ∧ w.cell? ⟨b, 1, none⟩ = some x.T ∧ w.cell? ⟨b, 2, none⟩ = some (.bool x.o) ∧ (∀ o, w.frozen? ⟨b, o, none⟩ = false) ∧ b < w.heap.size := by
  unfold VarAt at h
  exact ⟨by simp [World.cell?, h], by simp [World.cell?, h], by simp [World.cell?, h], fun o => by simp [World.frozen?, h], (Array.getElem?_eq_some_iff.1 h).1⟩
theorem VarAt.kept {w w1 : World} {b : Nat} {x : SpV} {S : Nat → Prop} (h : VarAt w b x) (f : Fr S w w1) (hn : ¬ S b) : VarAt w1 b x := f.heap h hn
theorem VarAt.setF {w : World} {b : Nat} {x : SpV} (h : VarAt w b x) (v : Value) (l : List UInt8) : VarAt (w.setCell ⟨b, 0, none⟩ v) b { x with F := v, f := l } := by
  unfold VarAt at *; rw [hp_same h]; simp
theorem VarAt.setT {w : World} {b : Nat} {x : SpV} (h : VarAt w b x) (v : Value) (l : List UInt8) : VarAt (w.setCell ⟨b, 1, none⟩ v) b { x with T := v, t := l } := by
  unfold VarAt at *; rw [hp_same h]; simp
theorem VarAt.setO {w : World} {b : Nat} {x : SpV} (h : VarAt w b x) (o : Bool) : VarAt (w.setCell ⟨b, 2, none⟩ (.bool o)) b { x with o := o } := by
  unfold VarAt at *; rw [hp_same h]; simp
end Go.Proofs.Ytdnohhlgaaihmaa
