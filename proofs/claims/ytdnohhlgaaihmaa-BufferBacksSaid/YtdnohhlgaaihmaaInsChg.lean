/- slices.Insert and slices.Replace of one element into a row of one's own, elements of three cells. -/
import Derived.Test.YtdnohhlgaaihmaaBase
import Derived.Test.YtdnohhlgaaihmaaSplice
import Derived.Lib.Overlaps
import Derived.Laws.Externs
namespace Go.Proofs.Ytdnohhlgaaihmaa
open Go.RowKit

theorem tbChange : Tb Try.prog 30 36 (.agg #[.slice none 0 0, .slice none 0 0, .bool false]) 3 56 := ⟨by kernel_rfl, by kernel_rfl, rfl, by decide⟩

/-- What a call leaves that turned a row of one's own. -/
def Turned (w w' : World) (e : TypeId) (v : Value) (N : Nat) (ys : List Value) (en : Ending) : Prop :=
  ∃ A c, en = .returned (.slice A N c) ∧ Ow w' e 3 (.slice A N c) N ys ∧ Fr (fun k => v.ownBlock = some k) w w' ∧ Moved w w' v (.slice A N c)

theorem stays_moved {w w' : World} {v v' : Value} {n N : Nat} (h : Stays w w' v v' n N) : Moved w w' v v' := by
  rcases h with ⟨A, c, rfl, rfl⟩ | h
  · left; cases A <;> rfl
  · exact .inr h

theorem cut3 (us : List Value) (h : us.length = 3) (n : Nat) (hn : 1 ≤ n) : us.take (min 1 n * 3) = us := by rw [Nat.min_eq_left hn]; exact List.take_of_length_le (by omega)

set_option maxRecDepth 100000 in
set_option maxHeartbeats 4000000 in
theorem insertChange (w : World) (A : Option Addr) (n c i vb : Nat) (xs us : List Value) (hs : Ow w 36 3 (.slice A n c) n xs) (hi : i ≤ n) (hu : us.length = 3) (hv : Has w vb 36 us) (hvb : ∀ k, (Value.slice A n c).ownBlock = some k → k ≠ vb) (hx1 : ∀ u ∈ xs, u.oneCell' = true) (hu1 : ∀ u ∈ us, u.oneCell' = true) (hn : n ≤ 1000000) :
    Calls Try.prog 128 #[.slice A n c, .int .i64 i, .slice (some ⟨vb, 0, none⟩) 1 1] w fun e w' => Turned w w' 36 (.slice A n c) (n + 1) (xs.take (i * 3) ++ us ++ xs.drop (i * 3)) e := by
  have hvs : Sl w 3 (.slice (some ⟨vb, 0, none⟩) 1 1) 1 us := by
    have h := hv.sl 3 0 1 1 (by omega) (Nat.le_refl _) (by simp [maxLen])
    rwa [List.drop_zero, List.take_of_length_le (by omega)] at h
  obtain ⟨A', c', hf, hnc, hcm⟩ := hs.form
  cases hf
  have HV := Lib.hid hv; have HVS := Lib.hid hvs; have HVB := Lib.hid hvb; have HX1 := Lib.hid hx1; have HU1 := Lib.hid hu1; have HU := Lib.hid hu
  clear hv hvs hvb hx1 hu1 hu
  by_cases hin : i = n
  · subst hin
    have hxl := hs.1
    have HS := Lib.hid hs; clear hs
    by_cases hic : c = i
    all_goals
      try subst hic
      go_enter Try.func128, Try.ntmps128
      go_wp2_with (at_builtin; refine wpList_apo rfl (.tmp 23) (.tmp 24) 30 rfl tbChange HS.out HVS.out rfl rfl HU1.out ?b1 ?b2 ?go)
      case b1 => simp only [maxLen]; omega
      case b2 => omega
      case go =>
        intro B N d w' hN ho _ hf2 hst
        subst hN
        have HO := Lib.hid ho; have HF := Lib.hid hf2; have HST := Lib.hid hst; clear ho hf2 hst
        go_wp2
        go_ret
        refine ⟨B, d, rfl, ?_, HF.out, stays_moved HST.out⟩
        rw [List.take_of_length_le (by omega), List.drop_of_length_le (by omega), List.append_nil]
        exact HO.out
  · have hil : i < n := by omega
    have hbin : ((i : Int) == (n : Int)) = false := by rw [beq_eq_false_iff_ne]; omega
    obtain ⟨g, rfl⟩ : ∃ g, A = some ⟨g, 0, none⟩ := by
      obtain ⟨g, c2, h, _⟩ := hs.cells i hil
      cases h; exact ⟨g, rfl⟩
    obtain ⟨cur, hg, hcl, _, _, hcx⟩ := hs.has
    have hxl := hs.1
    have HG := Lib.hid hg; have HCX := Lib.hid hcx; have HS := Lib.hid hs
    have hgv : g ≠ vb := HVB.out g rfl
    have hglt : g < w.heap.size := (Array.getElem?_eq_some_iff.1 hg).1
    clear hg hcx hs hin
    by_cases hroom : n + 1 ≤ c
    · have hi1 : ¬ (c = i) := by omega
      have hi2 : ¬ (c = i + 1) := by omega
      have hover := Lib.run_overlaps_apart (P := Try.prog) w 30 4 36 Try.underlying30 3 (fun _ => by kernel_rfl) ⟨vb, 0, none⟩ ⟨g, (i + 1) * 3, none⟩ 1 1 (n - i) (c - (i + 1)) (fun e => hgv e.symm) 36 36 3 cur.length (by have h := HV.out; unfold Has at h; simp only [World.shape?, h, Option.some.injEq, Prod.mk.injEq, true_and]; simpa using HU.out) (by have h := HG.out; unfold Has at h; simp only [World.shape?, h]; simp) (by omega) (by have h := HV.out; unfold Has at h; simp [World.frozen?, h]) (by have h := HV.out; unfold Has at h; simp [World.frozen?, h])
      have HOV := Lib.hid hover; clear hover
      have hb1 : decide ((c : Int) < (n : Int) + 1) = false := by simp; omega
      have hi3 : (0 : Int) ≤ (i : Int) + 1 := by omega
      go_enter Try.func128, Try.ntmps128
      go_wp2
      rw [run_callFunc_extern Try.func140 (by kernel_rfl) (by kernel_rfl) (by kernel_rfl) (e := Extern.SlicesOverlaps.overlaps #[30, 30] #[4]) (by kernel_rfl), HOV.out]
      simp only [Result.andThen]
      rw [Oper.upon_value]
      go_wp2_with fail
      refine wp_region_ord (List.range 9) (fun i => [Kd.p, Kd.p, Kd.p, Kd.p, Kd.p, Kd.p, Kd.p, Kd.p, Kd.e].getD i .e) (by kernel_rfl) (by kernel_rfl) ?_
      iterate 8
        first | refine wpX_pu rfl rfl rfl (by first | exact pu_move rfl | exact pu_assign rfl | exact pu_nilCheck rfl rfl | exact pu_binInt rfl rfl rfl | exact pu_conv rfl rfl (by kernel_rfl) | exact pu_fld rfl (by kernel_rfl) | exact pu_ix rfl rfl rfl (by kernel_rfl) | exact pu_unOp rfl | exact pu_binStr rfl rfl rfl | exact pu_len rfl rfl | exact pu_lens rfl rfl | exact pu_pick rfl | exact pu_slice rfl rfl) (fun K hK => ?_) | refine wpX_rd rfl rfl rfl (rd_load rfl) (fun K hK => ?_) | refine wpX_gr rfl rfl rfl (by first | exact gr_buildSlice rfl | exact gr_box rfl | exact gr_alloc rfl) (fun K hK => ?_) | refine wpX_ex rfl rfl rfl (fun K hK => ?_)
        try go_wp2
      refine wpX_ex rfl rfl rfl (fun K hK => ?_)
      refine wp_cp (.tmp 73) (.tmp 76) 30 30 rfl tbChange (HG.out.kept (Fr.drew (Fr.refl no w)) (fun h => h)) ((HG.out.kept (Fr.drew (Fr.refl no w)) (fun h => h)).sl 3 (i * 3) (n + 1 - i) (c - i) (by omega) (by omega) (by omega)) rfl rfl (by omega) ?h1 ?go
      case h1 =>
        intro u hu
        rw [Nat.min_eq_right (by omega), List.take_take, Nat.min_eq_left (by omega)] at hu
        refine HX1.out u ?_
        rw [← HCX.out]
        exact List.mem_of_mem_drop (i := i * 3) (by rw [List.drop_take]; have e : n * 3 - i * 3 = (n - i) * 3 := (by omega); rw [e]; exact hu)
      case go =>
        intro w2 hg2 hf2
        rw [Nat.min_eq_right (by omega)] at hg2
        have HG2 := Lib.hid hg2; have HF2 := Lib.hid hf2; clear hg2 hf2
        go_simp
        refine hK _ _ ?_
        clear hK K
        refine wpX_done ?_
        have hvs2 : Sl w2 3 (.slice (some ⟨vb, 0, none⟩) 1 1) 1 us := (HVS.out.kept0 (Fr.drew (Fr.refl no w))).kept HF2.out (fun k hk e => by have h1 : vb = k := (by simpa [Value.ownBlock] using hk); omega)
        have HVS2 := Lib.hid hvs2; clear hvs2
        go_wp2_with (with_reducible refine wpList_cp rfl (.tmp 80) (.tmp 81) 30 30 rfl tbChange HG2.out HVS2.out rfl rfl ?b1 (fun u hu => HU1.out u (List.mem_of_mem_take hu)) ?go)
        case b1 => simp only [List.length_append, List.length_take, List.length_drop]; omega
        case go =>
          intro w3 hg3 hf3
          rw [cut3 us HU.out _ (by omega), Nat.min_eq_left (by omega)] at hg3
          have HG3 := Lib.hid hg3; have HF3 := Lib.hid hf3; clear hg3 hf3
          go_wp2
          go_ret
          have hln : (cur.take ((i + 1) * 3) ++ ((cur.drop (i * 3)).take ((n + 1 - i) * 3)).take ((n - i) * 3) ++ cur.drop ((i + 1) * 3 + (n - i) * 3)).length = cur.length := by
            simp only [List.length_append, List.length_take, List.length_drop]; omega
          have how := HG3.out.ow 3 (n + 1) c (by have := HU.out; simp only [List.length_append, List.length_take, List.length_drop] at hln ⊢; omega) hroom hcm
          have hir := ins_room cur xs us i n HCX.out (by omega) hi HU.out
          dsimp only at hir
          simp only [Nat.one_mul, List.append_assoc] at how hir
          rw [hir, ← List.append_assoc] at how
          refine ⟨_, _, rfl, how, ?_, .inl rfl⟩
          have f1 : Fr (fun k => k = g) w w3 := (fr_sooner (Fr.drew (Fr.refl no w)) HF2.out).trans HF3.out (fun _ _ h => h)
          exact f1.mono (fun k _ h => by rw [h]; rfl)
    · have hcn : c = n := by omega
      subst hcn
      have hb1 : decide ((c : Int) < (c : Int) + 1) = true := by simp; omega
      have hta : (xs.take (i * 3)).length = i * 3 := by rw [List.length_take]; omega
      have HTA := Lib.hid hta; clear hta
      go_enter Try.func128, Try.ntmps128
      go_wp2_with (at_builtin; refine wpList_apm rfl (.tmp 34) (.tmp 39) 30 3 rfl tbChange Try.underlying3 (m := c + 1 - i) HTA.out ?hxs rfl rfl ?hmi ?b0 ?b1 ?b2 ?b3 ?go)
      case hxs =>
        intro j u hu
        rw [Addr.add_lit, Nat.zero_add]
        obtain ⟨g2, c2, h, _, _, _, _, hc⟩ := HS.out.cells i hil
        cases h
        exact hc j u (by rw [List.getElem?_take] at hu; split at hu; exact hu; cases hu)
      case hmi => omega
      case b0 => omega
      case b1 => omega
      case b2 => simp only [maxLen]; omega
      case b3 => omega
      case go =>
        intro d N ys w2 hN hd1 hd2 hln hg2 hf2 hsz2
        obtain rfl : N = c + 1 := by omega
        have HG2 := Lib.hid hg2; have HF2 := Lib.hid hf2; have HLN := Lib.hid hln; have HSZ := Lib.hid hsz2
        have HVS2 := Lib.hid (HVS.out.kept0 hf2)
        clear hg2 hf2 hln hN hsz2
        go_wp2_with (with_reducible refine wpList_cp rfl (.tmp 43) (.tmp 44) 30 30 rfl tbChange HG2.out HVS2.out rfl rfl ?b1 (fun u hu => HU1.out u (List.mem_of_mem_take hu)) ?go)
        case b1 => have hL := HLN.out; have hT := HTA.out; rw [List.length_append]; (try simp only [List.length_append] at hL); omega
        case go =>
          intro w3 hg3 hf3
          rw [cut3 us HU.out _ (by omega), Nat.min_eq_left (by omega)] at hg3
          have hs3 : Sl w3 3 (.slice (some ⟨g, i * 3, none⟩) (c - i) (c - i)) (c - i) (xs.drop (i * 3)) := by
            have h := (HG.out.kept HF2.out (fun h => h)).kept hf3 (fun e => by omega)
            have h2 := h.sl 3 (i * 3) (c - i) (c - i) (by omega) (Nat.le_refl _) (by omega)
            rw [← HCX.out, List.drop_take]
            have e : c * 3 - i * 3 = (c - i) * 3 := by omega
            rw [e]; exact h2
          have HG3 := Lib.hid hg3; have HF3 := Lib.hid hf3; have HS3 := Lib.hid hs3; clear hg3 hf3 hs3
          go_wp2_with fail
          refine wp_region_ord (List.range 9) (fun i => [Kd.p, Kd.p, Kd.p, Kd.p, Kd.p, Kd.p, Kd.p, Kd.p, Kd.e].getD i .e) (by kernel_rfl) (by kernel_rfl) ?_
          iterate 8
            first | refine wpX_pu rfl rfl rfl (by first | exact pu_move rfl | exact pu_assign rfl | exact pu_nilCheck rfl rfl | exact pu_binInt rfl rfl rfl | exact pu_conv rfl rfl (by kernel_rfl) | exact pu_fld rfl (by kernel_rfl) | exact pu_ix rfl rfl rfl (by kernel_rfl) | exact pu_unOp rfl | exact pu_binStr rfl rfl rfl | exact pu_len rfl rfl | exact pu_lens rfl rfl | exact pu_pick rfl | exact pu_slice rfl rfl) (fun K hK => ?_) | refine wpX_rd rfl rfl rfl (rd_load rfl) (fun K hK => ?_) | refine wpX_gr rfl rfl rfl (by first | exact gr_buildSlice rfl | exact gr_box rfl | exact gr_alloc rfl) (fun K hK => ?_) | refine wpX_ex rfl rfl rfl (fun K hK => ?_)
            try go_wp2
          refine wpX_ex rfl rfl rfl (fun K hK => ?_)
          refine wp_cp (.tmp 50) (.tmp 53) 30 30 rfl tbChange (HG3.out.kept (Fr.drew (Fr.refl no _)) (fun h => h)) (HS3.out.kept0 (Fr.drew (Fr.refl no _))) rfl rfl ?b1 (fun u hu => HX1.out u (List.mem_of_mem_drop (List.mem_of_mem_take hu))) ?go
          case b1 => have := HLN.out; have := HU.out; simp only [List.length_append, List.length_take, List.length_drop] at this ⊢; omega
          case go =>
            intro w4 hg4 hf4
            rw [Nat.min_eq_left (by omega)] at hg4
            have HG4 := Lib.hid hg4; have HF4 := Lib.hid hf4; clear hg4 hf4
            go_simp
            refine hK _ _ ?_
            clear hK K
            refine wpX_done ?_
            go_wp2
            go_ret
            have hxd : (xs.drop (i * 3)).take ((c - i) * 3) = xs.drop (i * 3) := List.take_of_length_le (by rw [List.length_drop]; omega)
            have hL := HLN.out
            have hU := HU.out
            have hT := HTA.out
            (try simp only [List.length_append] at hL)
            have how := HG4.out.ow 3 (c + 1) d (by simp only [List.length_append, List.length_take, List.length_drop] at hT ⊢; omega) hd1 hd2
            have hir := ins_new xs us ys i c hxl (by omega) hi HU.out
            dsimp only at hir
            have htt : (xs.take (i * 3) ++ ys).take (i * 3) = xs.take (i * 3) := List.take_left' hT
            simp only [Nat.one_mul, hxd, htt, List.append_assoc] at how hir
            rw [hir, ← List.append_assoc] at how
            have f3 : Fr no w w4 := by
              have f1 : Fr (fun k => k = w.heap.size) w2 w4 := HF3.out.trans (fr_sooner (Fr.drew (Fr.refl no _)) HF4.out) (fun _ _ h => h)
              exact HF2.out.trans f1 (fun k hk h => by omega)
            refine ⟨_, _, rfl, how, f3.mono (fun _ _ h => h.elim), .inr fun k hk => ?_⟩
            have hk' : w.heap.size = k := by simpa [Value.ownBlock] using hk
            have h2 := HSZ.out
            have h3 := HF3.out.size
            have h4 := HF4.out.size
            replace h4 : w3.heap.size ≤ w4.heap.size := h4
            omega
end Go.Proofs.Ytdnohhlgaaihmaa
