import Derived.Test.YtdnohhlgaaihmaaMt20

/- Pairs that are told are their owner's. (printed by mkown.py) -/
namespace Go.Proofs.Ytdnohhlgaaihmaa
open Go.RowKit

theorem tbOPairs : Tb Try.prog 22 40 (.agg #[.slice none 0 0, .slice none 0 0]) 2 48 := ⟨by kernel_rfl, by kernel_rfl, rfl, by decide⟩
theorem tbRPairs : Tb Try.prog 76 22 (.slice none 0 0) 1 24 := ⟨by kernel_rfl, by kernel_rfl, rfl, by decide⟩

set_option maxRecDepth 100000 in
set_option maxHeartbeats 8000000 in
theorem own_Pairs (w : World) (A : Option Addr) (c : Nat) (vs : List Value) (ns : Nat → Nat) (C0 : Nat → List Value) (h : Two w 40 2 (.slice A vs.length c) vs ns C0) (hX : ∀ b, (Value.slice A vs.length c).ownBlock = some b → b < w.heap.size) (hvs : vs.length ≤ 1000000) (hns : ∀ j, ns j ≤ 1000000) :
    Calls Try.prog 96 #[.slice A vs.length c] w fun e w' => e = .returned (.bool true) ∧ Fr (InRows vs) w w' := by
  have hlen : ∀ (a : Int → Nat → Nat) i k, (mP a [.slice none 0 0] i k).length = 2 := fun a i k => mP_len rfl i k
  have H := Lib.hid h; have HLX := Lib.hid hX; have HNS := Lib.hid hns; have HLEN := Lib.hid hlen; clear h hX hns hlen
  go_enter Try.func96, Try.ntmps96
  go_wp2
  go_loopw [3] (fun s wr => ∃ (i : Nat) (C : Nat → List Value) (a : Int → Nat → Nat), i ≤ vs.length ∧ s = .int .i64 i ∧ Two wr 40 2 (.slice A vs.length c) vs ns C ∧ Fr (InRows vs) w wr ∧ (∀ j : Nat, j < i → C j = mks (mP a [.slice none 0 0]) j (ns j)) ∧ (∀ j k : Nat, j < i → k < ns j → Mkd wr a j k)) (fun s _ => vs.length - (intOf s).toNat)
  case atStart => exact ⟨0, C0, fun _ _ => 0, Nat.zero_le _, rfl, H.out, Fr.refl _ _, fun j h => by omega, fun j k h => by omega⟩
  case round =>
    obtain ⟨i, C, a, hi, rfl, ht, hf, hm, hk⟩ := hrel
    have HT := Lib.hid ht; have HF := Lib.hid hf; have HM := Lib.hid hm; have HMK := Lib.hid hk; clear ht hf hm hk
    by_cases hlt : i < vs.length
    · go_wp2
      go_loopw [4] (fun s wr => ∃ (k : Nat) (C : Nat → List Value) (a : Int → Nat → Nat), k ≤ ns i ∧ s = .int .i64 k ∧ Two wr 40 2 (.slice A vs.length c) vs ns C ∧ Fr (InRows vs) w wr ∧ (∀ j : Nat, j < i → C j = mks (mP a [.slice none 0 0]) j (ns j)) ∧ (C i).take (k * 2) = mks (mP a [.slice none 0 0]) i k ∧ (∀ j k : Nat, j < i → k < ns j → Mkd wr a j k) ∧ (∀ k' : Nat, k' < k → Mkd wr a i k')) (fun s _ => 1000000 - (intOf s).toNat)
      case atStart => exact ⟨0, C, a, Nat.zero_le _, rfl, HT.out, HF.out, HM.out, by simp [mks], HMK.out, fun k h => by omega⟩
      case round =>
        obtain ⟨k, C, a, hk, rfl, ht, hf, hm, hmk, h1, h2⟩ := hrel
        have HT := Lib.hid ht; have HF := Lib.hid hf; have HM := Lib.hid hm; have HK := Lib.hid hmk; have H1 := Lib.hid h1; have H2 := Lib.hid h2; clear ht hf hm hmk h1 h2
        have hk9 : ns i ≤ 1000000 := HNS.out i
        obtain ⟨b, o, hA, hcell⟩ := sl_at HT.out.out i hlt
        subst hA
        have hbl := World.block_lt_of_cell? _ _ hcell
        by_cases hkl : k < ns i
        · have hri := HT.out.rows.row i hlt
          obtain ⟨g, c', hv, _, _, hgl, hz, hcs⟩ := hri.cells k hkl
          have hkC : k * 2 + 2 ≤ (C i).length := by rw [hri.1]; omega
          obtain ⟨cv0, hcv0⟩ : ∃ cv, (C i)[k * 2 + 0]? = some cv := ⟨_, List.getElem?_eq_getElem (by omega)⟩
          have hc0 := hcs _ _ hcv0
          obtain ⟨cv1, hcv1⟩ : ∃ cv, (C i)[k * 2 + 1]? = some cv := ⟨_, List.getElem?_eq_getElem (by omega)⟩
          have hc1 := hcs _ _ hcv1
          simp only [Nat.add_zero] at hc0
          rw [hv] at hcell
          have HV := Lib.hid hv; have HRI := Lib.hid hri; have HKC := Lib.hid hkC; clear hv hri hcs hkC hcv0 hcv1
          have hgn : ¬ g = wr.heap.size := by omega
          go_wp2
          go_roundw
          case rel =>
            have hT := HT.out
            have hin : InRows vs g := ⟨vs[i], List.getElem_mem _, by rw [HV.out]; rfl⟩
            have hro0 := hT.rows.row i hlt
            rw [HV.out] at hro0
            have hCl := HKC.out
            have hsr := hT.rows.lt
            obtain ⟨q, hq⟩ : ∃ q, q = wr.heap.size := ⟨_, rfl⟩
            rw [← hq] at hgn hgl ⊢
            have hro1 := hro0.set (j := k * 2) (by (try simp only [List.length_set]); omega) (.slice (some ⟨q, 0, none⟩) 1 1)
            have hro2 := hro1.set (j := k * 2 + 1) (by (try simp only [List.length_set]); omega) (.slice none 0 0)
            have hfs := (((Fr.refl (fun x => x = g) wr).setCell ⟨g, k * 2, none⟩ (.slice (some ⟨q, 0, none⟩) 1 1) (fun _ => rfl)).setCell ⟨g, k * 2 + 1, none⟩ (.slice none 0 0) (fun _ => rfl))
            have hsz : ((wr.setCell ⟨g, k * 2, none⟩ (.slice (some ⟨q, 0, none⟩) 1 1)).setCell ⟨g, k * 2 + 1, none⟩ (.slice none 0 0)).heap.size = q := by rw [hq]; simp
            have hN := heap_alloc_new ((wr.setCell ⟨g, k * 2, none⟩ (.slice (some ⟨q, 0, none⟩) 1 1)).setCell ⟨g, k * 2 + 1, none⟩ (.slice none 0 0)) (.cells #[.int .u8 (((i : Int) * 97 + (k : Int) * 13) % 256)] 5)
            have ha := (Fr.refl no ((wr.setCell ⟨g, k * 2, none⟩ (.slice (some ⟨q, 0, none⟩) 1 1)).setCell ⟨g, k * 2 + 1, none⟩ (.slice none 0 0))).alloc (.cells #[.int .u8 (((i : Int) * 97 + (k : Int) * 13) % 256)] 5)
            rw [hsz] at hN
            have hTs : Two ((wr.setCell ⟨g, k * 2, none⟩ (.slice (some ⟨q, 0, none⟩) 1 1)).setCell ⟨g, k * 2 + 1, none⟩ (.slice none 0 0)) 40 2 (.slice (some ⟨b, o, none⟩) vs.length c) vs ns (fun j => if j = i then _ else C j) := ⟨hT.out.kept hfs (fun b' hb' e => hT.away b' hb' (by subst e; exact hin)), hT.away, hT.rows.one i hlt (hfs.mono (fun x _ e => by subst e; rw [HV.out]; rfl)) _ (by rw [HV.out]; exact hro2)⟩
            refine ⟨k + 1, _, upA a i k q, hkl, by go_num, hTs.kept ha (fun _ _ h => h) (fun _ _ h => h), (HF.out.trans hfs (fun x _ e => by subst e; exact hin)).trans ha (fun _ _ h => h.elim), fun j hj => ?_, ?_, fun j k' hj hk' => ?_, fun k' hk' => ?_⟩
            · simp only [show ¬ j = i by omega, if_false]
              rw [HM.out j hj]
              exact mks_congr fun k' _ => (mP_other (.inl (by omega))).symm
            · simp only [if_true]
              rw [take_set2 HK.out HKC.out, mks_succ]
              have e1 : mks (mP a [.slice none 0 0]) i k = mks (mP (upA a i k q) [.slice none 0 0]) i k := mks_congr fun k' h' => (mP_other (.inr (by omega))).symm
              rw [e1]
              simp [mP, upA_same]
            · exact (((H1.out j k' hj hk').other (.inl (by omega))).kept (x := .slice (some ⟨g, 0, none⟩) (ns i) c') hro0 (by decide) (hfs.mono (fun x _ e => by subst e; rfl))).kept0 ha
            · by_cases hkk : k' = k
              · subst hkk
                unfold Mkd
                rw [upA_same]
                exact hN
              · exact (((H2.out k' (by omega)).other (.inr hkk)).kept (x := .slice (some ⟨g, 0, none⟩) (ns i) c') hro0 (by decide) (hfs.mono (fun x _ e => by subst e; rfl))).kept0 ha
          case measure => simp [intOf]; omega
        · have hkk : k = ns i := by omega
          subst hkk
          obtain ⟨Ai, ci, hv, _, _⟩ := (HT.out.rows.row i hlt).form
          rw [hv] at hcell
          have HV := Lib.hid hv; clear hv
          go_wp2
          go_roundw
          case rel =>
            refine ⟨i + 1, C, a, hlt, by go_num, HT.out, HF.out, fun j hji => ?_, fun j k' hj hk' => ?_⟩
            · by_cases h : j = i
              · subst h
                have h2 := HK.out
                rw [List.take_of_length_le (by rw [(HT.out.rows.row j hlt).1]; omega)] at h2
                exact h2
              · exact HM.out j (by omega)
            · by_cases h : j = i
              · subst h; exact H2.out k' hk'
              · exact H1.out j k' (by omega) hk'
          case measure => simp [intOf]; omega
    · obtain rfl : i = vs.length := by omega
      clear hlt hi
      have HT1 := Lib.hid (show Two wr 40 2 (.slice A vs.length c) vs ns (fun j => mks (mP a [.slice none 0 0]) j (ns j)) from ⟨HT.out.out, HT.out.away, HT.out.rows.congr HM.out⟩)
      clear HT HM
      obtain ⟨w1, rfl⟩ : ∃ w1 : World, w1 = wr := ⟨_, rfl⟩
      go_wp2
      go_loopw [5, 6] (fun L s wr => ∃ (lvs : List Value) (a : Int → Nat → Nat), s = .int .i64 lvs.length ∧ Ph2 w1 wr 40 22 2 (mP a [.slice none 0 0]) 8 (.slice A vs.length c) L vs lvs ns ∧ (∀ j k : Nat, j < vs.length → k < ns j → Mkd wr a j k) ∧ (∀ j k : Nat, j < lvs.length → k < 8 → Mkd wr a (-1 - j) k)) (fun _ s _ => vs.length - (intOf s).toNat)
      case atStart => exact ⟨[], a, rfl, ⟨HT1.out, ⟨rfl, .inl ⟨rfl, rfl⟩⟩, Nat.zero_le _, fun j h => by simp at h, fun j h => by simp at h, fun b h => by simp [Value.ownBlock] at h, Fr.refl _ _, fun b hb => Nat.lt_of_lt_of_le (HLX.out b hb) HF.out.size, HT1.out.rows.lt⟩, HMK.out, fun j k h => by simp at h⟩
      case round =>
        obtain ⟨lvs, a, rfl, hp, hm1, hm2⟩ := hrel
        have hmany := hp.many
        have HP := Lib.hid hp; have M1 := Lib.hid hm1; have M2 := Lib.hid hm2; clear hp hm1 hm2
        by_cases hlt : lvs.length < vs.length
        · obtain ⟨b, o, hA, hcell⟩ := sl_at HP.out.two.out lvs.length hlt
          subst hA
          have HS := Lib.hid (Ph3.start HP.out hlt)
          go_wp2
          go_loopw [7, 8] (fun x s wr => ∃ (k : Nat) (a : Int → Nat → Nat), k ≤ 8 ∧ s = .int .i64 k ∧ Ph3 w1 wr 40 22 2 (mP a [.slice none 0 0]) 8 (.slice (some ⟨b, o, none⟩) vs.length c) u5 x vs lvs ns k ∧ (∀ j k : Nat, j < vs.length → k < ns j → Mkd wr a j k) ∧ (∀ j k : Nat, j < lvs.length → k < 8 → Mkd wr a (-1 - j) k) ∧ (∀ k' : Nat, k' < k → Mkd wr a (-1 - lvs.length) k')) (fun _ s _ => 8 - (intOf s).toNat)
          case atStart => exact ⟨0, a, Nat.zero_le _, rfl, HS.out, M1.out, M2.out, fun k h => by omega⟩
          case round =>
            obtain ⟨k, a, hk, rfl, hp, hm1, hm2, hm3⟩ := hrel
            have HP := Lib.hid hp; have M1 := Lib.hid hm1; have M2 := Lib.hid hm2; have M3 := Lib.hid hm3; clear hp hm1 hm2 hm3
            have hn9 := HNS.out lvs.length
            by_cases hk8 : k < 8
            · obtain ⟨w2, hw2⟩ : ∃ w2, w2 = wr.alloc (.cells #[.int .u8 (((-1 - (lvs.length : Int)) * 97 + (k : Int) * 13) % 256)] 5) := ⟨_, rfl⟩
              have hN := heap_alloc_new wr (.cells #[.int .u8 (((-1 - (lvs.length : Int)) * 97 + (k : Int) * 13) % 256)] 5)
              have ha := (Fr.refl no wr).alloc (.cells #[.int .u8 (((-1 - (lvs.length : Int)) * 97 + (k : Int) * 13) % 256)] 5)
              have hsz : w2.heap.size = wr.heap.size + 1 := by rw [hw2]; exact World.size_alloc _ _
              rw [← hw2] at hN ha
              have ha3 := (Fr.refl no w2).alloc (.cells #[.slice (some ⟨wr.heap.size, 0, none⟩) 1 1, .slice none 0 0] 40)
              have hx3 : Sl (w2.alloc (.cells #[.slice (some ⟨wr.heap.size, 0, none⟩) 1 1, .slice none 0 0] 40)) 2 (.slice (some ⟨wr.heap.size + 1, 0, none⟩) 1 1) 1 (mP (upA a (-1 - lvs.length) k wr.heap.size) [.slice none 0 0] (-1 - lvs.length) k) := by
                have h3 := (show Has (w2.alloc (.cells #[.slice (some ⟨wr.heap.size, 0, none⟩) 1 1, .slice none 0 0] 40)) w2.heap.size 40 [.slice (some ⟨wr.heap.size, 0, none⟩) 1 1, .slice none 0 0] from heap_alloc_new w2 _).sl 2 0 1 1 (by simp) (Nat.le_refl _) (by simp [maxLen])
                rw [hsz] at h3
                simpa [mP, upA_same] using h3
              have hp3 : Ph3 w1 wr 40 22 2 (mP (upA a (-1 - lvs.length) k wr.heap.size) [.slice none 0 0]) 8 (.slice (some ⟨b, o, none⟩) vs.length c) u5 u7 vs lvs ns k := HP.out.congr (fun j k' => (mP_other (.inl (by omega))).symm) (fun j k' hj => (mP_other (.inl (by omega))).symm) (fun k' hk' => (mP_other (.inr (by omega))).symm)
              have hp4 := (hp3.kept0 ha).kept0 ha3
              have hMN : Mkd w2 (upA a (-1 - lvs.length) k wr.heap.size) (-1 - lvs.length) k := by unfold Mkd; rw [upA_same]; exact hN
              have HP4 := Lib.hid hp4; have HX3 := Lib.hid hx3; have HA := Lib.hid ha; have HA3 := Lib.hid ha3; have HMN := Lib.hid hMN; have HW2 := Lib.hid hw2; have HSZ := Lib.hid hsz
              clear hp3 hp4 hx3 ha ha3 hMN hN hw2 hsz
              go_wp2_with (at_builtin; rw [← HW2.out]; refine wpList_apo rfl (.tmp 56) (.tmp 66) 22 rfl tbOPairs HP4.out.row HX3.out rfl rfl (fun u hu => by simp only [mP, List.mem_cons, List.not_mem_nil, or_false] at hu; rcases hu with rfl | rfl <;> rfl) ?b1 ?b2 ?go)
              case b1 => simp only [maxLen]; omega
              case b2 => omega
              case go =>
                intro A' N c' w4 hN ho hold hf2 hst
                subst hN
                have HPP := Lib.hid (Ph3.more (HLEN.out _) HP4.out (by rw [← List.append_assoc] at ho; exact ho) hold hf2 hst)
                have hx := HP4.out.row
                have hup : ∀ (i : Int) k', Mkd wr a i k' → (i ≠ -1 - lvs.length ∨ k' ≠ k) → Mkd w4 (upA a (-1 - lvs.length) k wr.heap.size) i k' := fun i k' h hne => (((h.other hne).kept0 HA.out).kept0 HA3.out).kept hx (by decide) hf2
                have hnew : Mkd w4 (upA a (-1 - lvs.length) k wr.heap.size) (-1 - lvs.length) k := (HMN.out.kept0 HA3.out).kept hx (by decide) hf2
                have HUP := Lib.hid hup; have HNEW := Lib.hid hnew
                clear ho hold hf2 hst hx hup hnew
                go_wp2
                go_roundw
                case rel =>
                  refine ⟨k + 1, _, by omega, by go_num, HPP.out, fun j k' h1 h2 => HUP.out _ _ (M1.out j k' h1 h2) (.inl (by omega)), fun j k' h1 h2 => HUP.out _ _ (M2.out j k' h1 h2) (.inl (by omega)), fun k' hk' => ?_⟩
                  by_cases hkk : k' = k
                  · subst hkk; exact HNEW.out
                  · exact HUP.out _ _ (M3.out k' (by omega)) (.inr hkk)
                case measure => simp [intOf]; omega
            · obtain rfl : k = 8 := by omega
              obtain ⟨Ax, cx, hx, _, _⟩ := HP.out.row.form
              subst hx
              go_wp2_with (at_builtin; refine wpList_apo rfl (.tmp 68) (.tmp 70) 76 rfl tbRPairs (HP.out.kept0 ((Fr.refl no _).alloc _)).ph2.long (Sl.built wr _ _) rfl rfl ?b0 ?b1 ?b2 ?go)
              case b0 => simp [Value.oneCell']
              case b1 => simp only [maxLen]; omega
              case b2 => omega
              case go =>
                intro A' N c' w2 hN ho hold hf2 hst
                subst hN
                have hL := (HP.out.kept0 ((Fr.refl no _).alloc (.cells #[.slice Ax (ns lvs.length + 8) cx] 22))).ph2.long
                have hup : ∀ (i : Int) k', Mkd wr a i k' → Mkd w2 a i k' := fun i k' h => (h.kept0 ((Fr.refl no _).alloc _)).kept hL (by decide) hf2
                have HPP := Lib.hid (Ph3.laid (HP.out.kept0 ((Fr.refl no _).alloc _)) ho hf2 hst)
                have HUP := Lib.hid hup
                clear ho hold hf2 hst hL hup
                go_wp2
                go_roundw
                case rel =>
                  refine ⟨lvs ++ [_], a, by simp, HPP.out, fun j k' h1 h2 => HUP.out _ _ (M1.out j k' h1 h2), fun j k' h1 h2 => ?_⟩
                  by_cases hj : j = lvs.length
                  · subst hj; exact HUP.out _ _ (M3.out k' h2)
                  · rw [List.length_append] at h1; simp only [List.length_cons, List.length_nil] at h1; exact HUP.out _ _ (M2.out j k' (by omega) h2)
                case measure => simp [intOf]; omega
        · have hle : lvs.length = vs.length := by omega
          have hrow := fun j (hj : j < vs.length) => Ph2.at (HLEN.out a) HP.out j hj (by omega)
          have HR := Lib.hid hrow; clear hrow
          obtain ⟨AL, cL, hL, _, _⟩ := HP.out.long.form
          subst hL
          have HLL := Lib.hid HP.out.long.sl
          have hle1 : lvs.length ≤ vs.length := by omega
          have hle2 : vs.length ≤ lvs.length := by omega
          clear hle
          go_wp2
          go_loop [9] (fun s => ∃ i : Nat, i ≤ vs.length ∧ s = .int .i64 i) (fun s => vs.length - (intOf s).toNat)
          case atStart => exact ⟨0, Nat.zero_le _, rfl⟩
          case round =>
            obtain ⟨i, hi, rfl⟩ := hrel
            by_cases hlt2 : i < vs.length
            · obtain ⟨b, o, hA, hcell⟩ := sl_at HP.out.two.out i hlt2
              obtain ⟨b2, o2, hA2, hcell2⟩ := sl_at HLL.out i (by omega)
              subst hA; subst hA2
              obtain ⟨Ai, ci, hv, hci, _⟩ := (HP.out.two.rows.row i hlt2).form
              rw [hv] at hcell
              have HV := Lib.hid hv
              have hn9 := HNS.out i
              clear hv
              go_wp2
              go_loop [11] (fun s => ∃ k : Nat, k ≤ ns i ∧ s = .int .i64 k) (fun s => ns i - (intOf s).toNat)
              case atStart => exact ⟨0, Nat.zero_le _, rfl⟩
              case round =>
                obtain ⟨k, hk, rfl⟩ := hrel
                by_cases hkl : k < ns i
                · obtain ⟨g, c1, N1, e1, _, _, q1⟩ := (HR.out i hlt2).1 (by omega)
                  obtain ⟨g2, c2, N2, e2, _, _, q2⟩ := (HR.out i hlt2).2.1 (by omega)
                  replace q1 := q1 k hkl 0 _ rfl
                  replace q2 := q2 k hkl 0 _ rfl
                  simp only [Nat.zero_add, Nat.add_zero] at q1 q2
                  obtain ⟨mk0, mkl⟩ := (M1.out i k hlt2 hkl).cell
                  rw [HV.out] at e1
                  rw [e2] at hcell2
                  have HV2 := Lib.hid e2; clear e2
                  cases e1
                  go_wp2
                  go_round
                  case rel => exact ⟨k + 1, hkl, by go_num⟩
                  case measure => simp [intOf]; omega
                · obtain rfl : k = ns i := by omega
                  go_wp2
                  go_loop [12] (fun s => ∃ k : Nat, k ≤ 8 ∧ s = .int .i64 k) (fun s => 8 - (intOf s).toNat)
                  case atStart => exact ⟨0, Nat.zero_le _, rfl⟩
                  case round =>
                    obtain ⟨k, hk, rfl⟩ := hrel
                    by_cases hkl : k < 8
                    · obtain ⟨g2, c2, N2, e2, _, _, q2⟩ := (HR.out i hlt2).2.2 (by omega)
                      replace q2 := q2 k hkl 0 _ rfl
                      simp only [Nat.add_zero] at q2
                      obtain ⟨mk0, mkl⟩ := (M2.out i k (by omega) hkl).cell
                      rw [e2] at hcell2
                      have HV2 := Lib.hid e2; clear e2
                      go_wp2
                      go_round
                      case rel => exact ⟨k + 1, hkl, by go_num⟩
                      case measure => simp [intOf]; omega
                    · go_wp2
                      go_round
                      case rel => exact ⟨i + 1, hlt2, by go_num⟩
                      case measure => simp [intOf]; omega
            · go_wp2
              go_ret
              exact ⟨rfl, HF.out.trans HP.out.fr (fun _ _ h => h)⟩
end Go.Proofs.Ytdnohhlgaaihmaa

/- Changes that are told are their owner's. (printed by mkown.py) -/
namespace Go.Proofs.Ytdnohhlgaaihmaa
open Go.RowKit

theorem tbOChanges : Tb Try.prog 30 36 (.agg #[.slice none 0 0, .slice none 0 0, .bool false]) 3 56 := ⟨by kernel_rfl, by kernel_rfl, rfl, by decide⟩
theorem tbRChanges : Tb Try.prog 77 30 (.slice none 0 0) 1 24 := ⟨by kernel_rfl, by kernel_rfl, rfl, by decide⟩

set_option maxRecDepth 100000 in
set_option maxHeartbeats 8000000 in
theorem own_Changes (w : World) (A : Option Addr) (c : Nat) (vs : List Value) (ns : Nat → Nat) (C0 : Nat → List Value) (h : Two w 36 3 (.slice A vs.length c) vs ns C0) (hX : ∀ b, (Value.slice A vs.length c).ownBlock = some b → b < w.heap.size) (hvs : vs.length ≤ 1000000) (hns : ∀ j, ns j ≤ 1000000) :
    Calls Try.prog 97 #[.slice A vs.length c] w fun e w' => e = .returned (.bool true) ∧ Fr (InRows vs) w w' := by
  have hlen : ∀ (a : Int → Nat → Nat) i k, (mP a [.slice none 0 0, .bool false] i k).length = 3 := fun a i k => mP_len rfl i k
  have H := Lib.hid h; have HLX := Lib.hid hX; have HNS := Lib.hid hns; have HLEN := Lib.hid hlen; clear h hX hns hlen
  go_enter Try.func97, Try.ntmps97
  go_wp2
  go_loopw [3] (fun s wr => ∃ (i : Nat) (C : Nat → List Value) (a : Int → Nat → Nat), i ≤ vs.length ∧ s = .int .i64 i ∧ Two wr 36 3 (.slice A vs.length c) vs ns C ∧ Fr (InRows vs) w wr ∧ (∀ j : Nat, j < i → C j = mks (mP a [.slice none 0 0, .bool false]) j (ns j)) ∧ (∀ j k : Nat, j < i → k < ns j → Mkd wr a j k)) (fun s _ => vs.length - (intOf s).toNat)
  case atStart => exact ⟨0, C0, fun _ _ => 0, Nat.zero_le _, rfl, H.out, Fr.refl _ _, fun j h => by omega, fun j k h => by omega⟩
  case round =>
    obtain ⟨i, C, a, hi, rfl, ht, hf, hm, hk⟩ := hrel
    have HT := Lib.hid ht; have HF := Lib.hid hf; have HM := Lib.hid hm; have HMK := Lib.hid hk; clear ht hf hm hk
    by_cases hlt : i < vs.length
    · go_wp2
      go_loopw [4] (fun s wr => ∃ (k : Nat) (C : Nat → List Value) (a : Int → Nat → Nat), k ≤ ns i ∧ s = .int .i64 k ∧ Two wr 36 3 (.slice A vs.length c) vs ns C ∧ Fr (InRows vs) w wr ∧ (∀ j : Nat, j < i → C j = mks (mP a [.slice none 0 0, .bool false]) j (ns j)) ∧ (C i).take (k * 3) = mks (mP a [.slice none 0 0, .bool false]) i k ∧ (∀ j k : Nat, j < i → k < ns j → Mkd wr a j k) ∧ (∀ k' : Nat, k' < k → Mkd wr a i k')) (fun s _ => 1000000 - (intOf s).toNat)
      case atStart => exact ⟨0, C, a, Nat.zero_le _, rfl, HT.out, HF.out, HM.out, by simp [mks], HMK.out, fun k h => by omega⟩
      case round =>
        obtain ⟨k, C, a, hk, rfl, ht, hf, hm, hmk, h1, h2⟩ := hrel
        have HT := Lib.hid ht; have HF := Lib.hid hf; have HM := Lib.hid hm; have HK := Lib.hid hmk; have H1 := Lib.hid h1; have H2 := Lib.hid h2; clear ht hf hm hmk h1 h2
        have hk9 : ns i ≤ 1000000 := HNS.out i
        obtain ⟨b, o, hA, hcell⟩ := sl_at HT.out.out i hlt
        subst hA
        have hbl := World.block_lt_of_cell? _ _ hcell
        by_cases hkl : k < ns i
        · have hri := HT.out.rows.row i hlt
          obtain ⟨g, c', hv, _, _, hgl, hz, hcs⟩ := hri.cells k hkl
          have hkC : k * 3 + 3 ≤ (C i).length := by rw [hri.1]; omega
          obtain ⟨cv0, hcv0⟩ : ∃ cv, (C i)[k * 3 + 0]? = some cv := ⟨_, List.getElem?_eq_getElem (by omega)⟩
          have hc0 := hcs _ _ hcv0
          obtain ⟨cv1, hcv1⟩ : ∃ cv, (C i)[k * 3 + 1]? = some cv := ⟨_, List.getElem?_eq_getElem (by omega)⟩
          have hc1 := hcs _ _ hcv1
          obtain ⟨cv2, hcv2⟩ : ∃ cv, (C i)[k * 3 + 2]? = some cv := ⟨_, List.getElem?_eq_getElem (by omega)⟩
          have hc2 := hcs _ _ hcv2
          simp only [Nat.add_zero] at hc0
          rw [hv] at hcell
          have HV := Lib.hid hv; have HRI := Lib.hid hri; have HKC := Lib.hid hkC; clear hv hri hcs hkC hcv0 hcv1 hcv2
          have hgn : ¬ g = wr.heap.size := by omega
          go_wp2
          go_roundw
          case rel =>
            have hT := HT.out
            have hin : InRows vs g := ⟨vs[i], List.getElem_mem _, by rw [HV.out]; rfl⟩
            have hro0 := hT.rows.row i hlt
            rw [HV.out] at hro0
            have hCl := HKC.out
            have hsr := hT.rows.lt
            obtain ⟨q, hq⟩ : ∃ q, q = wr.heap.size := ⟨_, rfl⟩
            rw [← hq] at hgn hgl ⊢
            have hro1 := hro0.set (j := k * 3) (by (try simp only [List.length_set]); omega) (.slice (some ⟨q, 0, none⟩) 1 1)
            have hro2 := hro1.set (j := k * 3 + 1) (by (try simp only [List.length_set]); omega) (.slice none 0 0)
            have hro3 := hro2.set (j := k * 3 + 2) (by (try simp only [List.length_set]); omega) (.bool false)
            have hfs := ((((Fr.refl (fun x => x = g) wr).setCell ⟨g, k * 3, none⟩ (.slice (some ⟨q, 0, none⟩) 1 1) (fun _ => rfl)).setCell ⟨g, k * 3 + 1, none⟩ (.slice none 0 0) (fun _ => rfl)).setCell ⟨g, k * 3 + 2, none⟩ (.bool false) (fun _ => rfl))
            have hsz : (((wr.setCell ⟨g, k * 3, none⟩ (.slice (some ⟨q, 0, none⟩) 1 1)).setCell ⟨g, k * 3 + 1, none⟩ (.slice none 0 0)).setCell ⟨g, k * 3 + 2, none⟩ (.bool false)).heap.size = q := by rw [hq]; simp
            have hN := heap_alloc_new (((wr.setCell ⟨g, k * 3, none⟩ (.slice (some ⟨q, 0, none⟩) 1 1)).setCell ⟨g, k * 3 + 1, none⟩ (.slice none 0 0)).setCell ⟨g, k * 3 + 2, none⟩ (.bool false)) (.cells #[.int .u8 (((i : Int) * 97 + (k : Int) * 13) % 256)] 5)
            have ha := (Fr.refl no (((wr.setCell ⟨g, k * 3, none⟩ (.slice (some ⟨q, 0, none⟩) 1 1)).setCell ⟨g, k * 3 + 1, none⟩ (.slice none 0 0)).setCell ⟨g, k * 3 + 2, none⟩ (.bool false))).alloc (.cells #[.int .u8 (((i : Int) * 97 + (k : Int) * 13) % 256)] 5)
            rw [hsz] at hN
            have hTs : Two (((wr.setCell ⟨g, k * 3, none⟩ (.slice (some ⟨q, 0, none⟩) 1 1)).setCell ⟨g, k * 3 + 1, none⟩ (.slice none 0 0)).setCell ⟨g, k * 3 + 2, none⟩ (.bool false)) 36 3 (.slice (some ⟨b, o, none⟩) vs.length c) vs ns (fun j => if j = i then _ else C j) := ⟨hT.out.kept hfs (fun b' hb' e => hT.away b' hb' (by subst e; exact hin)), hT.away, hT.rows.one i hlt (hfs.mono (fun x _ e => by subst e; rw [HV.out]; rfl)) _ (by rw [HV.out]; exact hro3)⟩
            refine ⟨k + 1, _, upA a i k q, hkl, by go_num, hTs.kept ha (fun _ _ h => h) (fun _ _ h => h), (HF.out.trans hfs (fun x _ e => by subst e; exact hin)).trans ha (fun _ _ h => h.elim), fun j hj => ?_, ?_, fun j k' hj hk' => ?_, fun k' hk' => ?_⟩
            · simp only [show ¬ j = i by omega, if_false]
              rw [HM.out j hj]
              exact mks_congr fun k' _ => (mP_other (.inl (by omega))).symm
            · simp only [if_true]
              rw [take_set3 HK.out HKC.out, mks_succ]
              have e1 : mks (mP a [.slice none 0 0, .bool false]) i k = mks (mP (upA a i k q) [.slice none 0 0, .bool false]) i k := mks_congr fun k' h' => (mP_other (.inr (by omega))).symm
              rw [e1]
              simp [mP, upA_same]
            · exact (((H1.out j k' hj hk').other (.inl (by omega))).kept (x := .slice (some ⟨g, 0, none⟩) (ns i) c') hro0 (by decide) (hfs.mono (fun x _ e => by subst e; rfl))).kept0 ha
            · by_cases hkk : k' = k
              · subst hkk
                unfold Mkd
                rw [upA_same]
                exact hN
              · exact (((H2.out k' (by omega)).other (.inr hkk)).kept (x := .slice (some ⟨g, 0, none⟩) (ns i) c') hro0 (by decide) (hfs.mono (fun x _ e => by subst e; rfl))).kept0 ha
          case measure => simp [intOf]; omega
        · have hkk : k = ns i := by omega
          subst hkk
          obtain ⟨Ai, ci, hv, _, _⟩ := (HT.out.rows.row i hlt).form
          rw [hv] at hcell
          have HV := Lib.hid hv; clear hv
          go_wp2
          go_roundw
          case rel =>
            refine ⟨i + 1, C, a, hlt, by go_num, HT.out, HF.out, fun j hji => ?_, fun j k' hj hk' => ?_⟩
            · by_cases h : j = i
              · subst h
                have h2 := HK.out
                rw [List.take_of_length_le (by rw [(HT.out.rows.row j hlt).1]; omega)] at h2
                exact h2
              · exact HM.out j (by omega)
            · by_cases h : j = i
              · subst h; exact H2.out k' hk'
              · exact H1.out j k' (by omega) hk'
          case measure => simp [intOf]; omega
    · obtain rfl : i = vs.length := by omega
      clear hlt hi
      have HT1 := Lib.hid (show Two wr 36 3 (.slice A vs.length c) vs ns (fun j => mks (mP a [.slice none 0 0, .bool false]) j (ns j)) from ⟨HT.out.out, HT.out.away, HT.out.rows.congr HM.out⟩)
      clear HT HM
      obtain ⟨w1, rfl⟩ : ∃ w1 : World, w1 = wr := ⟨_, rfl⟩
      go_wp2
      go_loopw [5, 6] (fun L s wr => ∃ (lvs : List Value) (a : Int → Nat → Nat), s = .int .i64 lvs.length ∧ Ph2 w1 wr 36 30 3 (mP a [.slice none 0 0, .bool false]) 8 (.slice A vs.length c) L vs lvs ns ∧ (∀ j k : Nat, j < vs.length → k < ns j → Mkd wr a j k) ∧ (∀ j k : Nat, j < lvs.length → k < 8 → Mkd wr a (-1 - j) k)) (fun _ s _ => vs.length - (intOf s).toNat)
      case atStart => exact ⟨[], a, rfl, ⟨HT1.out, ⟨rfl, .inl ⟨rfl, rfl⟩⟩, Nat.zero_le _, fun j h => by simp at h, fun j h => by simp at h, fun b h => by simp [Value.ownBlock] at h, Fr.refl _ _, fun b hb => Nat.lt_of_lt_of_le (HLX.out b hb) HF.out.size, HT1.out.rows.lt⟩, HMK.out, fun j k h => by simp at h⟩
      case round =>
        obtain ⟨lvs, a, rfl, hp, hm1, hm2⟩ := hrel
        have hmany := hp.many
        have HP := Lib.hid hp; have M1 := Lib.hid hm1; have M2 := Lib.hid hm2; clear hp hm1 hm2
        by_cases hlt : lvs.length < vs.length
        · obtain ⟨b, o, hA, hcell⟩ := sl_at HP.out.two.out lvs.length hlt
          subst hA
          have HS := Lib.hid (Ph3.start HP.out hlt)
          go_wp2
          go_loopw [7, 8] (fun x s wr => ∃ (k : Nat) (a : Int → Nat → Nat), k ≤ 8 ∧ s = .int .i64 k ∧ Ph3 w1 wr 36 30 3 (mP a [.slice none 0 0, .bool false]) 8 (.slice (some ⟨b, o, none⟩) vs.length c) u5 x vs lvs ns k ∧ (∀ j k : Nat, j < vs.length → k < ns j → Mkd wr a j k) ∧ (∀ j k : Nat, j < lvs.length → k < 8 → Mkd wr a (-1 - j) k) ∧ (∀ k' : Nat, k' < k → Mkd wr a (-1 - lvs.length) k')) (fun _ s _ => 8 - (intOf s).toNat)
          case atStart => exact ⟨0, a, Nat.zero_le _, rfl, HS.out, M1.out, M2.out, fun k h => by omega⟩
          case round =>
            obtain ⟨k, a, hk, rfl, hp, hm1, hm2, hm3⟩ := hrel
            have HP := Lib.hid hp; have M1 := Lib.hid hm1; have M2 := Lib.hid hm2; have M3 := Lib.hid hm3; clear hp hm1 hm2 hm3
            have hn9 := HNS.out lvs.length
            by_cases hk8 : k < 8
            · obtain ⟨w2, hw2⟩ : ∃ w2, w2 = wr.alloc (.cells #[.int .u8 (((-1 - (lvs.length : Int)) * 97 + (k : Int) * 13) % 256)] 5) := ⟨_, rfl⟩
              have hN := heap_alloc_new wr (.cells #[.int .u8 (((-1 - (lvs.length : Int)) * 97 + (k : Int) * 13) % 256)] 5)
              have ha := (Fr.refl no wr).alloc (.cells #[.int .u8 (((-1 - (lvs.length : Int)) * 97 + (k : Int) * 13) % 256)] 5)
              have hsz : w2.heap.size = wr.heap.size + 1 := by rw [hw2]; exact World.size_alloc _ _
              rw [← hw2] at hN ha
              have ha3 := (Fr.refl no w2).alloc (.cells #[.slice (some ⟨wr.heap.size, 0, none⟩) 1 1, .slice none 0 0, .bool false] 36)
              have hx3 : Sl (w2.alloc (.cells #[.slice (some ⟨wr.heap.size, 0, none⟩) 1 1, .slice none 0 0, .bool false] 36)) 3 (.slice (some ⟨wr.heap.size + 1, 0, none⟩) 1 1) 1 (mP (upA a (-1 - lvs.length) k wr.heap.size) [.slice none 0 0, .bool false] (-1 - lvs.length) k) := by
                have h3 := (show Has (w2.alloc (.cells #[.slice (some ⟨wr.heap.size, 0, none⟩) 1 1, .slice none 0 0, .bool false] 36)) w2.heap.size 36 [.slice (some ⟨wr.heap.size, 0, none⟩) 1 1, .slice none 0 0, .bool false] from heap_alloc_new w2 _).sl 3 0 1 1 (by simp) (Nat.le_refl _) (by simp [maxLen])
                rw [hsz] at h3
                simpa [mP, upA_same] using h3
              have hp3 : Ph3 w1 wr 36 30 3 (mP (upA a (-1 - lvs.length) k wr.heap.size) [.slice none 0 0, .bool false]) 8 (.slice (some ⟨b, o, none⟩) vs.length c) u5 u7 vs lvs ns k := HP.out.congr (fun j k' => (mP_other (.inl (by omega))).symm) (fun j k' hj => (mP_other (.inl (by omega))).symm) (fun k' hk' => (mP_other (.inr (by omega))).symm)
              have hp4 := (hp3.kept0 ha).kept0 ha3
              have hMN : Mkd w2 (upA a (-1 - lvs.length) k wr.heap.size) (-1 - lvs.length) k := by unfold Mkd; rw [upA_same]; exact hN
              have HP4 := Lib.hid hp4; have HX3 := Lib.hid hx3; have HA := Lib.hid ha; have HA3 := Lib.hid ha3; have HMN := Lib.hid hMN; have HW2 := Lib.hid hw2; have HSZ := Lib.hid hsz
              clear hp3 hp4 hx3 ha ha3 hMN hN hw2 hsz
              go_wp2_with (at_builtin; rw [← HW2.out]; refine wpList_apo rfl (.tmp 56) (.tmp 66) 30 rfl tbOChanges HP4.out.row HX3.out rfl rfl (fun u hu => by simp only [mP, List.mem_cons, List.not_mem_nil, or_false] at hu; rcases hu with rfl | rfl | rfl <;> rfl) ?b1 ?b2 ?go)
              case b1 => simp only [maxLen]; omega
              case b2 => omega
              case go =>
                intro A' N c' w4 hN ho hold hf2 hst
                subst hN
                have HPP := Lib.hid (Ph3.more (HLEN.out _) HP4.out (by rw [← List.append_assoc] at ho; exact ho) hold hf2 hst)
                have hx := HP4.out.row
                have hup : ∀ (i : Int) k', Mkd wr a i k' → (i ≠ -1 - lvs.length ∨ k' ≠ k) → Mkd w4 (upA a (-1 - lvs.length) k wr.heap.size) i k' := fun i k' h hne => (((h.other hne).kept0 HA.out).kept0 HA3.out).kept hx (by decide) hf2
                have hnew : Mkd w4 (upA a (-1 - lvs.length) k wr.heap.size) (-1 - lvs.length) k := (HMN.out.kept0 HA3.out).kept hx (by decide) hf2
                have HUP := Lib.hid hup; have HNEW := Lib.hid hnew
                clear ho hold hf2 hst hx hup hnew
                go_wp2
                go_roundw
                case rel =>
                  refine ⟨k + 1, _, by omega, by go_num, HPP.out, fun j k' h1 h2 => HUP.out _ _ (M1.out j k' h1 h2) (.inl (by omega)), fun j k' h1 h2 => HUP.out _ _ (M2.out j k' h1 h2) (.inl (by omega)), fun k' hk' => ?_⟩
                  by_cases hkk : k' = k
                  · subst hkk; exact HNEW.out
                  · exact HUP.out _ _ (M3.out k' (by omega)) (.inr hkk)
                case measure => simp [intOf]; omega
            · obtain rfl : k = 8 := by omega
              obtain ⟨Ax, cx, hx, _, _⟩ := HP.out.row.form
              subst hx
              go_wp2_with (at_builtin; refine wpList_apo rfl (.tmp 68) (.tmp 70) 77 rfl tbRChanges (HP.out.kept0 ((Fr.refl no _).alloc _)).ph2.long (Sl.built wr _ _) rfl rfl ?b0 ?b1 ?b2 ?go)
              case b0 => simp [Value.oneCell']
              case b1 => simp only [maxLen]; omega
              case b2 => omega
              case go =>
                intro A' N c' w2 hN ho hold hf2 hst
                subst hN
                have hL := (HP.out.kept0 ((Fr.refl no _).alloc (.cells #[.slice Ax (ns lvs.length + 8) cx] 30))).ph2.long
                have hup : ∀ (i : Int) k', Mkd wr a i k' → Mkd w2 a i k' := fun i k' h => (h.kept0 ((Fr.refl no _).alloc _)).kept hL (by decide) hf2
                have HPP := Lib.hid (Ph3.laid (HP.out.kept0 ((Fr.refl no _).alloc _)) ho hf2 hst)
                have HUP := Lib.hid hup
                clear ho hold hf2 hst hL hup
                go_wp2
                go_roundw
                case rel =>
                  refine ⟨lvs ++ [_], a, by simp, HPP.out, fun j k' h1 h2 => HUP.out _ _ (M1.out j k' h1 h2), fun j k' h1 h2 => ?_⟩
                  by_cases hj : j = lvs.length
                  · subst hj; exact HUP.out _ _ (M3.out k' h2)
                  · rw [List.length_append] at h1; simp only [List.length_cons, List.length_nil] at h1; exact HUP.out _ _ (M2.out j k' (by omega) h2)
                case measure => simp [intOf]; omega
        · have hle : lvs.length = vs.length := by omega
          have hrow := fun j (hj : j < vs.length) => Ph2.at (HLEN.out a) HP.out j hj (by omega)
          have HR := Lib.hid hrow; clear hrow
          obtain ⟨AL, cL, hL, _, _⟩ := HP.out.long.form
          subst hL
          have HLL := Lib.hid HP.out.long.sl
          have hle1 : lvs.length ≤ vs.length := by omega
          have hle2 : vs.length ≤ lvs.length := by omega
          clear hle
          go_wp2
          go_loop [9] (fun s => ∃ i : Nat, i ≤ vs.length ∧ s = .int .i64 i) (fun s => vs.length - (intOf s).toNat)
          case atStart => exact ⟨0, Nat.zero_le _, rfl⟩
          case round =>
            obtain ⟨i, hi, rfl⟩ := hrel
            by_cases hlt2 : i < vs.length
            · obtain ⟨b, o, hA, hcell⟩ := sl_at HP.out.two.out i hlt2
              obtain ⟨b2, o2, hA2, hcell2⟩ := sl_at HLL.out i (by omega)
              subst hA; subst hA2
              obtain ⟨Ai, ci, hv, hci, _⟩ := (HP.out.two.rows.row i hlt2).form
              rw [hv] at hcell
              have HV := Lib.hid hv
              have hn9 := HNS.out i
              clear hv
              go_wp2
              go_loop [11] (fun s => ∃ k : Nat, k ≤ ns i ∧ s = .int .i64 k) (fun s => ns i - (intOf s).toNat)
              case atStart => exact ⟨0, Nat.zero_le _, rfl⟩
              case round =>
                obtain ⟨k, hk, rfl⟩ := hrel
                by_cases hkl : k < ns i
                · obtain ⟨g, c1, N1, e1, _, _, q1⟩ := (HR.out i hlt2).1 (by omega)
                  obtain ⟨g2, c2, N2, e2, _, _, q2⟩ := (HR.out i hlt2).2.1 (by omega)
                  replace q1 := q1 k hkl 0 _ rfl
                  replace q2 := q2 k hkl 0 _ rfl
                  simp only [Nat.zero_add, Nat.add_zero] at q1 q2
                  obtain ⟨mk0, mkl⟩ := (M1.out i k hlt2 hkl).cell
                  rw [HV.out] at e1
                  rw [e2] at hcell2
                  have HV2 := Lib.hid e2; clear e2
                  cases e1
                  go_wp2
                  go_round
                  case rel => exact ⟨k + 1, hkl, by go_num⟩
                  case measure => simp [intOf]; omega
                · obtain rfl : k = ns i := by omega
                  go_wp2
                  go_loop [12] (fun s => ∃ k : Nat, k ≤ 8 ∧ s = .int .i64 k) (fun s => 8 - (intOf s).toNat)
                  case atStart => exact ⟨0, Nat.zero_le _, rfl⟩
                  case round =>
                    obtain ⟨k, hk, rfl⟩ := hrel
                    by_cases hkl : k < 8
                    · obtain ⟨g2, c2, N2, e2, _, _, q2⟩ := (HR.out i hlt2).2.2 (by omega)
                      replace q2 := q2 k hkl 0 _ rfl
                      simp only [Nat.add_zero] at q2
                      obtain ⟨mk0, mkl⟩ := (M2.out i k (by omega) hkl).cell
                      rw [e2] at hcell2
                      have HV2 := Lib.hid e2; clear e2
                      go_wp2
                      go_round
                      case rel => exact ⟨k + 1, hkl, by go_num⟩
                      case measure => simp [intOf]; omega
                    · go_wp2
                      go_round
                      case rel => exact ⟨i + 1, hlt2, by go_num⟩
                      case measure => simp [intOf]; omega
            · go_wp2
              go_ret
              exact ⟨rfl, HF.out.trans HP.out.fr (fun _ _ h => h)⟩
end Go.Proofs.Ytdnohhlgaaihmaa
