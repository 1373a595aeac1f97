import Derived.Test.YtdnohhlgaaihmaaMt20
import Derived.Test.YtdnohhlgaaihmaaMt19
import Derived.Test.YtdnohhlgaaihmaaMt09
import Derived.Test.YtdnohhlgaaihmaaMt21
import Derived.Test.YtdnohhlgaaihmaaMt13

/- Spans that are told are their owner's. (printed by mkown.py) -/
namespace Go.Proofs.Ytdnohhlgaaihmaa
open Go.RowKit

theorem tbOSpans : Tb Try.prog 90 100 (.agg #[.slice none 0 0, .slice none 0 0, .bool false]) 3 56 := ⟨by kernel_rfl, by kernel_rfl, rfl, by decide⟩
theorem tbRSpans : Tb Try.prog 78 90 (.slice none 0 0) 1 24 := ⟨by kernel_rfl, by kernel_rfl, rfl, by decide⟩

set_option maxRecDepth 100000 in
set_option maxHeartbeats 8000000 in
theorem own_Spans (w : World) (A : Option Addr) (c : Nat) (vs : List Value) (ns : Nat → Nat) (C0 : Nat → List Value) (h : Two w 100 3 (.slice A vs.length c) vs ns C0) (hX : ∀ b, (Value.slice A vs.length c).ownBlock = some b → b < w.heap.size) (hvs : vs.length ≤ 1000000) (hns : ∀ j, ns j ≤ 1000000) :
    Calls Try.prog 98 #[.slice A vs.length c] w fun e w' => e = .returned (.bool true) ∧ Fr (InRows vs) w w' := by
  have hlen : ∀ (a : Int → Nat → Nat) i k, (mP a [.slice none 0 0, .bool false] i k).length = 3 := fun a i k => mP_len rfl i k
  have H := Lib.hid h; have HLX := Lib.hid hX; have HNS := Lib.hid hns; have HLEN := Lib.hid hlen; clear h hX hns hlen
  go_enter Try.func98, Try.ntmps98
  go_wp2
  go_loopw [3] (fun s wr => ∃ (i : Nat) (C : Nat → List Value) (a : Int → Nat → Nat), i ≤ vs.length ∧ s = .int .i64 i ∧ Two wr 100 3 (.slice A vs.length c) vs ns C ∧ Fr (InRows vs) w wr ∧ (∀ j : Nat, j < i → C j = mks (mP a [.slice none 0 0, .bool false]) j (ns j)) ∧ (∀ j k : Nat, j < i → k < ns j → Mkd wr a j k)) (fun s _ => vs.length - (intOf s).toNat)
  case atStart => exact ⟨0, C0, fun _ _ => 0, Nat.zero_le _, rfl, H.out, Fr.refl _ _, fun j h => by omega, fun j k h => by omega⟩
  case round =>
    obtain ⟨i, C, a, hi, rfl, ht, hf, hm, hk⟩ := hrel
    have HT := Lib.hid ht; have HF := Lib.hid hf; have HM := Lib.hid hm; have HMK := Lib.hid hk; clear ht hf hm hk
    by_cases hlt : i < vs.length
    · go_wp2
      go_loopw [4] (fun s wr => ∃ (k : Nat) (C : Nat → List Value) (a : Int → Nat → Nat), k ≤ ns i ∧ s = .int .i64 k ∧ Two wr 100 3 (.slice A vs.length c) vs ns C ∧ Fr (InRows vs) w wr ∧ (∀ j : Nat, j < i → C j = mks (mP a [.slice none 0 0, .bool false]) j (ns j)) ∧ (C i).take (k * 3) = mks (mP a [.slice none 0 0, .bool false]) i k ∧ (∀ j k : Nat, j < i → k < ns j → Mkd wr a j k) ∧ (∀ k' : Nat, k' < k → Mkd wr a i k')) (fun s _ => 1000000 - (intOf s).toNat)
      case atStart => exact ⟨0, C, a, Nat.zero_le _, rfl, HT.out, HF.out, HM.out, by simp [mks], HMK.out, fun k h => by omega⟩
      case round =>
        obtain ⟨k, C, a, hk, rfl, ht, hf, hm, hmk, h1, h2⟩ := hrel
        have HT := Lib.hid ht; have HF := Lib.hid hf; have HM := Lib.hid hm; have HK := Lib.hid hmk; have H1 := Lib.hid h1; have H2 := Lib.hid h2; clear ht hf hm hmk h1 h2
        have hk9 : ns i ≤ 1000000 := HNS.out i
        obtain ⟨b, o, hA, hcell⟩ := sl_at HT.out.out i hlt
        subst hA
        have hbl := World.block_lt_of_cell? _ _ hcell
        by_cases hkl : k < ns i
        · have hri := HT.out.rows.row i hlt
          obtain ⟨g, c', hv, _, _, hgl, hz, hcs⟩ := hri.cells k hkl
          have hkC : k * 3 + 3 ≤ (C i).length := by rw [hri.1]; omega
          obtain ⟨cv0, hcv0⟩ : ∃ cv, (C i)[k * 3 + 0]? = some cv := ⟨_, List.getElem?_eq_getElem (by omega)⟩
          have hc0 := hcs _ _ hcv0
          obtain ⟨cv1, hcv1⟩ : ∃ cv, (C i)[k * 3 + 1]? = some cv := ⟨_, List.getElem?_eq_getElem (by omega)⟩
          have hc1 := hcs _ _ hcv1
          obtain ⟨cv2, hcv2⟩ : ∃ cv, (C i)[k * 3 + 2]? = some cv := ⟨_, List.getElem?_eq_getElem (by omega)⟩
          have hc2 := hcs _ _ hcv2
          simp only [Nat.add_zero] at hc0
          rw [hv] at hcell
          have HV := Lib.hid hv; have HRI := Lib.hid hri; have HKC := Lib.hid hkC; clear hv hri hcs hkC hcv0 hcv1 hcv2
          have hgn : ¬ g = wr.heap.size := by omega
          go_wp2
          go_roundw
          case rel =>
            have hT := HT.out
            have hin : InRows vs g := ⟨vs[i], List.getElem_mem _, by rw [HV.out]; rfl⟩
            have hro0 := hT.rows.row i hlt
            rw [HV.out] at hro0
            have hCl := HKC.out
            have hsr := hT.rows.lt
            obtain ⟨q, hq⟩ : ∃ q, q = wr.heap.size := ⟨_, rfl⟩
            rw [← hq] at hgn hgl ⊢
            have hro1 := hro0.set (j := k * 3) (by (try simp only [List.length_set]); omega) (.slice (some ⟨q, 0, none⟩) 1 1)
            have hro2 := hro1.set (j := k * 3 + 1) (by (try simp only [List.length_set]); omega) (.slice none 0 0)
            have hro3 := hro2.set (j := k * 3 + 2) (by (try simp only [List.length_set]); omega) (.bool false)
            have hfs := ((((Fr.refl (fun x => x = g) wr).setCell ⟨g, k * 3, none⟩ (.slice (some ⟨q, 0, none⟩) 1 1) (fun _ => rfl)).setCell ⟨g, k * 3 + 1, none⟩ (.slice none 0 0) (fun _ => rfl)).setCell ⟨g, k * 3 + 2, none⟩ (.bool false) (fun _ => rfl))
            have hsz : (((wr.setCell ⟨g, k * 3, none⟩ (.slice (some ⟨q, 0, none⟩) 1 1)).setCell ⟨g, k * 3 + 1, none⟩ (.slice none 0 0)).setCell ⟨g, k * 3 + 2, none⟩ (.bool false)).heap.size = q := by rw [hq]; simp
            have hN := heap_alloc_new (((wr.setCell ⟨g, k * 3, none⟩ (.slice (some ⟨q, 0, none⟩) 1 1)).setCell ⟨g, k * 3 + 1, none⟩ (.slice none 0 0)).setCell ⟨g, k * 3 + 2, none⟩ (.bool false)) (.cells #[.int .u8 (((i : Int) * 97 + (k : Int) * 13) % 256)] 5)
            have ha := (Fr.refl no (((wr.setCell ⟨g, k * 3, none⟩ (.slice (some ⟨q, 0, none⟩) 1 1)).setCell ⟨g, k * 3 + 1, none⟩ (.slice none 0 0)).setCell ⟨g, k * 3 + 2, none⟩ (.bool false))).alloc (.cells #[.int .u8 (((i : Int) * 97 + (k : Int) * 13) % 256)] 5)
            rw [hsz] at hN
            have hTs : Two (((wr.setCell ⟨g, k * 3, none⟩ (.slice (some ⟨q, 0, none⟩) 1 1)).setCell ⟨g, k * 3 + 1, none⟩ (.slice none 0 0)).setCell ⟨g, k * 3 + 2, none⟩ (.bool false)) 100 3 (.slice (some ⟨b, o, none⟩) vs.length c) vs ns (fun j => if j = i then _ else C j) := ⟨hT.out.kept hfs (fun b' hb' e => hT.away b' hb' (by subst e; exact hin)), hT.away, hT.rows.one i hlt (hfs.mono (fun x _ e => by subst e; rw [HV.out]; rfl)) _ (by rw [HV.out]; exact hro3)⟩
            refine ⟨k + 1, _, upA a i k q, hkl, by go_num, hTs.kept ha (fun _ _ h => h) (fun _ _ h => h), (HF.out.trans hfs (fun x _ e => by subst e; exact hin)).trans ha (fun _ _ h => h.elim), fun j hj => ?_, ?_, fun j k' hj hk' => ?_, fun k' hk' => ?_⟩
            · simp only [show ¬ j = i by omega, if_false]
              rw [HM.out j hj]
              exact mks_congr fun k' _ => (mP_other (.inl (by omega))).symm
            · simp only [if_true]
              rw [take_set3 HK.out HKC.out, mks_succ]
              have e1 : mks (mP a [.slice none 0 0, .bool false]) i k = mks (mP (upA a i k q) [.slice none 0 0, .bool false]) i k := mks_congr fun k' h' => (mP_other (.inr (by omega))).symm
              rw [e1]
              simp [mP, upA_same]
            · exact (((H1.out j k' hj hk').other (.inl (by omega))).kept (x := .slice (some ⟨g, 0, none⟩) (ns i) c') hro0 (by decide) (hfs.mono (fun x _ e => by subst e; rfl))).kept0 ha
            · by_cases hkk : k' = k
              · subst hkk
                unfold Mkd
                rw [upA_same]
                exact hN
              · exact (((H2.out k' (by omega)).other (.inr hkk)).kept (x := .slice (some ⟨g, 0, none⟩) (ns i) c') hro0 (by decide) (hfs.mono (fun x _ e => by subst e; rfl))).kept0 ha
          case measure => simp [intOf]; omega
        · have hkk : k = ns i := by omega
          subst hkk
          obtain ⟨Ai, ci, hv, _, _⟩ := (HT.out.rows.row i hlt).form
          rw [hv] at hcell
          have HV := Lib.hid hv; clear hv
          go_wp2
          go_roundw
          case rel =>
            refine ⟨i + 1, C, a, hlt, by go_num, HT.out, HF.out, fun j hji => ?_, fun j k' hj hk' => ?_⟩
            · by_cases h : j = i
              · subst h
                have h2 := HK.out
                rw [List.take_of_length_le (by rw [(HT.out.rows.row j hlt).1]; omega)] at h2
                exact h2
              · exact HM.out j (by omega)
            · by_cases h : j = i
              · subst h; exact H2.out k' hk'
              · exact H1.out j k' (by omega) hk'
          case measure => simp [intOf]; omega
    · obtain rfl : i = vs.length := by omega
      clear hlt hi
      have HT1 := Lib.hid (show Two wr 100 3 (.slice A vs.length c) vs ns (fun j => mks (mP a [.slice none 0 0, .bool false]) j (ns j)) from ⟨HT.out.out, HT.out.away, HT.out.rows.congr HM.out⟩)
      clear HT HM
      obtain ⟨w1, rfl⟩ : ∃ w1 : World, w1 = wr := ⟨_, rfl⟩
      go_wp2
      go_loopw [5, 6] (fun L s wr => ∃ (lvs : List Value) (a : Int → Nat → Nat), s = .int .i64 lvs.length ∧ Ph2 w1 wr 100 90 3 (mP a [.slice none 0 0, .bool false]) 8 (.slice A vs.length c) L vs lvs ns ∧ (∀ j k : Nat, j < vs.length → k < ns j → Mkd wr a j k) ∧ (∀ j k : Nat, j < lvs.length → k < 8 → Mkd wr a (-1 - j) k)) (fun _ s _ => vs.length - (intOf s).toNat)
      case atStart => exact ⟨[], a, rfl, ⟨HT1.out, ⟨rfl, .inl ⟨rfl, rfl⟩⟩, Nat.zero_le _, fun j h => by simp at h, fun j h => by simp at h, fun b h => by simp [Value.ownBlock] at h, Fr.refl _ _, fun b hb => Nat.lt_of_lt_of_le (HLX.out b hb) HF.out.size, HT1.out.rows.lt⟩, HMK.out, fun j k h => by simp at h⟩
      case round =>
        obtain ⟨lvs, a, rfl, hp, hm1, hm2⟩ := hrel
        have hmany := hp.many
        have HP := Lib.hid hp; have M1 := Lib.hid hm1; have M2 := Lib.hid hm2; clear hp hm1 hm2
        by_cases hlt : lvs.length < vs.length
        · obtain ⟨b, o, hA, hcell⟩ := sl_at HP.out.two.out lvs.length hlt
          subst hA
          have HS := Lib.hid (Ph3.start HP.out hlt)
          go_wp2
          go_loopw [7, 8] (fun x s wr => ∃ (k : Nat) (a : Int → Nat → Nat), k ≤ 8 ∧ s = .int .i64 k ∧ Ph3 w1 wr 100 90 3 (mP a [.slice none 0 0, .bool false]) 8 (.slice (some ⟨b, o, none⟩) vs.length c) u5 x vs lvs ns k ∧ (∀ j k : Nat, j < vs.length → k < ns j → Mkd wr a j k) ∧ (∀ j k : Nat, j < lvs.length → k < 8 → Mkd wr a (-1 - j) k) ∧ (∀ k' : Nat, k' < k → Mkd wr a (-1 - lvs.length) k')) (fun _ s _ => 8 - (intOf s).toNat)
          case atStart => exact ⟨0, a, Nat.zero_le _, rfl, HS.out, M1.out, M2.out, fun k h => by omega⟩
          case round =>
            obtain ⟨k, a, hk, rfl, hp, hm1, hm2, hm3⟩ := hrel
            have HP := Lib.hid hp; have M1 := Lib.hid hm1; have M2 := Lib.hid hm2; have M3 := Lib.hid hm3; clear hp hm1 hm2 hm3
            have hn9 := HNS.out lvs.length
            by_cases hk8 : k < 8
            · obtain ⟨w2, hw2⟩ : ∃ w2, w2 = wr.alloc (.cells #[.int .u8 (((-1 - (lvs.length : Int)) * 97 + (k : Int) * 13) % 256)] 5) := ⟨_, rfl⟩
              have hN := heap_alloc_new wr (.cells #[.int .u8 (((-1 - (lvs.length : Int)) * 97 + (k : Int) * 13) % 256)] 5)
              have ha := (Fr.refl no wr).alloc (.cells #[.int .u8 (((-1 - (lvs.length : Int)) * 97 + (k : Int) * 13) % 256)] 5)
              have hsz : w2.heap.size = wr.heap.size + 1 := by rw [hw2]; exact World.size_alloc _ _
              rw [← hw2] at hN ha
              have ha3 := (Fr.refl no w2).alloc (.cells #[.slice (some ⟨wr.heap.size, 0, none⟩) 1 1, .slice none 0 0, .bool false] 100)
              have hx3 : Sl (w2.alloc (.cells #[.slice (some ⟨wr.heap.size, 0, none⟩) 1 1, .slice none 0 0, .bool false] 100)) 3 (.slice (some ⟨wr.heap.size + 1, 0, none⟩) 1 1) 1 (mP (upA a (-1 - lvs.length) k wr.heap.size) [.slice none 0 0, .bool false] (-1 - lvs.length) k) := by
                have h3 := (show Has (w2.alloc (.cells #[.slice (some ⟨wr.heap.size, 0, none⟩) 1 1, .slice none 0 0, .bool false] 100)) w2.heap.size 100 [.slice (some ⟨wr.heap.size, 0, none⟩) 1 1, .slice none 0 0, .bool false] from heap_alloc_new w2 _).sl 3 0 1 1 (by simp) (Nat.le_refl _) (by simp [maxLen])
                rw [hsz] at h3
                simpa [mP, upA_same] using h3
              have hp3 : Ph3 w1 wr 100 90 3 (mP (upA a (-1 - lvs.length) k wr.heap.size) [.slice none 0 0, .bool false]) 8 (.slice (some ⟨b, o, none⟩) vs.length c) u5 u7 vs lvs ns k := HP.out.congr (fun j k' => (mP_other (.inl (by omega))).symm) (fun j k' hj => (mP_other (.inl (by omega))).symm) (fun k' hk' => (mP_other (.inr (by omega))).symm)
              have hp4 := (hp3.kept0 ha).kept0 ha3
              have hMN : Mkd w2 (upA a (-1 - lvs.length) k wr.heap.size) (-1 - lvs.length) k := by unfold Mkd; rw [upA_same]; exact hN
              have HP4 := Lib.hid hp4; have HX3 := Lib.hid hx3; have HA := Lib.hid ha; have HA3 := Lib.hid ha3; have HMN := Lib.hid hMN; have HW2 := Lib.hid hw2; have HSZ := Lib.hid hsz
              clear hp3 hp4 hx3 ha ha3 hMN hN hw2 hsz
              go_wp2_with (at_builtin; rw [← HW2.out]; refine wpList_apo rfl (.tmp 56) (.tmp 66) 90 rfl tbOSpans HP4.out.row HX3.out rfl rfl (fun u hu => by simp only [mP, List.mem_cons, List.not_mem_nil, or_false] at hu; rcases hu with rfl | rfl | rfl <;> rfl) ?b1 ?b2 ?go)
              case b1 => simp only [maxLen]; omega
              case b2 => omega
              case go =>
                intro A' N c' w4 hN ho hold hf2 hst
                subst hN
                have HPP := Lib.hid (Ph3.more (HLEN.out _) HP4.out (by rw [← List.append_assoc] at ho; exact ho) hold hf2 hst)
                have hx := HP4.out.row
                have hup : ∀ (i : Int) k', Mkd wr a i k' → (i ≠ -1 - lvs.length ∨ k' ≠ k) → Mkd w4 (upA a (-1 - lvs.length) k wr.heap.size) i k' := fun i k' h hne => (((h.other hne).kept0 HA.out).kept0 HA3.out).kept hx (by decide) hf2
                have hnew : Mkd w4 (upA a (-1 - lvs.length) k wr.heap.size) (-1 - lvs.length) k := (HMN.out.kept0 HA3.out).kept hx (by decide) hf2
                have HUP := Lib.hid hup; have HNEW := Lib.hid hnew
                clear ho hold hf2 hst hx hup hnew
                go_wp2
                go_roundw
                case rel =>
                  refine ⟨k + 1, _, by omega, by go_num, HPP.out, fun j k' h1 h2 => HUP.out _ _ (M1.out j k' h1 h2) (.inl (by omega)), fun j k' h1 h2 => HUP.out _ _ (M2.out j k' h1 h2) (.inl (by omega)), fun k' hk' => ?_⟩
                  by_cases hkk : k' = k
                  · subst hkk; exact HNEW.out
                  · exact HUP.out _ _ (M3.out k' (by omega)) (.inr hkk)
                case measure => simp [intOf]; omega
            · obtain rfl : k = 8 := by omega
              obtain ⟨Ax, cx, hx, _, _⟩ := HP.out.row.form
              subst hx
              go_wp2_with (at_builtin; refine wpList_apo rfl (.tmp 68) (.tmp 70) 78 rfl tbRSpans (HP.out.kept0 ((Fr.refl no _).alloc _)).ph2.long (Sl.built wr _ _) rfl rfl ?b0 ?b1 ?b2 ?go)
              case b0 => simp [Value.oneCell']
              case b1 => simp only [maxLen]; omega
              case b2 => omega
              case go =>
                intro A' N c' w2 hN ho hold hf2 hst
                subst hN
                have hL := (HP.out.kept0 ((Fr.refl no _).alloc (.cells #[.slice Ax (ns lvs.length + 8) cx] 90))).ph2.long
                have hup : ∀ (i : Int) k', Mkd wr a i k' → Mkd w2 a i k' := fun i k' h => (h.kept0 ((Fr.refl no _).alloc _)).kept hL (by decide) hf2
                have HPP := Lib.hid (Ph3.laid (HP.out.kept0 ((Fr.refl no _).alloc _)) ho hf2 hst)
                have HUP := Lib.hid hup
                clear ho hold hf2 hst hL hup
                go_wp2
                go_roundw
                case rel =>
                  refine ⟨lvs ++ [_], a, by simp, HPP.out, fun j k' h1 h2 => HUP.out _ _ (M1.out j k' h1 h2), fun j k' h1 h2 => ?_⟩
                  by_cases hj : j = lvs.length
                  · subst hj; exact HUP.out _ _ (M3.out k' h2)
                  · rw [List.length_append] at h1; simp only [List.length_cons, List.length_nil] at h1; exact HUP.out _ _ (M2.out j k' (by omega) h2)
                case measure => simp [intOf]; omega
        · have hle : lvs.length = vs.length := by omega
          have hrow := fun j (hj : j < vs.length) => Ph2.at (HLEN.out a) HP.out j hj (by omega)
          have HR := Lib.hid hrow; clear hrow
          obtain ⟨AL, cL, hL, _, _⟩ := HP.out.long.form
          subst hL
          have HLL := Lib.hid HP.out.long.sl
          have hle1 : lvs.length ≤ vs.length := by omega
          have hle2 : vs.length ≤ lvs.length := by omega
          clear hle
          go_wp2
          go_loop [9] (fun s => ∃ i : Nat, i ≤ vs.length ∧ s = .int .i64 i) (fun s => vs.length - (intOf s).toNat)
          case atStart => exact ⟨0, Nat.zero_le _, rfl⟩
          case round =>
            obtain ⟨i, hi, rfl⟩ := hrel
            by_cases hlt2 : i < vs.length
            · obtain ⟨b, o, hA, hcell⟩ := sl_at HP.out.two.out i hlt2
              obtain ⟨b2, o2, hA2, hcell2⟩ := sl_at HLL.out i (by omega)
              subst hA; subst hA2
              obtain ⟨Ai, ci, hv, hci, _⟩ := (HP.out.two.rows.row i hlt2).form
              rw [hv] at hcell
              have HV := Lib.hid hv
              have hn9 := HNS.out i
              clear hv
              go_wp2
              go_loop [11] (fun s => ∃ k : Nat, k ≤ ns i ∧ s = .int .i64 k) (fun s => ns i - (intOf s).toNat)
              case atStart => exact ⟨0, Nat.zero_le _, rfl⟩
              case round =>
                obtain ⟨k, hk, rfl⟩ := hrel
                by_cases hkl : k < ns i
                · obtain ⟨g, c1, N1, e1, _, _, q1⟩ := (HR.out i hlt2).1 (by omega)
                  obtain ⟨g2, c2, N2, e2, _, _, q2⟩ := (HR.out i hlt2).2.1 (by omega)
                  replace q1 := q1 k hkl 0 _ rfl
                  replace q2 := q2 k hkl 0 _ rfl
                  simp only [Nat.zero_add, Nat.add_zero] at q1 q2
                  obtain ⟨mk0, mkl⟩ := (M1.out i k hlt2 hkl).cell
                  rw [HV.out] at e1
                  rw [e2] at hcell2
                  have HV2 := Lib.hid e2; clear e2
                  cases e1
                  go_wp2
                  go_round
                  case rel => exact ⟨k + 1, hkl, by go_num⟩
                  case measure => simp [intOf]; omega
                · obtain rfl : k = ns i := by omega
                  go_wp2
                  go_loop [12] (fun s => ∃ k : Nat, k ≤ 8 ∧ s = .int .i64 k) (fun s => 8 - (intOf s).toNat)
                  case atStart => exact ⟨0, Nat.zero_le _, rfl⟩
                  case round =>
                    obtain ⟨k, hk, rfl⟩ := hrel
                    by_cases hkl : k < 8
                    · obtain ⟨g2, c2, N2, e2, _, _, q2⟩ := (HR.out i hlt2).2.2 (by omega)
                      replace q2 := q2 k hkl 0 _ rfl
                      simp only [Nat.add_zero] at q2
                      obtain ⟨mk0, mkl⟩ := (M2.out i k (by omega) hkl).cell
                      rw [e2] at hcell2
                      have HV2 := Lib.hid e2; clear e2
                      go_wp2
                      go_round
                      case rel => exact ⟨k + 1, hkl, by go_num⟩
                      case measure => simp [intOf]; omega
                    · go_wp2
                      go_round
                      case rel => exact ⟨i + 1, hlt2, by go_num⟩
                      case measure => simp [intOf]; omega
            · go_wp2
              go_ret
              exact ⟨rfl, HF.out.trans HP.out.fr (fun _ _ h => h)⟩
end Go.Proofs.Ytdnohhlgaaihmaa

/- The book of all lists: bytes, and rows of pairs, changes and spans. -/
namespace Go.Proofs.Ytdnohhlgaaihmaa
open Go.RowKit

/-- The type of a list's elements. -/
def eT (i : Nat) : TypeId := if i = 0 then 34 else if i = 13 then 22 else if i = 14 then 30 else 90
/-- What a row of a list is of, its size, how long it may be. -/
def rT (i : Nat) : TypeId := if i = 0 then 5 else if i = 13 then 40 else if i = 14 then 36 else 100
def rS (i : Nat) : Nat := if i = 0 then 1 else if i = 13 then 2 else 3
def rL (i : Nat) : Nat := if i = 0 then 140737488351232 else 1000000
def kept4 (i : Nat) : Prop := i = 0 ∨ i = 13 ∨ i = 14 ∨ i = 15
instance (i : Nat) : Decidable (kept4 i) := by unfold kept4; infer_instance

def cells23 (V : Nat → Value) : Array Value := ((List.range 23).map V).toArray
def upd {α : Type} (V : Nat → α) (i : Nat) (v : α) : Nat → α := fun j => if j = i then v else V j
theorem upd_same {α : Type} (V : Nat → α) (i : Nat) (v : α) : upd V i v i = v := by simp [upd]
theorem upd_other {α : Type} {V : Nat → α} {i j : Nat} {v : α} (h : j ≠ i) : upd V i v j = V j := by simp [upd, h]
theorem cells23_set (V : Nat → Value) (i : Nat) (_ : i < 23) (v : Value) : (cells23 V).setIfInBounds i v = cells23 (upd V i v) := by
  unfold cells23
  rw [List.setIfInBounds_toArray]
  congr 1
  apply List.ext_getElem
  · simp
  · intro j h1 h2
    rw [List.getElem_set]
    simp only [List.getElem_map, List.getElem_range, upd]
    by_cases h : i = j
    · subst h; simp
    · simp [h, Ne.symm h]

structure Bq (w : World) (b : Nat) (V : Nat → Value) (R : Nat → List Value) : Prop where
  at_ : w.heap[b]? = some (.cells (cells23 V) 87 (0, 0))
  row : ∀ i, kept4 i → Ow w (eT i) 1 (V i) (R i).length (R i)
  none_ : ∀ i, ¬ kept4 i → V i = .slice none 0 0 ∧ R i = []
  ne : ∀ i, (V i).ownBlock ≠ some b
  dj : ∀ i j, i ≠ j → ∀ k, (V i).ownBlock = some k → (V j).ownBlock ≠ some k
theorem Bq.cell {w : World} {b : Nat} {V : Nat → Value} {R : Nat → List Value} (h : Bq w b V R) (i : Nat) (hi : i < 23) : w.cell? ⟨b, i, none⟩ = some (V i) := by
  simp [World.cell?, h.at_, cells23, hi]
theorem Bq.frozen {w : World} {b : Nat} {V : Nat → Value} {R : Nat → List Value} (h : Bq w b V R) (i : Nat) : w.frozen? ⟨b, i, none⟩ = false := by
  simp [World.frozen?, h.at_]
theorem Bq.lt {w : World} {b : Nat} {V : Nat → Value} {R : Nat → List Value} (h : Bq w b V R) : b < w.heap.size := (Array.getElem?_eq_some_iff.1 h.at_).1
theorem Bq.kept {w w1 : World} {b : Nat} {V : Nat → Value} {R : Nat → List Value} {S : Nat → Prop} (h : Bq w b V R) (f : Fr S w w1) (h1 : ¬ S b) (h2 : ∀ i k, (V i).ownBlock = some k → ¬ S k) : Bq w1 b V R :=
  ⟨f.heap h.at_ h1, fun i hi => (h.row i hi).kept f (fun k hk => h2 i k hk), h.none_, h.ne, h.dj⟩
theorem Bq.put {w w2 : World} {b : Nat} {V : Nat → Value} {R : Nat → List Value} {i N : Nat} {r v' : Value} (h : Bq w b V R) (hk : kept4 i) (f : Fr (fun k => (V i).ownBlock = some k) w w2) (hN : N = (R i).length + 1)
    (ho : Ow w2 (eT i) 1 v' N (R i ++ [r])) (st : Stays w w2 (V i) v' (R i).length N) :
    Bq (w2.setCell ⟨b, i, none⟩ v') b (upd V i v') (upd R i (R i ++ [r])) ∧ Fr (fun k => k = b ∨ (V i).ownBlock = some k) w (w2.setCell ⟨b, i, none⟩ v') ∧ (∀ k, v'.ownBlock = some k → (V i).ownBlock = some k ∨ (w.heap.size ≤ k ∧ k < w2.heap.size)) := by
  have hi : i < 23 := by rcases hk with h | h | h | h <;> omega
  have hnb : ¬ (V i).ownBlock = some b := h.ne i
  have mv : ∀ k, v'.ownBlock = some k → (V i).ownBlock = some k ∨ (w.heap.size ≤ k ∧ k < w2.heap.size) := fun k hk => by
    rcases st with ⟨A, c, h1, h2⟩ | st
    · left; rw [h1]; rw [h2] at hk; cases A <;> exact hk
    · exact .inr (st k hk)
  have hbl := h.lt
  have hv'b : v'.ownBlock ≠ some b := fun e => by rcases mv b e with h1 | h1; exact hnb h1; omega
  have f1 : Fr (fun k => k = b) w2 (w2.setCell ⟨b, i, none⟩ v') := Fr.setCell (Fr.refl (fun k => k = b) w2) ⟨b, i, none⟩ v' (fun _ => rfl)
  have hlt : ∀ j k, (V j).ownBlock = some k → k < w.heap.size := fun j k hk => by
    by_cases hj : kept4 j
    · exact (h.row j hj).lt k hk
    · rw [(h.none_ j hj).1] at hk; simp [Value.ownBlock] at hk
  refine ⟨⟨?_, fun j hj => ?_, fun j hj => ?_, fun j => ?_, fun j j' hjj k e => ?_⟩, (f.mono (fun _ _ e => .inr e)).trans f1 (fun _ _ e => .inl e), mv⟩
  · rw [← cells23_set V i hi]; exact hp_same (f.heap h.at_ hnb) i v'
  · by_cases hji : j = i
    · subst hji
      rw [upd_same, upd_same, List.length_append]
      rw [hN] at ho
      exact ho.kept f1 (fun k hk e => hv'b (by rw [← e]; exact hk))
    · rw [upd_other hji, upd_other hji]
      exact ((h.row j hj).kept f (fun k hk e => h.dj j i hji k hk e)).kept f1 (fun k hk e => h.ne j (by rw [← e]; exact hk))
  · have hji : j ≠ i := fun e => hj (by rw [e]; exact hk)
    rw [upd_other hji, upd_other hji]; exact h.none_ j hj
  · by_cases hji : j = i
    · subst hji; rw [upd_same]; exact hv'b
    · rw [upd_other hji]; exact h.ne j
  · by_cases hji : j = i
    · subst hji
      rw [upd_same] at e
      rw [upd_other (Ne.symm hjj)]
      rcases mv k e with h1 | h1
      · exact h.dj j j' hjj k h1
      · intro e2; have := hlt j' k e2; omega
    · rw [upd_other hji] at e
      by_cases hji' : j' = i
      · subst hji'
        rw [upd_same]
        intro e2
        rcases mv k e2 with h1 | h1
        · exact h.dj j j' hjj k e h1
        · have := hlt j k e; omega
      · rw [upd_other hji']; exact h.dj j j' hjj k e

def Apart (x y : Value) : Prop := ∀ k, x.ownBlock = some k → y.ownBlock ≠ some k
theorem Apart.symm {x y : Value} (h : Apart x y) : Apart y x := fun k h1 h2 => h k h2 h1
def RowOk (w : World) (i : Nat) (v : Value) : Prop := ∃ n xs, n ≤ rL i ∧ Ow w (rT i) (rS i) v n xs
/-- The blocks of a book and of what it has. -/
def BcF (b : Nat) (V : Nat → Value) (R : Nat → List Value) : Nat → Prop := fun k => k = b ∨ (∃ i, (V i).ownBlock = some k) ∨ ∃ i, InRows (R i) k

/-- A book and what it has: rows of their own, apart. -/
structure Bc (w : World) (b : Nat) (V : Nat → Value) (R : Nat → List Value) : Prop where
  bq : Bq w b V R
  ok : ∀ i, ∀ v ∈ R i, RowOk w i v
  pi : ∀ i, (R i).Pairwise Apart
  px : ∀ i j, i ≠ j → ∀ v ∈ R i, ∀ v' ∈ R j, Apart v v'
  away : ∀ i, ∀ v ∈ R i, ∀ k, v.ownBlock = some k → k ≠ b ∧ ∀ j, (V j).ownBlock ≠ some k
theorem Bc.lt {w : World} {b : Nat} {V : Nat → Value} {R : Nat → List Value} (h : Bc w b V R) : ∀ k, BcF b V R k → k < w.heap.size := by
  rintro k (rfl | ⟨i, hk⟩ | ⟨i, v, hv, hk⟩)
  · exact h.bq.lt
  · by_cases hj : kept4 i
    · exact (h.bq.row i hj).lt k hk
    · rw [(h.bq.none_ i hj).1] at hk; simp [Value.ownBlock] at hk
  · obtain ⟨n, xs, _, ho⟩ := h.ok i v hv
    exact ho.lt k hk
theorem Bc.kept {w w1 : World} {b : Nat} {V : Nat → Value} {R : Nat → List Value} {S : Nat → Prop} (h : Bc w b V R) (f : Fr S w w1) (hn : ∀ k, BcF b V R k → ¬ S k) : Bc w1 b V R :=
  ⟨h.bq.kept f (hn b (.inl rfl)) (fun i k hk => hn k (.inr (.inl ⟨i, hk⟩))), fun i v hv => by
    obtain ⟨n, xs, h1, h2⟩ := h.ok i v hv
    exact ⟨n, xs, h1, h2.kept f (fun k hk => hn k (.inr (.inr ⟨i, v, hv, hk⟩)))⟩, h.pi, h.px, h.away⟩
theorem Bc.kept0 {w w1 : World} {b : Nat} {V : Nat → Value} {R : Nat → List Value} (h : Bc w b V R) (f : Fr no w w1) : Bc w1 b V R := h.kept f (fun _ _ h => h)

/-- One row more in a list. -/
theorem Bc.add {w w1 : World} {b i : Nat} {V : Nat → Value} {R : Nat → List Value} {r v' : Value} (h : Bc w b V R) (hq : Bq w1 b (upd V i v') (upd R i (R i ++ [r]))) (f : Fr (fun k => k = b ∨ (V i).ownBlock = some k) w w1)
    (mv : ∀ k, v'.ownBlock = some k → (V i).ownBlock = some k ∨ w.heap.size ≤ k) (hr : RowOk w i r) (hd : ∀ k, r.ownBlock = some k → ¬ BcF b V R k) :
    Bc w1 b (upd V i v') (upd R i (R i ++ [r])) ∧ ∀ k, BcF b (upd V i v') (upd R i (R i ++ [r])) k → BcF b V R k ∨ r.ownBlock = some k ∨ w.heap.size ≤ k := by
  have hrow : ∀ j v, v ∈ upd R i (R i ++ [r]) j → v ∈ R j ∨ (j = i ∧ v = r) := fun j v hv => by
    by_cases hji : j = i
    · subst hji
      rw [upd_same] at hv
      rcases List.mem_append.1 hv with h1 | h1
      · exact .inl h1
      · exact .inr ⟨rfl, List.mem_singleton.1 h1⟩
    · rw [upd_other hji] at hv; exact .inl hv
  have hrl : ∀ k, r.ownBlock = some k → k < w.heap.size := fun k hk => by obtain ⟨n, xs, _, ho⟩ := hr; exact ho.lt k hk
  have hapr : ∀ j v, v ∈ R j → Apart v r := fun j v hv k h1 h2 => hd k h2 (.inr (.inr ⟨j, v, hv, h1⟩))
  have hok : ∀ j v, RowOk w j v → (∀ k, v.ownBlock = some k → ¬ (k = b ∨ (V i).ownBlock = some k)) → RowOk w1 j v := fun j v ⟨n, xs, h1, h2⟩ hn => ⟨n, xs, h1, h2.kept f hn⟩
  have hVV : ∀ j k, (upd V i v' j).ownBlock = some k → (∃ j, (V j).ownBlock = some k) ∨ w.heap.size ≤ k := fun j k hk => by
    by_cases hji : j = i
    · subst hji; rw [upd_same] at hk
      rcases mv k hk with h1 | h1
      · exact .inl ⟨_, h1⟩
      · exact .inr h1
    · rw [upd_other hji] at hk; exact .inl ⟨j, hk⟩
  refine ⟨⟨hq, fun j v hv => ?_, fun j => ?_, fun j j' hjj v hv v' hv' => ?_, fun j v hv k hk => ?_⟩, fun k hk => ?_⟩
  · rcases hrow j v hv with h1 | ⟨rfl, rfl⟩
    · exact hok j v (h.ok j v h1) (fun k hk e => by have := h.away j v h1 k hk; rcases e with e | e; exact this.1 e; exact this.2 i e)
    · exact hok _ _ hr (fun k hk e => hd k hk (by rcases e with e | e; exact .inl e; exact .inr (.inl ⟨_, e⟩)))
  · by_cases hji : j = i
    · subst hji
      rw [upd_same, List.pairwise_append]
      exact ⟨h.pi j, List.pairwise_singleton _ _, fun x hx y hy => by rw [List.mem_singleton.1 hy]; exact hapr j x hx⟩
    · rw [upd_other hji]; exact h.pi j
  · rcases hrow j v hv with h1 | ⟨rfl, rfl⟩
    · rcases hrow j' v' hv' with h2 | ⟨rfl, rfl⟩
      · exact h.px j j' hjj v h1 v' h2
      · exact hapr j v h1
    · rcases hrow j' v' hv' with h2 | ⟨h2, _⟩
      · exact (hapr j' v' h2).symm
      · exact absurd h2.symm hjj
  · have hlow : k ≠ b ∧ (∀ j, (V j).ownBlock ≠ some k) ∧ k < w.heap.size := by
      rcases hrow j v hv with h1 | ⟨rfl, rfl⟩
      · exact ⟨(h.away j v h1 k hk).1, (h.away j v h1 k hk).2, by obtain ⟨n, xs, _, ho⟩ := h.ok j v h1; exact ho.lt k hk⟩
      · exact ⟨fun e => hd k hk (.inl e), fun j e => hd k hk (.inr (.inl ⟨j, e⟩)), hrl k hk⟩
    refine ⟨hlow.1, fun j' e => ?_⟩
    rcases hVV j' k e with ⟨j2, h1⟩ | h1
    · exact hlow.2.1 j2 h1
    · have := hlow.2.2; omega
  · rcases hk with h1 | ⟨j, h1⟩ | ⟨j, v, h1, h2⟩
    · exact .inl (.inl h1)
    · rcases hVV j k h1 with h2 | h2
      · exact .inl (.inr (.inl h2))
      · exact .inr (.inr h2)
    · rcases hrow j v h1 with h3 | ⟨_, rfl⟩
      · exact .inl (.inr (.inr ⟨j, v, h3, h2⟩))
      · exact .inr (.inl h2)
end Go.Proofs.Ytdnohhlgaaihmaa
