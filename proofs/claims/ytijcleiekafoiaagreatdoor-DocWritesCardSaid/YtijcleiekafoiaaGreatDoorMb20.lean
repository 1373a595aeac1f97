import Derived.Test.YtijcleiekafoiaaGreatDoorMb18
import Derived.Test.YtijcleiekafoiaaGreatDoorMb19
import Derived.Test.YtijcleiekafoiaaGreatDoorMb16
import Derived.Test.YtijcleiekafoiaaGreatDoorMb17

/- Fields that are told are their owner's. Printed by mkownf.py. -/
namespace Go.Proofs.YtijcleiekafoiaaGreatDoor
open Go.RowKit

theorem tbFF : Tb Tryz.prog 58 25 (.slice none 0 0) 1 24 := ⟨by kernel_rfl, by kernel_rfl, rfl, by decide⟩
/-- The marks of a row of fields. -/
def mF (i : Int) (k : Nat) : List Value := [.string (mkB i k), .int .u8 0, .bool false, .int .i64 0, .string ⟨#[]⟩, .slice none 0 0, .slice none 0 0, .slice none 0 0]
theorem mF_len (i : Int) (k : Nat) : (mF i k).length = 8 := rfl
theorem built8o (w : World) (z a b c d e f h : Value) (T : TypeId) : Sl (w.alloc (.cells #[z, a, b, c, d, e, f, h] T)) 8 (.slice (some ⟨w.heap.size, 0, none⟩) 1 1) 1 [z, a, b, c, d, e, f, h] := by
  refine ⟨rfl, .inr ⟨w.heap.size, 0, 1, rfl, by omega, by simp [maxLen], fun j u hu => ?_⟩⟩
  rw [cell_of_row _ _ _ _ _ (0, 0) (heap_alloc_new w _)]
  simpa using hu
theorem take_set8 {l P : List Value} {k : Nat} {a b c d e f g h' : Value} (h : l.take (k * 8) = P) (hk : k * 8 + 8 ≤ l.length) : ((((((((l.set (k * 8) a).set (k * 8 + 1) b).set (k * 8 + 2) c).set (k * 8 + 3) d).set (k * 8 + 4) e).set (k * 8 + 5) f).set (k * 8 + 6) g).set (k * 8 + 7) h').take ((k + 1) * 8) = P ++ [a, b, c, d, e, f, g, h'] := by
  have e7 : (k + 1) * 8 = k * 8 + 1 + 1 + 1 + 1 + 1 + 1 + 1 + 1 := by omega
  rw [e7]
  iterate 8 rw [List.take_succ_eq_append_getElem (by simp; omega)]
  rw [List.take_set_of_le (by omega), List.take_set_of_le (by omega), List.take_set_of_le (by omega), List.take_set_of_le (by omega), List.take_set_of_le (by omega), List.take_set_of_le (by omega), List.take_set_of_le (by omega), List.take_set_of_le (Nat.le_refl _), h]
  simp

set_option maxRecDepth 100000 in
set_option maxHeartbeats 16000000 in
theorem own_flds (w : World) (A : Option Addr) (c : Nat) (vs : List Value) (ns : Nat → Nat) (C0 : Nat → List Value) (h : Two w 87 8 (.slice A vs.length c) vs ns C0) (hX : ∀ b, (Value.slice A vs.length c).ownBlock = some b → b < w.heap.size) (hvs : vs.length ≤ 1000000) (hns : ∀ j, ns j ≤ 1000000) :
    Calls Tryz.prog 54 #[.slice A vs.length c] w fun e w' => e = .returned (.bool true) ∧ Fr (InRows vs) w w' := by
  have H := Lib.hid h; have HLX := Lib.hid hX; have HNS := Lib.hid hns; clear h hX hns
  go_enter Tryz.func54, Tryz.ntmps54
  go_wp2
  go_loopw [3] (fun s wr => ∃ (i : Nat) (C : Nat → List Value), i ≤ vs.length ∧ s = .int .i64 i ∧ Two wr 87 8 (.slice A vs.length c) vs ns C ∧ Fr (InRows vs) w wr ∧ ∀ j, j < i → C j = mks mF j (ns j)) (fun s _ => vs.length - (intOf s).toNat)
  case atStart => exact ⟨0, C0, Nat.zero_le _, rfl, H.out, Fr.refl _ _, fun j h => by omega⟩
  case round =>
    obtain ⟨i, C, hi, rfl, ht, hf, hm⟩ := hrel
    have HT := Lib.hid ht; have HF := Lib.hid hf; have HM := Lib.hid hm; clear ht hf hm
    by_cases hlt : i < vs.length
    · go_wp2
      go_loopw [4] (fun s wr => ∃ (k : Nat) (C : Nat → List Value), k ≤ ns i ∧ s = .int .i64 k ∧ Two wr 87 8 (.slice A vs.length c) vs ns C ∧ Fr (InRows vs) w wr ∧ (∀ j, j < i → C j = mks mF j (ns j)) ∧ (C i).take (k * 8) = mks mF i k) (fun s _ => 1000000 - (intOf s).toNat)
      case atStart => exact ⟨0, C, Nat.zero_le _, rfl, HT.out, HF.out, HM.out, by simp [mks]⟩
      case round =>
        obtain ⟨k, C, hk, rfl, ht, hf, hm, hmk⟩ := hrel
        have HT := Lib.hid ht; have HF := Lib.hid hf; have HM := Lib.hid hm; have HK := Lib.hid hmk; clear ht hf hm hmk
        have hk9 : ns i ≤ 1000000 := HNS.out i
        obtain ⟨b, o, hA, hcell⟩ := sl_at HT.out.out i hlt
        subst hA
        have hbl := World.block_lt_of_cell? _ _ hcell
        by_cases hkl : k < ns i
        · have hri := HT.out.rows.row i hlt
          obtain ⟨g, c', hv, _, _, hgl, hz, hcs⟩ := hri.cells k hkl
          have hkC : k * 8 + 8 ≤ (C i).length := by rw [hri.1]; omega
          obtain ⟨cv0, hcv0⟩ : ∃ cv, (C i)[k * 8 + 0]? = some cv := ⟨_, List.getElem?_eq_getElem (by omega)⟩
          have hc0 := hcs _ _ hcv0
          obtain ⟨cv1, hcv1⟩ : ∃ cv, (C i)[k * 8 + 1]? = some cv := ⟨_, List.getElem?_eq_getElem (by omega)⟩
          have hc1 := hcs _ _ hcv1
          obtain ⟨cv2, hcv2⟩ : ∃ cv, (C i)[k * 8 + 2]? = some cv := ⟨_, List.getElem?_eq_getElem (by omega)⟩
          have hc2 := hcs _ _ hcv2
          obtain ⟨cv3, hcv3⟩ : ∃ cv, (C i)[k * 8 + 3]? = some cv := ⟨_, List.getElem?_eq_getElem (by omega)⟩
          have hc3 := hcs _ _ hcv3
          obtain ⟨cv4, hcv4⟩ : ∃ cv, (C i)[k * 8 + 4]? = some cv := ⟨_, List.getElem?_eq_getElem (by omega)⟩
          have hc4 := hcs _ _ hcv4
          obtain ⟨cv5, hcv5⟩ : ∃ cv, (C i)[k * 8 + 5]? = some cv := ⟨_, List.getElem?_eq_getElem (by omega)⟩
          have hc5 := hcs _ _ hcv5
          obtain ⟨cv6, hcv6⟩ : ∃ cv, (C i)[k * 8 + 6]? = some cv := ⟨_, List.getElem?_eq_getElem (by omega)⟩
          have hc6 := hcs _ _ hcv6
          obtain ⟨cv7, hcv7⟩ : ∃ cv, (C i)[k * 8 + 7]? = some cv := ⟨_, List.getElem?_eq_getElem (by omega)⟩
          have hc7 := hcs _ _ hcv7
          simp only [Nat.add_zero] at hc0
          rw [hv] at hcell
          have HV := Lib.hid hv; have HRI := Lib.hid hri; have HKC := Lib.hid hkC; clear hv hri hcs hkC hcv0 hcv1 hcv2 hcv3 hcv4 hcv5 hcv6 hcv7
          go_wp2_with fail
          refine wp_region_ord (List.range 11) (fun i => [Kd.p, Kd.p, Kd.p, Kd.l, Kd.p, Kd.p, Kd.p, Kd.g, Kd.g, Kd.p, Kd.e].getD i .e) (by kernel_rfl) (by kernel_rfl) ?_
          iterate 7
            first | refine wpX_pu rfl rfl rfl (by first | exact pu_move rfl | exact pu_assign rfl | exact pu_nilCheck rfl rfl | exact pu_binInt rfl rfl rfl | exact pu_conv rfl rfl (by kernel_rfl) | exact pu_fld rfl (by kernel_rfl) | exact pu_ix rfl rfl rfl (by kernel_rfl) | exact pu_unOp rfl | exact pu_binStr rfl rfl rfl | exact pu_len rfl rfl | exact pu_lens rfl rfl | exact pu_pick rfl | exact pu_slice rfl rfl) (fun K hK => ?_) | refine wpX_rd rfl rfl rfl (rd_load rfl) (fun K hK => ?_) | refine wpX_gr rfl rfl rfl (by first | exact gr_buildSlice rfl | exact gr_box rfl | exact gr_alloc rfl) (fun K hK => ?_) | refine wpX_ex rfl rfl rfl (fun K hK => ?_)
            try go_wp2
          refine wpX_ca rfl rfl rfl (fun K hK => ?_)
          go_wp2_with fail
          refine (mark_pos _ i k (by omega) (by omega)).mono ?_
          rintro e u1 ⟨rfl, f1⟩
          have F10 := Lib.hid f1; have F1 := Lib.hid ((by (repeat first | exact Fr.refl _ _ | exact Fr.drewN _ _ _ | apply Fr.drew | apply Fr.alloc | apply Fr.setAt | apply Fr.moreN) : Fr no wr _).trans f1 (fun _ _ h => h))
          clear f1
          have hc0 := F1.out.cell hc0 (fun h => h); have hc1 := F1.out.cell hc1 (fun h => h); have hc2 := F1.out.cell hc2 (fun h => h); have hc3 := F1.out.cell hc3 (fun h => h); have hc4 := F1.out.cell hc4 (fun h => h); have hc5 := F1.out.cell hc5 (fun h => h); have hc6 := F1.out.cell hc6 (fun h => h); have hc7 := F1.out.cell hc7 (fun h => h)
          have hz1 : ∀ q, u1.frozen? ⟨g, q, none⟩ = false := fun q => (F1.out.frozen (a := ⟨g, q, none⟩) hgl (fun h => h)).trans (hz q)
          have hgl1 := Nat.lt_of_lt_of_le hgl F1.out.size
          go_wp2
          obtain ⟨⟨ea, eb⟩, hext⟩ := F10.out.ext
          refine ⟨⟨ea, eb, hext⟩, hK _ _ ?_⟩
          clear hK K hext ea eb
          refine wpX_ca rfl rfl rfl (fun K hK => ?_)
          go_wp2
          refine ⟨⟨#[], _, (World.ext_self _).symm⟩, hK _ _ ?_⟩
          clear hK K
          first | refine wpX_pu rfl rfl rfl (by first | exact pu_move rfl | exact pu_assign rfl | exact pu_nilCheck rfl rfl | exact pu_binInt rfl rfl rfl | exact pu_conv rfl rfl (by kernel_rfl) | exact pu_fld rfl (by kernel_rfl) | exact pu_ix rfl rfl rfl (by kernel_rfl) | exact pu_unOp rfl | exact pu_binStr rfl rfl rfl | exact pu_len rfl rfl | exact pu_lens rfl rfl | exact pu_pick rfl | exact pu_slice rfl rfl) (fun K hK => ?_) | refine wpX_rd rfl rfl rfl (rd_load rfl) (fun K hK => ?_) | refine wpX_gr rfl rfl rfl (by first | exact gr_buildSlice rfl | exact gr_box rfl | exact gr_alloc rfl) (fun K hK => ?_) | refine wpX_ex rfl rfl rfl (fun K hK => ?_)
          try go_wp2
          refine wpX_ex rfl rfl rfl (fun K hK => ?_)
          go_simp
          refine hK _ _ ?_
          clear hK K
          refine wpX_done ?_
          go_wp2
          go_roundw
          case rel =>
            have hT := HT.out.kept F1.out (fun _ _ h => h) (fun _ _ h => h)
            have hin : InRows vs g := ⟨vs[i], List.getElem_mem _, by rw [HV.out]; rfl⟩
            have hro0 := hT.rows.row i hlt
            rw [HV.out] at hro0
            have hCl := HKC.out
            have hro1 := hro0.set (j := k * 8) (by (try simp only [List.length_set]); omega) (.string (mkB (i : Int) k))
            have hro2 := hro1.set (j := k * 8 + 1) (by (try simp only [List.length_set]); omega) (.int .u8 0)
            have hro3 := hro2.set (j := k * 8 + 2) (by (try simp only [List.length_set]); omega) (.bool false)
            have hro4 := hro3.set (j := k * 8 + 3) (by (try simp only [List.length_set]); omega) (.int .i64 0)
            have hro5 := hro4.set (j := k * 8 + 4) (by (try simp only [List.length_set]); omega) (.string ⟨#[]⟩)
            have hro6 := hro5.set (j := k * 8 + 5) (by (try simp only [List.length_set]); omega) (.slice none 0 0)
            have hro7 := hro6.set (j := k * 8 + 6) (by (try simp only [List.length_set]); omega) (.slice none 0 0)
            have hro8 := hro7.set (j := k * 8 + 7) (by (try simp only [List.length_set]); omega) (.slice none 0 0)
            have hfs := (((((((((Fr.refl (fun x => x = g) u1).setCell ⟨g, k * 8, none⟩ (.string (mkB (i : Int) k)) (fun _ => rfl)).setCell ⟨g, k * 8 + 1, none⟩ (.int .u8 0) (fun _ => rfl)).setCell ⟨g, k * 8 + 2, none⟩ (.bool false) (fun _ => rfl)).setCell ⟨g, k * 8 + 3, none⟩ (.int .i64 0) (fun _ => rfl)).setCell ⟨g, k * 8 + 4, none⟩ (.string ⟨#[]⟩) (fun _ => rfl)).setCell ⟨g, k * 8 + 5, none⟩ (.slice none 0 0) (fun _ => rfl)).setCell ⟨g, k * 8 + 6, none⟩ (.slice none 0 0) (fun _ => rfl)).setCell ⟨g, k * 8 + 7, none⟩ (.slice none 0 0) (fun _ => rfl))
            have hTs : Two ((((((((u1.setCell ⟨g, k * 8, none⟩ (.string (mkB (i : Int) k))).setCell ⟨g, k * 8 + 1, none⟩ (.int .u8 0)).setCell ⟨g, k * 8 + 2, none⟩ (.bool false)).setCell ⟨g, k * 8 + 3, none⟩ (.int .i64 0)).setCell ⟨g, k * 8 + 4, none⟩ (.string ⟨#[]⟩)).setCell ⟨g, k * 8 + 5, none⟩ (.slice none 0 0)).setCell ⟨g, k * 8 + 6, none⟩ (.slice none 0 0)).setCell ⟨g, k * 8 + 7, none⟩ (.slice none 0 0)) 87 8 (.slice (some ⟨b, o, none⟩) vs.length c) vs ns (fun j => if j = i then _ else C j) := ⟨hT.out.kept hfs (fun b' hb' e => hT.away b' hb' (by subst e; exact hin)), hT.away, hT.rows.one i hlt (hfs.mono (fun x _ e => by subst e; rw [HV.out]; rfl)) _ (by rw [HV.out]; exact hro8)⟩
            refine ⟨k + 1, _, hkl, by go_num, hTs, (HF.out.trans F1.out (fun _ _ h => h.elim)).trans hfs (fun x _ e => by subst e; exact hin), fun j hj => ?_, ?_⟩
            · simp only [show ¬ j = i by omega, if_false]
              exact HM.out j hj
            · simp only [if_true]
              rw [take_set8 HK.out HKC.out, mks_succ]
              rfl
          case measure => simp [intOf]; omega
        · have hkk : k = ns i := by omega
          subst hkk
          obtain ⟨Ai, ci, hv, _, _⟩ := (HT.out.rows.row i hlt).form
          rw [hv] at hcell
          have HV := Lib.hid hv; clear hv
          go_wp2
          go_roundw
          case rel =>
            refine ⟨i + 1, C, hlt, by go_num, HT.out, HF.out, fun j hji => ?_⟩
            by_cases h : j = i
            · subst h
              have h2 := HK.out
              rw [List.take_of_length_le (by rw [(HT.out.rows.row j hlt).1]; omega)] at h2
              exact h2
            · exact HM.out j (by omega)
          case measure => simp [intOf]; omega
    · obtain rfl : i = vs.length := by omega
      clear hlt hi
      have HT1 := Lib.hid (show Two wr 87 8 (.slice A vs.length c) vs ns (fun j => mks mF j (ns j)) from ⟨HT.out.out, HT.out.away, HT.out.rows.congr HM.out⟩)
      clear HT HM
      obtain ⟨w1, rfl⟩ : ∃ w1 : World, w1 = wr := ⟨_, rfl⟩
      go_wp2
      go_loopw [5, 6] (fun L s wr => ∃ (lvs : List Value), s = .int .i64 lvs.length ∧ Ph2 w1 wr 87 25 8 mF 4 (.slice A vs.length c) L vs lvs ns) (fun _ s _ => vs.length - (intOf s).toNat)
      case atStart => exact ⟨[], rfl, HT1.out, ⟨rfl, .inl ⟨rfl, rfl⟩⟩, Nat.zero_le _, fun j h => by simp at h, fun j h => by simp at h, fun b h => by simp [Value.ownBlock] at h, Fr.refl _ _, fun b hb => Nat.lt_of_lt_of_le (HLX.out b hb) HF.out.size, HT1.out.rows.lt⟩
      case round =>
        obtain ⟨lvs, rfl, hp⟩ := hrel
        have hmany := hp.many
        have HP := Lib.hid hp; clear hp
        by_cases hlt : lvs.length < vs.length
        · obtain ⟨b, o, hA, hcell⟩ := sl_at HP.out.two.out lvs.length hlt
          subst hA
          have HS := Lib.hid (Ph3.start HP.out hlt)
          go_wp2
          go_loopw [7, 8] (fun x s wr => ∃ k : Nat, k ≤ 4 ∧ s = .int .i64 k ∧ Ph3 w1 wr 87 25 8 mF 4 (.slice (some ⟨b, o, none⟩) vs.length c) u5 x vs lvs ns k) (fun _ s _ => 4 - (intOf s).toNat)
          case atStart => exact ⟨0, Nat.zero_le _, rfl, HS.out⟩
          case round =>
            obtain ⟨k, hk, rfl, hp⟩ := hrel
            have HP0 := Lib.hid hp; clear hp
            have hn9 := HNS.out lvs.length
            by_cases hk16 : k < 4
            · go_wp2_with fail
              refine (mark_neg _ lvs.length k (by omega) (by omega)).mono ?_
              rintro e u1 ⟨rfl, f1⟩
              have HP := Lib.hid (HP0.out.kept0 ((by (repeat first | exact Fr.refl _ _ | exact Fr.drewN _ _ _ | apply Fr.drew | apply Fr.alloc | apply Fr.setAt | apply Fr.moreN) : Fr no wr _).trans f1 (fun _ _ h => h)))
              clear f1
              go_wp2_with (at_builtin; refine wpList_apo (news := mF (-1 - lvs.length) k) rfl (.tmp 52) (.tmp 58) 25 rfl tbF (HP.out.kept0 ((Fr.refl no _).alloc _)).row (built8o u1 _ _ _ _ _ _ _ _ _) rfl rfl (by intro u hu; simp only [mF, List.mem_cons, List.not_mem_nil, or_false] at hu; rcases hu with rfl | rfl | rfl | rfl | rfl | rfl | rfl | rfl <;> rfl) ?b1 ?b2 ?go)
              case b1 => simp only [maxLen]; omega
              case b2 => omega
              case go =>
                intro A' N c' w2 hN ho hold hf2 hst
                subst hN
                have HPP := Lib.hid (Ph3.more mF_len (HP.out.kept0 ((Fr.refl no _).alloc _)) (by rw [← List.append_assoc] at ho; exact ho) hold hf2 hst)
                clear ho hold hf2 hst
                go_wp2
                go_roundw
                case rel => exact ⟨k + 1, by omega, by go_num, HPP.out⟩
                case measure => simp [intOf]; omega
            · obtain rfl : k = 4 := by omega
              have HP := HP0
              obtain ⟨Ax, cx, hx, _, _⟩ := HP.out.row.form
              subst hx
              go_wp2_with (at_builtin; refine wpList_apo rfl (.tmp 60) (.tmp 62) 58 rfl tbFF (HP.out.kept0 ((Fr.refl no _).alloc _)).ph2.long (Sl.built wr _ _) rfl rfl ?b0 ?b1 ?b2 ?go)
              case b0 => simp [Value.oneCell']
              case b1 => simp only [maxLen]; omega
              case b2 => omega
              case go =>
                intro A' N c' w2 hN ho hold hf2 hst
                subst hN
                have HPP := Lib.hid (Ph3.laid (HP.out.kept0 ((Fr.refl no _).alloc _)) ho hf2 hst)
                clear ho hold hf2 hst
                go_wp2
                go_roundw
                case rel => exact ⟨lvs ++ [_], by simp, HPP.out⟩
                case measure => simp [intOf]; omega
        · have hle : lvs.length = vs.length := by omega
          have hrow := fun j (hj : j < vs.length) => Ph2.at mF_len HP.out j hj (by omega)
          have HR := Lib.hid hrow; clear hrow
          obtain ⟨AL, cL, hL, _, _⟩ := HP.out.long.form
          subst hL
          have HLL := Lib.hid HP.out.long.sl
          have hle1 : lvs.length ≤ vs.length := by omega
          have hle2 : vs.length ≤ lvs.length := by omega
          clear hle
          obtain ⟨wz, rfl⟩ : ∃ wz : World, wz = wr := ⟨_, rfl⟩
          go_wp2
          go_loopw [9] (fun s w3 => ∃ i : Nat, i ≤ vs.length ∧ s = .int .i64 i ∧ Fr no wz w3) (fun s _ => vs.length - (intOf s).toNat)
          case atStart => exact ⟨0, Nat.zero_le _, rfl, Fr.refl _ _⟩
          case round =>
            obtain ⟨w3, rfl⟩ : ∃ w3 : World, w3 = wr := ⟨_, rfl⟩
            obtain ⟨i, hi, rfl, hg3⟩ := hrel
            have G3 := Lib.hid hg3; clear hg3
            by_cases hlt2 : i < vs.length
            · obtain ⟨b, o, hA, hcell0⟩ := sl_at HP.out.two.out i hlt2
              obtain ⟨b2, o2, hA2, hcell20⟩ := sl_at HLL.out i (by omega)
              subst hA; subst hA2
              obtain ⟨Ai, ci, hv, hci, _⟩ := (HP.out.two.rows.row i hlt2).form
              rw [hv] at hcell0
              have HV := Lib.hid hv; have HC0 := Lib.hid hcell0; have HC20 := Lib.hid hcell20
              have hn9 := HNS.out i
              have hcell := G3.out.cell hcell0 (fun h => h)
              clear hv hcell0 hcell20
              go_wp2
              clear hcell
              go_loopw [11] (fun s w4 => ∃ k : Nat, k ≤ ns i ∧ s = .int .i64 k ∧ Fr no wz w4) (fun s _ => ns i - (intOf s).toNat)
              case atStart => exact ⟨0, Nat.zero_le _, rfl, G3.out⟩
              case round =>
                obtain ⟨w4, rfl⟩ : ∃ w4 : World, w4 = wr := ⟨_, rfl⟩
                obtain ⟨k, hk, rfl, hg4⟩ := hrel
                have G4 := Lib.hid hg4; clear hg4
                have hcell := G4.out.cell HC0.out (fun h => h)
                have hcell2 := G4.out.cell HC20.out (fun h => h)
                by_cases hkl : k < ns i
                · obtain ⟨g, c1, N1, e1, _, _, q1⟩ := (HR.out i hlt2).1 (by omega)
                  obtain ⟨g2, c2, N2, e2, _, _, q2⟩ := (HR.out i hlt2).2.1 (by omega)
                  replace q1 := G4.out.cell (q1 k hkl 0 _ rfl) (fun h => h)
                  replace q2 := G4.out.cell (q2 k hkl 0 _ rfl) (fun h => h)
                  simp only [Nat.zero_add, Nat.add_zero] at q1 q2
                  have hgb1 := World.block_lt_of_cell? _ _ q1
                  have hgb2 := World.block_lt_of_cell? _ _ q2
                  have gs := mkB_same i k
                  rw [HV.out] at e1
                  rw [e2] at hcell2
                  have HV2 := Lib.hid e2; clear e2
                  cases e1
                  go_wp2_with fail
                  refine wp_region_ord (List.range 26) (fun i => [Kd.p, Kd.p, Kd.p, Kd.l, Kd.p, Kd.p, Kd.p, Kd.l, Kd.p, Kd.p, Kd.g, Kd.p, Kd.p, Kd.p, Kd.p, Kd.p, Kd.l, Kd.p, Kd.p, Kd.p, Kd.l, Kd.p, Kd.p, Kd.g, Kd.p, Kd.p].getD i .e) (by kernel_rfl) (by kernel_rfl) ?_
                  iterate 10
                    first | (refine wpX_un rfl rfl ?_; go_simp) | first | refine wpX_pu rfl rfl rfl (by first | exact pu_move rfl | exact pu_assign rfl | exact pu_nilCheck rfl rfl | exact pu_binInt rfl rfl rfl | exact pu_conv rfl rfl (by kernel_rfl) | exact pu_fld rfl (by kernel_rfl) | exact pu_ix rfl rfl rfl (by kernel_rfl) | exact pu_unOp rfl | exact pu_binStr rfl rfl rfl | exact pu_len rfl rfl | exact pu_lens rfl rfl | exact pu_pick rfl | exact pu_slice rfl rfl) (fun K hK => ?_) | refine wpX_rd rfl rfl rfl (rd_load rfl) (fun K hK => ?_) | refine wpX_gr rfl rfl rfl (by first | exact gr_buildSlice rfl | exact gr_box rfl | exact gr_alloc rfl) (fun K hK => ?_) | refine wpX_ex rfl rfl rfl (fun K hK => ?_)
                    try go_wp2
                  refine wpX_ca rfl rfl rfl (fun K hK => ?_)
                  go_wp2_with fail
                  refine (mark_pos _ i k (by omega) (by omega)).mono ?_
                  rintro e u1 ⟨rfl, f1⟩
                  have F10 := Lib.hid f1; have F1 := Lib.hid ((by (repeat first | exact Fr.refl _ _ | exact Fr.drewN _ _ _ | apply Fr.drew | apply Fr.alloc | apply Fr.setAt | apply Fr.moreN) : Fr no w4 _).trans f1 (fun _ _ h => h))
                  clear f1
                  have hcell := F1.out.cell hcell (fun h => h); have hcell2 := F1.out.cell hcell2 (fun h => h); have q1 := F1.out.cell q1 (fun h => h); have q2 := F1.out.cell q2 (fun h => h)
                  have hgb1 := World.block_lt_of_cell? _ _ q1
                  have hgb2 := World.block_lt_of_cell? _ _ q2
                  go_wp2
                  obtain ⟨⟨ea, eb⟩, hext⟩ := F10.out.ext
                  refine ⟨⟨ea, eb, hext⟩, hK _ _ ?_⟩
                  clear hK K hext ea eb
                  iterate 12
                    first | (refine wpX_un rfl rfl ?_; go_simp) | first | refine wpX_pu rfl rfl rfl (by first | exact pu_move rfl | exact pu_assign rfl | exact pu_nilCheck rfl rfl | exact pu_binInt rfl rfl rfl | exact pu_conv rfl rfl (by kernel_rfl) | exact pu_fld rfl (by kernel_rfl) | exact pu_ix rfl rfl rfl (by kernel_rfl) | exact pu_unOp rfl | exact pu_binStr rfl rfl rfl | exact pu_len rfl rfl | exact pu_lens rfl rfl | exact pu_pick rfl | exact pu_slice rfl rfl) (fun K hK => ?_) | refine wpX_rd rfl rfl rfl (rd_load rfl) (fun K hK => ?_) | refine wpX_gr rfl rfl rfl (by first | exact gr_buildSlice rfl | exact gr_box rfl | exact gr_alloc rfl) (fun K hK => ?_) | refine wpX_ex rfl rfl rfl (fun K hK => ?_)
                    try go_wp2
                  refine wpX_ca rfl rfl rfl (fun K hK => ?_)
                  go_wp2_with fail
                  refine (mark_pos _ i k (by omega) (by omega)).mono ?_
                  rintro e u2 ⟨rfl, f1⟩
                  have F20 := Lib.hid f1; have F2 := Lib.hid (F1.out.trans ((by (repeat first | exact Fr.refl _ _ | exact Fr.drewN _ _ _ | apply Fr.drew | apply Fr.alloc | apply Fr.setAt | apply Fr.moreN) : Fr no u1 _).trans f1 (fun _ _ h => h)) (fun _ _ h => h))
                  clear f1
                  go_wp2
                  obtain ⟨⟨ea, eb⟩, hext⟩ := F20.out.ext
                  refine ⟨⟨ea, eb, hext⟩, hK _ _ ?_⟩
                  clear hK K hext ea eb
                  iterate 2
                    first | (refine wpX_un rfl rfl ?_; go_simp) | first | refine wpX_pu rfl rfl rfl (by first | exact pu_move rfl | exact pu_assign rfl | exact pu_nilCheck rfl rfl | exact pu_binInt rfl rfl rfl | exact pu_conv rfl rfl (by kernel_rfl) | exact pu_fld rfl (by kernel_rfl) | exact pu_ix rfl rfl rfl (by kernel_rfl) | exact pu_unOp rfl | exact pu_binStr rfl rfl rfl | exact pu_len rfl rfl | exact pu_lens rfl rfl | exact pu_pick rfl | exact pu_slice rfl rfl) (fun K hK => ?_) | refine wpX_rd rfl rfl rfl (rd_load rfl) (fun K hK => ?_) | refine wpX_gr rfl rfl rfl (by first | exact gr_buildSlice rfl | exact gr_box rfl | exact gr_alloc rfl) (fun K hK => ?_) | refine wpX_ex rfl rfl rfl (fun K hK => ?_)
                    try go_wp2
                  refine wpX_done ?_
                  clear hcell hcell2 q1 q2 hgb1 hgb2
                  go_wp2
                  go_roundw
                  case rel => exact ⟨k + 1, hkl, by go_num, G4.out.trans F2.out (fun _ _ h => h)⟩
                  case measure => simp [intOf]; omega
                · obtain rfl : k = ns i := by omega
                  clear hcell hcell2
                  go_wp2
                  go_loopw [12] (fun s w5 => ∃ k : Nat, k ≤ 4 ∧ s = .int .i64 k ∧ Fr no wz w5) (fun s _ => 4 - (intOf s).toNat)
                  case atStart => exact ⟨0, Nat.zero_le _, rfl, G4.out⟩
                  case round =>
                    obtain ⟨w5, rfl⟩ : ∃ w5 : World, w5 = wr := ⟨_, rfl⟩
                    obtain ⟨k, hk, rfl, hg5⟩ := hrel
                    have G5 := Lib.hid hg5; clear hg5
                    by_cases hkl : k < 4
                    · have hcell2 := G5.out.cell HC20.out (fun h => h)
                      obtain ⟨g2, c2, N2, e2, _, _, q2⟩ := (HR.out i hlt2).2.2 (by omega)
                      replace q2 := G5.out.cell (q2 k hkl 0 _ rfl) (fun h => h)
                      simp only [Nat.add_zero] at q2
                      have hgb2 := World.block_lt_of_cell? _ _ q2
                      have gs := mkB_same (-1 - (i : Int)) k
                      rw [e2] at hcell2
                      have HV2 := Lib.hid e2; clear e2
                      go_wp2_with fail
                      refine wp_region_ord (List.range 15) (fun i => [Kd.p, Kd.p, Kd.p, Kd.l, Kd.p, Kd.p, Kd.p, Kd.p, Kd.p, Kd.l, Kd.p, Kd.p, Kd.p, Kd.g, Kd.p].getD i .e) (by kernel_rfl) (by kernel_rfl) ?_
                      iterate 13
                        first | (refine wpX_un rfl rfl ?_; go_simp) | first | refine wpX_pu rfl rfl rfl (by first | exact pu_move rfl | exact pu_assign rfl | exact pu_nilCheck rfl rfl | exact pu_binInt rfl rfl rfl | exact pu_conv rfl rfl (by kernel_rfl) | exact pu_fld rfl (by kernel_rfl) | exact pu_ix rfl rfl rfl (by kernel_rfl) | exact pu_unOp rfl | exact pu_binStr rfl rfl rfl | exact pu_len rfl rfl | exact pu_lens rfl rfl | exact pu_pick rfl | exact pu_slice rfl rfl) (fun K hK => ?_) | refine wpX_rd rfl rfl rfl (rd_load rfl) (fun K hK => ?_) | refine wpX_gr rfl rfl rfl (by first | exact gr_buildSlice rfl | exact gr_box rfl | exact gr_alloc rfl) (fun K hK => ?_) | refine wpX_ex rfl rfl rfl (fun K hK => ?_)
                        try go_wp2
                      refine wpX_ca rfl rfl rfl (fun K hK => ?_)
                      go_wp2_with fail
                      refine (mark_neg _ i k (by omega) (by omega)).mono ?_
                      rintro e u1 ⟨rfl, f1⟩
                      have F10 := Lib.hid f1; have F1 := Lib.hid ((by (repeat first | exact Fr.refl _ _ | exact Fr.drewN _ _ _ | apply Fr.drew | apply Fr.alloc | apply Fr.setAt | apply Fr.moreN) : Fr no w5 _).trans f1 (fun _ _ h => h))
                      clear f1
                      go_wp2
                      obtain ⟨⟨ea, eb⟩, hext⟩ := F10.out.ext
                      refine ⟨⟨ea, eb, hext⟩, hK _ _ ?_⟩
                      clear hK K hext ea eb
                      first | (refine wpX_un rfl rfl ?_; go_simp) | first | refine wpX_pu rfl rfl rfl (by first | exact pu_move rfl | exact pu_assign rfl | exact pu_nilCheck rfl rfl | exact pu_binInt rfl rfl rfl | exact pu_conv rfl rfl (by kernel_rfl) | exact pu_fld rfl (by kernel_rfl) | exact pu_ix rfl rfl rfl (by kernel_rfl) | exact pu_unOp rfl | exact pu_binStr rfl rfl rfl | exact pu_len rfl rfl | exact pu_lens rfl rfl | exact pu_pick rfl | exact pu_slice rfl rfl) (fun K hK => ?_) | refine wpX_rd rfl rfl rfl (rd_load rfl) (fun K hK => ?_) | refine wpX_gr rfl rfl rfl (by first | exact gr_buildSlice rfl | exact gr_box rfl | exact gr_alloc rfl) (fun K hK => ?_) | refine wpX_ex rfl rfl rfl (fun K hK => ?_)
                      try go_wp2
                      refine wpX_done ?_
                      clear hcell2 q2 hgb2
                      go_wp2
                      go_roundw
                      case rel => exact ⟨k + 1, hkl, by go_num, G5.out.trans F1.out (fun _ _ h => h)⟩
                      case measure => simp [intOf]; omega
                    · go_wp2
                      go_roundw
                      case rel => exact ⟨i + 1, hlt2, by go_num, G5.out⟩
                      case measure => simp [intOf]; omega
            · go_wp2
              go_ret
              exact ⟨rfl, (HF.out.trans HP.out.fr (fun _ _ h => h)).trans G3.out (fun _ _ h => h.elim)⟩
end Go.Proofs.YtijcleiekafoiaaGreatDoor

/- The book of bytes, values and fields. Printed by mkbookv.py. -/
namespace Go.Proofs.YtijcleiekafoiaaGreatDoor
open Go.RowKit

/-- The type of a list's elements. -/
def eT (i : Nat) : TypeId := if i = 0 then 23 else if i = 18 then 24 else 25
/-- What a row of a list is of, its size, how long it may be. -/
def rT (i : Nat) : TypeId := if i = 0 then 5 else if i = 18 then 27 else 87
def rS (i : Nat) : Nat := if i = 0 then 1 else if i = 18 then 7 else 8
def rL (i : Nat) : Nat := if i = 0 then 140737488351232 else 1000000
def kept4 (i : Nat) : Prop := i = 0 ∨ i = 18 ∨ i = 19
instance (i : Nat) : Decidable (kept4 i) := by unfold kept4; infer_instance

def cells23 (V : Nat → Value) : Array Value := ((List.range 23).map V).toArray
def upd {α : Type} (V : Nat → α) (i : Nat) (v : α) : Nat → α := fun j => if j = i then v else V j
theorem upd_same {α : Type} (V : Nat → α) (i : Nat) (v : α) : upd V i v i = v := by simp [upd]
theorem upd_other {α : Type} {V : Nat → α} {i j : Nat} {v : α} (h : j ≠ i) : upd V i v j = V j := by simp [upd, h]
theorem cells23_set (V : Nat → Value) (i : Nat) (_ : i < 23) (v : Value) : (cells23 V).setIfInBounds i v = cells23 (upd V i v) := by
  unfold cells23
  rw [List.setIfInBounds_toArray]
  congr 1
  apply List.ext_getElem
  · simp
  · intro j h1 h2
    rw [List.getElem_set]
    simp only [List.getElem_map, List.getElem_range, upd]
    by_cases h : i = j
    · subst h; simp
    · simp [h, Ne.symm h]

structure Bq (w : World) (b : Nat) (V : Nat → Value) (R : Nat → List Value) : Prop where
  at_ : w.heap[b]? = some (.cells (cells23 V) 63 (0, 0))
  row : ∀ i, kept4 i → Ow w (eT i) 1 (V i) (R i).length (R i)
  none_ : ∀ i, ¬ kept4 i → V i = .slice none 0 0 ∧ R i = []
  ne : ∀ i, (V i).ownBlock ≠ some b
  dj : ∀ i j, i ≠ j → ∀ k, (V i).ownBlock = some k → (V j).ownBlock ≠ some k
theorem Bq.cell {w : World} {b : Nat} {V : Nat → Value} {R : Nat → List Value} (h : Bq w b V R) (i : Nat) (hi : i < 23) : w.cell? ⟨b, i, none⟩ = some (V i) := by
  simp [World.cell?, h.at_, cells23, hi]
theorem Bq.frozen {w : World} {b : Nat} {V : Nat → Value} {R : Nat → List Value} (h : Bq w b V R) (i : Nat) : w.frozen? ⟨b, i, none⟩ = false := by
  simp [World.frozen?, h.at_]
theorem Bq.lt {w : World} {b : Nat} {V : Nat → Value} {R : Nat → List Value} (h : Bq w b V R) : b < w.heap.size := (Array.getElem?_eq_some_iff.1 h.at_).1
theorem Bq.kept {w w1 : World} {b : Nat} {V : Nat → Value} {R : Nat → List Value} {S : Nat → Prop} (h : Bq w b V R) (f : Fr S w w1) (h1 : ¬ S b) (h2 : ∀ i k, (V i).ownBlock = some k → ¬ S k) : Bq w1 b V R :=
  ⟨f.heap h.at_ h1, fun i hi => (h.row i hi).kept f (fun k hk => h2 i k hk), h.none_, h.ne, h.dj⟩
theorem Bq.put {w w2 : World} {b : Nat} {V : Nat → Value} {R : Nat → List Value} {i N : Nat} {r v' : Value} (h : Bq w b V R) (hk : kept4 i) (f : Fr (fun k => (V i).ownBlock = some k) w w2) (hN : N = (R i).length + 1)
    (ho : Ow w2 (eT i) 1 v' N (R i ++ [r])) (st : Stays w w2 (V i) v' (R i).length N) :
    Bq (w2.setCell ⟨b, i, none⟩ v') b (upd V i v') (upd R i (R i ++ [r])) ∧ Fr (fun k => k = b ∨ (V i).ownBlock = some k) w (w2.setCell ⟨b, i, none⟩ v') ∧ (∀ k, v'.ownBlock = some k → (V i).ownBlock = some k ∨ (w.heap.size ≤ k ∧ k < w2.heap.size)) := by
  have hi : i < 23 := by rcases hk with h | h | h <;> omega
  have hnb : ¬ (V i).ownBlock = some b := h.ne i
  have mv : ∀ k, v'.ownBlock = some k → (V i).ownBlock = some k ∨ (w.heap.size ≤ k ∧ k < w2.heap.size) := fun k hk => by
    rcases st with ⟨A, c, h1, h2⟩ | st
    · left; rw [h1]; rw [h2] at hk; cases A <;> exact hk
    · exact .inr (st k hk)
  have hbl := h.lt
  have hv'b : v'.ownBlock ≠ some b := fun e => by rcases mv b e with h1 | h1; exact hnb h1; omega
  have f1 : Fr (fun k => k = b) w2 (w2.setCell ⟨b, i, none⟩ v') := Fr.setCell (Fr.refl (fun k => k = b) w2) ⟨b, i, none⟩ v' (fun _ => rfl)
  have hlt : ∀ j k, (V j).ownBlock = some k → k < w.heap.size := fun j k hk => by
    by_cases hj : kept4 j
    · exact (h.row j hj).lt k hk
    · rw [(h.none_ j hj).1] at hk; simp [Value.ownBlock] at hk
  refine ⟨⟨?_, fun j hj => ?_, fun j hj => ?_, fun j => ?_, fun j j' hjj k e => ?_⟩, (f.mono (fun _ _ e => .inr e)).trans f1 (fun _ _ e => .inl e), mv⟩
  · rw [← cells23_set V i hi]; exact hp_same (f.heap h.at_ hnb) i v'
  · by_cases hji : j = i
    · subst hji
      rw [upd_same, upd_same, List.length_append]
      rw [hN] at ho
      exact ho.kept f1 (fun k hk e => hv'b (by rw [← e]; exact hk))
    · rw [upd_other hji, upd_other hji]
      exact ((h.row j hj).kept f (fun k hk e => h.dj j i hji k hk e)).kept f1 (fun k hk e => h.ne j (by rw [← e]; exact hk))
  · have hji : j ≠ i := fun e => hj (by rw [e]; exact hk)
    rw [upd_other hji, upd_other hji]; exact h.none_ j hj
  · by_cases hji : j = i
    · subst hji; rw [upd_same]; exact hv'b
    · rw [upd_other hji]; exact h.ne j
  · by_cases hji : j = i
    · subst hji
      rw [upd_same] at e
      rw [upd_other (Ne.symm hjj)]
      rcases mv k e with h1 | h1
      · exact h.dj j j' hjj k h1
      · intro e2; have := hlt j' k e2; omega
    · rw [upd_other hji] at e
      by_cases hji' : j' = i
      · subst hji'
        rw [upd_same]
        intro e2
        rcases mv k e2 with h1 | h1
        · exact h.dj j j' hjj k e h1
        · have := hlt j k e; omega
      · rw [upd_other hji']; exact h.dj j j' hjj k e

def Apart (x y : Value) : Prop := ∀ k, x.ownBlock = some k → y.ownBlock ≠ some k
theorem Apart.symm {x y : Value} (h : Apart x y) : Apart y x := fun k h1 h2 => h k h2 h1
def RowOk (w : World) (i : Nat) (v : Value) : Prop := ∃ n xs, n ≤ rL i ∧ Ow w (rT i) (rS i) v n xs
/-- The blocks of a book and of what it has. -/
def BcF (b : Nat) (V : Nat → Value) (R : Nat → List Value) : Nat → Prop := fun k => k = b ∨ (∃ i, (V i).ownBlock = some k) ∨ ∃ i, InRows (R i) k

/-- A book and what it has: rows of their own, apart. -/
structure Bc (w : World) (b : Nat) (V : Nat → Value) (R : Nat → List Value) : Prop where
  bq : Bq w b V R
  ok : ∀ i, ∀ v ∈ R i, RowOk w i v
  pi : ∀ i, (R i).Pairwise Apart
  px : ∀ i j, i ≠ j → ∀ v ∈ R i, ∀ v' ∈ R j, Apart v v'
  away : ∀ i, ∀ v ∈ R i, ∀ k, v.ownBlock = some k → k ≠ b ∧ ∀ j, (V j).ownBlock ≠ some k
theorem Bc.lt {w : World} {b : Nat} {V : Nat → Value} {R : Nat → List Value} (h : Bc w b V R) : ∀ k, BcF b V R k → k < w.heap.size := by
  rintro k (rfl | ⟨i, hk⟩ | ⟨i, v, hv, hk⟩)
  · exact h.bq.lt
  · by_cases hj : kept4 i
    · exact (h.bq.row i hj).lt k hk
    · rw [(h.bq.none_ i hj).1] at hk; simp [Value.ownBlock] at hk
  · obtain ⟨n, xs, _, ho⟩ := h.ok i v hv
    exact ho.lt k hk
theorem Bc.kept {w w1 : World} {b : Nat} {V : Nat → Value} {R : Nat → List Value} {S : Nat → Prop} (h : Bc w b V R) (f : Fr S w w1) (hn : ∀ k, BcF b V R k → ¬ S k) : Bc w1 b V R :=
  ⟨h.bq.kept f (hn b (.inl rfl)) (fun i k hk => hn k (.inr (.inl ⟨i, hk⟩))), fun i v hv => by
    obtain ⟨n, xs, h1, h2⟩ := h.ok i v hv
    exact ⟨n, xs, h1, h2.kept f (fun k hk => hn k (.inr (.inr ⟨i, v, hv, hk⟩)))⟩, h.pi, h.px, h.away⟩
theorem Bc.kept0 {w w1 : World} {b : Nat} {V : Nat → Value} {R : Nat → List Value} (h : Bc w b V R) (f : Fr no w w1) : Bc w1 b V R := h.kept f (fun _ _ h => h)

/-- One row more in a list. -/
theorem Bc.add {w w1 : World} {b i : Nat} {V : Nat → Value} {R : Nat → List Value} {r v' : Value} (h : Bc w b V R) (hq : Bq w1 b (upd V i v') (upd R i (R i ++ [r]))) (f : Fr (fun k => k = b ∨ (V i).ownBlock = some k) w w1)
    (mv : ∀ k, v'.ownBlock = some k → (V i).ownBlock = some k ∨ w.heap.size ≤ k) (hr : RowOk w i r) (hd : ∀ k, r.ownBlock = some k → ¬ BcF b V R k) :
    Bc w1 b (upd V i v') (upd R i (R i ++ [r])) ∧ ∀ k, BcF b (upd V i v') (upd R i (R i ++ [r])) k → BcF b V R k ∨ r.ownBlock = some k ∨ w.heap.size ≤ k := by
  have hrow : ∀ j v, v ∈ upd R i (R i ++ [r]) j → v ∈ R j ∨ (j = i ∧ v = r) := fun j v hv => by
    by_cases hji : j = i
    · subst hji
      rw [upd_same] at hv
      rcases List.mem_append.1 hv with h1 | h1
      · exact .inl h1
      · exact .inr ⟨rfl, List.mem_singleton.1 h1⟩
    · rw [upd_other hji] at hv; exact .inl hv
  have hrl : ∀ k, r.ownBlock = some k → k < w.heap.size := fun k hk => by obtain ⟨n, xs, _, ho⟩ := hr; exact ho.lt k hk
  have hapr : ∀ j v, v ∈ R j → Apart v r := fun j v hv k h1 h2 => hd k h2 (.inr (.inr ⟨j, v, hv, h1⟩))
  have hok : ∀ j v, RowOk w j v → (∀ k, v.ownBlock = some k → ¬ (k = b ∨ (V i).ownBlock = some k)) → RowOk w1 j v := fun j v ⟨n, xs, h1, h2⟩ hn => ⟨n, xs, h1, h2.kept f hn⟩
  have hVV : ∀ j k, (upd V i v' j).ownBlock = some k → (∃ j, (V j).ownBlock = some k) ∨ w.heap.size ≤ k := fun j k hk => by
    by_cases hji : j = i
    · subst hji; rw [upd_same] at hk
      rcases mv k hk with h1 | h1
      · exact .inl ⟨_, h1⟩
      · exact .inr h1
    · rw [upd_other hji] at hk; exact .inl ⟨j, hk⟩
  refine ⟨⟨hq, fun j v hv => ?_, fun j => ?_, fun j j' hjj v hv v' hv' => ?_, fun j v hv k hk => ?_⟩, fun k hk => ?_⟩
  · rcases hrow j v hv with h1 | ⟨rfl, rfl⟩
    · exact hok j v (h.ok j v h1) (fun k hk e => by have := h.away j v h1 k hk; rcases e with e | e; exact this.1 e; exact this.2 i e)
    · exact hok _ _ hr (fun k hk e => hd k hk (by rcases e with e | e; exact .inl e; exact .inr (.inl ⟨_, e⟩)))
  · by_cases hji : j = i
    · subst hji
      rw [upd_same, List.pairwise_append]
      exact ⟨h.pi j, List.pairwise_singleton _ _, fun x hx y hy => by rw [List.mem_singleton.1 hy]; exact hapr j x hx⟩
    · rw [upd_other hji]; exact h.pi j
  · rcases hrow j v hv with h1 | ⟨rfl, rfl⟩
    · rcases hrow j' v' hv' with h2 | ⟨rfl, rfl⟩
      · exact h.px j j' hjj v h1 v' h2
      · exact hapr j v h1
    · rcases hrow j' v' hv' with h2 | ⟨h2, _⟩
      · exact (hapr j' v' h2).symm
      · exact absurd h2.symm hjj
  · have hlow : k ≠ b ∧ (∀ j, (V j).ownBlock ≠ some k) ∧ k < w.heap.size := by
      rcases hrow j v hv with h1 | ⟨rfl, rfl⟩
      · exact ⟨(h.away j v h1 k hk).1, (h.away j v h1 k hk).2, by obtain ⟨n, xs, _, ho⟩ := h.ok j v h1; exact ho.lt k hk⟩
      · exact ⟨fun e => hd k hk (.inl e), fun j e => hd k hk (.inr (.inl ⟨j, e⟩)), hrl k hk⟩
    refine ⟨hlow.1, fun j' e => ?_⟩
    rcases hVV j' k e with ⟨j2, h1⟩ | h1
    · exact hlow.2.1 j2 h1
    · have := hlow.2.2; omega
  · rcases hk with h1 | ⟨j, h1⟩ | ⟨j, v, h1, h2⟩
    · exact .inl (.inl h1)
    · rcases hVV j k h1 with h2 | h2
      · exact .inl (.inr (.inl h2))
      · exact .inr (.inr h2)
    · rcases hrow j v h1 with h3 | ⟨_, rfl⟩
      · exact .inl (.inr (.inr ⟨j, v, h3, h2⟩))
      · exact .inr (.inl h2)
end Go.Proofs.YtijcleiekafoiaaGreatDoor
