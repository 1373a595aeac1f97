import Derived.Test.YtijcleiekafoiaaGreatDoorMb17
import Derived.Test.YtijcleiekafoiaaGreatDoorMb10
import Derived.Test.YtijcleiekafoiaaGreatDoorMb05
import Derived.Lib.TrimUEq

/- Rows of three cells an element, spliced: plain lists, and what memory tells of them. General. -/
namespace Go
open Go.RowKit

theorem Has.sl {w : World} {g : Nat} {e : TypeId} {cur : List Value} (h : Has w g e cur) (sz off n c : Nat) (hn : off + n * sz ≤ cur.length) (hc : n ≤ c) (hm : c ≤ maxLen) : Sl w sz (.slice (some ⟨g, off, none⟩) n c) n ((cur.drop off).take (n * sz)) := by
  refine ⟨by rw [List.length_take, List.length_drop]; omega, .inr ⟨g, off, c, rfl, hc, hm, fun j u hu => ?_⟩⟩
  rw [List.getElem?_take] at hu
  split at hu
  · rw [List.getElem?_drop] at hu
    rw [cell_of_row w g _ cur.toArray e (0, 0) h]
    simpa using hu
  · cases hu

theorem Has.kept {w w1 : World} {g : Nat} {e : TypeId} {cur : List Value} {S : Nat → Prop} (h : Has w g e cur) (f : Fr S w w1) (hn : ¬ S g) : Has w1 g e cur := f.heap h hn

theorem Has.ow {w : World} {g : Nat} {e : TypeId} {cur : List Value} (h : Has w g e cur) (sz n c : Nat) (hc : c * sz ≤ cur.length) (hn : n ≤ c) (hm : c ≤ maxLen) : Ow w e sz (.slice (some ⟨g, 0, none⟩) n c) n (cur.take (n * sz)) := by
  have : n * sz ≤ c * sz := Nat.mul_le_mul_right _ hn
  exact ⟨by rw [List.length_take]; omega, .inr ⟨g, c, _, rfl, h, hn, hm, by simpa using hc, by simp⟩⟩

theorem Ow.has {w : World} {e : TypeId} {sz g n c : Nat} {xs : List Value} (h : Ow w e sz (.slice (some ⟨g, 0, none⟩) n c) n xs) : ∃ cur, Has w g e cur ∧ c * sz ≤ cur.length ∧ n ≤ c ∧ c ≤ maxLen ∧ cur.take (n * sz) = xs := by
  rcases h.2 with ⟨h1, _⟩ | ⟨g', cap, cur, h1, hg, h2, h3, h4, h5⟩
  · cases h1
  · cases h1
    exact ⟨cur.toList, by simpa [Has] using hg, by simpa using h4, h2, h3, h5⟩

/-- With room: what lies behind is moved, then the new ones laid in. -/
theorem ins_room (cur xs us : List Value) (i n : Nat) (hx : cur.take (n * 3) = xs) (hl : (n + 1) * 3 ≤ cur.length) (hi : i ≤ n) (hu : us.length = 3) :
    let cur1 := cur.take ((i + 1) * 3) ++ ((cur.drop (i * 3)).take ((n + 1 - i) * 3)).take ((n - i) * 3) ++ cur.drop ((i + 1) * 3 + (n - i) * 3)
    (cur1.take (i * 3) ++ us ++ cur1.drop (i * 3 + 3)).take ((n + 1) * 3) = xs.take (i * 3) ++ us ++ xs.drop (i * 3) := by
  intro cur1
  obtain ⟨a, b, r, hc, ha, hb⟩ : ∃ a b r, cur = a ++ (b ++ r) ∧ a.length = i * 3 ∧ b.length = (n - i) * 3 :=
    ⟨cur.take (i * 3), (cur.drop (i * 3)).take ((n - i) * 3), cur.drop (i * 3 + (n - i) * 3), by
      rw [← List.drop_drop, List.take_append_drop, List.take_append_drop], by rw [List.length_take]; omega, by rw [List.length_take, List.length_drop]; omega⟩
  have hr : 3 ≤ r.length := by have := congrArg List.length hc; simp at this; omega
  have hxs : xs = a ++ b := by
    rw [← hx, hc, show n * 3 = (a ++ b).length by simp; omega, ← List.append_assoc, List.take_left]
  have h1 : cur1 = a ++ ((b ++ r).take 3 ++ b ++ r.drop 3) := by
    show cur.take ((i + 1) * 3) ++ ((cur.drop (i * 3)).take ((n + 1 - i) * 3)).take ((n - i) * 3) ++ cur.drop ((i + 1) * 3 + (n - i) * 3) = _
    rw [List.take_take, Nat.min_eq_left (by omega), hc]
    rw [show (i + 1) * 3 = a.length + 3 by omega, List.take_length_add_append]
    rw [show i * 3 = a.length by omega, List.drop_left, show (n - i) * 3 = b.length by omega, List.take_left]
    rw [show a.length + 3 + b.length = a.length + (b.length + 3) by omega, List.drop_length_add_append, List.drop_length_add_append]
    simp [List.append_assoc]
  have h2 : ((b ++ r).take 3).length = 3 := by rw [List.length_take, List.length_append]; omega
  rw [h1, hxs, show i * 3 = a.length by omega, List.take_left, List.drop_length_add_append, List.take_left, List.drop_left]
  rw [List.append_assoc ((b ++ r).take 3)]
  rw [List.drop_left' h2]
  rw [show (n + 1) * 3 = (a ++ us ++ b).length by simp only [List.length_append]; omega]
  rw [← List.append_assoc, List.take_left]

/-- Into a new block. -/
theorem ins_new (xs us ys : List Value) (i n : Nat) (hx : xs.length = n * 3) (_hy : (n + 1) * 3 ≤ i * 3 + ys.length) (hi : i ≤ n) (hu : us.length = 3) :
    let cur := xs.take (i * 3) ++ ys
    let cur1 := cur.take (i * 3) ++ us ++ cur.drop (i * 3 + 3)
    (cur1.take ((i + 1) * 3) ++ xs.drop (i * 3) ++ cur1.drop ((i + 1) * 3 + (n - i) * 3)).take ((n + 1) * 3) = xs.take (i * 3) ++ us ++ xs.drop (i * 3) := by
  intro cur cur1
  have ha : (xs.take (i * 3)).length = i * 3 := by rw [List.length_take]; omega
  have h1 : cur1.take ((i + 1) * 3) = xs.take (i * 3) ++ us := by
    show (cur.take (i * 3) ++ us ++ cur.drop (i * 3 + 3)).take ((i + 1) * 3) = _
    have h2 : cur.take (i * 3) = xs.take (i * 3) := by
      show (xs.take (i * 3) ++ ys).take (i * 3) = _
      conv => lhs; rw [show i * 3 = (xs.take (i * 3)).length from ha.symm]
      rw [ha, List.take_left' ha]
    rw [h2, show (i + 1) * 3 = (xs.take (i * 3) ++ us).length by rw [List.length_append]; omega, List.take_left]
  rw [h1, show (n + 1) * 3 = (xs.take (i * 3) ++ us ++ xs.drop (i * 3)).length by simp only [List.length_append, List.length_drop]; omega, List.take_left]

theorem rep_mid (cur xs us : List Value) (i j n : Nat) (hx : cur.take (n * 3) = xs) (hl : n * 3 ≤ cur.length) (hi : i < j) (hj : j ≤ n) (hu : us.length = 3) :
    ((cur.take (i * 3) ++ us ++ cur.drop (i * 3 + 3)).drop (j * 3)).take ((n - j) * 3) = xs.drop (j * 3) := by
  have hp : (cur.take (i * 3) ++ us).length = i * 3 + 3 := by rw [List.length_append, List.length_take]; omega
  have hd : (cur.take (i * 3) ++ us ++ cur.drop (i * 3 + 3)).drop (j * 3) = cur.drop (j * 3) := by
    rw [List.drop_append, List.drop_of_length_le (by omega), List.nil_append, List.drop_drop, hp]
    congr 1
    omega
  rw [hd, ← hx, List.drop_take]
  congr 1
  omega

/-- A part written over by one, what lies behind drawn up. -/
theorem rep_room (cur xs us ys : List Value) (i j n : Nat) (hx : cur.take (n * 3) = xs) (hl : n * 3 ≤ cur.length) (hi : i < j) (hj : j ≤ n) (hu : us.length = 3) (_hy : ys.length = (j - i - 1) * 3) :
    let cur1 := cur.take (i * 3) ++ us ++ cur.drop (i * 3 + 3)
    let cur2 := cur1.take ((i + 1) * 3) ++ (cur1.drop (j * 3)).take ((n - j) * 3) ++ cur1.drop ((i + 1) * 3 + (n - j) * 3)
    (cur2.take ((i + 1 + (n - j)) * 3) ++ ys ++ cur2.drop ((i + 1 + (n - j)) * 3 + (j - i - 1) * 3)).take ((i + 1 + (n - j)) * 3) = xs.take (i * 3) ++ us ++ xs.drop (j * 3) := by
  intro cur1 cur2
  have ha : (cur.take (i * 3)).length = i * 3 := by rw [List.length_take]; omega
  have hxa : xs.take (i * 3) = cur.take (i * 3) := by rw [← hx, List.take_take, Nat.min_eq_left (by omega)]
  have h1 : cur1.take ((i + 1) * 3) = cur.take (i * 3) ++ us := by
    show (cur.take (i * 3) ++ us ++ cur.drop (i * 3 + 3)).take ((i + 1) * 3) = _
    rw [show (i + 1) * 3 = (cur.take (i * 3) ++ us).length by rw [List.length_append]; omega, List.take_left]
  have h2 : (cur1.drop (j * 3)).take ((n - j) * 3) = xs.drop (j * 3) := by
    have hd : cur1.drop (j * 3) = cur.drop (j * 3) := by
      show (cur.take (i * 3) ++ us ++ cur.drop (i * 3 + 3)).drop (j * 3) = _
      have hp : (cur.take (i * 3) ++ us).length = i * 3 + 3 := by rw [List.length_append]; omega
      rw [List.drop_append, List.drop_of_length_le (by omega), List.nil_append, List.drop_drop, hp]
      congr 1
      omega
    rw [hd, ← hx, List.drop_take]
    congr 1
    omega
  have h3 : cur2.take ((i + 1 + (n - j)) * 3) = xs.take (i * 3) ++ us ++ xs.drop (j * 3) := by
    show (cur1.take ((i + 1) * 3) ++ (cur1.drop (j * 3)).take ((n - j) * 3) ++ cur1.drop ((i + 1) * 3 + (n - j) * 3)).take ((i + 1 + (n - j)) * 3) = _
    have hxl : xs.length = n * 3 := by rw [← hx, List.length_take]; omega
    rw [h1, h2, hxa, show (i + 1 + (n - j)) * 3 = (cur.take (i * 3) ++ us ++ xs.drop (j * 3)).length by simp only [List.length_append, List.length_drop]; omega, List.take_left]
  have hl3 : (cur2.take ((i + 1 + (n - j)) * 3)).length = (i + 1 + (n - j)) * 3 := by
    have hxl : xs.length = n * 3 := by rw [← hx, List.length_take]; omega
    rw [h3]; simp only [List.length_append, List.length_drop, List.length_take]; omega
  rw [List.append_assoc, List.take_left' hl3, h3]
end Go

/- Values that are told are their owner's. Printed by mkownv.py. -/
namespace Go.Proofs.YtijcleiekafoiaaGreatDoor
open Go.RowKit

theorem tbVV : Tb Tryz.prog 57 24 (.slice none 0 0) 1 24 := ⟨by kernel_rfl, by kernel_rfl, rfl, by decide⟩
/-- The marks of a row of values. -/
def mV (i : Int) (k : Nat) : List Value := [.int .u8 0, .bool false, .int .i64 (i * 1000 + (k : Int)), .string ⟨#[]⟩, .slice none 0 0, .slice none 0 0, .slice none 0 0]
theorem mV_len (i : Int) (k : Nat) : (mV i k).length = 7 := rfl
theorem set_get {α : Type} {l : List α} {i : Nat} {x : α} {n : Nat} (h : n = i) (hl : i < l.length) : (l.set i x)[n]? = some x := by subst h; simp [hl]
theorem take_set7 {l P : List Value} {k : Nat} {a b c d e f g : Value} (h : l.take (k * 7) = P) (hk : k * 7 + 7 ≤ l.length) : (((((((l.set (k * 7) a).set (k * 7 + 1) b).set (k * 7 + 2) c).set (k * 7 + 3) d).set (k * 7 + 4) e).set (k * 7 + 5) f).set (k * 7 + 6) g).take ((k + 1) * 7) = P ++ [a, b, c, d, e, f, g] := by
  have e7 : (k + 1) * 7 = k * 7 + 1 + 1 + 1 + 1 + 1 + 1 + 1 := by omega
  rw [e7]
  iterate 7 rw [List.take_succ_eq_append_getElem (by simp; omega)]
  rw [List.take_set_of_le (by omega), List.take_set_of_le (by omega), List.take_set_of_le (by omega), List.take_set_of_le (by omega), List.take_set_of_le (by omega), List.take_set_of_le (by omega), List.take_set_of_le (Nat.le_refl _), h]
  simp

set_option maxRecDepth 100000 in
set_option maxHeartbeats 8000000 in
theorem own_vals (w : World) (A : Option Addr) (c : Nat) (vs : List Value) (ns : Nat → Nat) (C0 : Nat → List Value) (h : Two w 27 7 (.slice A vs.length c) vs ns C0) (hX : ∀ b, (Value.slice A vs.length c).ownBlock = some b → b < w.heap.size) (hvs : vs.length ≤ 1000000) (hns : ∀ j, ns j ≤ 1000000) :
    Calls Tryz.prog 53 #[.slice A vs.length c] w fun e w' => e = .returned (.bool true) ∧ Fr (InRows vs) w w' := by
  have H := Lib.hid h; have HLX := Lib.hid hX; have HNS := Lib.hid hns; clear h hX hns
  go_enter Tryz.func53, Tryz.ntmps53
  go_wp2
  go_loopw [3] (fun s wr => ∃ (i : Nat) (C : Nat → List Value), i ≤ vs.length ∧ s = .int .i64 i ∧ Two wr 27 7 (.slice A vs.length c) vs ns C ∧ Fr (InRows vs) w wr ∧ ∀ j, j < i → C j = mks mV j (ns j)) (fun s _ => vs.length - (intOf s).toNat)
  case atStart => exact ⟨0, C0, Nat.zero_le _, rfl, H.out, Fr.refl _ _, fun j h => by omega⟩
  case round =>
    obtain ⟨i, C, hi, rfl, ht, hf, hm⟩ := hrel
    have HT := Lib.hid ht; have HF := Lib.hid hf; have HM := Lib.hid hm; clear ht hf hm
    by_cases hlt : i < vs.length
    · go_wp2
      go_loopw [4] (fun s wr => ∃ (k : Nat) (C : Nat → List Value), k ≤ ns i ∧ s = .int .i64 k ∧ Two wr 27 7 (.slice A vs.length c) vs ns C ∧ Fr (InRows vs) w wr ∧ (∀ j, j < i → C j = mks mV j (ns j)) ∧ (C i).take (k * 7) = mks mV i k) (fun s _ => 1000000 - (intOf s).toNat)
      case atStart => exact ⟨0, C, Nat.zero_le _, rfl, HT.out, HF.out, HM.out, by simp [mks]⟩
      case round =>
        obtain ⟨k, C, hk, rfl, ht, hf, hm, hmk⟩ := hrel
        have HT := Lib.hid ht; have HF := Lib.hid hf; have HM := Lib.hid hm; have HK := Lib.hid hmk; clear ht hf hm hmk
        have hk9 : ns i ≤ 1000000 := HNS.out i
        obtain ⟨b, o, hA, hcell⟩ := sl_at HT.out.out i hlt
        subst hA
        have hbl := World.block_lt_of_cell? _ _ hcell
        by_cases hkl : k < ns i
        · have hri := HT.out.rows.row i hlt
          obtain ⟨g, c', hv, _, _, hgl, hz, hcs⟩ := hri.cells k hkl
          have hkC : k * 7 + 7 ≤ (C i).length := by rw [hri.1]; omega
          obtain ⟨cv0, hcv0⟩ : ∃ cv, (C i)[k * 7 + 0]? = some cv := ⟨_, List.getElem?_eq_getElem (by omega)⟩
          have hc0 := hcs _ _ hcv0
          obtain ⟨cv1, hcv1⟩ : ∃ cv, (C i)[k * 7 + 1]? = some cv := ⟨_, List.getElem?_eq_getElem (by omega)⟩
          have hc1 := hcs _ _ hcv1
          obtain ⟨cv2, hcv2⟩ : ∃ cv, (C i)[k * 7 + 2]? = some cv := ⟨_, List.getElem?_eq_getElem (by omega)⟩
          have hc2 := hcs _ _ hcv2
          obtain ⟨cv3, hcv3⟩ : ∃ cv, (C i)[k * 7 + 3]? = some cv := ⟨_, List.getElem?_eq_getElem (by omega)⟩
          have hc3 := hcs _ _ hcv3
          obtain ⟨cv4, hcv4⟩ : ∃ cv, (C i)[k * 7 + 4]? = some cv := ⟨_, List.getElem?_eq_getElem (by omega)⟩
          have hc4 := hcs _ _ hcv4
          obtain ⟨cv5, hcv5⟩ : ∃ cv, (C i)[k * 7 + 5]? = some cv := ⟨_, List.getElem?_eq_getElem (by omega)⟩
          have hc5 := hcs _ _ hcv5
          obtain ⟨cv6, hcv6⟩ : ∃ cv, (C i)[k * 7 + 6]? = some cv := ⟨_, List.getElem?_eq_getElem (by omega)⟩
          have hc6 := hcs _ _ hcv6
          simp only [Nat.add_zero] at hc0
          rw [hv] at hcell
          have HV := Lib.hid hv; have HRI := Lib.hid hri; have HKC := Lib.hid hkC; clear hv hri hcs hkC hcv0 hcv1 hcv2 hcv3 hcv4 hcv5 hcv6
          go_wp2
          go_roundw
          case rel =>
            have hT := HT.out
            have hin : InRows vs g := ⟨vs[i], List.getElem_mem _, by rw [HV.out]; rfl⟩
            have hro0 := hT.rows.row i hlt
            rw [HV.out] at hro0
            have hCl := HKC.out
            have hro1 := hro0.set (j := k * 7) (by (try simp only [List.length_set]); omega) (.int .u8 0)
            have hro2 := hro1.set (j := k * 7 + 1) (by (try simp only [List.length_set]); omega) (.bool false)
            have hro3 := hro2.set (j := k * 7 + 2) (by (try simp only [List.length_set]); omega) (.int .i64 ((i : Int) * 1000 + (k : Int)))
            have hro4 := hro3.set (j := k * 7 + 3) (by (try simp only [List.length_set]); omega) (.string ⟨#[]⟩)
            have hro5 := hro4.set (j := k * 7 + 4) (by (try simp only [List.length_set]); omega) (.slice none 0 0)
            have hro6 := hro5.set (j := k * 7 + 5) (by (try simp only [List.length_set]); omega) (.slice none 0 0)
            have hro7 := hro6.set (j := k * 7 + 6) (by (try simp only [List.length_set]); omega) (.slice none 0 0)
            have hfs := ((((((((Fr.refl (fun x => x = g) wr).setCell ⟨g, k * 7, none⟩ (.int .u8 0) (fun _ => rfl)).setCell ⟨g, k * 7 + 1, none⟩ (.bool false) (fun _ => rfl)).setCell ⟨g, k * 7 + 2, none⟩ (.int .i64 ((i : Int) * 1000 + (k : Int))) (fun _ => rfl)).setCell ⟨g, k * 7 + 3, none⟩ (.string ⟨#[]⟩) (fun _ => rfl)).setCell ⟨g, k * 7 + 4, none⟩ (.slice none 0 0) (fun _ => rfl)).setCell ⟨g, k * 7 + 5, none⟩ (.slice none 0 0) (fun _ => rfl)).setCell ⟨g, k * 7 + 6, none⟩ (.slice none 0 0) (fun _ => rfl))
            have hTs : Two (((((((wr.setCell ⟨g, k * 7, none⟩ (.int .u8 0)).setCell ⟨g, k * 7 + 1, none⟩ (.bool false)).setCell ⟨g, k * 7 + 2, none⟩ (.int .i64 ((i : Int) * 1000 + (k : Int)))).setCell ⟨g, k * 7 + 3, none⟩ (.string ⟨#[]⟩)).setCell ⟨g, k * 7 + 4, none⟩ (.slice none 0 0)).setCell ⟨g, k * 7 + 5, none⟩ (.slice none 0 0)).setCell ⟨g, k * 7 + 6, none⟩ (.slice none 0 0)) 27 7 (.slice (some ⟨b, o, none⟩) vs.length c) vs ns (fun j => if j = i then _ else C j) := ⟨hT.out.kept hfs (fun b' hb' e => hT.away b' hb' (by subst e; exact hin)), hT.away, hT.rows.one i hlt (hfs.mono (fun x _ e => by subst e; rw [HV.out]; rfl)) _ (by rw [HV.out]; exact hro7)⟩
            refine ⟨k + 1, _, hkl, by go_num, hTs, HF.out.trans hfs (fun x _ e => by subst e; exact hin), fun j hj => ?_, ?_⟩
            · simp only [show ¬ j = i by omega, if_false]
              exact HM.out j hj
            · simp only [if_true]
              rw [take_set7 HK.out HKC.out, mks_succ]
              rfl
          case measure => simp [intOf]; omega
        · have hkk : k = ns i := by omega
          subst hkk
          obtain ⟨Ai, ci, hv, _, _⟩ := (HT.out.rows.row i hlt).form
          rw [hv] at hcell
          have HV := Lib.hid hv; clear hv
          go_wp2
          go_roundw
          case rel =>
            refine ⟨i + 1, C, hlt, by go_num, HT.out, HF.out, fun j hji => ?_⟩
            by_cases h : j = i
            · subst h
              have h2 := HK.out
              rw [List.take_of_length_le (by rw [(HT.out.rows.row j hlt).1]; omega)] at h2
              exact h2
            · exact HM.out j (by omega)
          case measure => simp [intOf]; omega
    · obtain rfl : i = vs.length := by omega
      clear hlt hi
      have HT1 := Lib.hid (show Two wr 27 7 (.slice A vs.length c) vs ns (fun j => mks mV j (ns j)) from ⟨HT.out.out, HT.out.away, HT.out.rows.congr HM.out⟩)
      clear HT HM
      obtain ⟨w1, rfl⟩ : ∃ w1 : World, w1 = wr := ⟨_, rfl⟩
      go_wp2
      go_loopw [5, 6] (fun L s wr => ∃ (lvs : List Value), s = .int .i64 lvs.length ∧ Ph2 w1 wr 27 24 7 mV 4 (.slice A vs.length c) L vs lvs ns) (fun _ s _ => vs.length - (intOf s).toNat)
      case atStart => exact ⟨[], rfl, HT1.out, ⟨rfl, .inl ⟨rfl, rfl⟩⟩, Nat.zero_le _, fun j h => by simp at h, fun j h => by simp at h, fun b h => by simp [Value.ownBlock] at h, Fr.refl _ _, fun b hb => Nat.lt_of_lt_of_le (HLX.out b hb) HF.out.size, HT1.out.rows.lt⟩
      case round =>
        obtain ⟨lvs, rfl, hp⟩ := hrel
        have hmany := hp.many
        have HP := Lib.hid hp; clear hp
        by_cases hlt : lvs.length < vs.length
        · obtain ⟨b, o, hA, hcell⟩ := sl_at HP.out.two.out lvs.length hlt
          subst hA
          have HS := Lib.hid (Ph3.start HP.out hlt)
          go_wp2
          go_loopw [7, 8] (fun x s wr => ∃ k : Nat, k ≤ 4 ∧ s = .int .i64 k ∧ Ph3 w1 wr 27 24 7 mV 4 (.slice (some ⟨b, o, none⟩) vs.length c) u5 x vs lvs ns k) (fun _ s _ => 4 - (intOf s).toNat)
          case atStart => exact ⟨0, Nat.zero_le _, rfl, HS.out⟩
          case round =>
            obtain ⟨k, hk, rfl, hp⟩ := hrel
            have HP := Lib.hid hp; clear hp
            have hn9 := HNS.out lvs.length
            by_cases hk16 : k < 4
            · go_wp2_with (at_builtin; refine wpList_apo (news := mV (-1 - lvs.length) k) rfl (.tmp 53) (.tmp 60) 24 rfl tbV (HP.out.kept0 ((Fr.refl no _).alloc _)).row (built7 wr _ _ _ _ _ _ _ _) rfl rfl (by intro u hu; simp only [mV, List.mem_cons, List.not_mem_nil, or_false] at hu; rcases hu with rfl | rfl | rfl | rfl | rfl | rfl | rfl <;> rfl) ?b1 ?b2 ?go)
              case b1 => simp only [maxLen]; omega
              case b2 => omega
              case go =>
                intro A' N c' w2 hN ho hold hf2 hst
                subst hN
                have HPP := Lib.hid (Ph3.more mV_len (HP.out.kept0 ((Fr.refl no _).alloc _)) (by rw [← List.append_assoc] at ho; exact ho) hold hf2 hst)
                clear ho hold hf2 hst
                go_wp2
                go_roundw
                case rel => exact ⟨k + 1, by omega, by go_num, HPP.out⟩
                case measure => simp [intOf]; omega
            · obtain rfl : k = 4 := by omega
              obtain ⟨Ax, cx, hx, _, _⟩ := HP.out.row.form
              subst hx
              go_wp2_with (at_builtin; refine wpList_apo rfl (.tmp 62) (.tmp 64) 57 rfl tbVV (HP.out.kept0 ((Fr.refl no _).alloc _)).ph2.long (Sl.built wr _ _) rfl rfl ?b0 ?b1 ?b2 ?go)
              case b0 => simp [Value.oneCell']
              case b1 => simp only [maxLen]; omega
              case b2 => omega
              case go =>
                intro A' N c' w2 hN ho hold hf2 hst
                subst hN
                have HPP := Lib.hid (Ph3.laid (HP.out.kept0 ((Fr.refl no _).alloc _)) ho hf2 hst)
                clear ho hold hf2 hst
                go_wp2
                go_roundw
                case rel => exact ⟨lvs ++ [_], by simp, HPP.out⟩
                case measure => simp [intOf]; omega
        · have hle : lvs.length = vs.length := by omega
          have hrow := fun j (hj : j < vs.length) => Ph2.at mV_len HP.out j hj (by omega)
          have HR := Lib.hid hrow; clear hrow
          obtain ⟨AL, cL, hL, _, _⟩ := HP.out.long.form
          subst hL
          have HLL := Lib.hid HP.out.long.sl
          have hle1 : lvs.length ≤ vs.length := by omega
          have hle2 : vs.length ≤ lvs.length := by omega
          clear hle
          go_wp2
          go_loop [9] (fun s => ∃ i : Nat, i ≤ vs.length ∧ s = .int .i64 i) (fun s => vs.length - (intOf s).toNat)
          case atStart => exact ⟨0, Nat.zero_le _, rfl⟩
          case round =>
            obtain ⟨i, hi, rfl⟩ := hrel
            by_cases hlt2 : i < vs.length
            · obtain ⟨b, o, hA, hcell⟩ := sl_at HP.out.two.out i hlt2
              obtain ⟨b2, o2, hA2, hcell2⟩ := sl_at HLL.out i (by omega)
              subst hA; subst hA2
              obtain ⟨Ai, ci, hv, hci, _⟩ := (HP.out.two.rows.row i hlt2).form
              rw [hv] at hcell
              have HV := Lib.hid hv
              have hn9 := HNS.out i
              clear hv
              go_wp2
              go_loop [11] (fun s => ∃ k : Nat, k ≤ ns i ∧ s = .int .i64 k) (fun s => ns i - (intOf s).toNat)
              case atStart => exact ⟨0, Nat.zero_le _, rfl⟩
              case round =>
                obtain ⟨k, hk, rfl⟩ := hrel
                by_cases hkl : k < ns i
                · obtain ⟨g, c1, N1, e1, _, _, q1⟩ := (HR.out i hlt2).1 (by omega)
                  obtain ⟨g2, c2, N2, e2, _, _, q2⟩ := (HR.out i hlt2).2.1 (by omega)
                  replace q1 := q1 k hkl 2 _ rfl
                  replace q2 := q2 k hkl 2 _ rfl
                  simp only [Nat.zero_add] at q1 q2
                  have hgb1 := World.block_lt_of_cell? _ _ q1
                  have hgb2 := World.block_lt_of_cell? _ _ q2
                  rw [HV.out] at e1
                  rw [e2] at hcell2
                  have HV2 := Lib.hid e2; clear e2
                  cases e1
                  go_wp2
                  go_round
                  case rel => exact ⟨k + 1, hkl, by go_num⟩
                  case measure => simp [intOf]; omega
                · obtain rfl : k = ns i := by omega
                  go_wp2
                  go_loop [12] (fun s => ∃ k : Nat, k ≤ 4 ∧ s = .int .i64 k) (fun s => 4 - (intOf s).toNat)
                  case atStart => exact ⟨0, Nat.zero_le _, rfl⟩
                  case round =>
                    obtain ⟨k, hk, rfl⟩ := hrel
                    by_cases hkl : k < 4
                    · obtain ⟨g2, c2, N2, e2, _, _, q2⟩ := (HR.out i hlt2).2.2 (by omega)
                      replace q2 := q2 k hkl 2 _ rfl
                      have hgb2 := World.block_lt_of_cell? _ _ q2
                      rw [e2] at hcell2
                      have HV2 := Lib.hid e2; clear e2
                      go_wp2
                      go_round
                      case rel => exact ⟨k + 1, hkl, by go_num⟩
                      case measure => simp [intOf]; omega
                    · go_wp2
                      go_round
                      case rel => exact ⟨i + 1, hlt2, by go_num⟩
                      case measure => simp [intOf]; omega
            · go_wp2
              go_ret
              exact ⟨rfl, HF.out.trans HP.out.fr (fun _ _ h => h)⟩
end Go.Proofs.YtijcleiekafoiaaGreatDoor

/- UTF-8 without a program: the rune that bytes begin with, as the document's answer reads it. -/
namespace Go.Proofs.YtijcleiekafoiaaGreatDoor
open Go.RowKit Go.Lib

theorem decodeL_pos {l : List UInt8} (h : l ≠ []) : 1 ≤ (decodeL l).2 := by
  refine decode_width_pos _ 0 ?_
  cases l with
  | nil => exact absurd rfl h
  | cons a l => show 0 < (a :: l).toArray.size; simp

/-- The rune and its width; (0, 0): none. -/
def runeR (l : List UInt8) : Nat × Nat := if l = [] then (0, 0) else if (decodeL l).1 = 65533 ∧ (decodeL l).2 = 1 then (0, 0) else decodeL l
theorem runeR_zero {l : List UInt8} (h : l ≠ []) : (runeR l).2 = 0 ↔ ((decodeL l).1 = 65533 ∧ (decodeL l).2 = 1) := by
  unfold runeR
  rw [if_neg h]
  have := decodeL_pos h
  split
  · rename_i h1; simp [h1]
  · rename_i h1
    constructor
    · intro h2; omega
    · intro h2; exact absurd h2 h1
theorem runeR_width {l : List UInt8} (h : (runeR l).2 ≠ 0) : (runeR l).2 = (decodeL l).2 ∧ l ≠ [] := by
  unfold runeR at h ⊢
  split
  · rename_i h1; rw [if_pos h1] at h; simp at h
  · rename_i h1
    rw [if_neg h1] at h
    split
    · rename_i h2; rw [if_pos h2] at h; simp at h
    · exact ⟨rfl, h1⟩

theorem validGoD_fuel : ∀ (n m : Nat) (l : List UInt8), l.length ≤ n → l.length ≤ m → validGoD n l = validGoD m l
  | 0, m, l, h, _ => by
    have : l = [] := List.eq_nil_of_length_eq_zero (by omega)
    subst this
    cases m <;> simp [validGoD]
  | n + 1, 0, l, _, h => by
    have : l = [] := List.eq_nil_of_length_eq_zero (by omega)
    subst this
    simp [validGoD]
  | n + 1, m + 1, l, h1, h2 => by
    simp only [validGoD]
    by_cases hl : l = []
    · rw [if_pos hl, if_pos hl]
    · rw [if_neg hl, if_neg hl]
      split
      · rfl
      · have := decodeL_pos hl
        exact validGoD_fuel n m _ (by rw [List.length_drop]; omega) (by rw [List.length_drop]; omega)
theorem validD_nil : validD [] = true := rfl
theorem validD_bad {l : List UInt8} (h : l ≠ []) (hr : (runeR l).2 = 0) : validD l = false := by
  unfold validD
  cases hn : l.length with
  | zero => exact absurd (List.eq_nil_of_length_eq_zero hn) h
  | succ n => simp only [validGoD]; rw [if_neg h, if_pos ((runeR_zero h).1 hr)]
theorem validD_step {l : List UInt8} (hr : (runeR l).2 ≠ 0) : validD l = validD (l.drop (runeR l).2) := by
  obtain ⟨hw, h⟩ := runeR_width hr
  have hp := decodeL_pos h
  unfold validD
  cases hn : l.length with
  | zero => exact absurd (List.eq_nil_of_length_eq_zero hn) h
  | succ n =>
    simp only [validGoD]
    rw [if_neg h, if_neg (fun e => hr ((runeR_zero h).2 e)), hw]
    exact validGoD_fuel _ _ _ (by rw [List.length_drop]; omega) (Nat.le_refl _)

/-- How many runes, of a list. -/
def cntD : Nat → List UInt8 → Nat
  | 0, _ => 0
  | f + 1, l => if l = [] then 0 else 1 + cntD f (l.drop (decodeL l).2)
theorem cntD_fuel : ∀ (n m : Nat) (l : List UInt8), l.length ≤ n → l.length ≤ m → cntD n l = cntD m l
  | 0, m, l, h, _ => by
    have : l = [] := List.eq_nil_of_length_eq_zero (by omega)
    subst this
    cases m <;> simp [cntD]
  | n + 1, 0, l, _, h => by
    have : l = [] := List.eq_nil_of_length_eq_zero (by omega)
    subst this
    simp [cntD]
  | n + 1, m + 1, l, h1, h2 => by
    simp only [cntD]
    by_cases hl : l = []
    · rw [if_pos hl, if_pos hl]
    · rw [if_neg hl, if_neg hl]
      have := decodeL_pos hl
      rw [cntD_fuel n m _ (by rw [List.length_drop]; omega) (by rw [List.length_drop]; omega)]
theorem cnt_from (s : ByteArray) : ∀ (fuel pos : Nat), runeCountFrom s fuel pos = cntD fuel (s.data.toList.drop pos)
  | 0, pos => rfl
  | f + 1, pos => by
    simp only [runeCountFrom, cntD]
    have hsz : s.data.toList.length = s.size := Array.length_toList
    by_cases h : pos < s.size
    · rw [if_pos h, if_neg (by intro e; have := congrArg List.length e; rw [List.length_drop] at this; simp only [List.length_nil] at this; omega), cnt_from s f, decodeL_drop, List.drop_drop]
    · rw [if_neg h, if_pos (List.drop_eq_nil_of_le (by omega))]
theorem count_eq (l : List UInt8) : runeCountL l = cntD l.length l := by
  unfold runeCountL runeCount
  rw [cnt_from]
  show cntD (⟨l.toArray⟩ : ByteArray).size l = _
  congr 1
theorem count_nil : runeCountL [] = 0 := by rw [count_eq]; rfl
theorem count_step {l : List UInt8} (hr : (runeR l).2 ≠ 0) : runeCountL l = 1 + runeCountL (l.drop (runeR l).2) := by
  obtain ⟨hw, h⟩ := runeR_width hr
  have hp := decodeL_pos h
  rw [count_eq, count_eq]
  cases hn : l.length with
  | zero => exact absurd (List.eq_nil_of_length_eq_zero hn) h
  | succ n =>
    simp only [cntD]
    rw [if_neg h, hw]
    rw [cntD_fuel n _ _ (by rw [List.length_drop]; omega) (Nat.le_refl _)]
theorem rget_at (l : List UInt8) (k : Nat) : (⟨l.toArray⟩ : ByteArray).get! k = l.getD k 0 := by
  show (l.toArray)[k]! = _
  rw [List.getElem!_toArray]
  simp [List.getElem!_eq_getElem?_getD]
  rfl

/-- What is said of a number that was read. -/
def finR (v least k : Nat) : Nat × Nat := if v < least ∨ Utf8.valid v = false then (0, 0) else (v, k)
/-- A continuation byte. -/
def ctR (d : Nat) : Bool := decide (128 ≤ d) && decide (d < 192)
/-- The rune at the head of n bytes b0, b1, b2, b3 ... -/
def valR (n b0 b1 b2 b3 : Nat) : Nat × Nat :=
  if b0 < 128 then (b0, 1)
  else if 192 ≤ b0 ∧ b0 < 224 then (if n < 2 then (0, 0) else if ctR b1 = false then (0, 0) else finR (64 * (b0 - 192) + b1 - 128) 128 2)
  else if 224 ≤ b0 ∧ b0 < 240 then (if n < 3 then (0, 0) else if ctR b1 = false then (0, 0) else if ctR b2 = false then (0, 0) else finR (64 * (64 * (b0 - 224) + b1 - 128) + b2 - 128) 2048 3)
  else if 240 ≤ b0 ∧ b0 < 248 then (if n < 4 then (0, 0) else if ctR b1 = false then (0, 0) else if ctR b2 = false then (0, 0) else if ctR b3 = false then (0, 0) else finR (64 * (64 * (64 * (b0 - 240) + b1 - 128) + b2 - 128) + b3 - 128) 65536 4)
  else (0, 0)
theorem ct_iff (d : Nat) (_ : d < 256) : (d / 64 == 2) = ctR d := by
  unfold ctR
  rw [Bool.eq_iff_iff]
  simp only [beq_iff_eq, Bool.and_eq_true, decide_eq_true_eq]
  omega
theorem ct_mod {d : Nat} (h : ctR d = true) : d % 64 = d - 128 ∧ 128 ≤ d ∧ d < 192 := by
  unfold ctR at h
  simp only [Bool.and_eq_true, decide_eq_true_eq] at h
  omega

theorem runeR_val {l : List UInt8} (hl : l ≠ []) : runeR l = valR l.length (l.getD 0 0).toNat (l.getD 1 0).toNat (l.getD 2 0).toNat (l.getD 3 0).toNat := by
  have h0 := (l.getD 0 0).toNat_lt; have h1 := (l.getD 1 0).toNat_lt; have h2 := (l.getD 2 0).toNat_lt; have h3 := (l.getD 3 0).toNat_lt
  have hs : (⟨l.toArray⟩ : ByteArray).size = l.length := by show l.toArray.size = _; simp
  unfold runeR
  rw [if_neg hl]
  unfold decodeL Utf8.decode
  simp only [rget_at, hs, Nat.zero_add]
  generalize (l.getD 0 0).toNat = b0 at *
  generalize (l.getD 1 0).toNat = b1 at *
  generalize (l.getD 2 0).toNat = b2 at *
  generalize (l.getD 3 0).toNat = b3 at *
  generalize l.length = n at *
  rw [ct_iff b1 h1, ct_iff b2 h2, ct_iff b3 h3]
  unfold valR
  by_cases c0 : b0 < 128
  · rw [if_pos c0, if_pos c0]
    rw [if_neg (by simp only [not_and]; omega)]
  · rw [if_neg c0, if_neg c0]
    have bad : (if ((Utf8.runeError, 1) : Nat × Nat).1 = 65533 ∧ ((Utf8.runeError, 1) : Nat × Nat).2 = 1 then ((0, 0) : Nat × Nat) else (Utf8.runeError, 1)) = (0, 0) := rfl
    have good : ∀ v k : Nat, 1 < k → (if (v, k).1 = 65533 ∧ (v, k).2 = 1 then ((0, 0) : Nat × Nat) else (v, k)) = (v, k) := fun v k h => if_neg (by simp only [not_and]; omega)
    by_cases c1 : 192 ≤ b0 ∧ b0 < 224
    · rw [if_pos c1]
      have e1 : (b0 / 32 == 6) = true := by rw [beq_iff_eq]; omega
      have e2 : (b0 / 16 == 14) = false := by rw [beq_eq_false_iff_ne]; omega
      have e3 : (b0 / 8 == 30) = false := by rw [beq_eq_false_iff_ne]; omega
      simp only [e1, e2, e3, Bool.true_and, Bool.false_and, Bool.false_eq_true, if_false]
      by_cases n2 : n < 2
      · have d2 : decide (1 < n) = false := decide_eq_false (by omega)
        rw [if_pos n2, d2]
        exact bad
      · have d2 : decide (1 < n) = true := decide_eq_true (by omega)
        rw [if_neg n2, d2, Bool.true_and]
        cases hc : ctR b1 with
        | false => exact bad
        | true =>
          obtain ⟨m1, m2, m3⟩ := ct_mod hc
          have ev : b0 % 32 * 64 + b1 % 64 = 64 * (b0 - 192) + b1 - 128 := by omega
          simp only [if_true, ev, Bool.true_eq_false, if_false]
          have hv : Utf8.valid ((64 * (b0 - 192) + b1 - 128 : Nat) : Int) = true := by unfold Utf8.valid; simp; omega
          unfold finR
          have hV : 64 * (b0 - 192) + b1 - 128 < 65533 := by omega
          clear ev m1 m2 m3 hc d2 n2 e1 e2 e3 c1
          generalize 64 * (b0 - 192) + b1 - 128 = V at *
          by_cases hl2 : V < 128
          · have hi : ¬ V ≥ 128 := by omega
            simp only [hi, if_false, hl2, true_or, if_true]
            exact bad
          · have hi : V ≥ 128 := by omega
            have hno : ¬ (V < 128 ∨ Utf8.valid (V : Int) = false) := by rw [hv]; simp; omega
            rw [if_neg hno]
            simp only [hi, if_true]
            exact good _ 2 (by omega)
    · rw [if_neg c1]
      by_cases c2 : 224 ≤ b0 ∧ b0 < 240
      · rw [if_pos c2]
        have e1 : (b0 / 32 == 6) = false := by rw [beq_eq_false_iff_ne]; omega
        have e2 : (b0 / 16 == 14) = true := by rw [beq_iff_eq]; omega
        have e3 : (b0 / 8 == 30) = false := by rw [beq_eq_false_iff_ne]; omega
        simp only [e1, e2, e3, Bool.true_and, Bool.false_and, Bool.false_eq_true, if_false]
        by_cases n2 : n < 3
        · have d2 : decide (2 < n) = false := decide_eq_false (by omega)
          rw [if_pos n2, d2, Bool.false_and, Bool.and_false]
          exact bad
        · have d1 : decide (1 < n) = true := decide_eq_true (by omega)
          have d2 : decide (2 < n) = true := decide_eq_true (by omega)
          rw [if_neg n2, d1, d2, Bool.true_and, Bool.true_and]
          cases hc : ctR b1 with
          | false => exact bad
          | true =>
            rw [Bool.true_and]
            cases hc2 : ctR b2 with
            | false => simp only [Bool.true_eq_false, if_false, if_true]; exact bad
            | true =>
              obtain ⟨m1, m2, m3⟩ := ct_mod hc
              obtain ⟨p1, p2, p3⟩ := ct_mod hc2
              have ev : b0 % 16 * 4096 + b1 % 64 * 64 + b2 % 64 = 64 * (64 * (b0 - 224) + b1 - 128) + b2 - 128 := by omega
              simp only [if_true, ev, Bool.true_eq_false, if_false]
              unfold finR
              clear ev
              generalize 64 * (64 * (b0 - 224) + b1 - 128) + b2 - 128 = V at *
              cases hv : Utf8.valid (V : Int) with
              | false =>
                have hy : V < 2048 ∨ false = false := .inr rfl
                rw [if_pos hy]
                simp only [Bool.and_false, Bool.false_eq_true, if_false]
                exact bad
              | true =>
                by_cases hl2 : V < 2048
                · have hi : decide (V ≥ 2048) = false := decide_eq_false (by omega)
                  rw [if_pos (show V < 2048 ∨ true = false from .inl hl2)]
                  simp only [hi, Bool.false_and, Bool.false_eq_true, if_false]
                  exact bad
                · have hi : decide (V ≥ 2048) = true := decide_eq_true (by omega)
                  have hno : ¬ (V < 2048 ∨ true = false) := by simp; omega
                  rw [if_neg hno]
                  simp only [hi, Bool.true_and, if_true]
                  exact good _ 3 (by omega)
      · rw [if_neg c2]
        by_cases c3 : 240 ≤ b0 ∧ b0 < 248
        · rw [if_pos c3]
          have e1 : (b0 / 32 == 6) = false := by rw [beq_eq_false_iff_ne]; omega
          have e2 : (b0 / 16 == 14) = false := by rw [beq_eq_false_iff_ne]; omega
          have e3 : (b0 / 8 == 30) = true := by rw [beq_iff_eq]; omega
          simp only [e1, e2, e3, Bool.true_and, Bool.false_and, Bool.false_eq_true, if_false]
          by_cases n2 : n < 4
          · have d2 : decide (3 < n) = false := decide_eq_false (by omega)
            rw [if_pos n2, d2, Bool.false_and, Bool.and_false]
            exact bad
          · have d1 : decide (1 < n) = true := decide_eq_true (by omega)
            have d2 : decide (2 < n) = true := decide_eq_true (by omega)
            have d3 : decide (3 < n) = true := decide_eq_true (by omega)
            rw [if_neg n2, d1, d2, d3, Bool.true_and, Bool.true_and, Bool.true_and]
            cases hc : ctR b1 with
            | false => exact bad
            | true =>
              rw [Bool.true_and]
              cases hc2 : ctR b2 with
              | false => simp only [Bool.true_eq_false, if_false, if_true]; exact bad
              | true =>
                rw [Bool.true_and]
                cases hc3 : ctR b3 with
                | false => simp only [Bool.true_eq_false, if_false, if_true]; exact bad
                | true =>
                  obtain ⟨m1, m2, m3⟩ := ct_mod hc
                  obtain ⟨p1, p2, p3⟩ := ct_mod hc2
                  obtain ⟨q1, q2, q3⟩ := ct_mod hc3
                  have ev : b0 % 8 * 262144 + b1 % 64 * 4096 + b2 % 64 * 64 + b3 % 64 = 64 * (64 * (64 * (b0 - 240) + b1 - 128) + b2 - 128) + b3 - 128 := by omega
                  simp only [if_true, ev, Bool.true_eq_false, if_false]
                  unfold finR
                  clear ev
                  generalize 64 * (64 * (64 * (b0 - 240) + b1 - 128) + b2 - 128) + b3 - 128 = V at *
                  cases hv : Utf8.valid (V : Int) with
                  | false =>
                    have hy : V < 65536 ∨ false = false := .inr rfl
                    rw [if_pos hy]
                    simp only [Bool.and_false, Bool.false_eq_true, if_false]
                    exact bad
                  | true =>
                    by_cases hl2 : V < 65536
                    · have hi : decide (V ≥ 65536) = false := decide_eq_false (by omega)
                      rw [if_pos (show V < 65536 ∨ true = false from .inl hl2)]
                      simp only [hi, Bool.false_and, Bool.false_eq_true, if_false]
                      exact bad
                    · have hi : decide (V ≥ 65536) = true := decide_eq_true (by omega)
                      have hno : ¬ (V < 65536 ∨ true = false) := by simp; omega
                      rw [if_neg hno]
                      simp only [hi, Bool.true_and, if_true]
                      exact good _ 4 (by omega)
        · rw [if_neg c3]
          have e1 : (b0 / 32 == 6) = false := by rw [beq_eq_false_iff_ne]; omega
          have e2 : (b0 / 16 == 14) = false := by rw [beq_eq_false_iff_ne]; omega
          have e3 : (b0 / 8 == 30) = false := by rw [beq_eq_false_iff_ne]; omega
          simp only [e1, e2, e3, Bool.false_and, Bool.false_eq_true, if_false]
          exact bad
theorem runeR_le {l : List UInt8} : (runeR l).2 ≤ l.length := by
  by_cases hl : l = []
  · unfold runeR; rw [if_pos hl]; simp
  · rw [runeR_val hl]
    have hp : 0 < l.length := Nat.pos_of_ne_zero (fun e => hl (List.eq_nil_of_length_eq_zero e))
    unfold valR finR
    repeat' split
    all_goals (simp only; omega)
end Go.Proofs.YtijcleiekafoiaaGreatDoor
