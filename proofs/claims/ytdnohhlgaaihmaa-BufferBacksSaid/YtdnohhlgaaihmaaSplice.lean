/- Rows of three cells an element, spliced: plain lists, and what memory tells of them. General. -/
import Derived.Test.YtdnohhlgaaihmaaCopy
namespace Go
open Go.RowKit

theorem Has.sl {w : World} {g : Nat} {e : TypeId} {cur : List Value} (h : Has w g e cur) (sz off n c : Nat) (hn : off + n * sz ≤ cur.length) (hc : n ≤ c) (hm : c ≤ maxLen) : Sl w sz (.slice (some ⟨g, off, none⟩) n c) n ((cur.drop off).take (n * sz)) := by
  refine ⟨by rw [List.length_take, List.length_drop]; omega, .inr ⟨g, off, c, rfl, hc, hm, fun j u hu => ?_⟩⟩
  rw [List.getElem?_take] at hu
  split at hu
  · rw [List.getElem?_drop] at hu
    rw [cell_of_row w g _ cur.toArray e (0, 0) h]
    simpa using hu
  · cases hu

theorem Has.kept {w w1 : World} {g : Nat} {e : TypeId} {cur : List Value} {S : Nat → Prop} (h : Has w g e cur) (f : Fr S w w1) (hn : ¬ S g) : Has w1 g e cur := f.heap h hn

theorem Has.ow {w : World} {g : Nat} {e : TypeId} {cur : List Value} (h : Has w g e cur) (sz n c : Nat) (hc : c * sz ≤ cur.length) (hn : n ≤ c) (hm : c ≤ maxLen) : Ow w e sz (.slice (some ⟨g, 0, none⟩) n c) n (cur.take (n * sz)) := by
  have : n * sz ≤ c * sz := Nat.mul_le_mul_right _ hn
  exact ⟨by rw [List.length_take]; omega, .inr ⟨g, c, _, rfl, h, hn, hm, by simpa using hc, by simp⟩⟩

theorem Ow.has {w : World} {e : TypeId} {sz g n c : Nat} {xs : List Value} (h : Ow w e sz (.slice (some ⟨g, 0, none⟩) n c) n xs) : ∃ cur, Has w g e cur ∧ c * sz ≤ cur.length ∧ n ≤ c ∧ c ≤ maxLen ∧ cur.take (n * sz) = xs := by
  rcases h.2 with ⟨h1, _⟩ | ⟨g', cap, cur, h1, hg, h2, h3, h4, h5⟩
  · cases h1
  · cases h1
    exact ⟨cur.toList, by simpa [Has] using hg, by simpa using h4, h2, h3, h5⟩

/-- With room: what lies behind is moved, then the new ones laid in. -/
theorem ins_room (cur xs us : List Value) (i n : Nat) (hx : cur.take (n * 3) = xs) (hl : (n + 1) * 3 ≤ cur.length) (hi : i ≤ n) (hu : us.length = 3) :
    let cur1 := cur.take ((i + 1) * 3) ++ ((cur.drop (i * 3)).take ((n + 1 - i) * 3)).take ((n - i) * 3) ++ cur.drop ((i + 1) * 3 + (n - i) * 3)
    (cur1.take (i * 3) ++ us ++ cur1.drop (i * 3 + 3)).take ((n + 1) * 3) = xs.take (i * 3) ++ us ++ xs.drop (i * 3) := by
  intro cur1
  obtain ⟨a, b, r, hc, ha, hb⟩ : ∃ a b r, cur = a ++ (b ++ r) ∧ a.length = i * 3 ∧ b.length = (n - i) * 3 :=
    ⟨cur.take (i * 3), (cur.drop (i * 3)).take ((n - i) * 3), cur.drop (i * 3 + (n - i) * 3), by
      rw [← List.drop_drop, List.take_append_drop, List.take_append_drop], by rw [List.length_take]; omega, by rw [List.length_take, List.length_drop]; omega⟩
  have hr : 3 ≤ r.length := by have := congrArg List.length hc; simp at this; omega
  have hxs : xs = a ++ b := by
    rw [← hx, hc, show n * 3 = (a ++ b).length by simp; omega, ← List.append_assoc, List.take_left]
  have h1 : cur1 = a ++ ((b ++ r).take 3 ++ b ++ r.drop 3) := by
    show cur.take ((i + 1) * 3) ++ ((cur.drop (i * 3)).take ((n + 1 - i) * 3)).take ((n - i) * 3) ++ cur.drop ((i + 1) * 3 + (n - i) * 3) = _
    rw [List.take_take, Nat.min_eq_left (by omega), hc]
    rw [show (i + 1) * 3 = a.length + 3 by omega, List.take_length_add_append]
    rw [show i * 3 = a.length by omega, List.drop_left, show (n - i) * 3 = b.length by omega, List.take_left]
    rw [show a.length + 3 + b.length = a.length + (b.length + 3) by omega, List.drop_length_add_append, List.drop_length_add_append]
    simp [List.append_assoc]
  have h2 : ((b ++ r).take 3).length = 3 := by rw [List.length_take, List.length_append]; omega
  rw [h1, hxs, show i * 3 = a.length by omega, List.take_left, List.drop_length_add_append, List.take_left, List.drop_left]
  rw [List.append_assoc ((b ++ r).take 3)]
  rw [List.drop_left' h2]
  rw [show (n + 1) * 3 = (a ++ us ++ b).length by simp only [List.length_append]; omega]
  rw [← List.append_assoc, List.take_left]

/-- Into a new block. -/
theorem ins_new (xs us ys : List Value) (i n : Nat) (hx : xs.length = n * 3) (hy : (n + 1) * 3 ≤ i * 3 + ys.length) (hi : i ≤ n) (hu : us.length = 3) :
    let cur := xs.take (i * 3) ++ ys
    let cur1 := cur.take (i * 3) ++ us ++ cur.drop (i * 3 + 3)
    (cur1.take ((i + 1) * 3) ++ xs.drop (i * 3) ++ cur1.drop ((i + 1) * 3 + (n - i) * 3)).take ((n + 1) * 3) = xs.take (i * 3) ++ us ++ xs.drop (i * 3) := by
  intro cur cur1
  have ha : (xs.take (i * 3)).length = i * 3 := by rw [List.length_take]; omega
  have h1 : cur1.take ((i + 1) * 3) = xs.take (i * 3) ++ us := by
    show (cur.take (i * 3) ++ us ++ cur.drop (i * 3 + 3)).take ((i + 1) * 3) = _
    have h2 : cur.take (i * 3) = xs.take (i * 3) := by
      show (xs.take (i * 3) ++ ys).take (i * 3) = _
      conv => lhs; rw [show i * 3 = (xs.take (i * 3)).length from ha.symm]
      rw [ha, List.take_left' ha]
    rw [h2, show (i + 1) * 3 = (xs.take (i * 3) ++ us).length by rw [List.length_append]; omega, List.take_left]
  rw [h1, show (n + 1) * 3 = (xs.take (i * 3) ++ us ++ xs.drop (i * 3)).length by simp only [List.length_append, List.length_drop]; omega, List.take_left]

theorem rep_mid (cur xs us : List Value) (i j n : Nat) (hx : cur.take (n * 3) = xs) (hl : n * 3 ≤ cur.length) (hi : i < j) (hj : j ≤ n) (hu : us.length = 3) :
    ((cur.take (i * 3) ++ us ++ cur.drop (i * 3 + 3)).drop (j * 3)).take ((n - j) * 3) = xs.drop (j * 3) := by
  have hp : (cur.take (i * 3) ++ us).length = i * 3 + 3 := by rw [List.length_append, List.length_take]; omega
  have hd : (cur.take (i * 3) ++ us ++ cur.drop (i * 3 + 3)).drop (j * 3) = cur.drop (j * 3) := by
    rw [List.drop_append, List.drop_of_length_le (by omega), List.nil_append, List.drop_drop, hp]
    congr 1
    omega
  rw [hd, ← hx, List.drop_take]
  congr 1
  omega

/-- A part written over by one, what lies behind drawn up. -/
theorem rep_room (cur xs us ys : List Value) (i j n : Nat) (hx : cur.take (n * 3) = xs) (hl : n * 3 ≤ cur.length) (hi : i < j) (hj : j ≤ n) (hu : us.length = 3) (hy : ys.length = (j - i - 1) * 3) :
    let cur1 := cur.take (i * 3) ++ us ++ cur.drop (i * 3 + 3)
    let cur2 := cur1.take ((i + 1) * 3) ++ (cur1.drop (j * 3)).take ((n - j) * 3) ++ cur1.drop ((i + 1) * 3 + (n - j) * 3)
    (cur2.take ((i + 1 + (n - j)) * 3) ++ ys ++ cur2.drop ((i + 1 + (n - j)) * 3 + (j - i - 1) * 3)).take ((i + 1 + (n - j)) * 3) = xs.take (i * 3) ++ us ++ xs.drop (j * 3) := by
  intro cur1 cur2
  have ha : (cur.take (i * 3)).length = i * 3 := by rw [List.length_take]; omega
  have hxa : xs.take (i * 3) = cur.take (i * 3) := by rw [← hx, List.take_take, Nat.min_eq_left (by omega)]
  have h1 : cur1.take ((i + 1) * 3) = cur.take (i * 3) ++ us := by
    show (cur.take (i * 3) ++ us ++ cur.drop (i * 3 + 3)).take ((i + 1) * 3) = _
    rw [show (i + 1) * 3 = (cur.take (i * 3) ++ us).length by rw [List.length_append]; omega, List.take_left]
  have h2 : (cur1.drop (j * 3)).take ((n - j) * 3) = xs.drop (j * 3) := by
    have hd : cur1.drop (j * 3) = cur.drop (j * 3) := by
      show (cur.take (i * 3) ++ us ++ cur.drop (i * 3 + 3)).drop (j * 3) = _
      have hp : (cur.take (i * 3) ++ us).length = i * 3 + 3 := by rw [List.length_append]; omega
      rw [List.drop_append, List.drop_of_length_le (by omega), List.nil_append, List.drop_drop, hp]
      congr 1
      omega
    rw [hd, ← hx, List.drop_take]
    congr 1
    omega
  have h3 : cur2.take ((i + 1 + (n - j)) * 3) = xs.take (i * 3) ++ us ++ xs.drop (j * 3) := by
    show (cur1.take ((i + 1) * 3) ++ (cur1.drop (j * 3)).take ((n - j) * 3) ++ cur1.drop ((i + 1) * 3 + (n - j) * 3)).take ((i + 1 + (n - j)) * 3) = _
    have hxl : xs.length = n * 3 := by rw [← hx, List.length_take]; omega
    rw [h1, h2, hxa, show (i + 1 + (n - j)) * 3 = (cur.take (i * 3) ++ us ++ xs.drop (j * 3)).length by simp only [List.length_append, List.length_drop]; omega, List.take_left]
  have hl3 : (cur2.take ((i + 1 + (n - j)) * 3)).length = (i + 1 + (n - j)) * 3 := by
    have hxl : xs.length = n * 3 := by rw [← hx, List.length_take]; omega
    rw [h3]; simp only [List.length_append, List.length_drop, List.length_take]; omega
  rw [List.append_assoc, List.take_left' hl3, h3]
end Go
