/- package buffer: where a key stands. -/
import Derived.Test.YtdnohhlgaaihmaaBuf0
namespace Go.Proofs.Ytdnohhlgaaihmaa
open Go.RowKit

/-- Changes by rising keys. -/
def Ris (l : List SpV) : Prop := l.Pairwise fun x y => lt x.f y.f
/-- How many keys lie ahead of k. -/
def posK (l : List SpV) (k : List UInt8) : Nat := (l.takeWhile fun y => decide (cb y.f k < 0)).length
/-- Is it said of k? -/
def saidK (l : List SpV) (k : List UInt8) : Bool := match l[posK l k]? with | some y => decide (cb y.f k = 0) | none => false

theorem posK_le (l : List SpV) (k : List UInt8) : posK l k ≤ l.length := by
  unfold posK
  induction l with
  | nil => simp
  | cons a l ih => rw [List.takeWhile_cons]; split <;> simp; omega

theorem posK_of {l : List SpV} {k : List UInt8} {i : Nat} (hi : i ≤ l.length) (h1 : ∀ m (h : m < l.length), m < i → cb l[m].f k < 0) (h2 : ∀ h : i < l.length, ¬ cb l[i].f k < 0) : posK l k = i := by
  induction l generalizing i with
  | nil => simp at hi; subst hi; rfl
  | cons a l ih =>
    unfold posK
    rw [List.takeWhile_cons]
    cases i with
    | zero =>
      have := h2 (by simp)
      simp only [List.getElem_cons_zero] at this
      simp [this]
    | succ i =>
      have h0 := h1 0 (by simp) (by omega)
      simp only [List.getElem_cons_zero] at h0
      simp only [h0, decide_true, if_true, List.length_cons]
      have := ih (i := i) (by simpa using hi) (fun m h hm => h1 (m + 1) (Nat.succ_lt_succ h) (by omega)) (fun h => h2 (Nat.succ_lt_succ h))
      unfold posK at this
      rw [this]

theorem posK_lt {l : List SpV} {k : List UInt8} (m : Nat) (h : m < l.length) (hm : m < posK l k) : cb l[m].f k < 0 := by
  unfold posK at hm
  induction l generalizing m with
  | nil => simp at h
  | cons a l ih =>
    rw [List.takeWhile_cons] at hm
    split at hm
    · rename_i h0
      cases m with
      | zero => simpa using h0
      | succ m => simpa using ih m (by simpa using h) (by simpa using hm)
    · simp at hm
theorem posK_ge {l : List SpV} {k : List UInt8} (h : posK l k < l.length) : ¬ cb l[posK l k].f k < 0 := by
  induction l with
  | nil => simp at h
  | cons a l ih =>
    by_cases h0 : cb a.f k < 0
    · have e : posK (a :: l) k = posK l k + 1 := by unfold posK; rw [List.takeWhile_cons]; simp [h0]
      simp only [e] at h ⊢
      simpa using ih (by simpa using h)
    · have e : posK (a :: l) k = 0 := by unfold posK; rw [List.takeWhile_cons]; simp [h0]
      simp only [e]
      simpa using h0

theorem below_mono {l : List SpV} (h : Ris l) {k : List UInt8} {i j : Nat} (hi : i < l.length) (hj : j < l.length) (hij : i ≤ j) (hc : cb l[j].f k < 0) : cb l[i].f k < 0 := by
  rcases Nat.lt_or_eq_of_le hij with h1 | rfl
  · exact lt_trans (List.pairwise_iff_getElem.1 h i j hi hj h1) hc
  · exact hc

set_option maxRecDepth 100000 in
set_option maxHeartbeats 400000 in
theorem cmpk_any (w : World) (x : SpV) (K : Value) (k : List UInt8) (hx : x.Good w) (hK : Sl w 1 K k.length (bvs k)) :
    Calls Try.prog 126 #[.agg #[x.F, x.T, .bool x.o], K] w fun e w' => e = .returned (.int .i64 (cb x.f k)) ∧ Fr no w w' := by
  have HX := Lib.hid hx; have HK := Lib.hid hK; clear hx hK
  go_enter Try.func126, Try.ntmps126
  go_wp2_with fail
  refine (cmp_any _ _ _ x.f k (HX.out.F.kept0 ((Fr.refl no w).alloc _)) (HK.out.kept0 ((Fr.refl no w).alloc _))).mono ?_
  rintro e w1 ⟨rfl, rfl⟩
  go_wp2
  go_ret
  exact ⟨rfl, (Fr.refl no w).alloc _⟩

set_option maxRecDepth 100000 in
set_option maxHeartbeats 4000000 in
theorem search_any (w : World) (x K : Value) (l : List SpV) (k : List UInt8) (hx : Sl w 3 x l.length (l.flatMap SpV.cells)) (hg : ∀ y ∈ l, y.Good w) (hK : Sl w 1 K k.length (bvs k)) (hr : Ris l) (hl : l.length ≤ 1000000) :
    Calls Try.prog 125 #[x, K, .func (.func 126) #[] #[]] w fun e w' => e = .returned (.tuple #[.int .i64 (posK l k), .bool (saidK l k)]) ∧ Fr no w w' := by
  obtain ⟨A, c, rfl, hc1, hc2⟩ := hx.form
  have HX := Lib.hid hx; have HG := Lib.hid hg; have HK := Lib.hid hK; have HR := Lib.hid hr; clear hx hg hK hr hc2
  go_enter Try.func125, Try.ntmps125
  go_wp2
  go_loopw [9, 10, 11] (fun i j _ wr => ∃ a b : Nat, i = .int .i64 a ∧ j = .int .i64 b ∧ a ≤ b ∧ b ≤ l.length ∧ (∀ m (h : m < l.length), m < a → cb l[m].f k < 0) ∧ (∀ m (h : m < l.length), b ≤ m → ¬ cb l[m].f k < 0) ∧ Fr no w wr) (fun i j _ _ => (intOf j - intOf i).toNat)
  case atStart => exact ⟨0, l.length, rfl, rfl, Nat.zero_le _, Nat.le_refl _, fun m h h0 => by omega, fun m h h0 => by omega, Fr.refl _ _⟩
  case round =>
    obtain ⟨a, b, rfl, rfl, hab, hbl, h1, h2, hf⟩ := hrel
    have H1 := Lib.hid h1; have H2 := Lib.hid h2; have HF := Lib.hid hf; clear h1 h2 hf
    by_cases hlt : a < b
    · have hMl : (a + b) / 2 < l.length := by omega
      obtain ⟨bb, o, hA, q0, q1, q2⟩ := Spans.at (HX.out.kept0 HF.out) ((a + b) / 2) hMl
      subst hA
      have hgm := HG.out l[(a + b) / 2] (List.getElem_mem _)
      obtain ⟨FA, fc, hF, _, _⟩ := hgm.F.form
      obtain ⟨TA, tc, hT, _, _⟩ := hgm.T.form
      have hgm2 : SpV.Good w ⟨.slice FA l[(a + b) / 2].f.length fc, .slice TA l[(a + b) / 2].t.length tc, l[(a + b) / 2].f, l[(a + b) / 2].t, l[(a + b) / 2].o⟩ := ⟨hF ▸ hgm.F, hT ▸ hgm.T, hgm.lf, hgm.lt⟩
      rw [hF] at q0; rw [hT] at q1
      have HGM := Lib.hid hgm2; clear hgm hgm2 hF hT
      by_cases hc : cb l[(a + b) / 2].f k < 0
      · go_wp2_with fail
        refine (cmpk_any _ _ K k (HGM.out.kept0 HF.out) (HK.out.kept0 HF.out)).mono ?_
        rintro e w1 ⟨rfl, f1⟩
        have F1 := Lib.hid f1; clear f1
        have HC := Lib.hid hc
        go_wp2
        go_roundw
        case rel => exact ⟨(a + b) / 2 + 1, b, by first | rfl | go_num, rfl, by omega, hbl, fun m h hm => below_mono HR.out h hMl (by omega) HC.out, (fun m h hm => by have := H2.out m h hm; omega), HF.out.trans F1.out (fun _ _ h => h)⟩
        case measure => simp [intOf]; omega
      · go_wp2_with fail
        refine (cmpk_any _ _ K k (HGM.out.kept0 HF.out) (HK.out.kept0 HF.out)).mono ?_
        rintro e w1 ⟨rfl, f1⟩
        have F1 := Lib.hid f1; clear f1
        have HC := Lib.hid hc
        go_wp2
        go_roundw
        case rel => exact ⟨a, (a + b) / 2, rfl, by first | rfl | go_num, by omega, by omega, H1.out, fun m h hm h0 => by have := below_mono HR.out hMl h hm h0; have := HC.out; omega, HF.out.trans F1.out (fun _ _ h => h)⟩
        case measure => simp [intOf]; omega
    · obtain rfl : a = b := by omega
      have hp : posK l k = a := posK_of hbl H1.out (fun h => H2.out a h (Nat.le_refl _))
      have HP := Lib.hid hp; clear hp
      by_cases hal : a < l.length
      · obtain ⟨bb, o, hA, q0, q1, q2⟩ := Spans.at (HX.out.kept0 HF.out) a hal
        subst hA
        have hgm := HG.out l[a] (List.getElem_mem _)
        obtain ⟨FA, fc, hF, _, _⟩ := hgm.F.form
        obtain ⟨TA, tc, hT, _, _⟩ := hgm.T.form
        have hgm2 : SpV.Good w ⟨.slice FA l[a].f.length fc, .slice TA l[a].t.length tc, l[a].f, l[a].t, l[a].o⟩ := ⟨hF ▸ hgm.F, hT ▸ hgm.T, hgm.lf, hgm.lt⟩
        rw [hF] at q0; rw [hT] at q1
        have HGM := Lib.hid hgm2; clear hgm hgm2 hF hT
        go_wp2_with fail
        refine (cmpk_any _ _ K k (HGM.out.kept0 HF.out) (HK.out.kept0 HF.out)).mono ?_
        rintro e w1 ⟨rfl, f1⟩
        have F1 := Lib.hid f1; clear f1
        have hs : saidK l k = decide (cb l[a].f k = 0) := by unfold saidK; rw [HP.out, List.getElem?_eq_getElem hal]
        have HS := Lib.hid hs; clear hs
        go_wp2
        refine bodyPost_ret (results_tmp2 rfl _ _ _) rfl ?_
        rw [HP.out, HS.out]
        exact ⟨by first | rfl | simp, HF.out.trans F1.out (fun _ _ h => h)⟩
      · have hs : saidK l k = false := by unfold saidK; rw [HP.out, List.getElem?_eq_none (by omega)]
        have HS := Lib.hid hs; clear hs
        go_wp2
        refine bodyPost_ret (results_tmp2 rfl _ _ _) rfl ?_
        rw [HP.out, HS.out]
        exact ⟨rfl, HF.out⟩
end Go.Proofs.Ytdnohhlgaaihmaa
