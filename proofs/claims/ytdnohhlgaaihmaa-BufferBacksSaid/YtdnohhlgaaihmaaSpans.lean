/- Spans, as package reads has them: a slice of them, the first that fits. -/
import Derived.Test.YtdnohhlgaaihmaaByt
import Derived.Test.YtdnohhlgaaihmaaCopy
import Derived.Test.YtdnohhlgaaihmaaTd
namespace Go.Proofs.Ytdnohhlgaaihmaa
open Go.RowKit

/-- A span: its two slices, their bytes, and whether it is open. -/
structure SpV where
  F : Value
  T : Value
  f : List UInt8
  t : List UInt8
  o : Bool

namespace SpV
def cells (x : SpV) : List Value := [x.F, x.T, .bool x.o]
structure Good (w : World) (x : SpV) : Prop where
  F : Sl w 1 x.F x.f.length (bvs x.f)
  T : Sl w 1 x.T x.t.length (bvs x.t)
  lf : x.f.length ≤ 140737488351232
  lt : x.t.length ≤ 140737488351232
theorem Good.kept {w w1 : World} {x : SpV} {S : Nat → Prop} (h : x.Good w) (f : Fr S w w1) (h1 : ∀ k, x.F.ownBlock = some k → ¬ S k) (h2 : ∀ k, x.T.ownBlock = some k → ¬ S k) : x.Good w1 :=
  ⟨h.F.kept f h1, h.T.kept f h2, h.lf, h.lt⟩
theorem Good.kept0 {w w1 : World} {x : SpV} (h : x.Good w) (f : Fr no w w1) : x.Good w1 := h.kept f (fun _ _ h => h) (fun _ _ h => h)
theorem Good.below {w w1 : World} {x : SpV} (h : x.Good w) (b : Below w.heap.size w w1) : x.Good w1 := ⟨h.F.below b, h.T.below b, h.lf, h.lt⟩
end SpV

theorem flat3 (l : List SpV) (j : Nat) (h : j < l.length) (i : Nat) (hi : i < 3) : (l.flatMap SpV.cells)[3 * j + i]? = (l[j].cells)[i]? := by
  have e : l.flatMap SpV.cells = (l.map SpV.cells).flatten := by rw [List.flatMap_def]
  rw [e, flat_get (sz := 3) (by omega) _ (by intro c hc; obtain ⟨o, _, rfl⟩ := List.mem_map.1 hc; rfl)]
  rw [show (3 * j + i) / 3 = j by omega, show (3 * j + i) % 3 = i by omega]
  simp [h]

theorem cells3_len (l : List SpV) : (l.flatMap SpV.cells).length = l.length * 3 := by
  induction l with
  | nil => rfl
  | cons a l ih => simp [List.flatMap_cons, ih, SpV.cells, Nat.succ_mul]

theorem cells3_one (l : List SpV) {w : World} (h : ∀ x ∈ l, x.Good w) : ∀ u ∈ l.flatMap SpV.cells, u.oneCell' = true := by
  intro u hu
  obtain ⟨x, hx, hu⟩ := List.mem_flatMap.1 hu
  obtain ⟨A, c, hA, _, _⟩ := (h x hx).F.form
  obtain ⟨B, d, hB, _, _⟩ := (h x hx).T.form
  simp only [SpV.cells, List.mem_cons, List.not_mem_nil, or_false] at hu
  rcases hu with rfl | rfl | rfl
  · rw [hA]; rfl
  · rw [hB]; rfl
  · rfl

theorem Spans.at {w : World} {A : Option Addr} {n c : Nat} {l : List SpV} (h : Sl w 3 (.slice A n c) l.length (l.flatMap SpV.cells)) (j : Nat) (hj : j < l.length) :
    ∃ b o, A = some ⟨b, o, none⟩ ∧ w.cell? ⟨b, o + j * 3, none⟩ = some l[j].F ∧ w.cell? ⟨b, o + j * 3 + 1, none⟩ = some l[j].T ∧ w.cell? ⟨b, o + j * 3 + 2, none⟩ = some (.bool l[j].o) := by
  rcases h.2 with ⟨_, h1, h2⟩ | ⟨b, o, cap, h1, _, _, h4⟩
  · omega
  · cases h1
    have g : ∀ i, i < 3 → ∀ u, (l[j].cells)[i]? = some u → w.cell? ⟨b, o + j * 3 + i, none⟩ = some u := fun i hi u hu => by
      have := h4 (3 * j + i) u (by rw [flat3 l j hj i hi, hu])
      rw [show o + j * 3 + i = o + (3 * j + i) by omega]; exact this
    exact ⟨b, o, rfl, g 0 (by omega) _ rfl, g 1 (by omega) _ rfl, g 2 (by omega) _ rfl⟩

/-- The span ends no earlier than where the key begins. -/
def reach (o : Bool) (t k : List UInt8) : Bool := o || decide (0 ≤ cb t k)

set_option maxRecDepth 100000 in
set_option maxHeartbeats 400000 in
theorem reaches_any (w : World) (F T K : Value) (t k : List UInt8) (o : Bool) (hT : Sl w 1 T t.length (bvs t)) (hK : Sl w 1 K k.length (bvs k)) :
    Calls Try.prog 114 #[.agg #[F, T, .bool o], K] w fun e w' => e = .returned (.bool (reach o t k)) ∧ Fr no w w' := by
  have HT := Lib.hid hT; have HK := Lib.hid hK; clear hT hK
  cases o with
  | true =>
    go_enter Try.func114, Try.ntmps114
    go_wp2
    go_ret
    exact ⟨rfl, (Fr.refl no w).alloc _⟩
  | false =>
    go_enter Try.func114, Try.ntmps114
    go_wp2_with fail
    refine (cmp_any _ _ _ t k (HT.out.kept0 ((Fr.refl no w).alloc _)) (HK.out.kept0 ((Fr.refl no w).alloc _))).mono ?_
    rintro e w1 ⟨rfl, rfl⟩
    go_wp2
    go_ret
    exact ⟨by simp [reach], (Fr.refl no w).alloc _⟩

set_option maxRecDepth 100000 in
set_option maxHeartbeats 400000 in
/-- What Span asks of each span: whether it reaches to where x begins. -/
theorem span1_any (w : World) (px : Nat) (F T XF : Value) (t k : List UInt8) (o : Bool) (hT : Sl w 1 T t.length (bvs t)) (hK : Sl w 1 XF k.length (bvs k)) (hc : w.cell? ⟨px, 0, none⟩ = some XF) :
    Calls Try.prog 113 #[.agg #[F, T, .bool o], .pointer (some ⟨px, 0, none⟩)] w fun e w' => e = .returned (.bool (reach o t k)) ∧ Fr no w w' := by
  have HT := Lib.hid hT; have HK := Lib.hid hK; clear hT hK
  have hlt := World.block_lt_of_cell? w _ hc
  have hc2 := ((Fr.refl no w).alloc (.cells #[F, T, .bool o] 100)).cell hc (fun h => h)
  go_enter Try.func113, Try.ntmps113
  go_wp2_with fail
  refine (reaches_any _ F T XF t k o (HT.out.kept0 ((Fr.refl no w).alloc _)) (HK.out.kept0 ((Fr.refl no w).alloc _))).mono ?_
  rintro e w1 ⟨rfl, hf⟩
  have HF := Lib.hid hf; clear hf
  go_wp2
  go_ret
  exact ⟨rfl, ((Fr.refl no w).alloc _).trans HF.out (fun _ _ h => h)⟩

/-- A span that ends behind k. -/
def past (o : Bool) (t k : List UInt8) : Bool := o || decide (0 < cb t k)

set_option maxRecDepth 100000 in
set_option maxHeartbeats 400000 in
theorem has1_any (w : World) (px : Nat) (F T XK : Value) (t k : List UInt8) (o : Bool) (hT : Sl w 1 T t.length (bvs t)) (hK : Sl w 1 XK k.length (bvs k)) (hc : w.cell? ⟨px, 0, none⟩ = some XK) :
    Calls Try.prog 117 #[.agg #[F, T, .bool o], .pointer (some ⟨px, 0, none⟩)] w fun e w' => e = .returned (.bool (past o t k)) ∧ Fr no w w' := by
  have HT := Lib.hid hT; have HK := Lib.hid hK; clear hT hK
  have hlt := World.block_lt_of_cell? w _ hc
  have hc2 := ((Fr.refl no w).alloc (.cells #[F, T, .bool o] 100)).cell hc (fun h => h)
  cases o with
  | true =>
    go_enter Try.func117, Try.ntmps117
    go_wp2
    go_ret
    exact ⟨rfl, (Fr.refl no w).alloc _⟩
  | false =>
    go_enter Try.func117, Try.ntmps117
    go_wp2_with fail
    refine (cmp_any _ _ _ t k (HT.out.kept0 ((Fr.refl no w).alloc _)) (HK.out.kept0 ((Fr.refl no w).alloc _))).mono ?_
    rintro e w1 ⟨rfl, rfl⟩
    go_wp2
    go_ret
    exact ⟨by simp [past], (Fr.refl no w).alloc _⟩

/-- The first that fits; -1: none does. -/
def fits (p : SpV → Bool) (l : List SpV) : Int := match l.findIdx? p with | some i => i | none => -1

set_option maxRecDepth 100000 in
set_option maxHeartbeats 400000 in
theorem index_span1 (w : World) (px : Nat) (A : Option Addr) (c : Nat) (l : List SpV) (hl : Sl w 3 (.slice A l.length c) l.length (l.flatMap SpV.cells)) (hn : l.length ≤ 140737488351232) (p : SpV → Bool)
    (hp : ∀ w', Fr no w w' → ∀ x ∈ l, Calls Try.prog 113 #[.agg #[x.F, x.T, .bool x.o], .pointer (some ⟨px, 0, none⟩)] w' fun e w'' => e = .returned (.bool (p x)) ∧ Fr no w' w'') :
    Calls Try.prog 112 #[.slice A l.length c, .func (.func 113) #[] #[.pointer (some ⟨px, 0, none⟩)]] w fun e w' => e = .returned (.int .i64 (fits p l)) ∧ Fr no w w' := by
  have HL := Lib.hid hl; have HP := Lib.hid hp; clear hl hp
  go_enter Try.func112, Try.ntmps112
  go_wp2
  go_loopw [8] (fun i wr => ∃ j : Nat, j ≤ l.length ∧ i = .int .i64 j ∧ Fr no w wr ∧ ∀ k (hk : k < l.length), k < j → p l[k] = false) (fun i _ => l.length - (intOf i).toNat)
  case atStart => exact ⟨0, Nat.zero_le _, rfl, Fr.refl _ _, fun k _ h => by omega⟩
  case round =>
    obtain ⟨j, hj, rfl, hf, hno⟩ := hrel
    have HF := Lib.hid hf; have HNO := Lib.hid hno; clear hf hno
    by_cases hlt : j < l.length
    · obtain ⟨b, o, hA, q0, q1, q2⟩ := Spans.at (HL.out.kept0 HF.out) j hlt
      subst hA
      cases hpj : p l[j] with
      | true =>
        have HPJ := Lib.hid hpj; clear hpj
        go_wp2_with fail
        refine (HP.out wr HF.out l[j] (List.getElem_mem _)).mono ?_
        rintro e w1 ⟨rfl, hf1⟩
        rw [HPJ.out]
        have HF1 := Lib.hid hf1; clear hf1
        go_wp2
        go_ret
        have e : fits p l = j := by
          unfold fits
          rw [List.findIdx?_eq_some_iff_getElem.2 ⟨hlt, HPJ.out, fun k hk => by rw [HNO.out k (by omega) hk]; simp⟩]
        rw [e]
        exact ⟨rfl, HF.out.trans HF1.out (fun _ _ h => h)⟩
      | false =>
        have HPJ := Lib.hid hpj; clear hpj
        go_wp2_with fail
        refine (HP.out wr HF.out l[j] (List.getElem_mem _)).mono ?_
        rintro e w1 ⟨rfl, hf1⟩
        rw [HPJ.out]
        have HF1 := Lib.hid hf1; clear hf1
        go_wp2
        go_roundw
        case rel =>
          refine ⟨j + 1, hlt, by go_num, HF.out.trans HF1.out (fun _ _ h => h), fun k hk hkj => ?_⟩
          by_cases h : k = j
          · subst h; exact HPJ.out
          · exact HNO.out k hk (by omega)
        case measure => simp [intOf]; omega
    · go_wp2
      go_ret
      have e : fits p l = -1 := by
        unfold fits
        rw [List.findIdx?_eq_none_iff.2 (fun x hx => by
          obtain ⟨k, hk, rfl⟩ := List.getElem_of_mem hx
          exact HNO.out k hk (by omega))]
      rw [e]
      exact ⟨rfl, HF.out⟩


set_option maxRecDepth 100000 in
set_option maxHeartbeats 400000 in
theorem index_has1 (w : World) (px : Nat) (A : Option Addr) (c : Nat) (l : List SpV) (hl : Sl w 3 (.slice A l.length c) l.length (l.flatMap SpV.cells)) (hn : l.length ≤ 140737488351232) (p : SpV → Bool)
    (hp : ∀ w', Fr no w w' → ∀ x ∈ l, Calls Try.prog 117 #[.agg #[x.F, x.T, .bool x.o], .pointer (some ⟨px, 0, none⟩)] w' fun e w'' => e = .returned (.bool (p x)) ∧ Fr no w' w'') :
    Calls Try.prog 112 #[.slice A l.length c, .func (.func 117) #[] #[.pointer (some ⟨px, 0, none⟩)]] w fun e w' => e = .returned (.int .i64 (fits p l)) ∧ Fr no w w' := by
  have HL := Lib.hid hl; have HP := Lib.hid hp; clear hl hp
  go_enter Try.func112, Try.ntmps112
  go_wp2
  go_loopw [8] (fun i wr => ∃ j : Nat, j ≤ l.length ∧ i = .int .i64 j ∧ Fr no w wr ∧ ∀ k (hk : k < l.length), k < j → p l[k] = false) (fun i _ => l.length - (intOf i).toNat)
  case atStart => exact ⟨0, Nat.zero_le _, rfl, Fr.refl _ _, fun k _ h => by omega⟩
  case round =>
    obtain ⟨j, hj, rfl, hf, hno⟩ := hrel
    have HF := Lib.hid hf; have HNO := Lib.hid hno; clear hf hno
    by_cases hlt : j < l.length
    · obtain ⟨b, o, hA, q0, q1, q2⟩ := Spans.at (HL.out.kept0 HF.out) j hlt
      subst hA
      cases hpj : p l[j] with
      | true =>
        have HPJ := Lib.hid hpj; clear hpj
        go_wp2_with fail
        refine (HP.out wr HF.out l[j] (List.getElem_mem _)).mono ?_
        rintro e w1 ⟨rfl, hf1⟩
        rw [HPJ.out]
        have HF1 := Lib.hid hf1; clear hf1
        go_wp2
        go_ret
        have e : fits p l = j := by
          unfold fits
          rw [List.findIdx?_eq_some_iff_getElem.2 ⟨hlt, HPJ.out, fun k hk => by rw [HNO.out k (by omega) hk]; simp⟩]
        rw [e]
        exact ⟨rfl, HF.out.trans HF1.out (fun _ _ h => h)⟩
      | false =>
        have HPJ := Lib.hid hpj; clear hpj
        go_wp2_with fail
        refine (HP.out wr HF.out l[j] (List.getElem_mem _)).mono ?_
        rintro e w1 ⟨rfl, hf1⟩
        rw [HPJ.out]
        have HF1 := Lib.hid hf1; clear hf1
        go_wp2
        go_roundw
        case rel =>
          refine ⟨j + 1, hlt, by go_num, HF.out.trans HF1.out (fun _ _ h => h), fun k hk hkj => ?_⟩
          by_cases h : k = j
          · subst h; exact HPJ.out
          · exact HNO.out k hk (by omega)
        case measure => simp [intOf]; omega
    · go_wp2
      go_ret
      have e : fits p l = -1 := by
        unfold fits
        rw [List.findIdx?_eq_none_iff.2 (fun x hx => by
          obtain ⟨k, hk, rfl⟩ := List.getElem_of_mem hx
          exact HNO.out k hk (by omega))]
      rw [e]
      exact ⟨rfl, HF.out⟩

end Go.Proofs.Ytdnohhlgaaihmaa
