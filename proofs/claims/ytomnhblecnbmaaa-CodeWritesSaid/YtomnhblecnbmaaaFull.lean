/- append onto a slice without room: the elder row stays as it is. General. -/
import Derived.Test.YtomnhblecnbmaaaMem
namespace Go
open Go.RowKit
section
variable {P : Program} {w : World} {o : Oper} {a : Act} {K : Act → World → Prop} {Q : Exit → Act → World → Prop}

theorem run_apf {t e : TypeId} {z : Value} {size bytes : Nat} (tb : Tb P t e z size bytes) (ty : TypeId) {A : Option Addr} {n : Nat} {xs : List Value} (hs : Sl w size (.slice A n n) n xs)
    {x : Value} {m : Nat} {news : List Value} (hx : Sl w size x m news) (h63 : n + m ≤ maxLen) (hb : (n + m) * bytes ≤ 140737488355328) :
    ∃ A' c w', (Builtin.append_ #[t, t] ty #[.slice A n n, x]).run P w = .ok (.slice A' (n + m) c) w' ∧ Sl w' size (.slice A' (n + m) c) (n + m) (xs ++ news) ∧ Fr no w w' := by
  obtain ⟨i, hi, hz0, hz1, hz2⟩ := info_parts tb.info
  obtain ⟨X, cx, rfl, hcx1, hcx2⟩ := hx.form
  have hsmall : n + m ≤ 9223372036854775807 := by simp only [maxLen] at h63; omega
  by_cases hm : m = 0
  · subst hm
    have hn : news = [] := List.eq_nil_of_length_eq_zero (by simpa using hx.1)
    subst hn
    refine ⟨A, n, w, ?_, by simpa using hs, Fr.refl _ _⟩
    cases X with
    | none => cases A <;> simp [Builtin.append_, run_underlying tb.und, sizeOf, typeInfo, hi, Builtin.lenOf, Builtin.firstCells, storeCells]
    | some y =>
      have hf := run_firstCells_some (P := P) w i.size 0 y 0 cx [] (by simp) (by simp)
      cases A <;> simp [Builtin.append_, run_underlying tb.und, sizeOf, typeInfo, hi, Builtin.lenOf, hf, storeCells]
  · obtain ⟨b, off, cap', h1, hnews⟩ : ∃ b off cap', Value.slice X m cx = .slice (some ⟨b, off, none⟩) m cap' ∧ ∀ j u, news[j]? = some u → w.cell? ⟨b, off + j, none⟩ = some u := by
      rcases hx.2 with ⟨_, _, h2⟩ | ⟨b, off, cap', h1, _, _, hc⟩
      · omega
      · exact ⟨b, off, cap', h1, hc⟩
    have hnews' : ∀ j u, news[j]? = some u → w.cell? ((⟨b, off, none⟩ : Addr).add j) = some u := fun j u hu => by rw [Addr.add_lit]; exact hnews j u hu
    rw [h1]
    have hlen : (xs ++ news).length = (n + m) * size := by rw [List.length_append, hs.1, hx.1, Nat.add_mul]
    have grown : Sl (w.drew.alloc (.cells (xs.toArray ++ news.toArray ++ Builtin.zeroCells z.cells (grownCap w (n + m) n e - (n + m))) e)) size
        (.slice (some ⟨w.heap.size, 0, none⟩) (n + m) (grownCap w (n + m) n e)) (n + m) (xs ++ news) := by
      refine ⟨hlen, .inr ⟨w.heap.size, 0, _, rfl, grownCap_ge w (n + m) n e, grownCap_le_maxLen w (n + m) n e h63, fun j u hu => ?_⟩⟩
      have hj := (List.getElem?_eq_some_iff.1 hu).1
      have hh : (w.drew.alloc (.cells (xs.toArray ++ news.toArray ++ Builtin.zeroCells z.cells (grownCap w (n + m) n e - (n + m))) e)).heap[w.heap.size]? = some (.cells (xs.toArray ++ news.toArray ++ Builtin.zeroCells z.cells (grownCap w (n + m) n e - (n + m))) e (0, 0)) := heap_alloc_new w.drew _
      unfold World.cell?
      simp only [hh, Nat.zero_add]
      have hsz : j < (xs.toArray ++ news.toArray).size := by simpa using hj
      simp only [Option.isSome_none, Bool.false_eq_true, if_false]
      rw [Array.getElem?_append_left hsz]
      simpa using hu
    have frg : ∀ o, Fr no w (w.drew.alloc o) := fun o => Fr.alloc (Fr.drew (Fr.refl _ _)) o
    cases A with
    | none =>
      have hn0 : n = 0 := by
        rcases hs.2 with ⟨_, _, h⟩ | ⟨_, _, _, h, _⟩
        · exact h
        · cases h
      subst hn0
      have hx0 : xs = [] := List.eq_nil_of_length_eq_zero (by simpa using hs.1)
      subst hx0
      have hr := run_append_nil (P := P) w t ty e i z tb.und hi hz0 ⟨b, off, none⟩ m cap' news (by rw [hz1]; exact hx.1) hnews' (by omega) (by omega) (by simp only [Nat.zero_add] at hb; rw [hz2]; omega)
      simp only [Nat.zero_add, List.nil_append, Array.empty_append] at grown ⊢
      exact ⟨_, _, _, hr, grown, frg _⟩
    | some g =>
      have holds : ∀ j u, xs[j]? = some u → w.cell? (g.add j) = some u := by
        intro j u hu
        rcases hs.2 with ⟨_, h1, h2⟩ | ⟨b, o, cap, h1, _, _, h4⟩
        · subst h2
          have hx0 : xs = [] := List.eq_nil_of_length_eq_zero (by simpa using hs.1)
          subst hx0; simp at hu
        · cases h1; rw [Addr.add_lit]; exact h4 j u hu
      have hr := run_append_grow (P := P) w t ty e i z tb.und hi hz0 g n n xs (by rw [hz1]; exact hs.1) holds ⟨b, off, none⟩ m cap' news (by rw [hz1]; exact hx.1) hnews' (by omega) (by omega) (growslice_fits (by omega) (by rw [hz2]; exact hb))
      exact ⟨_, _, _, hr, grown, frg _⟩

theorem wp_apf (s x : Operand) (t : TypeId) (ho : o.op = .call { callee := .builtin .append, args := #[s, x], argTypes := #[t, t] })
    {e : TypeId} {z : Value} {size bytes : Nat} (tb : Tb P t e z size bytes) {A : Option Addr} {n : Nat} {xs : List Value} (hs : Sl w size (.slice A n n) n xs)
    {vx : Value} {m : Nat} {news : List Value} (hx : Sl w size vx m news) (hse : a.eval s = .slice A n n) (hxe : a.eval x = vx) (h63 : n + m ≤ maxLen) (hb : (n + m) * bytes ≤ 140737488355328)
    (h : ∀ A' N c w', N = n + m → Sl w' size (.slice A' N c) N (xs ++ news) → Fr no w w' → K (a.put o.dst (.slice A' N c)) w') : o.wp P a w K Q := by
  obtain ⟨A', c, w', hr, h2, h3⟩ := run_apf (P := P) tb o.type hs hx h63 hb
  unfold Oper.wp execOp
  simp only [ho, resolve, invoke, builtin, Sem.run_bind, Sem.run_pure, Result.andThen_ok, List.map_toArray, List.map_cons, List.map_nil, hse, hxe, hr]
  exact h A' _ c w' rfl h2 h3
variable {ops : Array Oper} {rest : List Oper}
theorem wpList_apf (hgd : o.guard = none) (s x : Operand) (t : TypeId) (ho : o.op = .call { callee := .builtin .append, args := #[s, x], argTypes := #[t, t] })
    {e : TypeId} {z : Value} {size bytes : Nat} (tb : Tb P t e z size bytes) {A : Option Addr} {n : Nat} {xs : List Value} (hs : Sl w size (.slice A n n) n xs)
    {vx : Value} {m : Nat} {news : List Value} (hx : Sl w size vx m news) (hse : a.eval s = .slice A n n) (hxe : a.eval x = vx) (h63 : n + m ≤ maxLen) (hb : (n + m) * bytes ≤ 140737488355328)
    (h : ∀ A' N c w', N = n + m → Sl w' size (.slice A' N c) N (xs ++ news) → Fr no w w' → wpList P ops Q rest (a.put o.dst (.slice A' N c)) w') : wpList P ops Q (o :: rest) a w :=
  wpList_plain hgd fun _ hK => wp_apf s x t ho tb hs hx hse hxe h63 hb fun A' N c w' h2 h3 h4 => hK _ _ (h A' N c w' h2 h3 h4)
end
end Go
