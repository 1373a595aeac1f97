/- append onto a row of one's own that has room: it stays where it is. General. -/
import Derived.Test.YtdnohhlgaaihmaaMem
namespace Go
open Go.RowKit
section
variable {P : Program} {w : World} {o : Oper} {a : Act} {K : Act → World → Prop} {Q : Exit → Act → World → Prop}

theorem run_apr {t e : TypeId} {z : Value} {size bytes : Nat} (tb : Tb P t e z size bytes) (ty : TypeId) {g n cap : Nat} {xs : List Value} (hown : w.ownsRow 0 e size (.slice (some ⟨g, 0, none⟩) n cap) n xs)
    {x : Value} {m : Nat} {news : List Value} (hx : Sl w size x m news) (h1 : ∀ u ∈ news, u.oneCell' = true) (hr : n + m ≤ cap) :
    ∃ w', (Builtin.append_ #[t, t] ty #[.slice (some ⟨g, 0, none⟩) n cap, x]).run P w = .ok (.slice (some ⟨g, 0, none⟩) (n + m) cap) w' ∧ w'.ownsRow 0 e size (.slice (some ⟨g, 0, none⟩) (n + m) cap) (n + m) (xs ++ news) ∧ Fr (fun k => k = g) w w' := by
  obtain ⟨i, hi, hz0, hz1, hz2⟩ := info_parts tb.info
  have hx2 : (x = .slice none 0 0 ∧ m = 0) ∨ ∃ y cap', x = .slice (some y) m cap' ∧ ∀ j u, news[j]? = some u → w.cell? (y.add j) = some u := by
    rcases hx.2 with ⟨Y, h1, h2⟩ | ⟨b, off, cap', h1, _, _, hc⟩
    · subst h1; subst h2
      cases Y with
      | none => exact .inl ⟨rfl, rfl⟩
      | some y => exact .inr ⟨y, 0, rfl, fun j u hu => by
          have hn : news = [] := List.eq_nil_of_length_eq_zero (by simpa using hx.1)
          subst hn; simp at hu⟩
    · exact .inr ⟨⟨b, off, none⟩, cap', h1, fun j u hu => by rw [Addr.add_lit]; exact hc j u hu⟩
  rcases hx2 with ⟨rfl, rfl⟩ | ⟨y, cap', rfl, hnews⟩
  · have hn : news = [] := List.eq_nil_of_length_eq_zero (by simpa using hx.1)
    subst hn
    exact ⟨w, run_append_owned_none (P := P) w 0 t ty e i size tb.und hi _ n xs hown, by simpa using hown, Fr.refl _ _⟩
  · rcases hown.2 with ⟨h, _⟩ | ⟨g', cap0, cur, h, hbg, hg, hnc, hcm, hcs, htake⟩
    · simp at h
    · simp only [Value.slice.injEq, Option.some.injEq, Addr.mk.injEq, and_true, true_and] at h
      obtain ⟨rfl, rfl⟩ := h
      subst hz1
      have hfit : n * i.size + news.length ≤ cur.size := by rw [hx.1, hcs, ← Nat.add_mul]; exact Nat.mul_le_mul_right _ hr
      have hrun := run_append_room (P := P) w t ty e i tb.und hi g n cap cur hg y m cap' news hx.1 hnews h1 hr hfit
      refine ⟨_, hrun, ⟨by rw [List.length_append, hown.1, hx.1, Nat.add_mul], .inr ⟨g, cap, _, rfl, hbg, setRow_heap w g cur _ e _ hg, hr, hcm, ?_, ?_⟩⟩, ⟨rfl, rfl, rfl, by simp, fun k _ hk => setRow_other w g k _ (fun e => hk e)⟩⟩
      · simp only [List.size_toArray, List.length_append, List.length_take, List.length_drop, Array.length_toList]
        omega
      · have hlen : (xs ++ news).length = (n + m) * i.size := by rw [List.length_append, hown.1, hx.1, Nat.add_mul]
        rw [htake, ← hlen]
        exact List.take_left

theorem wp_apr (s x : Operand) (t : TypeId) (ho : o.op = .call { callee := .builtin .append, args := #[s, x], argTypes := #[t, t] })
    {e : TypeId} {z : Value} {size bytes : Nat} (tb : Tb P t e z size bytes) {g n cap : Nat} {xs : List Value} (hown : w.ownsRow 0 e size (.slice (some ⟨g, 0, none⟩) n cap) n xs)
    {vx : Value} {m : Nat} {news : List Value} (hx : Sl w size vx m news) (hse : a.eval s = .slice (some ⟨g, 0, none⟩) n cap) (hxe : a.eval x = vx) (h1 : ∀ u ∈ news, u.oneCell' = true) (hr : n + m ≤ cap)
    (h : ∀ N w', N = n + m → w'.ownsRow 0 e size (.slice (some ⟨g, 0, none⟩) N cap) N (xs ++ news) → Fr (fun k => k = g) w w' → K (a.put o.dst (.slice (some ⟨g, 0, none⟩) N cap)) w') : o.wp P a w K Q := by
  obtain ⟨w', hrun, h2, h3⟩ := run_apr (P := P) tb o.type hown hx h1 hr
  unfold Oper.wp execOp
  simp only [ho, resolve, invoke, builtin, Sem.run_bind, Sem.run_pure, Result.andThen_ok, List.map_toArray, List.map_cons, List.map_nil, hse, hxe, hrun]
  exact h _ w' rfl h2 h3
variable {ops : Array Oper} {rest : List Oper}
theorem wpList_apr (hgd : o.guard = none) (s x : Operand) (t : TypeId) (ho : o.op = .call { callee := .builtin .append, args := #[s, x], argTypes := #[t, t] })
    {e : TypeId} {z : Value} {size bytes : Nat} (tb : Tb P t e z size bytes) {g n cap : Nat} {xs : List Value} (hown : w.ownsRow 0 e size (.slice (some ⟨g, 0, none⟩) n cap) n xs)
    {vx : Value} {m : Nat} {news : List Value} (hx : Sl w size vx m news) (hse : a.eval s = .slice (some ⟨g, 0, none⟩) n cap) (hxe : a.eval x = vx) (h1 : ∀ u ∈ news, u.oneCell' = true) (hr : n + m ≤ cap)
    (h : ∀ N w', N = n + m → w'.ownsRow 0 e size (.slice (some ⟨g, 0, none⟩) N cap) N (xs ++ news) → Fr (fun k => k = g) w w' → wpList P ops Q rest (a.put o.dst (.slice (some ⟨g, 0, none⟩) N cap)) w') : wpList P ops Q (o :: rest) a w :=
  wpList_plain hgd fun _ hK => wp_apr s x t ho tb hown hx hse hxe h1 hr fun N w' h2 h3 h4 => hK _ _ (h N w' h2 h3 h4)
end
end Go
