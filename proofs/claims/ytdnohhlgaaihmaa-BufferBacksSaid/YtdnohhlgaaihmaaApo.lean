/- append onto a row of one's own ('Ow'), with room or without: what the elder slice shows stays. General. -/
import Derived.Test.YtdnohhlgaaihmaaMem
namespace Go
open Go.RowKit

/-- In the elder place, or in a new block. -/
def Stays (w w' : World) (v v' : Value) (n N : Nat) : Prop := (∃ A c, v = .slice A n c ∧ v' = .slice A N c) ∨ ∀ k, v'.ownBlock = some k → w.heap.size ≤ k ∧ k < w'.heap.size

section
variable {P : Program} {w : World} {o : Oper} {a : Act} {K : Act → World → Prop} {Q : Exit → Act → World → Prop}

theorem run_apo {t e : TypeId} {z : Value} {size bytes : Nat} (tb : Tb P t e z size bytes) (ty : TypeId) {v : Value} {n : Nat} {xs : List Value} (hs : Ow w e size v n xs)
    {x : Value} {m : Nat} {news : List Value} (hx : Sl w size x m news) (h1 : ∀ u ∈ news, u.oneCell' = true) (h63 : n + m ≤ maxLen) (hb : (n + m) * bytes ≤ 140737488355328) :
    ∃ A c w', (Builtin.append_ #[t, t] ty #[v, x]).run P w = .ok (.slice A (n + m) c) w' ∧ Ow w' e size (.slice A (n + m) c) (n + m) (xs ++ news) ∧ Ow w' e size v n xs ∧ Fr (fun k => v.ownBlock = some k) w w' ∧ Stays w w' v (.slice A (n + m) c) n (n + m) := by
  obtain ⟨i, hi, hz0, hz1, hz2⟩ := info_parts tb.info
  obtain ⟨X, cx, rfl, hcx1, hcx2⟩ := hx.form
  have hsmall : n + m ≤ 9223372036854775807 := by simp only [maxLen] at h63; omega
  have hlen : (xs ++ news).length = (n + m) * size := by rw [List.length_append, hs.1, hx.1, Nat.add_mul]
  obtain ⟨A, c, hv, hnc0⟩ : ∃ A c, v = .slice A n c ∧ n ≤ c := by
    rcases hs.2 with ⟨rfl, rfl⟩ | ⟨g, cap, cur, rfl, _, h, _⟩
    · exact ⟨_, _, rfl, Nat.le_refl _⟩
    · exact ⟨_, _, rfl, h⟩
  subst hv
  by_cases hm : m = 0
  · subst hm
    have hn : news = [] := List.eq_nil_of_length_eq_zero (by simpa using hx.1)
    subst hn
    refine ⟨A, c, w, ?_, by simpa using hs, hs, Fr.refl _ _, .inl ⟨A, c, rfl, rfl⟩⟩
    cases X with
    | none => cases A <;> simp [Builtin.append_, run_underlying tb.und, sizeOf, typeInfo, hi, Builtin.lenOf, Builtin.firstCells, storeCells, Nat.not_lt.2 hnc0]
    | some y =>
      have hf := run_firstCells_some (P := P) w i.size 0 y 0 cx [] (by simp) (by simp)
      cases A <;> simp [Builtin.append_, run_underlying tb.und, sizeOf, typeInfo, hi, Builtin.lenOf, hf, storeCells, Nat.not_lt.2 hnc0]
  · obtain ⟨b, off, cap', h2, hnews⟩ : ∃ b off cap', Value.slice X m cx = .slice (some ⟨b, off, none⟩) m cap' ∧ ∀ j u, news[j]? = some u → w.cell? ⟨b, off + j, none⟩ = some u := by
      rcases hx.2 with ⟨_, _, h2⟩ | ⟨b, off, cap', h2, _, _, hc⟩
      · omega
      · exact ⟨b, off, cap', h2, hc⟩
    have hnews' : ∀ j u, news[j]? = some u → w.cell? ((⟨b, off, none⟩ : Addr).add j) = some u := fun j u hu => by rw [Addr.add_lit]; exact hnews j u hu
    rw [h2]
    have grown : ∀ old, old < n + m → Ow (w.drew.alloc (.cells (xs.toArray ++ news.toArray ++ Builtin.zeroCells z.cells (grownCap w (n + m) old e - (n + m))) e)) e size
        (.slice (some ⟨w.heap.size, 0, none⟩) (n + m) (grownCap w (n + m) old e)) (n + m) (xs ++ news) := by
      intro old ho
      have hge := grownCap_ge w (n + m) old e
      refine ⟨hlen, .inr ⟨w.heap.size, _, _, rfl, heap_alloc_new w.drew _, hge, grownCap_le_maxLen w (n + m) old e h63, ?_, ?_⟩⟩
      · simp only [Array.size_append, List.size_toArray, size_zeroCells, tb.zs, hs.1, hx.1, ← Nat.add_mul]
        apply Nat.le_of_eq
        congr 1
        omega
      · simp only [Array.toList_append, List.append_assoc]
        rw [← List.append_assoc, ← hlen]
        exact List.take_left
    have frg : ∀ o, Fr no w (w.drew.alloc o) := fun o => Fr.alloc (Fr.drew (Fr.refl _ _)) o
    rcases hs.2 with ⟨h3, h4⟩ | ⟨g, cap, cur, h3, hg, hnc, hcm, hcs, htake⟩
    · cases h3
      have hx0 : xs = [] := List.eq_nil_of_length_eq_zero (by simpa using hs.1)
      subst hx0
      have hr := run_append_nil (P := P) w t ty e i z tb.und hi hz0 ⟨b, off, none⟩ m cap' news (by rw [hz1]; exact hx.1) hnews' (by omega) (by omega) (by simp only [Nat.zero_add] at hb; rw [hz2]; omega)
      have hgr := grown 0 (by omega)
      simp only [Nat.zero_add, List.nil_append, Array.empty_append] at hgr ⊢
      exact ⟨_, _, _, hr, hgr, ⟨by simp, .inl ⟨rfl, rfl⟩⟩, (frg _).mono (fun _ _ h => h.elim), .inr fun k hk => by
        have hk' : w.heap.size = k := by simpa [Value.ownBlock] using hk
        subst hk'
        exact ⟨Nat.le_refl _, by simp⟩⟩
    · cases h3
      by_cases hroom : n + m ≤ c
      · subst hz1
        have hfit : n * i.size + news.length ≤ cur.size := by rw [hx.1, ← Nat.add_mul]; exact Nat.le_trans (Nat.mul_le_mul_right _ hroom) hcs
        have hrun := run_append_room (P := P) w t ty e i tb.und hi g n c cur hg ⟨b, off, none⟩ m cap' news hx.1 hnews' h1 hroom hfit
        refine ⟨_, _, _, hrun, ⟨hlen, .inr ⟨g, c, _, rfl, setRow_heap w g cur _ e _ hg, hroom, hcm, ?_, ?_⟩⟩, ⟨hs.1, .inr ⟨g, c, _, rfl, setRow_heap w g cur _ e _ hg, hnc, hcm, ?_, ?_⟩⟩, ⟨rfl, rfl, rfl, by simp, fun k _ hk => setRow_other w g k _ (fun e => hk (by rw [e]; rfl))⟩, .inl ⟨_, _, rfl, rfl⟩⟩
        · simp only [List.size_toArray, List.length_append, List.length_take, List.length_drop, Array.length_toList]; omega
        · rw [htake, ← hlen]; exact List.take_left
        · simp only [List.size_toArray, List.length_append, List.length_take, List.length_drop, Array.length_toList]; omega
        · rw [htake, List.append_assoc, ← hs.1]; exact List.take_left
      · have holds : ∀ j u, xs[j]? = some u → w.cell? ((⟨g, 0, none⟩ : Addr).add j) = some u := by
          intro j u hu
          rw [Addr.add_lit, Nat.zero_add, cell_of_row w g j cur e (0, 0) hg]
          rw [← htake, List.getElem?_take] at hu
          split at hu
          · simpa using hu
          · cases hu
        have hr := run_append_grow (P := P) w t ty e i z tb.und hi hz0 ⟨g, 0, none⟩ n c xs (by rw [hz1]; exact hs.1) holds ⟨b, off, none⟩ m cap' news (by rw [hz1]; exact hx.1) hnews' (by omega) (by omega) (growslice_fits (by omega) (by rw [hz2]; exact hb))
        exact ⟨_, _, _, hr, grown c (by omega), hs.kept (frg _) (fun _ _ h => h.elim), (frg _).mono (fun _ _ h => h.elim), .inr fun k hk => by
          have hk' : w.heap.size = k := by simpa [Value.ownBlock] using hk
          subst hk'
          exact ⟨Nat.le_refl _, by simp⟩⟩

theorem wp_apo (s x : Operand) (t : TypeId) (ho : o.op = .call { callee := .builtin .append, args := #[s, x], argTypes := #[t, t] })
    {e : TypeId} {z : Value} {size bytes : Nat} (tb : Tb P t e z size bytes) {v : Value} {n : Nat} {xs : List Value} (hs : Ow w e size v n xs)
    {vx : Value} {m : Nat} {news : List Value} (hx : Sl w size vx m news) (hse : a.eval s = v) (hxe : a.eval x = vx) (h1 : ∀ u ∈ news, u.oneCell' = true) (h63 : n + m ≤ maxLen) (hb : (n + m) * bytes ≤ 140737488355328)
    (h : ∀ A N c w', N = n + m → Ow w' e size (.slice A N c) N (xs ++ news) → Ow w' e size v n xs → Fr (fun k => v.ownBlock = some k) w w' → Stays w w' v (.slice A N c) n N → K (a.put o.dst (.slice A N c)) w') : o.wp P a w K Q := by
  obtain ⟨A, c, w', hr, h2, h3, h4, h5⟩ := run_apo (P := P) tb o.type hs hx h1 h63 hb
  unfold Oper.wp execOp
  simp only [ho, resolve, invoke, builtin, Sem.run_bind, Sem.run_pure, Result.andThen_ok, List.map_toArray, List.map_cons, List.map_nil, hse, hxe, hr]
  exact h A _ c w' rfl h2 h3 h4 h5
variable {ops : Array Oper} {rest : List Oper}
theorem wpList_apo (hgd : o.guard = none) (s x : Operand) (t : TypeId) (ho : o.op = .call { callee := .builtin .append, args := #[s, x], argTypes := #[t, t] })
    {e : TypeId} {z : Value} {size bytes : Nat} (tb : Tb P t e z size bytes) {v : Value} {n : Nat} {xs : List Value} (hs : Ow w e size v n xs)
    {vx : Value} {m : Nat} {news : List Value} (hx : Sl w size vx m news) (hse : a.eval s = v) (hxe : a.eval x = vx) (h1 : ∀ u ∈ news, u.oneCell' = true) (h63 : n + m ≤ maxLen) (hb : (n + m) * bytes ≤ 140737488355328)
    (h : ∀ A N c w', N = n + m → Ow w' e size (.slice A N c) N (xs ++ news) → Ow w' e size v n xs → Fr (fun k => v.ownBlock = some k) w w' → Stays w w' v (.slice A N c) n N → wpList P ops Q rest (a.put o.dst (.slice A N c)) w') : wpList P ops Q (o :: rest) a w :=
  wpList_plain hgd fun _ hK => wp_apo s x t ho tb hs hx hse hxe h1 h63 hb fun A' N c w' h2 h3 h4 h5 h6 => hK _ _ (h A' N c w' h2 h3 h4 h5 h6)
end
end Go
