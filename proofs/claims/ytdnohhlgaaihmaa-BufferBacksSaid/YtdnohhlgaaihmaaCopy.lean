/- copy, clear, and append of what make makes, on rows of one's own. General. -/
import Derived.Test.YtdnohhlgaaihmaaRws
import Derived.Laws.CopyRow
namespace Go
open Go.RowKit

/-- Block g has these cells. -/
def Has (w : World) (g : Nat) (e : TypeId) (xs : List Value) : Prop := w.heap[g]? = some (.cells xs.toArray e (0, 0))

section
variable {P : Program} {w : World} {o : Oper} {a : Act} {K : Act → World → Prop} {Q : Exit → Act → World → Prop}

theorem fr_setRow (w : World) (g : Nat) (cs : Array Value) : Fr (fun k => k = g) w (w.setRow g cs) := ⟨rfl, rfl, rfl, by simp, fun k _ hk => setRow_other w g k _ (fun e => hk e)⟩

theorem sl_first {sz n m : Nat} {v : Value} {xs : List Value} (h : Sl w sz v n xs) (hm : m ≤ n) : (Builtin.firstCells sz m v).run P w = .ok (xs.take (m * sz)).toArray w := by
  have hl : (xs.take (m * sz)).length = m * sz := by
    have := h.1
    have h2 : m * sz ≤ n * sz := Nat.mul_le_mul_right _ hm
    rw [List.length_take]; omega
  rcases h.2 with ⟨A, rfl, rfl⟩ | ⟨b, off, cap, rfl, h1, h2, h3⟩
  · obtain rfl : m = 0 := by omega
    cases A with
    | none => simp [Builtin.firstCells]
    | some y => simpa using run_firstCells_some (P := P) w sz 0 y 0 0 [] (by simp) (by simp)
  · refine run_firstCells_some (P := P) w sz m _ n cap _ hl (fun j u hu => ?_)
    rw [Addr.add_lit]
    rw [List.getElem?_take] at hu
    split at hu
    · exact h3 j u hu
    · cases hu

theorem run_cp {dT sT e : TypeId} (hu : P.underlying dT = some (.slice e)) {i : TypeInfo} (hi : P.info? e = some i) {sz : Nat} (hsz : i.size = sz) {g off dLen dCap : Nat} {cur : List Value} (hg : Has w g e cur) {src : Value} {sLen : Nat} {xs : List Value} (hs : Sl w sz src sLen xs)
    (hfit : off + min sLen dLen * sz ≤ cur.length) (h1 : ∀ u ∈ xs.take (min sLen dLen * sz), u.oneCell' = true) (ty : TypeId) :
    ∃ w', (Builtin.copy_ #[dT, sT] ty #[.slice (some ⟨g, off, none⟩) dLen dCap, src]).run P w = .ok (goInt (min sLen dLen : Nat)) w' ∧ Has w' g e (cur.take off ++ xs.take (min sLen dLen * sz) ++ cur.drop (off + min sLen dLen * sz)) ∧ Fr (fun k => k = g) w w' := by
  have hf := sl_first (P := P) hs (Nat.min_le_left sLen dLen)
  have hlen : (xs.take (min sLen dLen * sz)).length = min sLen dLen * sz := by
    have := hs.1
    have h2 : min sLen dLen * sz ≤ sLen * sz := Nat.mul_le_mul_right _ (Nat.min_le_left _ _)
    rw [List.length_take]; omega
  have hst := run_storeCells_at P g off e (xs.take (min sLen dLen * sz)) 0 cur.toArray w hg (by rw [hlen]; simpa using hfit) h1
  obtain ⟨X, cx, hX, _, _⟩ := hs.form
  subst hX
  simp only [Nat.add_zero, hlen] at hst
  refine ⟨w.setRow g (cur.take off ++ xs.take (min sLen dLen * sz) ++ cur.drop (off + min sLen dLen * sz)).toArray, ?_, ?_, fr_setRow w g _⟩
  · have hnm : Nat.min sLen dLen = min sLen dLen := rfl
    subst hsz
    unfold Builtin.copy_
    simp [run_underlying hu, Builtin.lenOf, sizeOf, typeInfo, hi, hf, hst, hnm]
  · exact setRow_heap w g cur.toArray _ e _ hg

theorem wp_cp (d s : Operand) (dT sT : TypeId) (ho : o.op = .call { callee := .builtin .copy, args := #[d, s], argTypes := #[dT, sT] }) {e : TypeId} {z : Value} {sz bytes : Nat} (tb : Tb P dT e z sz bytes) {g off dLen dCap : Nat} {cur : List Value} (hg : Has w g e cur) {src : Value} {sLen : Nat} {xs : List Value} (hs : Sl w sz src sLen xs)
    (hd : a.eval d = .slice (some ⟨g, off, none⟩) dLen dCap) (hse : a.eval s = src) (hfit : off + min sLen dLen * sz ≤ cur.length) (h1 : ∀ u ∈ xs.take (min sLen dLen * sz), u.oneCell' = true)
    (h : ∀ w', Has w' g e (cur.take off ++ xs.take (min sLen dLen * sz) ++ cur.drop (off + min sLen dLen * sz)) → Fr (fun k => k = g) w w' → K (a.put o.dst (goInt (min sLen dLen : Nat))) w') : o.wp P a w K Q := by
  obtain ⟨i, hi, hz0, hz1, hz2⟩ := info_parts tb.info
  obtain ⟨w', hr, h2, h3⟩ := run_cp (P := P) (sT := sT) tb.und hi hz1 (dLen := dLen) (dCap := dCap) hg hs hfit h1 o.type
  unfold Oper.wp execOp
  simp only [ho, resolve, invoke, builtin, Sem.run_bind, Sem.run_pure, Result.andThen_ok, List.map_toArray, List.map_cons, List.map_nil, hd, hse, hr]
  exact h w' h2 h3
variable {ops : Array Oper} {rest : List Oper}
theorem wpList_cp (hgd : o.guard = none) (d s : Operand) (dT sT : TypeId) (ho : o.op = .call { callee := .builtin .copy, args := #[d, s], argTypes := #[dT, sT] }) {e : TypeId} {z : Value} {sz bytes : Nat} (tb : Tb P dT e z sz bytes) {g off dLen dCap : Nat} {cur : List Value} (hg : Has w g e cur) {src : Value} {sLen : Nat} {xs : List Value} (hs : Sl w sz src sLen xs)
    (hd : a.eval d = .slice (some ⟨g, off, none⟩) dLen dCap) (hse : a.eval s = src) (hfit : off + min sLen dLen * sz ≤ cur.length) (h1 : ∀ u ∈ xs.take (min sLen dLen * sz), u.oneCell' = true)
    (h : ∀ w', Has w' g e (cur.take off ++ xs.take (min sLen dLen * sz) ++ cur.drop (off + min sLen dLen * sz)) → Fr (fun k => k = g) w w' → wpList P ops Q rest (a.put o.dst (goInt (min sLen dLen : Nat))) w') : wpList P ops Q (o :: rest) a w :=
  wpList_plain hgd fun _ hK => wp_cp d s dT sT ho tb hg hs hd hse hfit h1 fun w' h2 h3 => hK _ _ (h w' h2 h3)

theorem run_cl {dT e : TypeId} {z : Value} {sz bytes : Nat} (tb : Tb P dT e z sz bytes) (hzc : ∀ u ∈ z.cells.toList, u.oneCell' = true) {g off n c : Nat} {cur : List Value} (hg : Has w g e cur) (hfit : off + n * sz ≤ cur.length) (ty : TypeId) :
    ∃ w' ys, (Builtin.clear_ #[dT] ty #[.slice (some ⟨g, off, none⟩) n c]).run P w = .ok (.tuple #[]) w' ∧ ys.length = n * sz ∧ Has w' g e (cur.take off ++ ys ++ cur.drop (off + n * sz)) ∧ Fr (fun k => k = g) w w' := by
  obtain ⟨i, hi, hz0, hz1, hz2⟩ := info_parts tb.info
  by_cases hn : n = 0
  · subst hn
    refine ⟨w, [], ?_, by simp, ?_, Fr.refl _ _⟩
    · simp [Builtin.clear_, run_underlying tb.und]
    · simpa using hg
  · obtain ⟨m, rfl⟩ : ∃ m, n = m + 1 := ⟨n - 1, by omega⟩
    have hv : (zeroValue e).run P w = .ok z w := by simp [zeroValue, typeInfo, hi, hz0]
    have hyl : (Builtin.zeroCells z.cells (m + 1)).toList.length = (m + 1) * sz := by rw [Array.length_toList, size_zeroCells, tb.zs]
    have hst := run_storeCells_at P g off e (Builtin.zeroCells z.cells (m + 1)).toList 0 cur.toArray w hg (by rw [hyl]; simpa using hfit) (fun u hu => by
      simp only [Builtin.zeroCells] at hu
      simp only [Array.toList_map, List.mem_map] at hu
      obtain ⟨j, _, rfl⟩ := hu
      have hpos : 0 < z.cells.size := by rw [tb.zs]; exact tb.pos
      have hj : j % z.cells.size < z.cells.size := Nat.mod_lt _ hpos
      rw [getElem!_pos z.cells _ hj]
      exact hzc _ (by simp))
    simp only [Nat.add_zero, hyl] at hst
    refine ⟨_, (Builtin.zeroCells z.cells (m + 1)).toList, ?_, hyl, setRow_heap w g cur.toArray _ e _ hg, fr_setRow w g _⟩
    simp [Builtin.clear_, run_underlying tb.und, hv, hst]

theorem wp_cl (s : Operand) (dT : TypeId) (ho : o.op = .call { callee := .builtin .clear, args := #[s], argTypes := #[dT] }) {e : TypeId} {z : Value} {sz bytes : Nat} (tb : Tb P dT e z sz bytes) (hzc : ∀ u ∈ z.cells.toList, u.oneCell' = true) {g off n c : Nat} {cur : List Value} (hg : Has w g e cur)
    (hse : a.eval s = .slice (some ⟨g, off, none⟩) n c) (hfit : off + n * sz ≤ cur.length)
    (h : ∀ w' ys, ys.length = n * sz → Has w' g e (cur.take off ++ ys ++ cur.drop (off + n * sz)) → Fr (fun k => k = g) w w' → K (a.put o.dst (.tuple #[])) w') : o.wp P a w K Q := by
  obtain ⟨w', ys, hr, h2, h3, h4⟩ := run_cl (P := P) tb hzc (c := c) hg hfit o.type
  unfold Oper.wp execOp
  simp only [ho, resolve, invoke, builtin, Sem.run_bind, Sem.run_pure, Result.andThen_ok, List.map_toArray, List.map_cons, List.map_nil, hse, hr]
  exact h w' ys h2 h3 h4

theorem wpList_cl (hgd : o.guard = none) (s : Operand) (dT : TypeId) (ho : o.op = .call { callee := .builtin .clear, args := #[s], argTypes := #[dT] }) {e : TypeId} {z : Value} {sz bytes : Nat} (tb : Tb P dT e z sz bytes) (hzc : ∀ u ∈ z.cells.toList, u.oneCell' = true) {g off n c : Nat} {cur : List Value} (hg : Has w g e cur)
    (hse : a.eval s = .slice (some ⟨g, off, none⟩) n c) (hfit : off + n * sz ≤ cur.length)
    (h : ∀ w' ys, ys.length = n * sz → Has w' g e (cur.take off ++ ys ++ cur.drop (off + n * sz)) → Fr (fun k => k = g) w w' → wpList P ops Q rest (a.put o.dst (.tuple #[])) w') : wpList P ops Q (o :: rest) a w :=
  wpList_plain hgd fun _ hK => wp_cl s dT ho tb hzc hg hse hfit fun w' ys h2 h3 h4 => hK _ _ (h w' ys h2 h3 h4)

/-- append(s[:n], make(S, m)...) where there is no room: a new block. -/
theorem run_apm {t u e : TypeId} {z : Value} {sz bytes : Nat} (tb : Tb P t e z sz bytes) (hu : P.underlying u = some (.int .i64)) (ty : TypeId) {b : Addr} {n c m : Nat} {xs : List Value} (hl : xs.length = n * sz) (hxs : ∀ j v, xs[j]? = some v → w.cell? (b.add j) = some v) (hroom : c < n + m) (hm : 0 < m) (h63 : n + m ≤ maxLen) (hb : (n + m) * bytes ≤ 140737488355328) :
    ∃ c' ys w', (Builtin.append_ #[t, u] ty #[.slice (some b) n c, .int .i64 (m : Int)]).run P w = .ok (.slice (some ⟨w.heap.size, 0, none⟩) (n + m) c') w' ∧ n + m ≤ c' ∧ c' ≤ maxLen ∧ (xs ++ ys).length = c' * sz ∧ Has w' w.heap.size e (xs ++ ys) ∧ Fr no w w' ∧ w'.heap.size = w.heap.size + 1 := by
  obtain ⟨i, hi, hz0, hz1, hz2⟩ := info_parts tb.info
  subst hz1
  have hl63 : n + m ≤ 9223372036854775807 := by simp only [maxLen] at h63; omega
  have hms : ¬ (m * i.size = 0) := Nat.mul_ne_zero (by omega) (by have := tb.pos; omega)
  have hn : ¬ (n + m ≤ c) := by omega
  have h63' : ¬ (9223372036854775807 < ((n : Int) + (m : Int))) := by omega
  have h48' : ¬ (281474976710656 < Builtin.nextslicecap (n + m) c * i.bytes) := by
    have := growslice_fits (need := n + m) (old := c) (bytes := i.bytes) (by omega) (by rw [hz2]; exact hb)
    omega
  have hmb : m * bytes ≤ (n + m) * bytes := Nat.mul_le_mul_right _ (by omega)
  have h48m : ¬ (281474976710656 < (m : Int) * (i.bytes : Int)) := by rw [hz2]; omega
  have hwr : IntKind.i64.wrap (m : Int) = (m : Int) := by rw [IntKind.wrap_i64]; omega
  have hm0 : ¬ ((m : Int) < 0) := by omega
  have hge := grownCap_ge w (n + m) c e
  have hle := grownCap_le_maxLen w (n + m) c e h63
  have hfo := run_firstCells_some (P := P) w.drew i.size n b n c xs hl (by simpa using hxs)
  have hrun : (Builtin.append_ #[t, u] ty #[.slice (some b) n c, .int .i64 (m : Int)]).run P w =
      .ok (.slice (some ⟨w.heap.size, 0, none⟩) (n + m) (grownCap w (n + m) c e))
        (w.drew.alloc (.cells (xs ++ ((Builtin.zeroCells z.cells m).toList ++ (Builtin.zeroCells z.cells (grownCap w (n + m) c e - (n + m))).toList)).toArray e)) := by
    unfold Builtin.append_
    simp [run_underlying tb.und, run_underlying hu, sizeOf, typeInfo, zeroValue, hi, hz0, asInt, asIntOf, hwr, hm0, h48m, hms, hn, h63', h48', Question.forced, hfo, newRow, grownCap]
    congr 2
    apply Array.ext'
    simp
  refine ⟨grownCap w (n + m) c e, _, _, hrun, hge, hle, ?_, heap_alloc_new w.drew _, Fr.alloc (Fr.drew (Fr.refl _ _)) _, by simp⟩
  simp only [List.length_append, Array.length_toList, size_zeroCells, tb.zs, hl, ← Nat.add_mul]
  congr 1
  omega

theorem wp_apm (s x : Operand) (t u : TypeId) (ho : o.op = .call { callee := .builtin .append, args := #[s, x], argTypes := #[t, u] }) {e : TypeId} {z : Value} {sz bytes : Nat} (tb : Tb P t e z sz bytes) (hu : P.underlying u = some (.int .i64)) {b : Addr} {n c m : Nat} {xs : List Value} (hl : xs.length = n * sz) (hxs : ∀ j v, xs[j]? = some v → w.cell? (b.add j) = some v) (hse : a.eval s = .slice (some b) n c) {mi : Int} (hxe : a.eval x = .int .i64 mi) (hmi : mi = (m : Int)) (hroom : c < n + m) (hm : 0 < m) (h63 : n + m ≤ maxLen) (hb : (n + m) * bytes ≤ 140737488355328)
    (h : ∀ c' N ys w', N = n + m → N ≤ c' → c' ≤ maxLen → (xs ++ ys).length = c' * sz → Has w' w.heap.size e (xs ++ ys) → Fr no w w' → w'.heap.size = w.heap.size + 1 → K (a.put o.dst (.slice (some ⟨w.heap.size, 0, none⟩) N c')) w') : o.wp P a w K Q := by
  subst hmi
  obtain ⟨c', ys, w', hr, h2, h3, h4, h5, h6, h7⟩ := run_apm (P := P) tb hu o.type hl hxs hroom hm h63 hb
  unfold Oper.wp execOp
  simp only [ho, resolve, invoke, builtin, Sem.run_bind, Sem.run_pure, Result.andThen_ok, List.map_toArray, List.map_cons, List.map_nil, hse, hxe, hr]
  exact h c' _ ys w' rfl h2 h3 h4 h5 h6 h7

theorem wpList_apm (hgd : o.guard = none) (s x : Operand) (t u : TypeId) (ho : o.op = .call { callee := .builtin .append, args := #[s, x], argTypes := #[t, u] }) {e : TypeId} {z : Value} {sz bytes : Nat} (tb : Tb P t e z sz bytes) (hu : P.underlying u = some (.int .i64)) {b : Addr} {n c m : Nat} {xs : List Value} (hl : xs.length = n * sz) (hxs : ∀ j v, xs[j]? = some v → w.cell? (b.add j) = some v) (hse : a.eval s = .slice (some b) n c) {mi : Int} (hxe : a.eval x = .int .i64 mi) (hmi : mi = (m : Int)) (hroom : c < n + m) (hm : 0 < m) (h63 : n + m ≤ maxLen) (hb : (n + m) * bytes ≤ 140737488355328)
    (h : ∀ c' N ys w', N = n + m → N ≤ c' → c' ≤ maxLen → (xs ++ ys).length = c' * sz → Has w' w.heap.size e (xs ++ ys) → Fr no w w' → w'.heap.size = w.heap.size + 1 → wpList P ops Q rest (a.put o.dst (.slice (some ⟨w.heap.size, 0, none⟩) N c')) w') : wpList P ops Q (o :: rest) a w :=
  wpList_plain hgd fun _ hK => wp_apm s x t u ho tb hu hl hxs hse hxe hmi hroom hm h63 hb fun c' N ys w' h1 h2 h3 h4 h5 h6 h7 => hK _ _ (h c' N ys w' h1 h2 h3 h4 h5 h6 h7)
end
end Go
