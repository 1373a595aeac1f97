import Derived.Test.YtgcicljklejmjaaDoorMb04
import Derived.Laws.CopyRow
import Derived.Test.YtgcicljklejmjaaDoorMr06
import Derived.Test.YtgcicljklejmjaaDoorMb13
import Derived.Test.YtgcicljklejmjaaDoorMb02
import Derived.Test.YtgcicljklejmjaaDoorMr01

/- copy, clear, and append of what make makes, on rows of one's own. General. -/
namespace Go
open Go.RowKit

/-- Block g has these cells. -/
def Has (w : World) (g : Nat) (e : TypeId) (xs : List Value) : Prop := w.heap[g]? = some (.cells xs.toArray e (0, 0))

section
variable {P : Program} {w : World} {o : Oper} {a : Act} {K : Act → World → Prop} {Q : Exit → Act → World → Prop}

theorem fr_setRow (w : World) (g : Nat) (cs : Array Value) : Fr (fun k => k = g) w (w.setRow g cs) := ⟨rfl, rfl, rfl, by simp, fun k _ hk => setRow_other w g k _ (fun e => hk e)⟩

theorem sl_first {sz n m : Nat} {v : Value} {xs : List Value} (h : Sl w sz v n xs) (hm : m ≤ n) : (Builtin.firstCells sz m v).run P w = .ok (xs.take (m * sz)).toArray w := by
  have hl : (xs.take (m * sz)).length = m * sz := by
    have := h.1
    have h2 : m * sz ≤ n * sz := Nat.mul_le_mul_right _ hm
    rw [List.length_take]; omega
  rcases h.2 with ⟨A, rfl, rfl⟩ | ⟨b, off, cap, rfl, h1, h2, h3⟩
  · obtain rfl : m = 0 := by omega
    cases A with
    | none => simp [Builtin.firstCells]
    | some y => simpa using run_firstCells_some (P := P) w sz 0 y 0 0 [] (by simp) (by simp)
  · refine run_firstCells_some (P := P) w sz m _ n cap _ hl (fun j u hu => ?_)
    rw [Addr.add_lit]
    rw [List.getElem?_take] at hu
    split at hu
    · exact h3 j u hu
    · cases hu

theorem run_cp {dT sT e : TypeId} (hu : P.underlying dT = some (.slice e)) {i : TypeInfo} (hi : P.info? e = some i) {sz : Nat} (hsz : i.size = sz) {g off dLen dCap : Nat} {cur : List Value} (hg : Has w g e cur) {src : Value} {sLen : Nat} {xs : List Value} (hs : Sl w sz src sLen xs)
    (hfit : off + min sLen dLen * sz ≤ cur.length) (h1 : ∀ u ∈ xs.take (min sLen dLen * sz), u.oneCell' = true) (ty : TypeId) :
    ∃ w', (Builtin.copy_ #[dT, sT] ty #[.slice (some ⟨g, off, none⟩) dLen dCap, src]).run P w = .ok (goInt (min sLen dLen : Nat)) w' ∧ Has w' g e (cur.take off ++ xs.take (min sLen dLen * sz) ++ cur.drop (off + min sLen dLen * sz)) ∧ Fr (fun k => k = g) w w' := by
  have hf := sl_first (P := P) hs (Nat.min_le_left sLen dLen)
  have hlen : (xs.take (min sLen dLen * sz)).length = min sLen dLen * sz := by
    have := hs.1
    have h2 : min sLen dLen * sz ≤ sLen * sz := Nat.mul_le_mul_right _ (Nat.min_le_left _ _)
    rw [List.length_take]; omega
  have hst := run_storeCells_at P g off e (xs.take (min sLen dLen * sz)) 0 cur.toArray w hg (by rw [hlen]; simpa using hfit) h1
  obtain ⟨X, cx, hX, _, _⟩ := hs.form
  subst hX
  simp only [Nat.add_zero, hlen] at hst
  refine ⟨w.setRow g (cur.take off ++ xs.take (min sLen dLen * sz) ++ cur.drop (off + min sLen dLen * sz)).toArray, ?_, ?_, fr_setRow w g _⟩
  · have hnm : Nat.min sLen dLen = min sLen dLen := rfl
    subst hsz
    unfold Builtin.copy_
    simp [run_underlying hu, Builtin.lenOf, sizeOf, typeInfo, hi, hf, hst, hnm]
  · exact setRow_heap w g cur.toArray _ e _ hg

theorem wp_cp (d s : Operand) (dT sT : TypeId) (ho : o.op = .call { callee := .builtin .copy, args := #[d, s], argTypes := #[dT, sT] }) {e : TypeId} {z : Value} {sz bytes : Nat} (tb : Tb P dT e z sz bytes) {g off dLen dCap : Nat} {cur : List Value} (hg : Has w g e cur) {src : Value} {sLen : Nat} {xs : List Value} (hs : Sl w sz src sLen xs)
    (hd : a.eval d = .slice (some ⟨g, off, none⟩) dLen dCap) (hse : a.eval s = src) (hfit : off + min sLen dLen * sz ≤ cur.length) (h1 : ∀ u ∈ xs.take (min sLen dLen * sz), u.oneCell' = true)
    (h : ∀ w', Has w' g e (cur.take off ++ xs.take (min sLen dLen * sz) ++ cur.drop (off + min sLen dLen * sz)) → Fr (fun k => k = g) w w' → K (a.put o.dst (goInt (min sLen dLen : Nat))) w') : o.wp P a w K Q := by
  obtain ⟨i, hi, hz0, hz1, hz2⟩ := info_parts tb.info
  obtain ⟨w', hr, h2, h3⟩ := run_cp (P := P) (sT := sT) tb.und hi hz1 (dLen := dLen) (dCap := dCap) hg hs hfit h1 o.type
  unfold Oper.wp execOp
  simp only [ho, resolve, invoke, builtin, Sem.run_bind, Sem.run_pure, Result.andThen_ok, List.map_toArray, List.map_cons, List.map_nil, hd, hse, hr]
  exact h w' h2 h3
variable {ops : Array Oper} {rest : List Oper}
theorem wpList_cp (hgd : o.guard = none) (d s : Operand) (dT sT : TypeId) (ho : o.op = .call { callee := .builtin .copy, args := #[d, s], argTypes := #[dT, sT] }) {e : TypeId} {z : Value} {sz bytes : Nat} (tb : Tb P dT e z sz bytes) {g off dLen dCap : Nat} {cur : List Value} (hg : Has w g e cur) {src : Value} {sLen : Nat} {xs : List Value} (hs : Sl w sz src sLen xs)
    (hd : a.eval d = .slice (some ⟨g, off, none⟩) dLen dCap) (hse : a.eval s = src) (hfit : off + min sLen dLen * sz ≤ cur.length) (h1 : ∀ u ∈ xs.take (min sLen dLen * sz), u.oneCell' = true)
    (h : ∀ w', Has w' g e (cur.take off ++ xs.take (min sLen dLen * sz) ++ cur.drop (off + min sLen dLen * sz)) → Fr (fun k => k = g) w w' → wpList P ops Q rest (a.put o.dst (goInt (min sLen dLen : Nat))) w') : wpList P ops Q (o :: rest) a w :=
  wpList_plain hgd fun _ hK => wp_cp d s dT sT ho tb hg hs hd hse hfit h1 fun w' h2 h3 => hK _ _ (h w' h2 h3)

theorem run_cl {dT e : TypeId} {z : Value} {sz bytes : Nat} (tb : Tb P dT e z sz bytes) (hzc : ∀ u ∈ z.cells.toList, u.oneCell' = true) {g off n c : Nat} {cur : List Value} (hg : Has w g e cur) (hfit : off + n * sz ≤ cur.length) (ty : TypeId) :
    ∃ w' ys, (Builtin.clear_ #[dT] ty #[.slice (some ⟨g, off, none⟩) n c]).run P w = .ok (.tuple #[]) w' ∧ ys.length = n * sz ∧ Has w' g e (cur.take off ++ ys ++ cur.drop (off + n * sz)) ∧ Fr (fun k => k = g) w w' := by
  obtain ⟨i, hi, hz0, hz1, hz2⟩ := info_parts tb.info
  by_cases hn : n = 0
  · subst hn
    refine ⟨w, [], ?_, by simp, ?_, Fr.refl _ _⟩
    · simp [Builtin.clear_, run_underlying tb.und]
    · simpa using hg
  · obtain ⟨m, rfl⟩ : ∃ m, n = m + 1 := ⟨n - 1, by omega⟩
    have hv : (zeroValue e).run P w = .ok z w := by simp [zeroValue, typeInfo, hi, hz0]
    have hyl : (Builtin.zeroCells z.cells (m + 1)).toList.length = (m + 1) * sz := by rw [Array.length_toList, size_zeroCells, tb.zs]
    have hst := run_storeCells_at P g off e (Builtin.zeroCells z.cells (m + 1)).toList 0 cur.toArray w hg (by rw [hyl]; simpa using hfit) (fun u hu => by
      simp only [Builtin.zeroCells] at hu
      simp only [Array.toList_map, List.mem_map] at hu
      obtain ⟨j, _, rfl⟩ := hu
      have hpos : 0 < z.cells.size := by rw [tb.zs]; exact tb.pos
      have hj : j % z.cells.size < z.cells.size := Nat.mod_lt _ hpos
      rw [getElem!_pos z.cells _ hj]
      exact hzc _ (by simp))
    simp only [Nat.add_zero, hyl] at hst
    refine ⟨_, (Builtin.zeroCells z.cells (m + 1)).toList, ?_, hyl, setRow_heap w g cur.toArray _ e _ hg, fr_setRow w g _⟩
    simp [Builtin.clear_, run_underlying tb.und, hv, hst]

theorem wp_cl (s : Operand) (dT : TypeId) (ho : o.op = .call { callee := .builtin .clear, args := #[s], argTypes := #[dT] }) {e : TypeId} {z : Value} {sz bytes : Nat} (tb : Tb P dT e z sz bytes) (hzc : ∀ u ∈ z.cells.toList, u.oneCell' = true) {g off n c : Nat} {cur : List Value} (hg : Has w g e cur)
    (hse : a.eval s = .slice (some ⟨g, off, none⟩) n c) (hfit : off + n * sz ≤ cur.length)
    (h : ∀ w' ys, ys.length = n * sz → Has w' g e (cur.take off ++ ys ++ cur.drop (off + n * sz)) → Fr (fun k => k = g) w w' → K (a.put o.dst (.tuple #[])) w') : o.wp P a w K Q := by
  obtain ⟨w', ys, hr, h2, h3, h4⟩ := run_cl (P := P) tb hzc (c := c) hg hfit o.type
  unfold Oper.wp execOp
  simp only [ho, resolve, invoke, builtin, Sem.run_bind, Sem.run_pure, Result.andThen_ok, List.map_toArray, List.map_cons, List.map_nil, hse, hr]
  exact h w' ys h2 h3 h4

theorem wpList_cl (hgd : o.guard = none) (s : Operand) (dT : TypeId) (ho : o.op = .call { callee := .builtin .clear, args := #[s], argTypes := #[dT] }) {e : TypeId} {z : Value} {sz bytes : Nat} (tb : Tb P dT e z sz bytes) (hzc : ∀ u ∈ z.cells.toList, u.oneCell' = true) {g off n c : Nat} {cur : List Value} (hg : Has w g e cur)
    (hse : a.eval s = .slice (some ⟨g, off, none⟩) n c) (hfit : off + n * sz ≤ cur.length)
    (h : ∀ w' ys, ys.length = n * sz → Has w' g e (cur.take off ++ ys ++ cur.drop (off + n * sz)) → Fr (fun k => k = g) w w' → wpList P ops Q rest (a.put o.dst (.tuple #[])) w') : wpList P ops Q (o :: rest) a w :=
  wpList_plain hgd fun _ hK => wp_cl s dT ho tb hzc hg hse hfit fun w' ys h2 h3 h4 => hK _ _ (h w' ys h2 h3 h4)

/-- append(s[:n], make(S, m)...) where there is no room: a new block. -/
theorem run_apm {t u e : TypeId} {z : Value} {sz bytes : Nat} (tb : Tb P t e z sz bytes) (hu : P.underlying u = some (.int .i64)) (ty : TypeId) {b : Addr} {n c m : Nat} {xs : List Value} (hl : xs.length = n * sz) (hxs : ∀ j v, xs[j]? = some v → w.cell? (b.add j) = some v) (hroom : c < n + m) (hm : 0 < m) (h63 : n + m ≤ maxLen) (hb : (n + m) * bytes ≤ 140737488355328) :
    ∃ c' ys w', (Builtin.append_ #[t, u] ty #[.slice (some b) n c, .int .i64 (m : Int)]).run P w = .ok (.slice (some ⟨w.heap.size, 0, none⟩) (n + m) c') w' ∧ n + m ≤ c' ∧ c' ≤ maxLen ∧ (xs ++ ys).length = c' * sz ∧ Has w' w.heap.size e (xs ++ ys) ∧ Fr no w w' ∧ w'.heap.size = w.heap.size + 1 := by
  obtain ⟨i, hi, hz0, hz1, hz2⟩ := info_parts tb.info
  subst hz1
  have hl63 : n + m ≤ 9223372036854775807 := by simp only [maxLen] at h63; omega
  have hms : ¬ (m * i.size = 0) := Nat.mul_ne_zero (by omega) (by have := tb.pos; omega)
  have hn : ¬ (n + m ≤ c) := by omega
  have h63' : ¬ (9223372036854775807 < ((n : Int) + (m : Int))) := by omega
  have h48' : ¬ (281474976710656 < Builtin.nextslicecap (n + m) c * i.bytes) := by
    have := growslice_fits (need := n + m) (old := c) (bytes := i.bytes) (by omega) (by rw [hz2]; exact hb)
    omega
  have hmb : m * bytes ≤ (n + m) * bytes := Nat.mul_le_mul_right _ (by omega)
  have h48m : ¬ (281474976710656 < (m : Int) * (i.bytes : Int)) := by rw [hz2]; omega
  have hwr : IntKind.i64.wrap (m : Int) = (m : Int) := by rw [IntKind.wrap_i64]; omega
  have hm0 : ¬ ((m : Int) < 0) := by omega
  have hge := grownCap_ge w (n + m) c e
  have hle := grownCap_le_maxLen w (n + m) c e h63
  have hfo := run_firstCells_some (P := P) w.drew i.size n b n c xs hl (by simpa using hxs)
  have hrun : (Builtin.append_ #[t, u] ty #[.slice (some b) n c, .int .i64 (m : Int)]).run P w =
      .ok (.slice (some ⟨w.heap.size, 0, none⟩) (n + m) (grownCap w (n + m) c e))
        (w.drew.alloc (.cells (xs ++ ((Builtin.zeroCells z.cells m).toList ++ (Builtin.zeroCells z.cells (grownCap w (n + m) c e - (n + m))).toList)).toArray e)) := by
    unfold Builtin.append_
    simp [run_underlying tb.und, run_underlying hu, sizeOf, typeInfo, zeroValue, hi, hz0, asInt, asIntOf, hwr, hm0, h48m, hms, hn, h63', h48', Question.forced, hfo, newRow, grownCap]
    congr 2
    apply Array.ext'
    simp
  refine ⟨grownCap w (n + m) c e, _, _, hrun, hge, hle, ?_, heap_alloc_new w.drew _, Fr.alloc (Fr.drew (Fr.refl _ _)) _, by simp⟩
  simp only [List.length_append, Array.length_toList, size_zeroCells, tb.zs, hl, ← Nat.add_mul]
  congr 1
  omega

theorem wp_apm (s x : Operand) (t u : TypeId) (ho : o.op = .call { callee := .builtin .append, args := #[s, x], argTypes := #[t, u] }) {e : TypeId} {z : Value} {sz bytes : Nat} (tb : Tb P t e z sz bytes) (hu : P.underlying u = some (.int .i64)) {b : Addr} {n c m : Nat} {xs : List Value} (hl : xs.length = n * sz) (hxs : ∀ j v, xs[j]? = some v → w.cell? (b.add j) = some v) (hse : a.eval s = .slice (some b) n c) {mi : Int} (hxe : a.eval x = .int .i64 mi) (hmi : mi = (m : Int)) (hroom : c < n + m) (hm : 0 < m) (h63 : n + m ≤ maxLen) (hb : (n + m) * bytes ≤ 140737488355328)
    (h : ∀ c' N ys w', N = n + m → N ≤ c' → c' ≤ maxLen → (xs ++ ys).length = c' * sz → Has w' w.heap.size e (xs ++ ys) → Fr no w w' → w'.heap.size = w.heap.size + 1 → K (a.put o.dst (.slice (some ⟨w.heap.size, 0, none⟩) N c')) w') : o.wp P a w K Q := by
  subst hmi
  obtain ⟨c', ys, w', hr, h2, h3, h4, h5, h6, h7⟩ := run_apm (P := P) tb hu o.type hl hxs hroom hm h63 hb
  unfold Oper.wp execOp
  simp only [ho, resolve, invoke, builtin, Sem.run_bind, Sem.run_pure, Result.andThen_ok, List.map_toArray, List.map_cons, List.map_nil, hse, hxe, hr]
  exact h c' _ ys w' rfl h2 h3 h4 h5 h6 h7

theorem wpList_apm (hgd : o.guard = none) (s x : Operand) (t u : TypeId) (ho : o.op = .call { callee := .builtin .append, args := #[s, x], argTypes := #[t, u] }) {e : TypeId} {z : Value} {sz bytes : Nat} (tb : Tb P t e z sz bytes) (hu : P.underlying u = some (.int .i64)) {b : Addr} {n c m : Nat} {xs : List Value} (hl : xs.length = n * sz) (hxs : ∀ j v, xs[j]? = some v → w.cell? (b.add j) = some v) (hse : a.eval s = .slice (some b) n c) {mi : Int} (hxe : a.eval x = .int .i64 mi) (hmi : mi = (m : Int)) (hroom : c < n + m) (hm : 0 < m) (h63 : n + m ≤ maxLen) (hb : (n + m) * bytes ≤ 140737488355328)
    (h : ∀ c' N ys w', N = n + m → N ≤ c' → c' ≤ maxLen → (xs ++ ys).length = c' * sz → Has w' w.heap.size e (xs ++ ys) → Fr no w w' → w'.heap.size = w.heap.size + 1 → wpList P ops Q rest (a.put o.dst (.slice (some ⟨w.heap.size, 0, none⟩) N c')) w') : wpList P ops Q (o :: rest) a w :=
  wpList_plain hgd fun _ hK => wp_apm s x t u ho tb hu hl hxs hse hxe hmi hroom hm h63 hb fun c' N ys w' h1 h2 h3 h4 h5 h6 h7 => hK _ _ (h c' N ys w' h1 h2 h3 h4 h5 h6 h7)
end
end Go

/- Rows of three cells an element, spliced: plain lists, and what memory tells of them. General. -/
namespace Go
open Go.RowKit

theorem Has.sl {w : World} {g : Nat} {e : TypeId} {cur : List Value} (h : Has w g e cur) (sz off n c : Nat) (hn : off + n * sz ≤ cur.length) (hc : n ≤ c) (hm : c ≤ maxLen) : Sl w sz (.slice (some ⟨g, off, none⟩) n c) n ((cur.drop off).take (n * sz)) := by
  refine ⟨by rw [List.length_take, List.length_drop]; omega, .inr ⟨g, off, c, rfl, hc, hm, fun j u hu => ?_⟩⟩
  rw [List.getElem?_take] at hu
  split at hu
  · rw [List.getElem?_drop] at hu
    rw [cell_of_row w g _ cur.toArray e (0, 0) h]
    simpa using hu
  · cases hu

theorem Has.kept {w w1 : World} {g : Nat} {e : TypeId} {cur : List Value} {S : Nat → Prop} (h : Has w g e cur) (f : Fr S w w1) (hn : ¬ S g) : Has w1 g e cur := f.heap h hn

theorem Has.ow {w : World} {g : Nat} {e : TypeId} {cur : List Value} (h : Has w g e cur) (sz n c : Nat) (hc : c * sz ≤ cur.length) (hn : n ≤ c) (hm : c ≤ maxLen) : Ow w e sz (.slice (some ⟨g, 0, none⟩) n c) n (cur.take (n * sz)) := by
  have : n * sz ≤ c * sz := Nat.mul_le_mul_right _ hn
  exact ⟨by rw [List.length_take]; omega, .inr ⟨g, c, _, rfl, h, hn, hm, by simpa using hc, by simp⟩⟩

theorem Ow.has {w : World} {e : TypeId} {sz g n c : Nat} {xs : List Value} (h : Ow w e sz (.slice (some ⟨g, 0, none⟩) n c) n xs) : ∃ cur, Has w g e cur ∧ c * sz ≤ cur.length ∧ n ≤ c ∧ c ≤ maxLen ∧ cur.take (n * sz) = xs := by
  rcases h.2 with ⟨h1, _⟩ | ⟨g', cap, cur, h1, hg, h2, h3, h4, h5⟩
  · cases h1
  · cases h1
    exact ⟨cur.toList, by simpa [Has] using hg, by simpa using h4, h2, h3, h5⟩

/-- With room: what lies behind is moved, then the new ones laid in. -/
theorem ins_room (cur xs us : List Value) (i n : Nat) (hx : cur.take (n * 3) = xs) (hl : (n + 1) * 3 ≤ cur.length) (hi : i ≤ n) (hu : us.length = 3) :
    let cur1 := cur.take ((i + 1) * 3) ++ ((cur.drop (i * 3)).take ((n + 1 - i) * 3)).take ((n - i) * 3) ++ cur.drop ((i + 1) * 3 + (n - i) * 3)
    (cur1.take (i * 3) ++ us ++ cur1.drop (i * 3 + 3)).take ((n + 1) * 3) = xs.take (i * 3) ++ us ++ xs.drop (i * 3) := by
  intro cur1
  obtain ⟨a, b, r, hc, ha, hb⟩ : ∃ a b r, cur = a ++ (b ++ r) ∧ a.length = i * 3 ∧ b.length = (n - i) * 3 :=
    ⟨cur.take (i * 3), (cur.drop (i * 3)).take ((n - i) * 3), cur.drop (i * 3 + (n - i) * 3), by
      rw [← List.drop_drop, List.take_append_drop, List.take_append_drop], by rw [List.length_take]; omega, by rw [List.length_take, List.length_drop]; omega⟩
  have hr : 3 ≤ r.length := by have := congrArg List.length hc; simp at this; omega
  have hxs : xs = a ++ b := by
    rw [← hx, hc, show n * 3 = (a ++ b).length by simp; omega, ← List.append_assoc, List.take_left]
  have h1 : cur1 = a ++ ((b ++ r).take 3 ++ b ++ r.drop 3) := by
    show cur.take ((i + 1) * 3) ++ ((cur.drop (i * 3)).take ((n + 1 - i) * 3)).take ((n - i) * 3) ++ cur.drop ((i + 1) * 3 + (n - i) * 3) = _
    rw [List.take_take, Nat.min_eq_left (by omega), hc]
    rw [show (i + 1) * 3 = a.length + 3 by omega, List.take_length_add_append]
    rw [show i * 3 = a.length by omega, List.drop_left, show (n - i) * 3 = b.length by omega, List.take_left]
    rw [show a.length + 3 + b.length = a.length + (b.length + 3) by omega, List.drop_length_add_append, List.drop_length_add_append]
    simp [List.append_assoc]
  have h2 : ((b ++ r).take 3).length = 3 := by rw [List.length_take, List.length_append]; omega
  rw [h1, hxs, show i * 3 = a.length by omega, List.take_left, List.drop_length_add_append, List.take_left, List.drop_left]
  rw [List.append_assoc ((b ++ r).take 3)]
  rw [List.drop_left' h2]
  rw [show (n + 1) * 3 = (a ++ us ++ b).length by simp only [List.length_append]; omega]
  rw [← List.append_assoc, List.take_left]

/-- Into a new block. -/
theorem ins_new (xs us ys : List Value) (i n : Nat) (hx : xs.length = n * 3) (_hy : (n + 1) * 3 ≤ i * 3 + ys.length) (hi : i ≤ n) (hu : us.length = 3) :
    let cur := xs.take (i * 3) ++ ys
    let cur1 := cur.take (i * 3) ++ us ++ cur.drop (i * 3 + 3)
    (cur1.take ((i + 1) * 3) ++ xs.drop (i * 3) ++ cur1.drop ((i + 1) * 3 + (n - i) * 3)).take ((n + 1) * 3) = xs.take (i * 3) ++ us ++ xs.drop (i * 3) := by
  intro cur cur1
  have ha : (xs.take (i * 3)).length = i * 3 := by rw [List.length_take]; omega
  have h1 : cur1.take ((i + 1) * 3) = xs.take (i * 3) ++ us := by
    show (cur.take (i * 3) ++ us ++ cur.drop (i * 3 + 3)).take ((i + 1) * 3) = _
    have h2 : cur.take (i * 3) = xs.take (i * 3) := by
      show (xs.take (i * 3) ++ ys).take (i * 3) = _
      conv => lhs; rw [show i * 3 = (xs.take (i * 3)).length from ha.symm]
      rw [ha, List.take_left' ha]
    rw [h2, show (i + 1) * 3 = (xs.take (i * 3) ++ us).length by rw [List.length_append]; omega, List.take_left]
  rw [h1, show (n + 1) * 3 = (xs.take (i * 3) ++ us ++ xs.drop (i * 3)).length by simp only [List.length_append, List.length_drop]; omega, List.take_left]

theorem rep_mid (cur xs us : List Value) (i j n : Nat) (hx : cur.take (n * 3) = xs) (hl : n * 3 ≤ cur.length) (hi : i < j) (hj : j ≤ n) (hu : us.length = 3) :
    ((cur.take (i * 3) ++ us ++ cur.drop (i * 3 + 3)).drop (j * 3)).take ((n - j) * 3) = xs.drop (j * 3) := by
  have hp : (cur.take (i * 3) ++ us).length = i * 3 + 3 := by rw [List.length_append, List.length_take]; omega
  have hd : (cur.take (i * 3) ++ us ++ cur.drop (i * 3 + 3)).drop (j * 3) = cur.drop (j * 3) := by
    rw [List.drop_append, List.drop_of_length_le (by omega), List.nil_append, List.drop_drop, hp]
    congr 1
    omega
  rw [hd, ← hx, List.drop_take]
  congr 1
  omega

/-- A part written over by one, what lies behind drawn up. -/
theorem rep_room (cur xs us ys : List Value) (i j n : Nat) (hx : cur.take (n * 3) = xs) (hl : n * 3 ≤ cur.length) (hi : i < j) (hj : j ≤ n) (hu : us.length = 3) (_hy : ys.length = (j - i - 1) * 3) :
    let cur1 := cur.take (i * 3) ++ us ++ cur.drop (i * 3 + 3)
    let cur2 := cur1.take ((i + 1) * 3) ++ (cur1.drop (j * 3)).take ((n - j) * 3) ++ cur1.drop ((i + 1) * 3 + (n - j) * 3)
    (cur2.take ((i + 1 + (n - j)) * 3) ++ ys ++ cur2.drop ((i + 1 + (n - j)) * 3 + (j - i - 1) * 3)).take ((i + 1 + (n - j)) * 3) = xs.take (i * 3) ++ us ++ xs.drop (j * 3) := by
  intro cur1 cur2
  have ha : (cur.take (i * 3)).length = i * 3 := by rw [List.length_take]; omega
  have hxa : xs.take (i * 3) = cur.take (i * 3) := by rw [← hx, List.take_take, Nat.min_eq_left (by omega)]
  have h1 : cur1.take ((i + 1) * 3) = cur.take (i * 3) ++ us := by
    show (cur.take (i * 3) ++ us ++ cur.drop (i * 3 + 3)).take ((i + 1) * 3) = _
    rw [show (i + 1) * 3 = (cur.take (i * 3) ++ us).length by rw [List.length_append]; omega, List.take_left]
  have h2 : (cur1.drop (j * 3)).take ((n - j) * 3) = xs.drop (j * 3) := by
    have hd : cur1.drop (j * 3) = cur.drop (j * 3) := by
      show (cur.take (i * 3) ++ us ++ cur.drop (i * 3 + 3)).drop (j * 3) = _
      have hp : (cur.take (i * 3) ++ us).length = i * 3 + 3 := by rw [List.length_append]; omega
      rw [List.drop_append, List.drop_of_length_le (by omega), List.nil_append, List.drop_drop, hp]
      congr 1
      omega
    rw [hd, ← hx, List.drop_take]
    congr 1
    omega
  have h3 : cur2.take ((i + 1 + (n - j)) * 3) = xs.take (i * 3) ++ us ++ xs.drop (j * 3) := by
    show (cur1.take ((i + 1) * 3) ++ (cur1.drop (j * 3)).take ((n - j) * 3) ++ cur1.drop ((i + 1) * 3 + (n - j) * 3)).take ((i + 1 + (n - j)) * 3) = _
    have hxl : xs.length = n * 3 := by rw [← hx, List.length_take]; omega
    rw [h1, h2, hxa, show (i + 1 + (n - j)) * 3 = (cur.take (i * 3) ++ us ++ xs.drop (j * 3)).length by simp only [List.length_append, List.length_drop]; omega, List.take_left]
  have hl3 : (cur2.take ((i + 1 + (n - j)) * 3)).length = (i + 1 + (n - j)) * 3 := by
    have hxl : xs.length = n * 3 := by rw [← hx, List.length_take]; omega
    rw [h3]; simp only [List.length_append, List.length_drop, List.length_take]; omega
  rw [List.append_assoc, List.take_left' hl3, h3]
end Go

/- Values that are told are their owner's. Printed by mkownv.py. -/
namespace Go.Proofs.YtgcicljklejmjaaDoor
open Go.RowKit

theorem tbVV : Tb Tryd.prog 61 25 (.slice none 0 0) 1 24 := ⟨by kernel_rfl, by kernel_rfl, rfl, by decide⟩
/-- The marks of a row of values. -/
def mV (i : Int) (k : Nat) : List Value := [.int .u8 0, .bool false, .int .i64 (i * 1000 + (k : Int)), .string ⟨#[]⟩, .slice none 0 0, .slice none 0 0, .slice none 0 0]
theorem mV_len (i : Int) (k : Nat) : (mV i k).length = 7 := rfl
theorem set_get {α : Type} {l : List α} {i : Nat} {x : α} {n : Nat} (h : n = i) (hl : i < l.length) : (l.set i x)[n]? = some x := by subst h; simp [hl]
theorem take_set7 {l P : List Value} {k : Nat} {a b c d e f g : Value} (h : l.take (k * 7) = P) (hk : k * 7 + 7 ≤ l.length) : (((((((l.set (k * 7) a).set (k * 7 + 1) b).set (k * 7 + 2) c).set (k * 7 + 3) d).set (k * 7 + 4) e).set (k * 7 + 5) f).set (k * 7 + 6) g).take ((k + 1) * 7) = P ++ [a, b, c, d, e, f, g] := by
  have e7 : (k + 1) * 7 = k * 7 + 1 + 1 + 1 + 1 + 1 + 1 + 1 := by omega
  rw [e7]
  iterate 7 rw [List.take_succ_eq_append_getElem (by simp; omega)]
  rw [List.take_set_of_le (by omega), List.take_set_of_le (by omega), List.take_set_of_le (by omega), List.take_set_of_le (by omega), List.take_set_of_le (by omega), List.take_set_of_le (by omega), List.take_set_of_le (Nat.le_refl _), h]
  simp

set_option maxRecDepth 100000 in
set_option maxHeartbeats 8000000 in
theorem own_vals (w : World) (A : Option Addr) (c : Nat) (vs : List Value) (ns : Nat → Nat) (C0 : Nat → List Value) (h : Two w 33 7 (.slice A vs.length c) vs ns C0) (hX : ∀ b, (Value.slice A vs.length c).ownBlock = some b → b < w.heap.size) (hvs : vs.length ≤ 1000000) (hns : ∀ j, ns j ≤ 1000000) :
    Calls Tryd.prog 62 #[.slice A vs.length c] w fun e w' => e = .returned (.bool true) ∧ Fr (InRows vs) w w' := by
  have H := Lib.hid h; have HLX := Lib.hid hX; have HNS := Lib.hid hns; clear h hX hns
  go_enter Tryd.func62, Tryd.ntmps62
  go_wp2
  go_loopw [3] (fun s wr => ∃ (i : Nat) (C : Nat → List Value), i ≤ vs.length ∧ s = .int .i64 i ∧ Two wr 33 7 (.slice A vs.length c) vs ns C ∧ Fr (InRows vs) w wr ∧ ∀ j, j < i → C j = mks mV j (ns j)) (fun s _ => vs.length - (intOf s).toNat)
  case atStart => exact ⟨0, C0, Nat.zero_le _, rfl, H.out, Fr.refl _ _, fun j h => by omega⟩
  case round =>
    obtain ⟨i, C, hi, rfl, ht, hf, hm⟩ := hrel
    have HT := Lib.hid ht; have HF := Lib.hid hf; have HM := Lib.hid hm; clear ht hf hm
    by_cases hlt : i < vs.length
    · go_wp2
      go_loopw [4] (fun s wr => ∃ (k : Nat) (C : Nat → List Value), k ≤ ns i ∧ s = .int .i64 k ∧ Two wr 33 7 (.slice A vs.length c) vs ns C ∧ Fr (InRows vs) w wr ∧ (∀ j, j < i → C j = mks mV j (ns j)) ∧ (C i).take (k * 7) = mks mV i k) (fun s _ => 1000000 - (intOf s).toNat)
      case atStart => exact ⟨0, C, Nat.zero_le _, rfl, HT.out, HF.out, HM.out, by simp [mks]⟩
      case round =>
        obtain ⟨k, C, hk, rfl, ht, hf, hm, hmk⟩ := hrel
        have HT := Lib.hid ht; have HF := Lib.hid hf; have HM := Lib.hid hm; have HK := Lib.hid hmk; clear ht hf hm hmk
        have hk9 : ns i ≤ 1000000 := HNS.out i
        obtain ⟨b, o, hA, hcell⟩ := sl_at HT.out.out i hlt
        subst hA
        have hbl := World.block_lt_of_cell? _ _ hcell
        by_cases hkl : k < ns i
        · have hri := HT.out.rows.row i hlt
          obtain ⟨g, c', hv, _, _, hgl, hz, hcs⟩ := hri.cells k hkl
          have hkC : k * 7 + 7 ≤ (C i).length := by rw [hri.1]; omega
          obtain ⟨cv0, hcv0⟩ : ∃ cv, (C i)[k * 7 + 0]? = some cv := ⟨_, List.getElem?_eq_getElem (by omega)⟩
          have hc0 := hcs _ _ hcv0
          obtain ⟨cv1, hcv1⟩ : ∃ cv, (C i)[k * 7 + 1]? = some cv := ⟨_, List.getElem?_eq_getElem (by omega)⟩
          have hc1 := hcs _ _ hcv1
          obtain ⟨cv2, hcv2⟩ : ∃ cv, (C i)[k * 7 + 2]? = some cv := ⟨_, List.getElem?_eq_getElem (by omega)⟩
          have hc2 := hcs _ _ hcv2
          obtain ⟨cv3, hcv3⟩ : ∃ cv, (C i)[k * 7 + 3]? = some cv := ⟨_, List.getElem?_eq_getElem (by omega)⟩
          have hc3 := hcs _ _ hcv3
          obtain ⟨cv4, hcv4⟩ : ∃ cv, (C i)[k * 7 + 4]? = some cv := ⟨_, List.getElem?_eq_getElem (by omega)⟩
          have hc4 := hcs _ _ hcv4
          obtain ⟨cv5, hcv5⟩ : ∃ cv, (C i)[k * 7 + 5]? = some cv := ⟨_, List.getElem?_eq_getElem (by omega)⟩
          have hc5 := hcs _ _ hcv5
          obtain ⟨cv6, hcv6⟩ : ∃ cv, (C i)[k * 7 + 6]? = some cv := ⟨_, List.getElem?_eq_getElem (by omega)⟩
          have hc6 := hcs _ _ hcv6
          simp only [Nat.add_zero] at hc0
          rw [hv] at hcell
          have HV := Lib.hid hv; have HRI := Lib.hid hri; have HKC := Lib.hid hkC; clear hv hri hcs hkC hcv0 hcv1 hcv2 hcv3 hcv4 hcv5 hcv6
          go_wp2
          go_roundw
          case rel =>
            have hT := HT.out
            have hin : InRows vs g := ⟨vs[i], List.getElem_mem _, by rw [HV.out]; rfl⟩
            have hro0 := hT.rows.row i hlt
            rw [HV.out] at hro0
            have hCl := HKC.out
            have hro1 := hro0.set (j := k * 7) (by (try simp only [List.length_set]); omega) (.int .u8 0)
            have hro2 := hro1.set (j := k * 7 + 1) (by (try simp only [List.length_set]); omega) (.bool false)
            have hro3 := hro2.set (j := k * 7 + 2) (by (try simp only [List.length_set]); omega) (.int .i64 ((i : Int) * 1000 + (k : Int)))
            have hro4 := hro3.set (j := k * 7 + 3) (by (try simp only [List.length_set]); omega) (.string ⟨#[]⟩)
            have hro5 := hro4.set (j := k * 7 + 4) (by (try simp only [List.length_set]); omega) (.slice none 0 0)
            have hro6 := hro5.set (j := k * 7 + 5) (by (try simp only [List.length_set]); omega) (.slice none 0 0)
            have hro7 := hro6.set (j := k * 7 + 6) (by (try simp only [List.length_set]); omega) (.slice none 0 0)
            have hfs := ((((((((Fr.refl (fun x => x = g) wr).setCell ⟨g, k * 7, none⟩ (.int .u8 0) (fun _ => rfl)).setCell ⟨g, k * 7 + 1, none⟩ (.bool false) (fun _ => rfl)).setCell ⟨g, k * 7 + 2, none⟩ (.int .i64 ((i : Int) * 1000 + (k : Int))) (fun _ => rfl)).setCell ⟨g, k * 7 + 3, none⟩ (.string ⟨#[]⟩) (fun _ => rfl)).setCell ⟨g, k * 7 + 4, none⟩ (.slice none 0 0) (fun _ => rfl)).setCell ⟨g, k * 7 + 5, none⟩ (.slice none 0 0) (fun _ => rfl)).setCell ⟨g, k * 7 + 6, none⟩ (.slice none 0 0) (fun _ => rfl))
            have hTs : Two (((((((wr.setCell ⟨g, k * 7, none⟩ (.int .u8 0)).setCell ⟨g, k * 7 + 1, none⟩ (.bool false)).setCell ⟨g, k * 7 + 2, none⟩ (.int .i64 ((i : Int) * 1000 + (k : Int)))).setCell ⟨g, k * 7 + 3, none⟩ (.string ⟨#[]⟩)).setCell ⟨g, k * 7 + 4, none⟩ (.slice none 0 0)).setCell ⟨g, k * 7 + 5, none⟩ (.slice none 0 0)).setCell ⟨g, k * 7 + 6, none⟩ (.slice none 0 0)) 33 7 (.slice (some ⟨b, o, none⟩) vs.length c) vs ns (fun j => if j = i then _ else C j) := ⟨hT.out.kept hfs (fun b' hb' e => hT.away b' hb' (by subst e; exact hin)), hT.away, hT.rows.one i hlt (hfs.mono (fun x _ e => by subst e; rw [HV.out]; rfl)) _ (by rw [HV.out]; exact hro7)⟩
            refine ⟨k + 1, _, hkl, by go_num, hTs, HF.out.trans hfs (fun x _ e => by subst e; exact hin), fun j hj => ?_, ?_⟩
            · simp only [show ¬ j = i by omega, if_false]
              exact HM.out j hj
            · simp only [if_true]
              rw [take_set7 HK.out HKC.out, mks_succ]
              rfl
          case measure => simp [intOf]; omega
        · have hkk : k = ns i := by omega
          subst hkk
          obtain ⟨Ai, ci, hv, _, _⟩ := (HT.out.rows.row i hlt).form
          rw [hv] at hcell
          have HV := Lib.hid hv; clear hv
          go_wp2
          go_roundw
          case rel =>
            refine ⟨i + 1, C, hlt, by go_num, HT.out, HF.out, fun j hji => ?_⟩
            by_cases h : j = i
            · subst h
              have h2 := HK.out
              rw [List.take_of_length_le (by rw [(HT.out.rows.row j hlt).1]; omega)] at h2
              exact h2
            · exact HM.out j (by omega)
          case measure => simp [intOf]; omega
    · obtain rfl : i = vs.length := by omega
      clear hlt hi
      have HT1 := Lib.hid (show Two wr 33 7 (.slice A vs.length c) vs ns (fun j => mks mV j (ns j)) from ⟨HT.out.out, HT.out.away, HT.out.rows.congr HM.out⟩)
      clear HT HM
      obtain ⟨w1, rfl⟩ : ∃ w1 : World, w1 = wr := ⟨_, rfl⟩
      go_wp2
      go_loopw [5, 6] (fun L s wr => ∃ (lvs : List Value), s = .int .i64 lvs.length ∧ Ph2 w1 wr 33 25 7 mV 4 (.slice A vs.length c) L vs lvs ns) (fun _ s _ => vs.length - (intOf s).toNat)
      case atStart => exact ⟨[], rfl, HT1.out, ⟨rfl, .inl ⟨rfl, rfl⟩⟩, Nat.zero_le _, fun j h => by simp at h, fun j h => by simp at h, fun b h => by simp [Value.ownBlock] at h, Fr.refl _ _, fun b hb => Nat.lt_of_lt_of_le (HLX.out b hb) HF.out.size, HT1.out.rows.lt⟩
      case round =>
        obtain ⟨lvs, rfl, hp⟩ := hrel
        have hmany := hp.many
        have HP := Lib.hid hp; clear hp
        by_cases hlt : lvs.length < vs.length
        · obtain ⟨b, o, hA, hcell⟩ := sl_at HP.out.two.out lvs.length hlt
          subst hA
          have HS := Lib.hid (Ph3.start HP.out hlt)
          go_wp2
          go_loopw [7, 8] (fun x s wr => ∃ k : Nat, k ≤ 4 ∧ s = .int .i64 k ∧ Ph3 w1 wr 33 25 7 mV 4 (.slice (some ⟨b, o, none⟩) vs.length c) u5 x vs lvs ns k) (fun _ s _ => 4 - (intOf s).toNat)
          case atStart => exact ⟨0, Nat.zero_le _, rfl, HS.out⟩
          case round =>
            obtain ⟨k, hk, rfl, hp⟩ := hrel
            have HP := Lib.hid hp; clear hp
            have hn9 := HNS.out lvs.length
            by_cases hk16 : k < 4
            · go_wp2_with (at_builtin; refine wpList_apo (news := mV (-1 - lvs.length) k) rfl (.tmp 53) (.tmp 60) 25 rfl tbV (HP.out.kept0 ((Fr.refl no _).alloc _)).row (built7 wr _ _ _ _ _ _ _ _) rfl rfl (by intro u hu; simp only [mV, List.mem_cons, List.not_mem_nil, or_false] at hu; rcases hu with rfl | rfl | rfl | rfl | rfl | rfl | rfl <;> rfl) ?b1 ?b2 ?go)
              case b1 => simp only [maxLen]; omega
              case b2 => omega
              case go =>
                intro A' N c' w2 hN ho hold hf2 hst
                subst hN
                have HPP := Lib.hid (Ph3.more mV_len (HP.out.kept0 ((Fr.refl no _).alloc _)) (by rw [← List.append_assoc] at ho; exact ho) hold hf2 hst)
                clear ho hold hf2 hst
                go_wp2
                go_roundw
                case rel => exact ⟨k + 1, by omega, by go_num, HPP.out⟩
                case measure => simp [intOf]; omega
            · obtain rfl : k = 4 := by omega
              obtain ⟨Ax, cx, hx, _, _⟩ := HP.out.row.form
              subst hx
              go_wp2_with (at_builtin; refine wpList_apo rfl (.tmp 62) (.tmp 64) 61 rfl tbVV (HP.out.kept0 ((Fr.refl no _).alloc _)).ph2.long (Sl.built wr _ _) rfl rfl ?b0 ?b1 ?b2 ?go)
              case b0 => simp [Value.oneCell']
              case b1 => simp only [maxLen]; omega
              case b2 => omega
              case go =>
                intro A' N c' w2 hN ho hold hf2 hst
                subst hN
                have HPP := Lib.hid (Ph3.laid (HP.out.kept0 ((Fr.refl no _).alloc _)) ho hf2 hst)
                clear ho hold hf2 hst
                go_wp2
                go_roundw
                case rel => exact ⟨lvs ++ [_], by simp, HPP.out⟩
                case measure => simp [intOf]; omega
        · have hle : lvs.length = vs.length := by omega
          have hrow := fun j (hj : j < vs.length) => Ph2.at mV_len HP.out j hj (by omega)
          have HR := Lib.hid hrow; clear hrow
          obtain ⟨AL, cL, hL, _, _⟩ := HP.out.long.form
          subst hL
          have HLL := Lib.hid HP.out.long.sl
          have hle1 : lvs.length ≤ vs.length := by omega
          have hle2 : vs.length ≤ lvs.length := by omega
          clear hle
          go_wp2
          go_loop [9] (fun s => ∃ i : Nat, i ≤ vs.length ∧ s = .int .i64 i) (fun s => vs.length - (intOf s).toNat)
          case atStart => exact ⟨0, Nat.zero_le _, rfl⟩
          case round =>
            obtain ⟨i, hi, rfl⟩ := hrel
            by_cases hlt2 : i < vs.length
            · obtain ⟨b, o, hA, hcell⟩ := sl_at HP.out.two.out i hlt2
              obtain ⟨b2, o2, hA2, hcell2⟩ := sl_at HLL.out i (by omega)
              subst hA; subst hA2
              obtain ⟨Ai, ci, hv, hci, _⟩ := (HP.out.two.rows.row i hlt2).form
              rw [hv] at hcell
              have HV := Lib.hid hv
              have hn9 := HNS.out i
              clear hv
              go_wp2
              go_loop [11] (fun s => ∃ k : Nat, k ≤ ns i ∧ s = .int .i64 k) (fun s => ns i - (intOf s).toNat)
              case atStart => exact ⟨0, Nat.zero_le _, rfl⟩
              case round =>
                obtain ⟨k, hk, rfl⟩ := hrel
                by_cases hkl : k < ns i
                · obtain ⟨g, c1, N1, e1, _, _, q1⟩ := (HR.out i hlt2).1 (by omega)
                  obtain ⟨g2, c2, N2, e2, _, _, q2⟩ := (HR.out i hlt2).2.1 (by omega)
                  replace q1 := q1 k hkl 2 _ rfl
                  replace q2 := q2 k hkl 2 _ rfl
                  simp only [Nat.zero_add] at q1 q2
                  have hgb1 := World.block_lt_of_cell? _ _ q1
                  have hgb2 := World.block_lt_of_cell? _ _ q2
                  rw [HV.out] at e1
                  rw [e2] at hcell2
                  have HV2 := Lib.hid e2; clear e2
                  cases e1
                  go_wp2
                  go_round
                  case rel => exact ⟨k + 1, hkl, by go_num⟩
                  case measure => simp [intOf]; omega
                · obtain rfl : k = ns i := by omega
                  go_wp2
                  go_loop [12] (fun s => ∃ k : Nat, k ≤ 4 ∧ s = .int .i64 k) (fun s => 4 - (intOf s).toNat)
                  case atStart => exact ⟨0, Nat.zero_le _, rfl⟩
                  case round =>
                    obtain ⟨k, hk, rfl⟩ := hrel
                    by_cases hkl : k < 4
                    · obtain ⟨g2, c2, N2, e2, _, _, q2⟩ := (HR.out i hlt2).2.2 (by omega)
                      replace q2 := q2 k hkl 2 _ rfl
                      have hgb2 := World.block_lt_of_cell? _ _ q2
                      rw [e2] at hcell2
                      have HV2 := Lib.hid e2; clear e2
                      go_wp2
                      go_round
                      case rel => exact ⟨k + 1, hkl, by go_num⟩
                      case measure => simp [intOf]; omega
                    · go_wp2
                      go_round
                      case rel => exact ⟨i + 1, hlt2, by go_num⟩
                      case measure => simp [intOf]; omega
            · go_wp2
              go_ret
              exact ⟨rfl, HF.out.trans HP.out.fr (fun _ _ h => h)⟩
end Go.Proofs.YtgcicljklejmjaaDoor

/- codicilref00.mark: a text for two numbers. -/
namespace Go.Proofs.YtgcicljklejmjaaDoor
open Go.RowKit

def mkS (a b : Nat) : List UInt8 := [UInt8.ofNat (97 + a % 26), UInt8.ofNat (97 + a / 26 % 26), UInt8.ofNat (97 + a / 676 % 26), UInt8.ofNat (97 + b % 26), UInt8.ofNat (97 + b / 26 % 26)]
/-- The mark of two numbers. -/
def mkB (i : Int) (k : Nat) : ByteArray := if 0 ≤ i then ⟨(mkS i.toNat k).toArray⟩ else (⟨#[45]⟩ : ByteArray) ++ ⟨(mkS (-(i + 1)).toNat k).toArray⟩
theorem mkB_same (i : Int) (k : Nat) : (mkB i k == mkB i k) = true := by
  show ((mkB i k).data == (mkB i k).data) = true
  exact beq_self_eq_true _
theorem u8_small (n : Nat) (h : n < 26) : ((UInt8.ofNat (97 + n)).toNat : Int) = 97 + (n : Int) := by
  rw [UInt8.toNat_ofNat']
  omega

set_option maxRecDepth 100000 in
theorem mark_pos (w : World) (a b : Nat) (ha : a ≤ 1000000) (hb : b ≤ 1000000) : Calls Tryd.prog 88 #[.int .i64 (a : Int), .int .i64 (b : Int)] w fun e w' => e = .returned (.string (mkB a b)) ∧ Fr no w w' := by
  have g0 : decide ((a : Int) < 0) = false := decide_eq_false (by omega)
  have hcs : #[Value.int .u8 (97 + (a : Int) % 26), .int .u8 (97 + (a : Int) / 26 % 26), .int .u8 (97 + (a : Int) / 676 % 26), .int .u8 (97 + (b : Int) % 26), .int .u8 (97 + (b : Int) / 26 % 26)] = (bvs (mkS a b)).toArray := by
    unfold mkS bvs Bv
    simp only [List.map_cons, List.map_nil]
    rw [u8_small _ (Nat.mod_lt _ (by omega)), u8_small _ (Nat.mod_lt _ (by omega)), u8_small _ (Nat.mod_lt _ (by omega)), u8_small _ (Nat.mod_lt _ (by omega)), u8_small _ (Nat.mod_lt _ (by omega))]
    rfl
  have hsl := Sl.fresh w (mkS a b) 5 hcs (by simp [mkS, maxLen])
  have s1 := run_str (P := Tryd.prog) (src := 22) (dst := 9) (e := 5) _ (by kernel_rfl) (by kernel_rfl) (by kernel_rfl) hsl
  have hl : (mkS a b).length = 5 := rfl
  rw [hl] at s1
  have hm : mkB a b = ⟨(mkS a b).toArray⟩ := by
    unfold mkB
    rw [if_pos (by omega)]
    rfl
  rw [hm]
  clear hcs hsl hl hm
  go_enter Tryd.func88, Tryd.ntmps88
  go_wp2
  go_ret
  exact ⟨rfl, by (repeat first | exact Fr.refl _ _ | exact Fr.drewN _ _ _ | apply Fr.drew | apply Fr.alloc | apply Fr.setAt | apply Fr.moreN)⟩
set_option maxRecDepth 100000 in
theorem mark_neg (w : World) (a b : Nat) (ha : a ≤ 1000000) (hb : b ≤ 1000000) : Calls Tryd.prog 88 #[.int .i64 (-1 - (a : Int)), .int .i64 (b : Int)] w fun e w' => e = .returned (.string (mkB (-1 - (a : Int)) b)) ∧ Fr no w w' := by
  have g0 : decide (-1 - (a : Int) < 0) = true := decide_eq_true (by omega)
  have h1 : IntKind.i64.wrap (-1 - (a : Int) + 1) = -(a : Int) := by
    rw [show -1 - (a : Int) + 1 = -(a : Int) by omega]
    exact IntWalk.i64_in _ ⟨by omega, by omega⟩
  have h2 : IntKind.i64.wrap (- -(a : Int)) = (a : Int) := by
    rw [show - -(a : Int) = (a : Int) by omega]
    exact IntWalk.i64_in _ ⟨by omega, by omega⟩
  have hm : mkB (-1 - (a : Int)) b = (⟨#[45]⟩ : ByteArray) ++ mkB a b := by
    unfold mkB
    rw [if_neg (by omega), if_pos (by omega), show (-(-1 - (a : Int) + 1)).toNat = a by omega]
    rfl
  rw [hm]
  have hp := fun W => mark_pos W a b ha hb
  have HP := Lib.hid hp
  clear hm hp
  go_enter Tryd.func88, Tryd.ntmps88
  go_wp2_with fail
  refine (HP.out _).mono ?_
  rintro e w1 ⟨rfl, f1⟩
  have F1 := Lib.hid f1
  clear f1
  go_wp2
  go_ret
  exact ⟨rfl, F1.out⟩
end Go.Proofs.YtgcicljklejmjaaDoor
