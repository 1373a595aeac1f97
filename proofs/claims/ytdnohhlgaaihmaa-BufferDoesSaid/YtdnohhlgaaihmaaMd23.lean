import Derived.Test.YtdnohhlgaaihmaaMd03
import Derived.RangeFuncNested
import Derived.RangeFuncBound
import Derived.RangeFuncCalls
import Derived.RangeFuncLeaves
import Derived.Shelf.Abstract
import Derived.Shelf.RegionOpen
import Derived.OwnWalkIn
import Derived.TacticsInMore
import Derived.LoopNIn
import Derived.LoopIn
import Derived.Test.YtdnohhlgaaihmaaMd06
import Derived.Test.YtdnohhlgaaihmaaMd07
import Derived.Test.YtdnohhlgaaihmaaMd08
import Derived.Test.YtdnohhlgaaihmaaMd11

/- A range over a function whose iterator hands out a list that is known: each round is told which place it is at. Conditions: the iterator's contract (IterAt); each round leaves the loop's record and the block of its deferred calls alone. -/
namespace Go.Proofs.Ytdnohhlgaaihmaa
open Go.RowKit Go.Shelf

/-- The two blocks of a loop that begins at w. -/
def twoB (w : World) : Nat → Prop := fun k => k = w.heap.size ∨ k = w.heap.size + 1

/-- How a round may be left. -/
def roundAt (w W : World) (Kp : World → World → Prop) (I : World → Prop) (Ix : Code → World → Prop) : Exit → Act → World → Prop
  | .normal, _, W' => (∀ k, twoB w k → W'.heap[k]? = W.heap[k]?) ∧ Kp W W' ∧ I W'
  | .ret, _, W' => (∀ k, twoB w k → W'.heap[k]? = W.heap[k]?) ∧ Ix .ret W'
  | .exit id, _, W' => (∀ k, twoB w k → W'.heap[k]? = W.heap[k]?) ∧ Ix (.exit id) W'
  | _, _, _ => False

/-- An iterator hands out the list xs, whatever a round does that keeps Kp. -/
def IterAt {α : Type} (n : Nat) (P : Program) (g : Nat) (lb : Array Value) (encs : α → Array Value) (xs : List α) (Kp : World → World → Prop) (w : World) : Prop :=
  ∀ (l : Nat) (J : Nat → World → Prop) (Jx : World → Prop) (W : World), Fr no w W → (∀ i A B, J i A → Fr no A B → J i B) → (∀ A B, Jx A → Fr no A B → Jx B) →
    (∀ i (h : i < xs.length) W1, J i W1 → YieldAt Fence.wide (n - 1) P l (encs xs[i]) W1 fun e W' => (e = .returned (.bool true) ∧ J (i + 1) W' ∧ Kp W1 W') ∨ (e = .returned (.bool false) ∧ Jx W')) →
    J 0 W →
    CallsIn Fence.wide n P g (#[.func (.yield l) #[] #[]] ++ lb) W fun e W' => (∃ v, e = .returned v) ∧ (J xs.length W' ∨ Jx W')

theorem fr_putObj (W : World) (l : Nat) (o : Obj) : Fr (fun k => k = l) W (W.putObj l o) :=
  ⟨rfl, rfl, rfl, by simp, fun k _ hk => World.putObj_heap_other hk⟩

theorem fr_putObj_size (W : World) (l : Nat) (o : Obj) : (W.putObj l o).heap.size = W.heap.size := by simp [World.putObj]
variable {P : Program} {n : Nat}
theorem wpIn_range_at {α : Type} {g : Operand} {ps : Array Tmp} {assign body : Code} {Q : Exit → Act → World → Prop} {a : Act} {w : World} (h1 : 1 ≤ n) {gf : Nat} {lb : Array Value} (hg : a.eval g = .func (.func gf) #[] lb)
    (eg : ∀ args w, (callFunc gf args).run P w = .ok (.enter gf args) w) {encs : α → Array Value} {xs : List α} {Kp : World → World → Prop} (hseq : IterAt (n - 1) P gf lb encs xs Kp w) (hps : ∀ x, (encs x).size = ps.size)
    (hKt : ∀ {A B C : World}, Kp A B → Kp B C → Kp A C) (hKb : ∀ (W : World) (o' : Obj), Kp W (W.putObj (w.heap.size + 1) o'))
    (I : Nat → World → Prop) (Ix : Code → World → Prop) (hI : ∀ i A B, I i A → Fr (twoB w) A B → I i B) (hIx : ∀ c A B, Ix c A → Fr (twoB w) A B → Ix c B) (h0 : I 0 w) (a₁ : α → Act)
    (hassign : ∀ (l : Nat) (x : α) (W : World) (K : Act → World → Prop), K (a₁ x) W →
      assign.wpIn (Fence.wide.inRound l) (n - 1 - 1) P (Exit.then K (fun _ _ _ => False)) { tmps := (ps.zip (encs x)).foldl (fun t (p, v) => t.setIfInBounds p v) a.tmps, defers := [] } W)
    (hbody : ∀ (l i : Nat) (hi : i < xs.length) (W : World), I i W → w.heap.size + 1 < W.heap.size → body.wpIn (Fence.wide.inRound l) (n - 1 - 1) P (roundAt w W Kp (I (i + 1)) Ix) (a₁ xs[i]) W)
    (hdone : ∀ W : World, I xs.length W → w.heap.size + 1 < W.heap.size → W.heap[w.heap.size]? = some (.deferred (some [])) → Q .normal { a with defers := { target := .collected w.heap.size, args := #[] } :: a.defers } W)
    (hstop : ∀ (c : Code) (W : World), Ix c W → w.heap.size + 1 < W.heap.size → W.heap[w.heap.size]? = some (.deferred (some [])) → c.wpIn Fence.wide n P Q { a with defers := { target := .collected w.heap.size, args := #[] } :: a.defers } W) :
    (Code.rangeFunc g ps assign body).wpIn Fence.wide n P Q a w := by
  refine wpIn_rangeFunc fun fn hfn => ?_
  obtain ⟨rec, hrec⟩ : ∃ rec : LoopState → Option Code → Loop, rec = fun st pe => { state := st, pending := pe, fn, tmps := a.tmps, params := ps, assign, body, defers := w.heap.size } := ⟨_, rfl⟩
  obtain ⟨W1, hW1⟩ : ∃ W1, (w.alloc (.deferred (some []))).alloc (.loop (rec .ready none)) = W1 := ⟨_, rfl⟩
  have fW1 : Fr no w W1 := by rw [← hW1]; exact ((Fr.refl no w).alloc _).alloc _
  have sW1 : W1.heap.size = w.heap.size + 2 := by rw [← hW1, World.size_alloc, World.size_alloc]
  have hL1 : W1.heap[w.heap.size + 1]? = some (.loop (rec .ready none)) := by
    rw [← hW1]; have := World.alloc_heap_new (w.alloc (.deferred (some []))) (.loop (rec .ready none)); rwa [World.size_alloc] at this
  have hK1 : W1.heap[w.heap.size]? = some (.deferred (some [])) := by
    rw [← hW1]
    exact ((Fr.refl no (w.alloc (.deferred (some [])))).alloc _).heap (World.alloc_heap_new w _) (fun h => h)
  refine ⟨w.heap.size + 1, [{ target := .collected w.heap.size, args := #[] }], W1, { target := .fn (.func gf) lb, args := #[.func (.yield (w.heap.size + 1)) #[] #[]] }, W1, gf, #[.func (.yield (w.heap.size + 1)) #[] #[]] ++ lb, W1, ?_, ?_, fun _ _ => trivial, ?_, fun _ => h1, ?_⟩
  · rw [← hW1, hrec]; exact run_enterLoop_outer _ _ _ _ _
  · simp only [resolve, hg]
    simp [go_sem]
  · simp [invoke, go_sem, eg]
  · refine (hseq (w.heap.size + 1)
      (fun i W => I i W ∧ W.heap[w.heap.size + 1]? = some (.loop (rec .ready none)) ∧ W.heap[w.heap.size]? = some (.deferred (some [])))
      (fun W => ∃ c, Ix c W ∧ W.heap[w.heap.size + 1]? = some (.loop (rec .done (some c))) ∧ W.heap[w.heap.size]? = some (.deferred (some [])))
      W1 fW1 ?_ ?_ ?_ ⟨hI 0 w W1 h0 (fW1.mono (fun _ _ h => h.elim)), hL1, hK1⟩).mono ?_
    · rintro i A B ⟨i1, i2, i3⟩ f
      exact ⟨hI i A B i1 (f.mono (fun _ _ h => h.elim)), f.heap i2 (fun h => h), f.heap i3 (fun h => h)⟩
    · rintro A B ⟨c, i1, i2, i3⟩ f
      exact ⟨c, hIx c A B i1 (f.mono (fun _ _ h => h.elim)), f.heap i2 (fun h => h), f.heap i3 (fun h => h)⟩
    · rintro i hi W ⟨hii, hl, hk⟩
      have hlt : w.heap.size + 1 < W.heap.size := (Array.getElem?_eq_some_iff.1 hl).1
      have hy := run_yield (P := P) (args := encs xs[i]) hl (by rw [hrec]; exact hps _)
      rw [hrec] at hy
      refine ⟨fn, _, assign, body, hy, roundIn_of_wpIn trivial (hassign _ _ W _ ⟨_, run_beginRound hl (by rw [hrec]), ?_⟩)⟩
      obtain ⟨W2, hW2⟩ : ∃ W2, W.putObj (w.heap.size + 1) (.loop { rec .ready none with state := .busy }) = W2 := ⟨_, rfl⟩
      have f2 : Fr (twoB w) W W2 := by rw [← hW2]; exact (fr_putObj W _ _).mono (fun k _ h => .inr h)
      have hl2 : W2.heap[w.heap.size + 1]? = some (.loop { rec .ready none with state := .busy }) := by rw [← hW2]; exact World.putObj_heap_same hlt
      have hk2 : W2.heap[w.heap.size]? = some (.deferred (some [])) := by rw [← hW2]; exact (World.putObj_heap_other (by omega)).trans hk
      have hw2 : Kp W W2 := by rw [← hW2]; exact hKb _ _
      rw [hW2]
      refine wpIn_mono (hbody _ i hi W2 (hI i W W2 hii f2) (by have := f2.size; omega)) ?_
      have fin : ∀ (jump : Option Code) (W3 : World), (∀ k, twoB w k → W3.heap[k]? = W2.heap[k]?) →
          (Instr.endRound (w.heap.size + 1) jump).run P W3 = .ok (.bool jump.isNone) (W3.putObj (w.heap.size + 1) (.loop (rec (if jump.isNone then .ready else .done) jump))) ∧
          (W3.putObj (w.heap.size + 1) (.loop (rec (if jump.isNone then .ready else .done) jump))).heap[w.heap.size + 1]? = some (.loop (rec (if jump.isNone then .ready else .done) jump)) ∧
          (W3.putObj (w.heap.size + 1) (.loop (rec (if jump.isNone then .ready else .done) jump))).heap[w.heap.size]? = some (.deferred (some [])) ∧
          Fr (twoB w) W3 (W3.putObj (w.heap.size + 1) (.loop (rec (if jump.isNone then .ready else .done) jump))) := fun jump W3 hk3 => by
        have hl3 := (hk3 _ (.inr rfl)).trans hl2
        have hk3' := (hk3 _ (.inl rfl)).trans hk2
        have := run_endRound (P := P) jump hl3
        rw [hrec] at this ⊢
        exact ⟨this, World.putObj_heap_same (Array.getElem?_eq_some_iff.1 hl3).1, (World.putObj_heap_other (by omega)).trans hk3', (fr_putObj W3 _ _).mono (fun k _ h => .inr h)⟩
      rintro e a3 W3 hp
      cases e with
      | normal =>
        obtain ⟨hk3, hkp3, hi3⟩ := hp
        obtain ⟨hr, hl4, hk4, f4⟩ := fin none W3 hk3
        exact ⟨_, _, hr, .inl ⟨rfl, ⟨hI _ _ _ hi3 f4, hl4, hk4⟩, hKt (hKt hw2 hkp3) (hKb _ _)⟩⟩
      | ret =>
        obtain ⟨hk3, hi3⟩ := hp
        obtain ⟨hr, hl4, hk4, f4⟩ := fin (some .ret) W3 hk3
        exact ⟨_, _, hr, .inr ⟨rfl, .ret, hIx _ _ _ hi3 f4, hl4, hk4⟩⟩
      | exit id =>
        obtain ⟨hk3, hi3⟩ := hp
        obtain ⟨hr, hl4, hk4, f4⟩ := fin (some (.exit id)) W3 hk3
        exact ⟨_, _, hr, .inr ⟨rfl, .exit id, hIx _ _ _ hi3 f4, hl4, hk4⟩⟩
      | goto t => exact hp.elim
      | panic ch => exact hp.elim
      | outgrown => exact hp.elim
    · rintro e W2 ⟨⟨v, rfl⟩, (⟨hi, hl, hk⟩ | ⟨c, hi, hl, hk⟩)⟩
      · have hlt : w.heap.size + 1 < W2.heap.size := (Array.getElem?_eq_some_iff.1 hl).1
        refine ⟨none, _, by have := run_endLoop (P := P) hl (by rw [hrec]; simp); rw [hrec] at this; exact this, hdone _ (hI _ _ _ hi ((fr_putObj W2 _ _).mono (fun k _ h => .inr h))) ?_ ((World.putObj_heap_other (by omega)).trans hk)⟩
        rw [(fr_putObj_size W2 _ _)]; exact hlt
      · have hlt : w.heap.size + 1 < W2.heap.size := (Array.getElem?_eq_some_iff.1 hl).1
        refine ⟨some c, _, by have := run_endLoop (P := P) hl (by rw [hrec]; simp); rw [hrec] at this; exact this, hstop c _ (hIx _ _ _ hi ((fr_putObj W2 _ _).mono (fun k _ h => .inr h))) ?_ ((World.putObj_heap_other (by omega)).trans hk)⟩
        rw [(fr_putObj_size W2 _ _)]; exact hlt
end Go.Proofs.Ytdnohhlgaaihmaa

/- slices.Delete of one change: the row as it was, without it. -/
namespace Go.Proofs.Ytdnohhlgaaihmaa
open Go.RowKit

section
variable {P : Program} {w : World} {o : Oper} {a : Act} {K : Act → World → Prop} {Q : Exit → Act → World → Prop}
/-- append onto the front of a row that has room. -/
theorem run_apn {t e : TypeId} {z : Value} {size bytes : Nat} (tb : Tb P t e z size bytes) (ty : TypeId) {g n c : Nat} {cur : List Value} (hg : Has w g e cur) (hcs : c * size ≤ cur.length)
    {x : Value} {m : Nat} {news : List Value} (hx : Sl w size x m news) (h1 : ∀ u ∈ news, u.oneCell' = true) (hr : n + m ≤ c) :
    ∃ w', (Builtin.append_ #[t, t] ty #[.slice (some ⟨g, 0, none⟩) n c, x]).run P w = .ok (.slice (some ⟨g, 0, none⟩) (n + m) c) w' ∧ Has w' g e (cur.take (n * size) ++ news ++ cur.drop (n * size + m * size)) ∧ Fr (fun k => k = g) w w' := by
  obtain ⟨i, hi, hz0, hz1, hz2⟩ := info_parts tb.info
  obtain ⟨X, cx, rfl, hcx1, hcx2⟩ := hx.form
  by_cases hm : m = 0
  · subst hm
    have hn : news = [] := List.eq_nil_of_length_eq_zero (by simpa using hx.1)
    subst hn
    refine ⟨w, ?_, by simpa using hg, Fr.refl _ _⟩
    have hnc0 : n ≤ c := by omega
    cases X with
    | none => simp [Builtin.append_, run_underlying tb.und, sizeOf, typeInfo, hi, Builtin.lenOf, Builtin.firstCells, storeCells, Nat.not_lt.2 hnc0]
    | some y =>
      have hf := run_firstCells_some (P := P) w i.size 0 y 0 cx [] (by simp) (by simp)
      simp [Builtin.append_, run_underlying tb.und, sizeOf, typeInfo, hi, Builtin.lenOf, hf, storeCells, Nat.not_lt.2 hnc0]
  · obtain ⟨b, off, cap', h2, hnews⟩ : ∃ b off cap', Value.slice X m cx = .slice (some ⟨b, off, none⟩) m cap' ∧ ∀ j u, news[j]? = some u → w.cell? ⟨b, off + j, none⟩ = some u := by
      rcases hx.2 with ⟨_, _, h2⟩ | ⟨b, off, cap', h2, _, _, hc⟩
      · omega
      · exact ⟨b, off, cap', h2, hc⟩
    have hnews' : ∀ j u, news[j]? = some u → w.cell? ((⟨b, off, none⟩ : Addr).add j) = some u := fun j u hu => by rw [Addr.add_lit]; exact hnews j u hu
    rw [h2]
    subst hz1
    have hfit : n * i.size + news.length ≤ cur.toArray.size := by rw [hx.1, ← Nat.add_mul]; exact Nat.le_trans (Nat.mul_le_mul_right _ hr) (by simpa using hcs)
    have hrun := run_append_room (P := P) w t ty e i tb.und hi g n c cur.toArray hg ⟨b, off, none⟩ m cap' news hx.1 hnews' h1 hr hfit
    refine ⟨_, hrun, ?_, ⟨rfl, rfl, rfl, by simp, fun k _ hk => setRow_other w g k _ (fun e => hk e)⟩⟩
    have := setRow_heap w g cur.toArray (cur.toArray.toList.take (n * i.size) ++ news ++ cur.toArray.toList.drop (n * i.size + news.length)).toArray e (0, 0) hg
    rw [hx.1] at this ⊢
    exact this
theorem wp_apn (s x : Operand) (t : TypeId) (ho : o.op = .call { callee := .builtin .append, args := #[s, x], argTypes := #[t, t] }) {e : TypeId} {z : Value} {size bytes : Nat} (tb : Tb P t e z size bytes) {g n c : Nat} {cur : List Value} (hg : Has w g e cur) (hcs : c * size ≤ cur.length)
    {vx : Value} {m : Nat} {news : List Value} (hx : Sl w size vx m news) (hse : a.eval s = .slice (some ⟨g, 0, none⟩) n c) (hxe : a.eval x = vx) (h1 : ∀ u ∈ news, u.oneCell' = true) (hr : n + m ≤ c)
    (h : ∀ N w', N = n + m → Has w' g e (cur.take (n * size) ++ news ++ cur.drop (n * size + m * size)) → Fr (fun k => k = g) w w' → K (a.put o.dst (.slice (some ⟨g, 0, none⟩) N c)) w') : o.wp P a w K Q := by
  obtain ⟨w', hrun, h2, h3⟩ := run_apn tb o.type hg hcs hx h1 hr
  unfold Oper.wp execOp
  simp only [ho, resolve, invoke, builtin, Sem.run_bind, Sem.run_pure, Result.andThen_ok, List.map_toArray, List.map_cons, List.map_nil, hse, hxe, hrun]
  exact h _ w' rfl h2 h3
end

theorem del_room (cur xs : List Value) (i n : Nat) (hx : cur.take (n * 3) = xs) (hl : n * 3 ≤ cur.length) (hi : i < n) :
    (cur.take (i * 3) ++ xs.drop ((i + 1) * 3) ++ cur.drop (i * 3 + (n - (i + 1)) * 3)).take ((n - 1) * 3) = xs.take (i * 3) ++ xs.drop ((i + 1) * 3) := by
  subst hx
  have h1 : (cur.take (n * 3)).take (i * 3) = cur.take (i * 3) := by rw [List.take_take, Nat.min_eq_left (by omega)]
  rw [h1]
  refine List.take_left' ?_
  simp only [List.length_append, List.length_take, List.length_drop]
  omega

set_option maxRecDepth 100000 in
set_option maxHeartbeats 4000000 in
theorem deleteChange (w : World) (g m c i : Nat) (xs : List Value) (hs : Ow w 36 3 (.slice (some ⟨g, 0, none⟩) (m + 1) c) (m + 1) xs) (hi : i ≤ m) (hx1 : ∀ u ∈ xs, u.oneCell' = true) (hn : m ≤ 1000000) :
    Calls Try.prog 130 #[.slice (some ⟨g, 0, none⟩) (m + 1) c, .int .i64 i, .int .i64 ((i : Int) + 1)] w fun e w' =>
      e = .returned (.slice (some ⟨g, 0, none⟩) m c) ∧ Ow w' 36 3 (.slice (some ⟨g, 0, none⟩) m c) m (xs.take (i * 3) ++ xs.drop ((i + 1) * 3)) ∧ Fr (fun k => k = g) w w' := by
  obtain ⟨cur, hg, hcs, hnc, hcm, htk⟩ := hs.has
  have hxl := hs.1
  have hcm' := hcm
  unfold maxLen at hcm'
  have e1 : ((i : Int) == (i : Int) + 1) = false := by simp; omega
  have hni : ¬ m + 1 = i := by omega
  have hci : ¬ c = i := by omega
  have hcmm : ¬ c = m := by omega
  have hsx : Sl w 3 (.slice (some ⟨g, (i + 1) * 3, none⟩) (m - i) (c - (i + 1))) (m - i) (xs.drop ((i + 1) * 3)) := by
    have := hg.sl 3 ((i + 1) * 3) (m - i) (c - (i + 1)) (by omega) (by omega) (by omega)
    rwa [← htk, List.drop_take, show (m + 1) * 3 - (i + 1) * 3 = (m - i) * 3 by omega]
  have hfin : ∀ (w1 w2 : World) (ys : List Value), ys.length = 1 * 3 → Has w2 g 36 ((cur.take (i * 3) ++ xs.drop ((i + 1) * 3) ++ cur.drop (i * 3 + (m - i) * 3)).take (m * 3) ++ ys ++ (cur.take (i * 3) ++ xs.drop ((i + 1) * 3) ++ cur.drop (i * 3 + (m - i) * 3)).drop (m * 3 + 1 * 3)) →
      Ow w2 36 3 (.slice (some ⟨g, 0, none⟩) m c) m (xs.take (i * 3) ++ xs.drop ((i + 1) * 3)) := fun w1 w2 ys hy h => by
    have hlen : (cur.take (i * 3) ++ xs.drop ((i + 1) * 3) ++ cur.drop (i * 3 + (m - i) * 3)).length = cur.length := by
      simp only [List.length_append, List.length_take, List.length_drop]; omega
    have htl : ((cur.take (i * 3) ++ xs.drop ((i + 1) * 3) ++ cur.drop (i * 3 + (m - i) * 3)).take (m * 3)).length = m * 3 := by rw [List.length_take, hlen]; omega
    have := h.ow 3 m c (by rw [List.length_append, List.length_append, htl, List.length_drop, hlen, hy]; omega) (by omega) hcm
    rw [List.append_assoc, List.take_left' htl] at this
    have hd := del_room cur xs i (m + 1) htk (by omega) (by omega)
    rw [show m + 1 - (i + 1) = m - i by omega, show m + 1 - 1 = m by omega] at hd
    rwa [hd] at this
  have HG := Lib.hid hg; have HX1 := Lib.hid hx1; have HXL := Lib.hid hxl; have HCS := Lib.hid hcs; have HFIN := Lib.hid hfin
  have HSX := Lib.hid hsx
  clear hs hg hx1 htk hxl hcs hsx hfin
  by_cases hc1 : c = i + 1
  · obtain rfl := hc1
    obtain rfl : m = i := by omega
    go_enter Try.func130, Try.ntmps130
    go_wp2_with fail
    refine wp_region_ord (List.range 8) (fun i => [Kd.p, Kd.p, Kd.p, Kd.p, Kd.p, Kd.p, Kd.e, Kd.p].getD i .e) (by kernel_rfl) (by kernel_rfl) ?_
    iterate 6
      first | refine wpX_pu rfl rfl rfl (by first | exact pu_move rfl | exact pu_assign rfl | exact pu_nilCheck rfl rfl | exact pu_binInt rfl rfl rfl | exact pu_conv rfl rfl (by kernel_rfl) | exact pu_fld rfl (by kernel_rfl) | exact pu_ix rfl rfl rfl (by kernel_rfl) | exact pu_unOp rfl | exact pu_binStr rfl rfl rfl | exact pu_len rfl rfl | exact pu_lens rfl rfl | exact pu_pick rfl | exact pu_slice rfl rfl) (fun K hK => ?_) | refine wpX_rd rfl rfl rfl (rd_load rfl) (fun K hK => ?_) | refine wpX_gr rfl rfl rfl (by first | exact gr_buildSlice rfl | exact gr_box rfl | exact gr_alloc rfl) (fun K hK => ?_) | refine wpX_ex rfl rfl rfl (fun K hK => ?_)
      try go_wp2
    refine wpX_ex rfl rfl rfl (fun K hK => ?_)
    have hxe : xs.drop ((m + 1) * 3) = [] := by rw [List.drop_of_length_le]; rw [HXL.out]; omega
    refine wp_apn (.tmp 22) (.tmp 25) 30 rfl tbChange (n := m) (m := 0) (news := []) (HG.out.kept (Fr.drew (Fr.refl no w)) (fun h => h)) HCS.out ⟨rfl, .inl ⟨_, rfl, rfl⟩⟩ rfl rfl (fun u hu => by cases hu) (by omega) ?go1
    case go1 =>
      intro N w2 hN hg2 hf2
      obtain rfl : N = m := by omega
      have HG2 := Lib.hid hg2; have HF2 := Lib.hid hf2; have HXE := Lib.hid hxe; clear hg2 hf2 hxe hN
      go_simp
      refine hK _ _ ?_
      clear hK K
      iterate 1
        first | refine wpX_pu rfl rfl rfl (by first | exact pu_move rfl | exact pu_assign rfl | exact pu_nilCheck rfl rfl | exact pu_binInt rfl rfl rfl | exact pu_conv rfl rfl (by kernel_rfl) | exact pu_fld rfl (by kernel_rfl) | exact pu_ix rfl rfl rfl (by kernel_rfl) | exact pu_unOp rfl | exact pu_binStr rfl rfl rfl | exact pu_len rfl rfl | exact pu_lens rfl rfl | exact pu_pick rfl | exact pu_slice rfl rfl) (fun K hK => ?_) | refine wpX_rd rfl rfl rfl (rd_load rfl) (fun K hK => ?_) | refine wpX_gr rfl rfl rfl (by first | exact gr_buildSlice rfl | exact gr_box rfl | exact gr_alloc rfl) (fun K hK => ?_) | refine wpX_ex rfl rfl rfl (fun K hK => ?_)
        try go_wp2
      refine wpX_done ?_
      go_wp2_with (with_reducible refine wpList_cl rfl (.tmp 31) 30 rfl tbChange (by simp [Value.cells, Value.oneCell']) HG2.out rfl ?b2 ?g2)
      case b2 =>
        have := HCS.out; have := HXL.out; simp only [List.length_append, List.length_take, List.length_drop, List.length_nil]; omega
      case g2 =>
        intro w3 ys hy hg3 hf3
        have hf := HFIN.out w3 w3 ys hy (by rw [HXE.out, Nat.sub_self, show cur.take (N * 3) ++ [] ++ cur.drop (N * 3 + 0 * 3) = cur by simp]; simpa only [List.append_assoc, Nat.one_mul] using hg3)
        have hff : Fr (fun k => k = g) w w3 := ((Fr.refl _ w).drew.trans HF2.out (fun _ _ h => h)).trans hf3 (fun _ _ h => h)
        have HF := Lib.hid hf; have HFF := Lib.hid hff; clear hg3 hf3 hf hff
        go_wp2
        go_ret
        exact ⟨rfl, HF.out, HFF.out⟩
  · go_enter Try.func130, Try.ntmps130
    go_wp2_with fail
    refine wp_region_ord (List.range 8) (fun i => [Kd.p, Kd.p, Kd.p, Kd.p, Kd.p, Kd.p, Kd.e, Kd.p].getD i .e) (by kernel_rfl) (by kernel_rfl) ?_
    iterate 6
      first | refine wpX_pu rfl rfl rfl (by first | exact pu_move rfl | exact pu_assign rfl | exact pu_nilCheck rfl rfl | exact pu_binInt rfl rfl rfl | exact pu_conv rfl rfl (by kernel_rfl) | exact pu_fld rfl (by kernel_rfl) | exact pu_ix rfl rfl rfl (by kernel_rfl) | exact pu_unOp rfl | exact pu_binStr rfl rfl rfl | exact pu_len rfl rfl | exact pu_lens rfl rfl | exact pu_pick rfl | exact pu_slice rfl rfl) (fun K hK => ?_) | refine wpX_rd rfl rfl rfl (rd_load rfl) (fun K hK => ?_) | refine wpX_gr rfl rfl rfl (by first | exact gr_buildSlice rfl | exact gr_box rfl | exact gr_alloc rfl) (fun K hK => ?_) | refine wpX_ex rfl rfl rfl (fun K hK => ?_)
      try go_wp2
    refine wpX_ex rfl rfl rfl (fun K hK => ?_)
    have hmi : m + 1 - (i + 1) = m - i := by omega
    refine wp_apn (.tmp 22) (.tmp 25) 30 rfl tbChange (n := i) (m := m - i) (news := xs.drop ((i + 1) * 3)) (HG.out.kept (Fr.drew (Fr.refl no w)) (fun h => h)) HCS.out (HSX.out.kept0 (Fr.drew (Fr.refl no w))) rfl (by first | rfl | (simp only [hmi]; rfl) | (rw [← hmi]; rfl)) (fun u hu => HX1.out u (List.mem_of_mem_drop hu)) (by omega) ?go3
    case go3 =>
      intro N w2 hN hg2 hf2
      obtain rfl : N = m := by omega
      have HG2 := Lib.hid hg2; have HF2 := Lib.hid hf2; clear hg2 hf2 hN hmi
      go_simp
      refine hK _ _ ?_
      clear hK K
      iterate 1
        first | refine wpX_pu rfl rfl rfl (by first | exact pu_move rfl | exact pu_assign rfl | exact pu_nilCheck rfl rfl | exact pu_binInt rfl rfl rfl | exact pu_conv rfl rfl (by kernel_rfl) | exact pu_fld rfl (by kernel_rfl) | exact pu_ix rfl rfl rfl (by kernel_rfl) | exact pu_unOp rfl | exact pu_binStr rfl rfl rfl | exact pu_len rfl rfl | exact pu_lens rfl rfl | exact pu_pick rfl | exact pu_slice rfl rfl) (fun K hK => ?_) | refine wpX_rd rfl rfl rfl (rd_load rfl) (fun K hK => ?_) | refine wpX_gr rfl rfl rfl (by first | exact gr_buildSlice rfl | exact gr_box rfl | exact gr_alloc rfl) (fun K hK => ?_) | refine wpX_ex rfl rfl rfl (fun K hK => ?_)
        try go_wp2
      refine wpX_done ?_
      go_wp2_with (with_reducible refine wpList_cl rfl (.tmp 31) 30 rfl tbChange (by simp [Value.cells, Value.oneCell']) HG2.out rfl ?b4 ?g4)
      case b4 =>
        have := HCS.out; have := HXL.out; simp only [List.length_append, List.length_take, List.length_drop]; omega
      case g4 =>
        intro w3 ys hy hg3 hf3
        have hf := HFIN.out w3 w3 ys hy (by simpa only [List.append_assoc, Nat.one_mul] using hg3)
        have hff : Fr (fun k => k = g) w w3 := ((Fr.refl _ w).drew.trans HF2.out (fun _ _ h => h)).trans hf3 (fun _ _ h => h)
        have HF := Lib.hid hf; have HFF := Lib.hid hff; clear hg3 hf3 hf hff
        go_wp2
        go_ret
        exact ⟨rfl, HF.out, HFF.out⟩
end Go.Proofs.Ytdnohhlgaaihmaa

/- package buffer: what undoes a change. -/
namespace Go.Proofs.Ytdnohhlgaaihmaa
open Go.RowKit

/-- The buffer while it goes back: its undo list still has all of us0; us is what is left to undo. -/
structure Bb (w : World) (p : Nat) (lv : Value) (l : List SpV) (uv : Value) (us0 us : List Und) : Prop where
  at_ : w.heap[p]? = some (.cells #[lv, uv] 112 (0, 0))
  row : Ow w 36 3 lv l.length (l.flatMap SpV.cells)
  good : ∀ x ∈ l, x.Good w
  undo : Ow w 1 1 uv us0.length (us0.reverse.map Und.val)
  uok : ∀ u ∈ us, u.Ok w p
  ris : Ris l
  hist : Hist us l
  nl : lv.ownBlock ≠ some p
  nu : uv.ownBlock ≠ some p
  lu : ∀ k, lv.ownBlock = some k → uv.ownBlock ≠ some k
  apart : ∀ k, ((∃ x ∈ l, BlC x k) ∨ ∃ u ∈ us, u.blk k) → k ≠ p ∧ lv.ownBlock ≠ some k ∧ uv.ownBlock ≠ some k ∧ k < w.heap.size

theorem Bf.bb {w : World} {p : Nat} {lv uv : Value} {l : List SpV} {us : List Und} (h : Bf w p lv l uv us) : Bb w p lv l uv us us :=
  ⟨h.at_, h.row, h.good, h.undo, h.uok, h.ris, h.hist, h.nl, h.nu, h.lu, h.apart⟩
theorem Bb.bf {w : World} {p : Nat} {lv uv : Value} {l : List SpV} {us : List Und} (h : Bb w p lv l uv us us) : Bf w p lv l uv us :=
  ⟨h.at_, h.row, h.good, h.undo, h.uok, h.ris, h.hist, h.nl, h.nu, h.lu, h.apart⟩
theorem Bb.kept0 {w w1 : World} {p : Nat} {lv uv : Value} {l : List SpV} {us0 us : List Und} (h : Bb w p lv l uv us0 us) (f : Fr no w w1) : Bb w1 p lv l uv us0 us :=
  ⟨f.heap h.at_ (fun h => h), h.row.kept0 f, fun x hx => (h.good x hx).kept0 f, h.undo.kept0 f, fun u hu => (h.uok u hu).kept f (fun _ _ h => h), h.ris, h.hist, h.nl, h.nu, h.lu, fun k hk => ⟨(h.apart k hk).1, (h.apart k hk).2.1, (h.apart k hk).2.2.1, Nat.lt_of_lt_of_le (h.apart k hk).2.2.2 f.size⟩⟩

/-- One is undone: the row of the changes alone is written, in its block; and the buffer's first cell. -/
theorem Bb.step {w w1 : World} {p : Nat} {lv lv1 uv : Value} {l l1 : List SpV} {us0 us : List Und} {u : Und} (h : Bb w p lv l uv us0 (u :: us)) (hl1 : l1 = u.back l) (hsub : ∀ x ∈ l1, x ∈ l ∨ ∀ k, BlC x k → u.blk k) (hg1 : ∀ x ∈ l1, x ∈ l ∨ x.Good w)
    (f : Fr (fun k => k = p ∨ lv.ownBlock = some k) w w1) (ha : w1.heap[p]? = some (.cells #[lv1, uv] 112 (0, 0))) (hr : Ow w1 36 3 lv1 l1.length (l1.flatMap SpV.cells)) (hb : lv1.ownBlock = lv.ownBlock) : Bb w1 p lv1 l1 uv us0 us := by
  have hap : ∀ k, ((∃ x ∈ l1, BlC x k) ∨ ∃ v ∈ us, v.blk k) → k ≠ p ∧ lv.ownBlock ≠ some k ∧ uv.ownBlock ≠ some k ∧ k < w.heap.size := fun k hk => by
    refine h.apart k ?_
    rcases hk with ⟨x, hx, hk⟩ | ⟨v, hv, hk⟩
    · rcases hsub x hx with h2 | h2
      · exact .inl ⟨x, h2, hk⟩
      · exact .inr ⟨u, List.mem_cons_self .., h2 k hk⟩
    · exact .inr ⟨v, List.mem_cons_of_mem _ hv, hk⟩
  have hn : ∀ k, ((∃ x ∈ l1, BlC x k) ∨ ∃ v ∈ us, v.blk k) → ¬ (k = p ∨ lv.ownBlock = some k) := fun k hk e => by
    have := hap k hk
    rcases e with e | e
    · exact this.1 e
    · exact this.2.1 e
  refine ⟨ha, hr, fun x hx => ?_, h.undo.kept f (fun k hk e => ?_), fun v hv => (h.uok v (List.mem_cons_of_mem _ hv)).kept f (fun k hk => hn k (.inr ⟨v, hv, hk⟩)), ?_, ?_, by rw [hb]; exact h.nl, h.nu, fun k hk => h.lu k (by rw [← hb]; exact hk), fun k hk => ?_⟩
  · have hgx : x.Good w := by rcases hg1 x hx with h2 | h2; exact h.good x h2; exact h2
    exact ⟨hgx.F.kept f (fun k hk => hn k (.inl ⟨x, hx, .inl hk⟩)), hgx.T.kept f (fun k hk => hn k (.inl ⟨x, hx, .inr hk⟩)), hgx.lf, hgx.lt⟩
  · rcases e with e | e
    · exact h.nu (by rw [← e]; exact hk)
    · exact h.lu k e hk
  · rw [hl1]; exact h.hist.2.1
  · rw [hl1]; exact h.hist.2.2
  · have := hap k hk
    exact ⟨this.1, by rw [hb]; exact this.2.1, this.2.2.1, Nat.lt_of_lt_of_le this.2.2.2 f.size⟩

/-- What undoing one leaves. -/
def Undone (w w' : World) (p : Nat) (lv : Value) (l : List SpV) (uv : Value) (us0 us : List Und) (u : Und) (e : Ending) : Prop :=
  e = .returned (.tuple #[]) ∧ ∃ lv1 : Value, lv1.ownBlock = lv.ownBlock ∧ Bb w' p lv1 (u.back l) uv us0 us ∧ Fr (fun k => k = p ∨ lv.ownBlock = some k) w w'

set_option maxRecDepth 100000 in
set_option maxHeartbeats 4000000 in
theorem undo_set (w : World) (p : Nat) (lv uv : Value) (l : List SpV) (us0 us : List Und) (bw bx bi i : Nat) (was : SpV) (hb : Bb w p lv l uv us0 (.set bw bx bi i was :: us)) :
    Calls Try.prog 127 #[.pointer (some ⟨bw, 0, none⟩), .pointer (some ⟨bx, 0, none⟩), .pointer (some ⟨bi, 0, none⟩)] w fun e w' => Undone w w' p lv l uv us0 us (.set bw bx bi i was) e := by
  obtain ⟨u1, u2, u3, u4⟩ := hb.uok _ (List.mem_cons_self ..)
  have hil : i < l.length := hb.hist.1
  obtain ⟨A, c, rfl, hnc, hcm⟩ := hb.row.sl.form
  have hsl := hb.row.sl
  obtain ⟨g, og, rfl, q0, q1, q2⟩ := Spans.at hsl i hil
  obtain ⟨rfl, cur, hcur, _⟩ := ow_at hb.row
  obtain ⟨WF, wf, hWF, _, _⟩ := u4.F.form
  obtain ⟨WT, wt, hWT, _, _⟩ := u4.T.form
  rw [hWF, hWT] at u1
  obtain ⟨a0, a1, a2, _, _⟩ := three_cells u1
  obtain ⟨d0, _, _⟩ := one_cell u2
  obtain ⟨i0, _, _⟩ := one_cell u3
  obtain ⟨b0, b1, bz, blt⟩ := two_cells hb.at_
  have hgz : ∀ j, w.frozen? ⟨g, j, none⟩ = false := fun j => by simp [World.frozen?, hcur]
  have hgl := World.block_lt_of_cell? w _ q0
  simp only [Nat.zero_add] at q0 q1 q2
  obtain ⟨hrow, hfr⟩ := ow_set3 was hb.row hil rfl
  have hgp : ¬ p = g := fun e => hb.nl (by rw [e]; rfl)
  have hp := hfr.heap hb.at_ hgp
  have hst := Bb.step (l1 := l.set i was) hb rfl (fun x hx => by
    rcases List.mem_or_eq_of_mem_set hx with h | rfl
    · exact .inl h
    · exact .inr fun k hk => .inr (.inr (.inr hk))) (fun x hx => by
    rcases List.mem_or_eq_of_mem_set hx with h | rfl
    · exact .inl h
    · exact .inr u4) (hfr.mono (fun k _ e => .inr (by rw [e]; rfl))) hp (by rw [List.length_set]; exact hrow) rfl
  have hff : Fr (fun k => k = p ∨ (Value.slice (some ⟨g, 0, none⟩) l.length c).ownBlock = some k) w (((w.setCell ⟨g, i * 3, none⟩ was.F).setCell ⟨g, i * 3 + 1, none⟩ was.T).setCell ⟨g, i * 3 + 2, none⟩ (.bool was.o)) := hfr.mono (fun k _ e => .inr (by rw [e]; rfl))
  rw [hWF, hWT] at hst hff
  have HST := Lib.hid hst; have HFF := Lib.hid hff
  clear hst hff hrow hfr hp u1 u2 u3 u4 hcur hsl hWF hWT hb
  go_enter Try.func127, Try.ntmps127
  refine wp_region_ord (List.range 8) (fun i => [Kd.l, Kd.p, Kd.p, Kd.l, Kd.l, Kd.l, Kd.p, Kd.e].getD i .e) (by kernel_rfl) (by kernel_rfl) ?_
  iterate 8
    first | refine wpX_pu rfl rfl rfl (by first | exact pu_move rfl | exact pu_assign rfl | exact pu_nilCheck rfl rfl | exact pu_binInt rfl rfl rfl | exact pu_conv rfl rfl (by kernel_rfl) | exact pu_fld rfl (by kernel_rfl) | exact pu_ix rfl rfl rfl (by kernel_rfl) | exact pu_unOp rfl | exact pu_binStr rfl rfl rfl | exact pu_len rfl rfl | exact pu_lens rfl rfl | exact pu_pick rfl | exact pu_slice rfl rfl) (fun K hK => ?_) | refine wpX_rd rfl rfl rfl (rd_load rfl) (fun K hK => ?_) | refine wpX_gr rfl rfl rfl (by first | exact gr_buildSlice rfl | exact gr_box rfl | exact gr_alloc rfl) (fun K hK => ?_) | refine wpX_ex rfl rfl rfl (fun K hK => ?_)
    try go_wp2
  refine wpX_done ?_
  exact bodyPost_end (results_none rfl _ _ _) rfl ⟨rfl, _, rfl, HST.out.kept0 (Fr.drew (Fr.refl no _)), Fr.drew HFF.out⟩

set_option maxRecDepth 100000 in
set_option maxHeartbeats 4000000 in
theorem undo_ins (w : World) (p : Nat) (lv uv : Value) (l : List SpV) (us0 us : List Und) (bx bi i : Nat) (hb : Bb w p lv l uv us0 (.ins bx bi i :: us)) (hl : l.length ≤ 100000) :
    Calls Try.prog 129 #[.pointer (some ⟨bx, 0, none⟩), .pointer (some ⟨bi, 0, none⟩)] w fun e w' => Undone w w' p lv l uv us0 us (.ins bx bi i) e := by
  obtain ⟨u1, u2⟩ := hb.uok _ (List.mem_cons_self ..)
  have hil : i < l.length := hb.hist.1
  obtain ⟨A, c, hlv, hnc, hcm⟩ := hb.row.sl.form
  obtain ⟨m, hm⟩ : ∃ m, l.length = m + 1 := ⟨l.length - 1, by omega⟩
  rw [hm] at hlv hnc
  subst hlv
  have hrow := hb.row
  rw [hm] at hrow
  obtain ⟨g, og, rfl, q0, -, -⟩ := Spans.at (show Sl w 3 (.slice A (m + 1) c) l.length (l.flatMap SpV.cells) from by rw [hm]; exact hrow.sl) i hil
  obtain ⟨rfl, cur, hcur, _⟩ := ow_at hrow
  have hgl : g < w.heap.size := (Array.getElem?_eq_some_iff.1 hcur).1
  have hgp : ¬ p = g := fun e => hb.nl (by rw [e]; rfl)
  have hxg : ¬ bx = g := fun e => (hb.apart bx (.inr ⟨_, List.mem_cons_self .., .inl rfl⟩)).2.1 (by rw [e]; rfl)
  have hxp : ¬ bx = p := fun e => (hb.apart bx (.inr ⟨_, List.mem_cons_self .., .inl rfl⟩)).1 e
  have hx1 : ∀ u ∈ l.flatMap SpV.cells, u.oneCell' = true := fun u hu => by
    obtain ⟨x, hx, hu⟩ := List.mem_flatMap.1 hu
    obtain ⟨A1, c1, h1, _, _⟩ := (hb.good x hx).F.form
    obtain ⟨A2, c2, h2, _, _⟩ := (hb.good x hx).T.form
    simp only [SpV.cells, h1, h2, List.mem_cons, List.not_mem_nil, or_false] at hu
    rcases hu with rfl | rfl | rfl <;> rfl
  have HB := Lib.hid hb; have ROW := Lib.hid hrow; have HX1 := Lib.hid hx1; have U1 := Lib.hid u1; have U2 := Lib.hid u2; have HM := Lib.hid hm
  clear hb hrow hx1 u1 u2 hcur q0
  have him : i ≤ m := by omega
  have hml : m ≤ 100000 := by omega
  clear hil hm hl
  go_enter Try.func129, Try.ntmps129
  refine wp_region_inv (fun w' => w'.cell? ⟨bx, 0, none⟩ = some (.pointer (some ⟨p, 0, none⟩))) [0, 1, 2, 3, 4, 5, 6, 7, 8, 9, 10, 11] (fun i => [Kd.m, Kd.l, Kd.p, Kd.p, Kd.l, Kd.l, Kd.l, Kd.p, Kd.e, Kd.p, Kd.p, Kd.e].getD i .e) (by kernel_rfl) (by kernel_rfl) ?_ ?_
  · exact (Fr.drew (Fr.refl no w)).cell (one_cell U1.out).1 (fun h => h)
  have hD := Lib.hid (Fr.drew (Fr.refl no w))
  refine wpX_md (.pointer (some ⟨p, 0, none⟩)) rfl rfl rfl (rd_load rfl) rfl (by simp) (fun w' hI => ?_) ?_
  · go_wp2
  go_simp
  have d0 := (one_cell (hD.out.heap U1.out (fun h => h))).1
  have i0 := (one_cell (hD.out.heap U2.out (fun h => h))).1
  obtain ⟨b0, b1, bz, blt⟩ := two_cells (hD.out.heap HB.out.at_ (fun h => h))
  iterate 7
    first | refine wpX_pu rfl rfl rfl (by first | exact pu_move rfl | exact pu_assign rfl | exact pu_nilCheck rfl rfl | exact pu_binInt rfl rfl rfl | exact pu_conv rfl rfl (by kernel_rfl) | exact pu_fld rfl (by kernel_rfl) | exact pu_ix rfl rfl rfl (by kernel_rfl) | exact pu_unOp rfl | exact pu_binStr rfl rfl rfl | exact pu_len rfl rfl | exact pu_lens rfl rfl | exact pu_pick rfl | exact pu_slice rfl rfl) (fun K hK => ?_) | refine wpX_rd rfl rfl rfl (rd_load rfl) (fun K hK => ?_) | refine wpX_gr rfl rfl rfl (by first | exact gr_buildSlice rfl | exact gr_box rfl | exact gr_alloc rfl) (fun K hK => ?_) | refine wpX_ex rfl rfl rfl (fun K hK => ?_)
    try go_wp2
  refine wpX_es rfl rfl rfl (fun K hK => ?_)
  go_wp2_with fail
  refine (deleteChange _ g m c i (l.flatMap SpV.cells) (ROW.out.kept0 (Fr.drew (Fr.refl no w))) him HX1.out (by omega)).mono ?_
  rintro e w2 ⟨rfl, ho, hf⟩
  have hf2 : Fr (fun k => k = g) w w2 := hD.out.mono (fun _ _ h => h.elim) |>.trans hf (fun _ _ h => h)
  have HO := Lib.hid ho; have F2 := Lib.hid hf2; clear ho hf hf2 d0 i0 b0 b1 bz blt
  have x2 := (one_cell (F2.out.heap U1.out hxg)).1
  obtain ⟨b0, b1, bz, blt⟩ := two_cells (F2.out.heap HB.out.at_ hgp)
  have X2 := Lib.hid x2; clear x2
  go_wp2_with fail
  refine hK _ _ X2.out ?_
  clear hK K
  iterate 2
    first | refine wpX_pu rfl rfl rfl (by first | exact pu_move rfl | exact pu_assign rfl | exact pu_nilCheck rfl rfl | exact pu_binInt rfl rfl rfl | exact pu_conv rfl rfl (by kernel_rfl) | exact pu_fld rfl (by kernel_rfl) | exact pu_ix rfl rfl rfl (by kernel_rfl) | exact pu_unOp rfl | exact pu_binStr rfl rfl rfl | exact pu_len rfl rfl | exact pu_lens rfl rfl | exact pu_pick rfl | exact pu_slice rfl rfl) (fun K hK => ?_) | refine wpX_rd rfl rfl rfl (rd_load rfl) (fun K hK => ?_) | refine wpX_gr rfl rfl rfl (by first | exact gr_buildSlice rfl | exact gr_box rfl | exact gr_alloc rfl) (fun K hK => ?_) | refine wpX_ex rfl rfl rfl (fun K hK => ?_)
    try go_wp2
  refine wpX_es rfl rfl rfl (fun K hK => ?_)
  go_wp2
  have hpa := hp_same (F2.out.heap HB.out.at_ hgp) 0 (.slice (some ⟨g, 0, none⟩) m c)
  have hfa : Fr (fun k => k = p) w2 (w2.setCell ⟨p, 0, none⟩ (.slice (some ⟨g, 0, none⟩) m c)) := Fr.setCell (Fr.refl (fun k => k = p) w2) ⟨p, 0, none⟩ _ (fun _ => rfl)
  have hxa := hfa.cell X2.out hxp
  refine hK _ _ hxa ?_
  clear hK K b0 b1 bz blt
  refine wpX_done ?_
  have hl := HM.out
  have hel : (l.eraseIdx i).length = m := by rw [List.length_eraseIdx]; split <;> omega
  have hro : Ow (w2.setCell ⟨p, 0, none⟩ (.slice (some ⟨g, 0, none⟩) m c)) 36 3 (.slice (some ⟨g, 0, none⟩) m c) (l.eraseIdx i).length ((l.eraseIdx i).flatMap SpV.cells) := by
    have h1 := HO.out.kept hfa (fun k hk e => hgp (((by simpa [Value.ownBlock] using hk : g = k).trans e).symm))
    rw [hel, List.eraseIdx_eq_take_drop_succ, List.flatMap_append, ← flat_take3, ← flat_drop3]
    exact h1
  have hff : Fr (fun k => k = p ∨ (Value.slice (some ⟨g, 0, none⟩) (m + 1) c).ownBlock = some k) w (w2.setCell ⟨p, 0, none⟩ (.slice (some ⟨g, 0, none⟩) m c)) := (F2.out.mono (fun k _ e => .inr (by rw [e]; rfl))).trans hfa (fun k _ e => .inl e)
  have hst := Bb.step (l1 := l.eraseIdx i) (lv1 := .slice (some ⟨g, 0, none⟩) m c) HB.out rfl (fun x hx => .inl (List.mem_of_mem_eraseIdx hx)) (fun x hx => .inl (List.mem_of_mem_eraseIdx hx)) hff hpa hro rfl
  exact bodyPost_end (results_none rfl _ _ _) rfl ⟨rfl, .slice (some ⟨g, 0, none⟩) m c, rfl, hst, hff⟩

/-- What undoes a change, called. -/
theorem undo_any (w : World) (p : Nat) (lv uv : Value) (l : List SpV) (us0 us : List Und) (u : Und) (hb : Bb w p lv l uv us0 (u :: us)) (hl : l.length ≤ 100000) :
    ∃ f lb, u.val = .func (.func f) #[] lb ∧ (f = 127 ∨ f = 129) ∧ Calls Try.prog f lb w fun e w' => Undone w w' p lv l uv us0 us u e := by
  cases u with
  | set bw bx bi i was => exact ⟨_, _, rfl, .inl rfl, undo_set w p lv uv l us0 us bw bx bi i was hb⟩
  | ins bx bi i => exact ⟨_, _, rfl, .inr rfl, undo_ins w p lv uv l us0 us bx bi i hb hl⟩
end Go.Proofs.Ytdnohhlgaaihmaa
