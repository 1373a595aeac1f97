import Derived.Test.YtgcicljklejmjaaDoorMb02
import Derived.WalkSpells
import Derived.Lib.Bytealg

/- append onto a row of one's own ('Ow'), with room or without: what the elder slice shows stays. General. -/
namespace Go
open Go.RowKit

/-- In the elder place, or in a new block. -/
def Stays (w w' : World) (v v' : Value) (n N : Nat) : Prop := (∃ A c, v = .slice A n c ∧ v' = .slice A N c) ∨ ∀ k, v'.ownBlock = some k → w.heap.size ≤ k ∧ k < w'.heap.size

section
variable {P : Program} {w : World} {o : Oper} {a : Act} {K : Act → World → Prop} {Q : Exit → Act → World → Prop}

theorem run_apo {t e : TypeId} {z : Value} {size bytes : Nat} (tb : Tb P t e z size bytes) (ty : TypeId) {v : Value} {n : Nat} {xs : List Value} (hs : Ow w e size v n xs)
    {x : Value} {m : Nat} {news : List Value} (hx : Sl w size x m news) (h1 : ∀ u ∈ news, u.oneCell' = true) (h63 : n + m ≤ maxLen) (hb : (n + m) * bytes ≤ 140737488355328) :
    ∃ A c w', (Builtin.append_ #[t, t] ty #[v, x]).run P w = .ok (.slice A (n + m) c) w' ∧ Ow w' e size (.slice A (n + m) c) (n + m) (xs ++ news) ∧ Ow w' e size v n xs ∧ Fr (fun k => v.ownBlock = some k) w w' ∧ Stays w w' v (.slice A (n + m) c) n (n + m) := by
  obtain ⟨i, hi, hz0, hz1, hz2⟩ := info_parts tb.info
  obtain ⟨X, cx, rfl, hcx1, hcx2⟩ := hx.form
  have hsmall : n + m ≤ 9223372036854775807 := by simp only [maxLen] at h63; omega
  have hlen : (xs ++ news).length = (n + m) * size := by rw [List.length_append, hs.1, hx.1, Nat.add_mul]
  obtain ⟨A, c, hv, hnc0⟩ : ∃ A c, v = .slice A n c ∧ n ≤ c := by
    rcases hs.2 with ⟨rfl, rfl⟩ | ⟨g, cap, cur, rfl, _, h, _⟩
    · exact ⟨_, _, rfl, Nat.le_refl _⟩
    · exact ⟨_, _, rfl, h⟩
  subst hv
  by_cases hm : m = 0
  · subst hm
    have hn : news = [] := List.eq_nil_of_length_eq_zero (by simpa using hx.1)
    subst hn
    refine ⟨A, c, w, ?_, by simpa using hs, hs, Fr.refl _ _, .inl ⟨A, c, rfl, rfl⟩⟩
    cases X with
    | none => cases A <;> simp [Builtin.append_, run_underlying tb.und, sizeOf, typeInfo, hi, Builtin.lenOf, Builtin.firstCells, storeCells, Nat.not_lt.2 hnc0]
    | some y =>
      have hf := run_firstCells_some (P := P) w i.size 0 y 0 cx [] (by simp) (by simp)
      cases A <;> simp [Builtin.append_, run_underlying tb.und, sizeOf, typeInfo, hi, Builtin.lenOf, hf, storeCells, Nat.not_lt.2 hnc0]
  · obtain ⟨b, off, cap', h2, hnews⟩ : ∃ b off cap', Value.slice X m cx = .slice (some ⟨b, off, none⟩) m cap' ∧ ∀ j u, news[j]? = some u → w.cell? ⟨b, off + j, none⟩ = some u := by
      rcases hx.2 with ⟨_, _, h2⟩ | ⟨b, off, cap', h2, _, _, hc⟩
      · omega
      · exact ⟨b, off, cap', h2, hc⟩
    have hnews' : ∀ j u, news[j]? = some u → w.cell? ((⟨b, off, none⟩ : Addr).add j) = some u := fun j u hu => by rw [Addr.add_lit]; exact hnews j u hu
    rw [h2]
    have grown : ∀ old, old < n + m → Ow (w.drew.alloc (.cells (xs.toArray ++ news.toArray ++ Builtin.zeroCells z.cells (grownCap w (n + m) old e - (n + m))) e)) e size
        (.slice (some ⟨w.heap.size, 0, none⟩) (n + m) (grownCap w (n + m) old e)) (n + m) (xs ++ news) := by
      intro old ho
      have hge := grownCap_ge w (n + m) old e
      refine ⟨hlen, .inr ⟨w.heap.size, _, _, rfl, heap_alloc_new w.drew _, hge, grownCap_le_maxLen w (n + m) old e h63, ?_, ?_⟩⟩
      · simp only [Array.size_append, List.size_toArray, size_zeroCells, tb.zs, hs.1, hx.1, ← Nat.add_mul]
        apply Nat.le_of_eq
        congr 1
        omega
      · simp only [Array.toList_append, List.append_assoc]
        rw [← List.append_assoc, ← hlen]
        exact List.take_left
    have frg : ∀ o, Fr no w (w.drew.alloc o) := fun o => Fr.alloc (Fr.drew (Fr.refl _ _)) o
    rcases hs.2 with ⟨h3, h4⟩ | ⟨g, cap, cur, h3, hg, hnc, hcm, hcs, htake⟩
    · cases h3
      have hx0 : xs = [] := List.eq_nil_of_length_eq_zero (by simpa using hs.1)
      subst hx0
      have hr := run_append_nil (P := P) w t ty e i z tb.und hi hz0 ⟨b, off, none⟩ m cap' news (by rw [hz1]; exact hx.1) hnews' (by omega) (by omega) (by simp only [Nat.zero_add] at hb; rw [hz2]; omega)
      have hgr := grown 0 (by omega)
      simp only [Nat.zero_add, List.nil_append, Array.empty_append] at hgr ⊢
      exact ⟨_, _, _, hr, hgr, ⟨by simp, .inl ⟨rfl, rfl⟩⟩, (frg _).mono (fun _ _ h => h.elim), .inr fun k hk => by
        have hk' : w.heap.size = k := by simpa [Value.ownBlock] using hk
        subst hk'
        exact ⟨Nat.le_refl _, by simp⟩⟩
    · cases h3
      by_cases hroom : n + m ≤ c
      · subst hz1
        have hfit : n * i.size + news.length ≤ cur.size := by rw [hx.1, ← Nat.add_mul]; exact Nat.le_trans (Nat.mul_le_mul_right _ hroom) hcs
        have hrun := run_append_room (P := P) w t ty e i tb.und hi g n c cur hg ⟨b, off, none⟩ m cap' news hx.1 hnews' h1 hroom hfit
        refine ⟨_, _, _, hrun, ⟨hlen, .inr ⟨g, c, _, rfl, setRow_heap w g cur _ e _ hg, hroom, hcm, ?_, ?_⟩⟩, ⟨hs.1, .inr ⟨g, c, _, rfl, setRow_heap w g cur _ e _ hg, hnc, hcm, ?_, ?_⟩⟩, ⟨rfl, rfl, rfl, by simp, fun k _ hk => setRow_other w g k _ (fun e => hk (by rw [e]; rfl))⟩, .inl ⟨_, _, rfl, rfl⟩⟩
        · simp only [List.size_toArray, List.length_append, List.length_take, List.length_drop, Array.length_toList]; omega
        · rw [htake, ← hlen]; exact List.take_left
        · simp only [List.size_toArray, List.length_append, List.length_take, List.length_drop, Array.length_toList]; omega
        · rw [htake, List.append_assoc, ← hs.1]; exact List.take_left
      · have holds : ∀ j u, xs[j]? = some u → w.cell? ((⟨g, 0, none⟩ : Addr).add j) = some u := by
          intro j u hu
          rw [Addr.add_lit, Nat.zero_add, cell_of_row w g j cur e (0, 0) hg]
          rw [← htake, List.getElem?_take] at hu
          split at hu
          · simpa using hu
          · cases hu
        have hr := run_append_grow (P := P) w t ty e i z tb.und hi hz0 ⟨g, 0, none⟩ n c xs (by rw [hz1]; exact hs.1) holds ⟨b, off, none⟩ m cap' news (by rw [hz1]; exact hx.1) hnews' (by omega) (by omega) (growslice_fits (by omega) (by rw [hz2]; exact hb))
        exact ⟨_, _, _, hr, grown c (by omega), hs.kept (frg _) (fun _ _ h => h.elim), (frg _).mono (fun _ _ h => h.elim), .inr fun k hk => by
          have hk' : w.heap.size = k := by simpa [Value.ownBlock] using hk
          subst hk'
          exact ⟨Nat.le_refl _, by simp⟩⟩

theorem wp_apo (s x : Operand) (t : TypeId) (ho : o.op = .call { callee := .builtin .append, args := #[s, x], argTypes := #[t, t] })
    {e : TypeId} {z : Value} {size bytes : Nat} (tb : Tb P t e z size bytes) {v : Value} {n : Nat} {xs : List Value} (hs : Ow w e size v n xs)
    {vx : Value} {m : Nat} {news : List Value} (hx : Sl w size vx m news) (hse : a.eval s = v) (hxe : a.eval x = vx) (h1 : ∀ u ∈ news, u.oneCell' = true) (h63 : n + m ≤ maxLen) (hb : (n + m) * bytes ≤ 140737488355328)
    (h : ∀ A N c w', N = n + m → Ow w' e size (.slice A N c) N (xs ++ news) → Ow w' e size v n xs → Fr (fun k => v.ownBlock = some k) w w' → Stays w w' v (.slice A N c) n N → K (a.put o.dst (.slice A N c)) w') : o.wp P a w K Q := by
  obtain ⟨A, c, w', hr, h2, h3, h4, h5⟩ := run_apo (P := P) tb o.type hs hx h1 h63 hb
  unfold Oper.wp execOp
  simp only [ho, resolve, invoke, builtin, Sem.run_bind, Sem.run_pure, Result.andThen_ok, List.map_toArray, List.map_cons, List.map_nil, hse, hxe, hr]
  exact h A _ c w' rfl h2 h3 h4 h5
variable {ops : Array Oper} {rest : List Oper}
theorem wpList_apo (hgd : o.guard = none) (s x : Operand) (t : TypeId) (ho : o.op = .call { callee := .builtin .append, args := #[s, x], argTypes := #[t, t] })
    {e : TypeId} {z : Value} {size bytes : Nat} (tb : Tb P t e z size bytes) {v : Value} {n : Nat} {xs : List Value} (hs : Ow w e size v n xs)
    {vx : Value} {m : Nat} {news : List Value} (hx : Sl w size vx m news) (hse : a.eval s = v) (hxe : a.eval x = vx) (h1 : ∀ u ∈ news, u.oneCell' = true) (h63 : n + m ≤ maxLen) (hb : (n + m) * bytes ≤ 140737488355328)
    (h : ∀ A N c w', N = n + m → Ow w' e size (.slice A N c) N (xs ++ news) → Ow w' e size v n xs → Fr (fun k => v.ownBlock = some k) w w' → Stays w w' v (.slice A N c) n N → wpList P ops Q rest (a.put o.dst (.slice A N c)) w') : wpList P ops Q (o :: rest) a w :=
  wpList_plain hgd fun _ hK => wp_apo s x t ho tb hs hx hse hxe h1 h63 hb fun A' N c w' h2 h3 h4 h5 h6 => hK _ _ (h A' N c w' h2 h3 h4 h5 h6)
end
end Go

/- Rws of one kind, each of its own. General. -/
namespace Go
open Go.RowKit

namespace Ow
variable {w w1 : World} {e sz n : Nat} {v : Value} {xs : List Value} {S : Nat → Prop}
theorem form (h : Ow w e sz v n xs) : ∃ A c, v = .slice A n c ∧ n ≤ c ∧ c ≤ maxLen := h.sl.form
theorem head {A : Option Addr} {c : Nat} (h : Ow w e sz (.slice A n c) n xs) (m : Nat) (hm : m ≤ n) : Ow w e sz (.slice A m c) m (xs.take (m * sz)) := by
  have hl := h.1
  have hmul : m * sz ≤ n * sz := Nat.mul_le_mul_right _ hm
  refine ⟨by rw [List.length_take]; omega, ?_⟩
  rcases h.2 with ⟨h1, h2⟩ | ⟨g, cap, cur, h1, hg, h2, h3, h4, h5⟩
  · cases h1
    obtain rfl : m = 0 := by omega
    exact .inl ⟨rfl, rfl⟩
  · cases h1
    exact .inr ⟨g, c, cur, rfl, hg, by omega, h3, h4, by rw [← h5, List.take_take, Nat.min_eq_left hmul]⟩
/-- The cells of element k. -/
theorem cells (h : Ow w e sz v n xs) (k : Nat) (hk : k < n) : ∃ g c, v = .slice (some ⟨g, 0, none⟩) n c ∧ n ≤ c ∧ c ≤ maxLen ∧ g < w.heap.size ∧ (∀ o, w.frozen? ⟨g, o, none⟩ = false) ∧
    (∀ (j : Nat) u, xs[j]? = some u → w.cell? ⟨g, j, none⟩ = some u) := by
  rcases h.2 with ⟨h1, h2⟩ | ⟨g, cap, cur, h1, hg, h2, h3, h4, h5⟩
  · omega
  · refine ⟨g, cap, h1, h2, h3, (Array.getElem?_eq_some_iff.1 hg).1, fun o => by simp [World.frozen?, hg], fun j u hu => ?_⟩
    rw [cell_of_row w g j cur e (0, 0) hg]
    rw [← h5, List.getElem?_take] at hu
    split at hu
    · simpa using hu
    · cases hu
/-- One cell of it written. -/
theorem set {g c j : Nat} (h : Ow w e sz (.slice (some ⟨g, 0, none⟩) n c) n xs) (_hj : j < xs.length) (u : Value) : Ow (w.setCell ⟨g, j, none⟩ u) e sz (.slice (some ⟨g, 0, none⟩) n c) n (xs.set j u) := by
  refine ⟨by rw [List.length_set]; exact h.1, ?_⟩
  rcases h.2 with ⟨h1, h2⟩ | ⟨g', cap, cur, h1, hg, h2, h3, h4, h5⟩
  · cases h1
  · cases h1
    refine .inr ⟨g, c, cur.setIfInBounds j u, rfl, hp_same hg j u, h2, h3, by simpa using h4, ?_⟩
    rw [Array.toList_setIfInBounds, List.take_set, h5]
end Ow

/-- The rows vs: the j-th has C j, in a block of its own. -/
structure Rws (w : World) (e : TypeId) (sz : Nat) (vs : List Value) (ns : Nat → Nat) (C : Nat → List Value) : Prop where
  row : ∀ j (h : j < vs.length), Ow w e sz vs[j] (ns j) (C j)
  apart : ∀ i j (hi : i < vs.length) (hj : j < vs.length) b, i ≠ j → vs[i].ownBlock = some b → vs[j].ownBlock ≠ some b

def InRows (vs : List Value) : Nat → Prop := fun b => ∃ v ∈ vs, v.ownBlock = some b

namespace Rws
variable {w w1 : World} {e sz : Nat} {vs : List Value} {ns : Nat → Nat} {C : Nat → List Value} {S : Nat → Prop}
theorem kept (h : Rws w e sz vs ns C) (f : Fr S w w1) (hn : ∀ b, InRows vs b → ¬ S b) : Rws w1 e sz vs ns C :=
  ⟨fun j hj => (h.row j hj).kept f (fun k hk => hn k ⟨_, List.getElem_mem hj, hk⟩), h.apart⟩
/-- One row turned. -/
theorem one (h : Rws w e sz vs ns C) (i : Nat) (hi : i < vs.length) (f : Fr (fun b => vs[i].ownBlock = some b) w w1) (c : List Value) (hr : Ow w1 e sz vs[i] (ns i) c) : Rws w1 e sz vs ns (fun j => if j = i then c else C j) := by
  refine ⟨fun j hj => ?_, h.apart⟩
  by_cases hji : j = i
  · subst hji; simpa using hr
  · simp only [hji, if_false]
    exact (h.row j hj).kept f (fun k hk => fun hk2 => h.apart i j hi hj k (fun e => hji e.symm) hk2 hk)
theorem congr {C' : Nat → List Value} (h : Rws w e sz vs ns C) (hc : ∀ j, j < vs.length → C j = C' j) : Rws w e sz vs ns C' :=
  ⟨fun j hj => by rw [← hc j hj]; exact h.row j hj, h.apart⟩
theorem lt (h : Rws w e sz vs ns C) : ∀ b, InRows vs b → b < w.heap.size := by
  rintro b ⟨v, hv, hb⟩
  obtain ⟨j, hj, rfl⟩ := List.getElem_of_mem hv
  exact (h.row j hj).lt b hb
end Rws

/-- Marks: of row i, place k. -/
def mks (m : Int → Nat → List Value) (i : Int) (n : Nat) : List Value := (List.range n).flatMap (m i)

theorem mks_succ (m : Int → Nat → List Value) (i : Int) (n : Nat) : mks m i (n + 1) = mks m i n ++ m i n := by simp [mks, List.range_succ]
theorem mks_len {m : Int → Nat → List Value} {sz : Nat} (hm : ∀ i k, (m i k).length = sz) (i : Int) (n : Nat) : (mks m i n).length = n * sz := by
  induction n with
  | zero => simp [mks]
  | succ n ih => rw [mks_succ, List.length_append, ih, hm, Nat.succ_mul]
theorem mks_take {m : Int → Nat → List Value} {sz : Nat} (hm : ∀ i k, (m i k).length = sz) (i : Int) (k n : Nat) (h : k ≤ n) : (mks m i n).take (k * sz) = mks m i k := by
  induction n with
  | zero =>
    obtain rfl : k = 0 := by omega
    simp [mks]
  | succ n ih =>
    by_cases hk : k = n + 1
    · subst hk
      exact List.take_of_length_le (by rw [mks_len hm]; exact Nat.le_refl _)
    · rw [mks_succ, List.take_append_of_le_length (by rw [mks_len hm]; exact Nat.mul_le_mul_right _ (by omega)), ih (by omega)]
theorem mks_get {m : Int → Nat → List Value} {sz : Nat} (hm : ∀ i k, (m i k).length = sz) (i : Int) (k n : Nat) (h : k < n) (j : Nat) (hj : j < sz) : (mks m i n)[k * sz + j]? = (m i k)[j]? := by
  have h1 := mks_take hm i (k + 1) n h
  have h2 : (mks m i n)[k * sz + j]? = ((mks m i n).take ((k + 1) * sz))[k * sz + j]? := by
    rw [List.getElem?_take, if_pos (by rw [Nat.succ_mul]; omega)]
  rw [h2, h1, mks_succ, List.getElem?_append_right (by rw [mks_len hm]; omega), mks_len hm]
  congr 1
  omega

end Go

/- slices.Clip, bytes.Clone of bytes. (Byt without Compare.) -/
namespace Go.Proofs.YtgcicljklejmjaaDoor
open Go.RowKit

set_option maxRecDepth 100000 in
set_option maxHeartbeats 400000 in
theorem bclip_any (w : World) (A : Option Addr) (n c : Nat) (hc : n ≤ c) :
    Calls Tryd.prog 38 #[.slice A n c] w fun e w' => e = .returned (.slice A n n) ∧ w' = w := by
  by_cases hn : n = 0
  · subst hn
    go_enter Tryd.func38, Tryd.ntmps38
    go_wp2
    go_ret
    exact ⟨rfl, rfl⟩
  · go_enter Tryd.func38, Tryd.ntmps38
    go_wp2
    go_ret
    refine ⟨?_, rfl⟩
    cases A <;> simp

set_option maxRecDepth 100000 in
set_option maxHeartbeats 400000 in
/-- bytes.Clone: nil of nil; else a row of its own. -/
theorem bclone_any (w : World) (x : Value) (l : List UInt8) (hx : Sl w 1 x l.length (bvs l)) (hl : l.length ≤ 140737488351232) :
    Calls Tryd.prog 34 #[x] w fun e w' => ∃ A c, e = .returned (.slice A l.length c) ∧ Ow w' 5 1 (.slice A l.length c) l.length (bvs l) ∧ (∀ k, Value.ownBlock (.slice A l.length c) = some k → w.heap.size ≤ k) ∧ Fr no w w' := by
  have hx2 : (x = .slice none 0 0 ∧ l.length = 0) ∨ ∃ y cap, x = .slice (some y) l.length cap ∧ l.length ≤ cap ∧ cap ≤ maxLen := by
    rcases hx.2 with ⟨Y, h1, h2⟩ | ⟨b, o, cap, h1, h2, h3, _⟩
    · cases Y with
      | none => exact .inl ⟨h1, h2⟩
      | some y => exact .inr ⟨y, 0, by rw [h1, h2], by omega, Nat.zero_le _⟩
    · exact .inr ⟨_, cap, h1, h2, h3⟩
  rcases hx2 with ⟨rfl, h0⟩ | ⟨y, cap, rfl, h1, h2⟩
  · obtain rfl : l = [] := List.eq_nil_of_length_eq_zero h0
    have hnil := fun (w : World) (a : Option Addr) (n c n' c' : Nat) => Lib.run_eql_slice_nil (P := Tryd.prog) w 22 5 a n c n' c' (by kernel_rfl)
    go_enter Tryd.func34, Tryd.ntmps34
    go_wp2
    go_ret
    exact ⟨none, 0, rfl, ⟨rfl, .inl ⟨rfl, rfl⟩⟩, by simp [Value.ownBlock], Fr.refl _ _⟩
  · have HX := Lib.hid hx; clear hx
    have hnil := fun (w : World) (a : Option Addr) (n c n' c' : Nat) => Lib.run_eql_slice_nil (P := Tryd.prog) w 22 5 a n c n' c' (by kernel_rfl)
    go_enter Tryd.func34, Tryd.ntmps34
    go_wp2_with (at_builtin; refine wpList_apo (n := 0) (xs := []) rfl (.tmp 5) (.tmp 6) 22 rfl tbB ?own (HX.out.kept0 ?fr) rfl rfl (bvs_one l) ?b1 ?b2 ?go)
    case own => exact ⟨rfl, .inr ⟨w.heap.size, 0, #[], rfl, heap_alloc_new _ _, Nat.le_refl _, Nat.zero_le _, by simp, by simp⟩⟩
    case fr => (repeat first | exact Fr.refl _ _ | apply Fr.drew | apply Fr.alloc)
    case b1 => simp only [maxLen]; omega
    case b2 => omega
    case go =>
      intro A N c w' hN ho _ hf hs
      obtain rfl : N = l.length := by omega
      have HO := Lib.hid ho; have HF := Lib.hid hf; have HS := Lib.hid hs; clear ho hf hs
      go_wp2
      go_ret
      refine ⟨A, c, rfl, HO.out, fun k hk => ?_, ?_⟩
      · rcases HS.out with ⟨A', c', h, h'⟩ | h
        · cases h; cases h'
          have : w.heap.size = k := by simpa [Value.ownBlock] using hk
          omega
        · have := h k hk; simp at this; omega
      · exact Fr.trans (S := no) (by (repeat first | exact Fr.refl _ _ | apply Fr.drew | apply Fr.alloc)) HF.out (fun k hk h => by simp [Value.ownBlock] at h; omega)
end Go.Proofs.YtgcicljklejmjaaDoor

/- slices.Clone, slices.Clip: of bytes, values, fields. (printed by mkvclone.py) -/
namespace Go.Proofs.YtgcicljklejmjaaDoor
open Go.RowKit
open Tr

theorem tbV : Tb Tryd.prog 25 33 (.agg #[.int .u8 0, .bool false, .int .i64 0, .string ⟨#[]⟩, .slice none 0 0, .slice none 0 0, .slice none 0 0]) 7 104 := ⟨by kernel_rfl, by kernel_rfl, rfl, by decide⟩
theorem tbF : Tb Tryd.prog 31 138 (.agg #[.string ⟨#[]⟩, .int .u8 0, .bool false, .int .i64 0, .string ⟨#[]⟩, .slice none 0 0, .slice none 0 0, .slice none 0 0]) 8 120 := ⟨by kernel_rfl, by kernel_rfl, rfl, by decide⟩

set_option maxRecDepth 100000 in
set_option maxHeartbeats 400000 in
theorem sclB_any (w : World) (x : Value) (n : Nat) (cs : List Value) (hx : Sl w 1 x n cs) (hl : n * 1 ≤ 140737488355328) (hn : n ≤ 140737488351232) (h1 : ∀ u ∈ cs, u.oneCell' = true) :
    Calls Tryd.prog 81 #[x] w fun e w' => ∃ A c, e = .returned (.slice A n c) ∧ Ow w' 5 1 (.slice A n c) n cs ∧ (∀ k, Value.ownBlock (.slice A n c) = some k → w.heap.size ≤ k) ∧ Fr no w w' := by
  have hx2 : (x = .slice none 0 0 ∧ n = 0) ∨ ∃ y cap, x = .slice (some y) n cap ∧ n ≤ cap ∧ cap ≤ maxLen := by
    rcases hx.2 with ⟨Y, h1, h2⟩ | ⟨b, o, cap, h1, h2, h3, _⟩
    · cases Y with
      | none => exact .inl ⟨h1, h2⟩
      | some y => exact .inr ⟨y, 0, by rw [h1, h2], by omega, Nat.zero_le _⟩
    · exact .inr ⟨_, cap, h1, h2, h3⟩
  rcases hx2 with ⟨rfl, rfl⟩ | ⟨y, cap, rfl, h2, h3⟩
  · have hcs : cs = [] := List.eq_nil_of_length_eq_zero (by rw [hx.1])
    subst hcs
    have hnil := fun (w : World) (a : Option Addr) (n c n' c' : Nat) => Lib.run_eql_slice_nil (P := Tryd.prog) w 22 5 a n c n' c' (by kernel_rfl)
    go_enter Tryd.func81, Tryd.ntmps81
    go_wp2
    go_ret
    exact ⟨none, 0, rfl, ⟨by simp, .inl ⟨rfl, rfl⟩⟩, by simp [Value.ownBlock], Fr.refl _ _⟩
  · have HX := Lib.hid hx; have H1 := Lib.hid h1; clear hx h1
    have hnil := fun (w : World) (a : Option Addr) (n c n' c' : Nat) => Lib.run_eql_slice_nil (P := Tryd.prog) w 22 5 a n c n' c' (by kernel_rfl)
    go_enter Tryd.func81, Tryd.ntmps81
    go_wp2_with (at_builtin; refine wpList_apo (n := 0) (xs := []) rfl (.tmp 5) (.tmp 6) 22 rfl tbB ?ownB (HX.out.kept0 ?frB) rfl rfl H1.out ?b1B ?b2B ?goB)
    case ownB => exact ⟨rfl, .inr ⟨w.heap.size, 0, #[], rfl, heap_alloc_new _ _, Nat.le_refl _, Nat.zero_le _, by simp, by simp⟩⟩
    case frB => (repeat first | exact Fr.refl _ _ | apply Fr.drew | apply Fr.alloc)
    case b1B => simp only [maxLen]; omega
    case b2B => omega
    case goB =>
      intro A N c w' hN ho _ hf hs
      obtain rfl : N = n := by omega
      have HO := Lib.hid ho; have HF := Lib.hid hf; have HS := Lib.hid hs; clear ho hf hs
      go_wp2
      go_ret
      refine ⟨A, c, rfl, HO.out, fun k hk => ?_, ?_⟩
      · rcases HS.out with ⟨A', c', h, h'⟩ | h
        · cases h; cases h'
          have : w.heap.size = k := by simpa [Value.ownBlock] using hk
          omega
        · have := h k hk; simp at this; omega
      · exact Fr.trans (S := no) (by (repeat first | exact Fr.refl _ _ | apply Fr.drew | apply Fr.alloc)) HF.out (fun k hk h => by simp [Value.ownBlock] at h; omega)

set_option maxRecDepth 100000 in
set_option maxHeartbeats 400000 in
theorem sclV_any (w : World) (x : Value) (n : Nat) (cs : List Value) (hx : Sl w 7 x n cs) (hl : n * 104 ≤ 140737488355328) (hn : n ≤ 140737488351232) (h1 : ∀ u ∈ cs, u.oneCell' = true) :
    Calls Tryd.prog 82 #[x] w fun e w' => ∃ A c, e = .returned (.slice A n c) ∧ Ow w' 33 7 (.slice A n c) n cs ∧ (∀ k, Value.ownBlock (.slice A n c) = some k → w.heap.size ≤ k) ∧ Fr no w w' := by
  have hx2 : (x = .slice none 0 0 ∧ n = 0) ∨ ∃ y cap, x = .slice (some y) n cap ∧ n ≤ cap ∧ cap ≤ maxLen := by
    rcases hx.2 with ⟨Y, h1, h2⟩ | ⟨b, o, cap, h1, h2, h3, _⟩
    · cases Y with
      | none => exact .inl ⟨h1, h2⟩
      | some y => exact .inr ⟨y, 0, by rw [h1, h2], by omega, Nat.zero_le _⟩
    · exact .inr ⟨_, cap, h1, h2, h3⟩
  rcases hx2 with ⟨rfl, rfl⟩ | ⟨y, cap, rfl, h2, h3⟩
  · have hcs : cs = [] := List.eq_nil_of_length_eq_zero (by rw [hx.1])
    subst hcs
    have hnil := fun (w : World) (a : Option Addr) (n c n' c' : Nat) => Lib.run_eql_slice_nil (P := Tryd.prog) w 25 33 a n c n' c' (by kernel_rfl)
    go_enter Tryd.func82, Tryd.ntmps82
    go_wp2
    go_ret
    exact ⟨none, 0, rfl, ⟨by simp, .inl ⟨rfl, rfl⟩⟩, by simp [Value.ownBlock], Fr.refl _ _⟩
  · have HX := Lib.hid hx; have H1 := Lib.hid h1; clear hx h1
    have hnil := fun (w : World) (a : Option Addr) (n c n' c' : Nat) => Lib.run_eql_slice_nil (P := Tryd.prog) w 25 33 a n c n' c' (by kernel_rfl)
    go_enter Tryd.func82, Tryd.ntmps82
    go_wp2_with (at_builtin; refine wpList_apo (n := 0) (xs := []) rfl (.tmp 5) (.tmp 6) 25 rfl tbV ?ownV (HX.out.kept0 ?frV) rfl rfl H1.out ?b1V ?b2V ?goV)
    case ownV => exact ⟨rfl, .inr ⟨w.heap.size, 0, #[], rfl, heap_alloc_new _ _, Nat.le_refl _, Nat.zero_le _, by simp, by simp⟩⟩
    case frV => (repeat first | exact Fr.refl _ _ | apply Fr.drew | apply Fr.alloc)
    case b1V => simp only [maxLen]; omega
    case b2V => omega
    case goV =>
      intro A N c w' hN ho _ hf hs
      obtain rfl : N = n := by omega
      have HO := Lib.hid ho; have HF := Lib.hid hf; have HS := Lib.hid hs; clear ho hf hs
      go_wp2
      go_ret
      refine ⟨A, c, rfl, HO.out, fun k hk => ?_, ?_⟩
      · rcases HS.out with ⟨A', c', h, h'⟩ | h
        · cases h; cases h'
          have : w.heap.size = k := by simpa [Value.ownBlock] using hk
          omega
        · have := h k hk; simp at this; omega
      · exact Fr.trans (S := no) (by (repeat first | exact Fr.refl _ _ | apply Fr.drew | apply Fr.alloc)) HF.out (fun k hk h => by simp [Value.ownBlock] at h; omega)

set_option maxRecDepth 100000 in
theorem scpV_any (w : World) (A : Option Addr) (n c : Nat) (hc : n ≤ c) :
    Calls Tryd.prog 33 #[.slice A n c] w fun e w' => e = .returned (.slice A n n) ∧ w' = w := by
  by_cases hn : n = 0
  · subst hn
    go_enter Tryd.func33, Tryd.ntmps33
    go_wp2
    go_ret
    exact ⟨rfl, rfl⟩
  · go_enter Tryd.func33, Tryd.ntmps33
    go_wp2
    go_ret
    exact ⟨rfl, rfl⟩

set_option maxRecDepth 100000 in
set_option maxHeartbeats 400000 in
theorem sclF_any (w : World) (x : Value) (n : Nat) (cs : List Value) (hx : Sl w 8 x n cs) (hl : n * 120 ≤ 140737488355328) (hn : n ≤ 140737488351232) (h1 : ∀ u ∈ cs, u.oneCell' = true) :
    Calls Tryd.prog 84 #[x] w fun e w' => ∃ A c, e = .returned (.slice A n c) ∧ Ow w' 138 8 (.slice A n c) n cs ∧ (∀ k, Value.ownBlock (.slice A n c) = some k → w.heap.size ≤ k) ∧ Fr no w w' := by
  have hx2 : (x = .slice none 0 0 ∧ n = 0) ∨ ∃ y cap, x = .slice (some y) n cap ∧ n ≤ cap ∧ cap ≤ maxLen := by
    rcases hx.2 with ⟨Y, h1, h2⟩ | ⟨b, o, cap, h1, h2, h3, _⟩
    · cases Y with
      | none => exact .inl ⟨h1, h2⟩
      | some y => exact .inr ⟨y, 0, by rw [h1, h2], by omega, Nat.zero_le _⟩
    · exact .inr ⟨_, cap, h1, h2, h3⟩
  rcases hx2 with ⟨rfl, rfl⟩ | ⟨y, cap, rfl, h2, h3⟩
  · have hcs : cs = [] := List.eq_nil_of_length_eq_zero (by rw [hx.1])
    subst hcs
    have hnil := fun (w : World) (a : Option Addr) (n c n' c' : Nat) => Lib.run_eql_slice_nil (P := Tryd.prog) w 31 138 a n c n' c' (by kernel_rfl)
    go_enter Tryd.func84, Tryd.ntmps84
    go_wp2
    go_ret
    exact ⟨none, 0, rfl, ⟨by simp, .inl ⟨rfl, rfl⟩⟩, by simp [Value.ownBlock], Fr.refl _ _⟩
  · have HX := Lib.hid hx; have H1 := Lib.hid h1; clear hx h1
    have hnil := fun (w : World) (a : Option Addr) (n c n' c' : Nat) => Lib.run_eql_slice_nil (P := Tryd.prog) w 31 138 a n c n' c' (by kernel_rfl)
    go_enter Tryd.func84, Tryd.ntmps84
    go_wp2_with (at_builtin; refine wpList_apo (n := 0) (xs := []) rfl (.tmp 5) (.tmp 6) 31 rfl tbF ?ownF (HX.out.kept0 ?frF) rfl rfl H1.out ?b1F ?b2F ?goF)
    case ownF => exact ⟨rfl, .inr ⟨w.heap.size, 0, #[], rfl, heap_alloc_new _ _, Nat.le_refl _, Nat.zero_le _, by simp, by simp⟩⟩
    case frF => (repeat first | exact Fr.refl _ _ | apply Fr.drew | apply Fr.alloc)
    case b1F => simp only [maxLen]; omega
    case b2F => omega
    case goF =>
      intro A N c w' hN ho _ hf hs
      obtain rfl : N = n := by omega
      have HO := Lib.hid ho; have HF := Lib.hid hf; have HS := Lib.hid hs; clear ho hf hs
      go_wp2
      go_ret
      refine ⟨A, c, rfl, HO.out, fun k hk => ?_, ?_⟩
      · rcases HS.out with ⟨A', c', h, h'⟩ | h
        · cases h; cases h'
          have : w.heap.size = k := by simpa [Value.ownBlock] using hk
          omega
        · have := h k hk; simp at this; omega
      · exact Fr.trans (S := no) (by (repeat first | exact Fr.refl _ _ | apply Fr.drew | apply Fr.alloc)) HF.out (fun k hk h => by simp [Value.ownBlock] at h; omega)

set_option maxRecDepth 100000 in
theorem scpF_any (w : World) (A : Option Addr) (n c : Nat) (hc : n ≤ c) :
    Calls Tryd.prog 83 #[.slice A n c] w fun e w' => e = .returned (.slice A n n) ∧ w' = w := by
  by_cases hn : n = 0
  · subst hn
    go_enter Tryd.func83, Tryd.ntmps83
    go_wp2
    go_ret
    exact ⟨rfl, rfl⟩
  · go_enter Tryd.func83, Tryd.ntmps83
    go_wp2
    go_ret
    exact ⟨rfl, rfl⟩
end Go.Proofs.YtgcicljklejmjaaDoor

/- Values of one's own: trees whose lists are rows of their own, none shared. -/
namespace Go.Proofs.YtgcicljklejmjaaDoor
open Go.RowKit
open Tr
namespace Tr
/-- The blocks of a value's lists, and of all below. -/
inductive Blk : Tr Mm → Nat → Prop
  | B (x : Tr Mm) (k : Nat) (h : x.B.ownBlock = some k) : Blk x k
  | L (x : Tr Mm) (k : Nat) (h : x.L.ownBlock = some k) : Blk x k
  | F (x : Tr Mm) (k : Nat) (h : x.F.ownBlock = some k) : Blk x k
  | kid (x y : Tr Mm) (k : Nat) (h : y ∈ x.kids) (hk : Blk y k) : Blk x k
theorem Blk.cases {x : Tr Mm} {k : Nat} (h : Blk x k) : x.B.ownBlock = some k ∨ x.L.ownBlock = some k ∨ x.F.ownBlock = some k ∨ ∃ y ∈ x.kids, Blk y k := by
  match h with
  | .B _ _ h => exact .inl h
  | .L _ _ h => exact .inr (.inl h)
  | .F _ _ h => exact .inr (.inr (.inl h))
  | .kid _ y _ h hk => exact .inr (.inr (.inr ⟨y, h, hk⟩))

/-- Nothing of a value's own lists is shared with one another, nor with those below. -/
structure Apart1 (x : Tr Mm) : Prop where
  bl : ∀ k, x.B.ownBlock = some k → x.L.ownBlock ≠ some k
  bf : ∀ k, x.B.ownBlock = some k → x.F.ownBlock ≠ some k
  lf : ∀ k, x.L.ownBlock = some k → x.F.ownBlock ≠ some k
  kid : ∀ y ∈ x.kids, ∀ k, Blk y k → x.B.ownBlock ≠ some k ∧ x.L.ownBlock ≠ some k ∧ x.F.ownBlock ≠ some k
  kids : x.kids.Pairwise fun y z => ∀ k, Blk y k → ¬ Blk z k

/-- A value whose lists are its own. -/
inductive Own (w : World) : Tr Mm → Prop
  | mk (x : Tr Mm) (B : Ow w 5 1 x.B x.bs.length (bvs x.bs)) (L : Ow w 33 7 x.L x.l.length (x.l.flatMap cells)) (F : Ow w 138 8 x.F x.f.length (x.f.flatMap fcells))
      (ap : Apart1 x) (kids : ∀ y ∈ x.kids, Own w y) : Own w x
theorem Own.B {w : World} {x : Tr Mm} : Own w x → Ow w 5 1 x.B x.bs.length (bvs x.bs) | .mk _ h _ _ _ _ => h
theorem Own.L {w : World} {x : Tr Mm} : Own w x → Ow w 33 7 x.L x.l.length (x.l.flatMap cells) | .mk _ _ h _ _ _ => h
theorem Own.F {w : World} {x : Tr Mm} : Own w x → Ow w 138 8 x.F x.f.length (x.f.flatMap fcells) | .mk _ _ _ h _ _ => h
theorem Own.ap {w : World} {x : Tr Mm} : Own w x → Apart1 x | .mk _ _ _ _ h _ => h
theorem Own.kids {w : World} {x : Tr Mm} : Own w x → ∀ y ∈ x.kids, Own w y | .mk _ _ _ _ _ h => h
theorem Own.lt {w : World} {x : Tr Mm} (h : Own w x) : ∀ k, Blk x k → k < w.heap.size := by
  induction x using Tr.ind with
  | h x ih =>
    intro k hk
    rcases hk.cases with hk | hk | hk | ⟨y, hy, hk⟩
    · exact h.B.lt k hk
    · exact h.L.lt k hk
    · exact h.F.lt k hk
    · exact ih y hy (h.kids y hy) k hk
theorem Own.kept {w w1 : World} {S : Nat → Prop} {x : Tr Mm} (h : Own w x) (f : Fr S w w1) (hS : ∀ k, Blk x k → ¬ S k) : Own w1 x := by
  induction x using Tr.ind with
  | h x ih =>
    exact ⟨x, h.B.kept f (fun k hk => hS k (.B x k hk)), h.L.kept f (fun k hk => hS k (.L x k hk)), h.F.kept f (fun k hk => hS k (.F x k hk)), h.ap, fun y hy => ih y hy (h.kids y hy) (fun k hk => hS k (.kid x y k hy hk))⟩
theorem Own.kept0 {w w1 : World} {x : Tr Mm} (h : Own w x) (f : Fr no w w1) : Own w1 x := h.kept f (fun _ _ h => h)

/-- A copy of a value that is as it should be is so too. -/
theorem Own.good {w w1 : World} {x y : Tr Mm} (h : Own w1 y) (hb : bare y = bare x) (hg : Good w x) : Good w1 y := by
  induction x using Tr.ind generalizing y with
  | h x ih =>
    have e1 : y.bs = x.bs := by rw [← bare_bs y, ← bare_bs x, hb]
    have e2 : y.t = x.t := by rw [← bare_t y, ← bare_t x, hb]
    have e3 : y.i = x.i := by rw [← bare_i y, ← bare_i x, hb]
    have e4 : y.l.map bare = x.l.map bare := by rw [← bare_l y, ← bare_l x, hb]
    have e5 : (y.f.map fun p => (p.1, bare p.2)) = x.f.map fun p => (p.1, bare p.2) := by rw [← bare_f y, ← bare_f x, hb]
    have l4 : y.l.length = x.l.length := by have := congrArg List.length e4; simpa using this
    have l5 : y.f.length = x.f.length := by have := congrArg List.length e5; simpa using this
    have n5 : y.f.map (·.1) = x.f.map (·.1) := by
      have := congrArg (List.map (·.1)) e5
      simpa [List.map_map, Function.comp_def] using this
    have hk : y.kids.map bare = x.kids.map bare := by rw [← bare_kids y, ← bare_kids x, hb]
    have nd := hg.node
    refine ⟨y, ⟨h.B.sl, h.L.sl, h.F.sl, e3 ▸ nd.i, e2 ▸ nd.t, e1 ▸ nd.bs, l4 ▸ nd.l, l5 ▸ nd.f, fun p hp => ?_, l4 ▸ nd.lw, l5 ▸ nd.fw⟩, fun z hz => ?_⟩
    · have : p.1 ∈ x.f.map (·.1) := by rw [← n5]; exact List.mem_map_of_mem hp
      obtain ⟨q, hq, e⟩ := List.mem_map.1 this
      rw [← e]; exact nd.n q hq
    · have : bare z ∈ x.kids.map bare := by rw [← hk]; exact List.mem_map_of_mem hz
      obtain ⟨q, hq, e⟩ := List.mem_map.1 this
      exact ih q hq (h.kids z hz) e.symm (hg.kids q hq)

theorem flat_put7 (l : List (Tr Mm)) (i : Nat) (x : Tr Mm) (h : i < l.length) :
    (((((((l.flatMap cells).set (i * 7) (.int .u8 x.k.toNat)).set (i * 7 + 1) (.bool x.b)).set (i * 7 + 2) (.int .i64 x.i)).set (i * 7 + 3) (.string ⟨x.t.toArray⟩)).set (i * 7 + 4) x.B).set (i * 7 + 5) x.L).set (i * 7 + 6) x.F = (l.set i x).flatMap cells := by
  induction l generalizing i with
  | nil => simp at h
  | cons a l ih =>
    cases i with
    | zero => simp [cells]
    | succ i =>
      have := ih i (by simpa using h)
      rw [List.set_cons_succ, List.flatMap_cons, List.flatMap_cons, ← this]
      rw [show (i + 1) * 7 = i * 7 + 7 by omega]
      simp [cells, Nat.add_right_comm]
theorem flat_put8 (l : List (List UInt8 × Tr Mm)) (i : Nat) (x : Tr Mm) (h : i < l.length) :
    (((((((l.flatMap fcells).set (i * 8 + 1) (.int .u8 x.k.toNat)).set (i * 8 + 1 + 1) (.bool x.b)).set (i * 8 + 1 + 2) (.int .i64 x.i)).set (i * 8 + 1 + 3) (.string ⟨x.t.toArray⟩)).set (i * 8 + 1 + 4) x.B).set (i * 8 + 1 + 5) x.L).set (i * 8 + 1 + 6) x.F = (l.set i (l[i].1, x)).flatMap fcells := by
  induction l generalizing i with
  | nil => simp at h
  | cons a l ih =>
    cases i with
    | zero => simp [fcells, cells]
    | succ i =>
      have := ih i (by simpa using h)
      rw [List.set_cons_succ, List.flatMap_cons, List.flatMap_cons, List.getElem_cons_succ, ← this]
      rw [show (i + 1) * 8 = i * 8 + 8 by omega]
      simp [fcells, cells, Nat.add_right_comm]

/-- Seven cells written into a block. -/
def put7 (w : World) (g o : Nat) (x : Tr Mm) : World :=
  (((((((w.setCell ⟨g, o, none⟩ (.int .u8 x.k.toNat)).setCell ⟨g, o + 1, none⟩ (.bool x.b)).setCell ⟨g, o + 2, none⟩ (.int .i64 x.i)).setCell ⟨g, o + 3, none⟩ (.string ⟨x.t.toArray⟩)).setCell ⟨g, o + 4, none⟩ x.B).setCell ⟨g, o + 5, none⟩ x.L).setCell ⟨g, o + 6, none⟩ x.F)
theorem put7_fr (w : World) (g o : Nat) (x : Tr Mm) : Fr (fun k => k = g) w (put7 w g o x) := by
  unfold put7
  have h0 := Fr.setCell (Fr.refl (fun k => k = g) w) ⟨g, o, none⟩ (.int .u8 x.k.toNat) (fun _ => rfl)
  have h1 := Fr.setCell h0 ⟨g, o + 1, none⟩ (.bool x.b) (fun _ => rfl)
  have h2 := Fr.setCell h1 ⟨g, o + 2, none⟩ (.int .i64 x.i) (fun _ => rfl)
  have h3 := Fr.setCell h2 ⟨g, o + 3, none⟩ (.string ⟨x.t.toArray⟩) (fun _ => rfl)
  have h4 := Fr.setCell h3 ⟨g, o + 4, none⟩ x.B (fun _ => rfl)
  have h5 := Fr.setCell h4 ⟨g, o + 5, none⟩ x.L (fun _ => rfl)
  exact Fr.setCell h5 ⟨g, o + 6, none⟩ x.F (fun _ => rfl)
theorem here {w : World} {e : TypeId} {sz g og n c : Nat} {xs : List Value} (h : Ow w e sz (.slice (some ⟨g, og, none⟩) n c) n xs) :
    og = 0 ∧ ∃ cur, w.heap[g]? = some (.cells cur e (0, 0)) ∧ n ≤ c ∧ c ≤ maxLen ∧ c * sz ≤ cur.size ∧ cur.toList.take (n * sz) = xs := by
  rcases h.2 with ⟨h1, _⟩ | ⟨g', cap, cur, h1, h2, h3, h4, h5, h6⟩
  · cases h1
  · cases h1; exact ⟨rfl, cur, h2, h3, h4, h5, h6⟩
theorem here_some {w : World} {e : TypeId} {sz n c : Nat} {A : Option Addr} {xs : List Value} (h : Ow w e sz (.slice A n c) n xs) (hn : 0 < n) : ∃ g, A = some ⟨g, 0, none⟩ := by
  rcases h.2 with ⟨h1, h2⟩ | ⟨g', cap, cur, h1, _⟩
  · simp only [Value.slice.injEq] at h1; omega
  · simp only [Value.slice.injEq] at h1; exact ⟨g', h1.1⟩
theorem ow_put7 {w : World} {e : TypeId} {g n c i : Nat} {l : List (Tr Mm)} (x : Tr Mm) (h : Ow w e 7 (.slice (some ⟨g, 0, none⟩) n c) n (l.flatMap cells)) (hi : i < l.length) :
    Ow (put7 w g (i * 7) x) e 7 (.slice (some ⟨g, 0, none⟩) n c) n ((l.set i x).flatMap cells) := by
  obtain ⟨_, cur, h2, h3, h4, h5, h6⟩ := here h
  have hlen : ((l.set i x).flatMap cells).length = n * 7 := by
    rw [← flat_put7 l i x hi]; simp only [List.length_set]; exact h.1
  refine ⟨hlen, .inr ⟨g, c, _, rfl, hp_same (hp_same (hp_same (hp_same (hp_same (hp_same (hp_same h2 _ _) _ _) _ _) _ _) _ _) _ _) _ _, h3, h4, by simpa using h5, ?_⟩⟩
  simp only [Array.toList_setIfInBounds, List.take_set, h6]
  exact flat_put7 l i x hi
theorem ow_put8 {w : World} {e : TypeId} {g n c i : Nat} {l : List (List UInt8 × Tr Mm)} (x : Tr Mm) (h : Ow w e 8 (.slice (some ⟨g, 0, none⟩) n c) n (l.flatMap fcells)) (hi : i < l.length) :
    Ow (put7 w g (i * 8 + 1) x) e 8 (.slice (some ⟨g, 0, none⟩) n c) n ((l.set i (l[i].1, x)).flatMap fcells) := by
  obtain ⟨_, cur, h2, h3, h4, h5, h6⟩ := here h
  have hlen : ((l.set i (l[i].1, x)).flatMap fcells).length = n * 8 := by
    rw [← flat_put8 l i x hi]; simp only [List.length_set]; exact h.1
  refine ⟨hlen, .inr ⟨g, c, _, rfl, hp_same (hp_same (hp_same (hp_same (hp_same (hp_same (hp_same h2 _ _) _ _) _ _) _ _) _ _) _ _) _ _, h3, h4, by simpa using h5, ?_⟩⟩
  simp only [Array.toList_setIfInBounds, List.take_set, h6]
  exact flat_put8 l i x hi
end Tr
end Go.Proofs.YtgcicljklejmjaaDoor

/- Bytes compared: the number that bytes.Compare says. -/
namespace Go.Proofs.YtgcicljklejmjaaDoor
open Go.RowKit

/-- Bytes compared. -/
def cb (l k : List UInt8) : Int := Lib.compareBytes l k

theorem cb_range (l k : List UInt8) : cb l k = -1 ∨ cb l k = 0 ∨ cb l k = 1 := by
  unfold cb
  induction l generalizing k with
  | nil => cases k <;> simp [Lib.compareBytes]
  | cons a l ih =>
    cases k with
    | nil => simp [Lib.compareBytes]
    | cons b k =>
      simp only [Lib.compareBytes]
      split
      · exact .inl rfl
      · split
        · exact .inr (.inr rfl)
        · exact ih k
end Go.Proofs.YtgcicljklejmjaaDoor

/- The order of bytes; strings compared. (Cb without what it says of regions and spans.) -/
namespace Go.Proofs.YtgcicljklejmjaaDoor
open Go.RowKit

theorem cb_self (l : List UInt8) : cb l l = 0 := by
  unfold cb
  induction l with
  | nil => rfl
  | cons a l ih => simp [Lib.compareBytes, ih]
theorem cb_eq {l k : List UInt8} (h : cb l k = 0) : l = k := by
  unfold cb at h
  induction l generalizing k with
  | nil => cases k <;> simp_all [Lib.compareBytes]
  | cons a l ih =>
    cases k with
    | nil => simp [Lib.compareBytes] at h
    | cons b k =>
      simp only [Lib.compareBytes] at h
      split at h
      · omega
      · split at h
        · omega
        · rename_i h1 h2
          rw [ih h, UInt8.le_antisymm (UInt8.not_lt.1 h2) (UInt8.not_lt.1 h1)]
theorem cb_swap (l k : List UInt8) : cb k l = - cb l k := by
  unfold cb
  induction l generalizing k with
  | nil => cases k <;> simp [Lib.compareBytes]
  | cons a l ih =>
    cases k with
    | nil => simp [Lib.compareBytes]
    | cons b k =>
      simp only [Lib.compareBytes]
      by_cases h1 : a < b
      · have h2 : ¬ b < a := UInt8.not_lt.2 (UInt8.le_of_lt h1)
        simp [h1, h2]
      · by_cases h2 : b < a <;> simp [h1, h2, ih]
theorem cb_trans {a b c : List UInt8} (h1 : cb a b ≤ 0) (h2 : cb b c ≤ 0) : cb a c ≤ 0 ∧ (cb a b < 0 ∨ cb b c < 0 → cb a c < 0) := by
  unfold cb at *
  induction a generalizing b c with
  | nil =>
    cases c with
    | nil => cases b with
      | nil => simp [Lib.compareBytes]
      | cons b bs => simp [Lib.compareBytes] at h2
    | cons c cs => simp [Lib.compareBytes]
  | cons a us ih =>
    cases b with
    | nil => simp [Lib.compareBytes] at h1
    | cons b bs =>
      cases c with
      | nil => simp [Lib.compareBytes] at h2
      | cons c cs =>
        simp only [Lib.compareBytes] at h1 h2 ⊢
        by_cases ab : a < b
        · by_cases bc : b < c
          · have ac := UInt8.lt_trans ab bc
            simp [ac]
          · by_cases cb' : c < b
            · simp [bc, cb'] at h2
            · have e : b = c := UInt8.le_antisymm (UInt8.not_lt.1 cb') (UInt8.not_lt.1 bc)
              subst e
              simp [ab]
        · by_cases ba : b < a
          · simp [ab, ba] at h1
          · have e : a = b := UInt8.le_antisymm (UInt8.not_lt.1 ba) (UInt8.not_lt.1 ab)
            subst e
            by_cases bc : a < c
            · simp [bc]
            · by_cases cb' : c < a
              · simp [bc, cb'] at h2
              · simp only [bc, cb', if_false, if_neg ab] at h1 h2 ⊢
                exact ih h1 h2

/-- No later than. -/
def le (a b : List UInt8) : Prop := cb a b ≤ 0
/-- Sooner than. -/
def lt (a b : List UInt8) : Prop := cb a b < 0
theorem le_rfl (a : List UInt8) : le a a := by unfold le; rw [cb_self]; omega
theorem lt_irrefl {a : List UInt8} (h : lt a a) : False := by unfold lt at h; rw [cb_self] at h; omega
theorem lt_le {a b : List UInt8} (h : lt a b) : le a b := by unfold lt at h; unfold le; omega
theorem le_trans {a b c : List UInt8} (h1 : le a b) (h2 : le b c) : le a c := (cb_trans h1 h2).1
theorem lt_le_trans {a b c : List UInt8} (h1 : lt a b) (h2 : le b c) : lt a c := (cb_trans (lt_le h1) h2).2 (.inl h1)
theorem le_lt_trans {a b c : List UInt8} (h1 : le a b) (h2 : lt b c) : lt a c := (cb_trans h1 (lt_le h2)).2 (.inr h2)
theorem lt_trans {a b c : List UInt8} (h1 : lt a b) (h2 : lt b c) : lt a c := lt_le_trans h1 (lt_le h2)
theorem le_or {a b : List UInt8} : le a b ∨ lt b a := by unfold le lt; have := cb_swap a b; omega
theorem not_lt {a b : List UInt8} (h : ¬ lt a b) : le b a := by unfold lt at h; unfold le; have := cb_swap a b; omega
theorem not_le {a b : List UInt8} (h : ¬ le a b) : lt b a := by unfold le at h; unfold lt; have := cb_swap a b; omega
theorem le_antisymm {a b : List UInt8} (h1 : le a b) (h2 : le b a) : a = b := by
  refine cb_eq ?_
  unfold le at *
  have := cb_swap a b; omega
theorem lt_not_le {a b : List UInt8} (h : lt a b) (h2 : le b a) : False := lt_irrefl (lt_le_trans h h2)

theorem less_cb (l k : List UInt8) : Op.bytesLess l k = decide (cb l k < 0) := by
  unfold cb
  induction l generalizing k with
  | nil => cases k <;> simp [Op.bytesLess, Lib.compareBytes]
  | cons a l ih =>
    cases k with
    | nil => simp [Op.bytesLess, Lib.compareBytes]
    | cons b k =>
      simp only [Op.bytesLess, Lib.compareBytes, ih]
      by_cases h1 : a < b
      · simp [h1]
      · by_cases h2 : b < a
        · have h3 : a ≠ b := fun e => by subst e; exact h1 h2
          simp [h1, h2, h3]
        · have h3 : a = b := UInt8.le_antisymm (UInt8.not_lt.1 h2) (UInt8.not_lt.1 h1)
          subst h3
          simp [h1]
theorem leq_cb (l k : List UInt8) : (Op.bytesLess l k || l == k) = decide (cb l k ≤ 0) := by
  rw [less_cb]
  have := cb_range l k
  by_cases h : l = k
  · subst h; simp [cb_self]
  · have h2 : cb l k ≠ 0 := fun e => h (cb_eq e)
    have h3 : (l == k) = false := by simpa using h
    rw [h3, Bool.or_false, decide_eq_decide]
    omega

@[go_sem] theorem strs_leq (t : TypeId) (l k : List UInt8) : binOp .leq t (.string ⟨l.toArray⟩) (.string ⟨k.toArray⟩) = pure (.bool (decide (cb l k ≤ 0))) := by
  simp only [binOp, Op.stringOp, ByteArray.toList_mk, leq_cb]
@[go_sem] theorem strs_gtr (t : TypeId) (l k : List UInt8) : binOp .gtr t (.string ⟨l.toArray⟩) (.string ⟨k.toArray⟩) = pure (.bool !(decide (cb l k ≤ 0))) := by
  simp only [binOp, Op.stringOp, ByteArray.toList_mk, leq_cb]
@[go_sem] theorem strs_geq (t : TypeId) (l k : List UInt8) : binOp .geq t (.string ⟨l.toArray⟩) (.string ⟨k.toArray⟩) = pure (.bool !(decide (cb l k < 0))) := by
  simp only [binOp, Op.stringOp, ByteArray.toList_mk, less_cb]
@[go_sem] theorem strs_lss (t : TypeId) (l k : List UInt8) : binOp .lss t (.string ⟨l.toArray⟩) (.string ⟨k.toArray⟩) = pure (.bool (decide (cb l k < 0))) := by
  simp only [binOp, Op.stringOp, ByteArray.toList_mk, less_cb]
end Go.Proofs.YtgcicljklejmjaaDoor

/- Keys without a program: the bytes of a value, and how they compare. -/
namespace Go.Proofs.YtgcicljklejmjaaDoor
open Go.RowKit

/-- Two rows of bytes that part at some place within both: v says which is the lesser. -/
def Diff (a b : List UInt8) (v : Int) : Prop := ∃ p c d ra rb, a = p ++ c :: ra ∧ b = p ++ d :: rb ∧ ((c < d ∧ v = -1) ∨ (d < c ∧ v = 1))
theorem Diff.cb {a b : List UInt8} {v : Int} (h : Diff a b v) : cb a b = v := by
  obtain ⟨p, c, d, ra, rb, rfl, rfl, h⟩ := h
  unfold Proofs.YtgcicljklejmjaaDoor.cb
  induction p with
  | nil =>
    rcases h with ⟨h, rfl⟩ | ⟨h, rfl⟩
    · simp [Lib.compareBytes, h]
    · have : ¬ c < d := UInt8.not_lt.2 (UInt8.le_of_lt h)
      simp [Lib.compareBytes, h, this]
  | cons x p ih => simpa [Lib.compareBytes] using ih
theorem Diff.pre {a b : List UInt8} {v : Int} (h : Diff a b v) (p : List UInt8) : Diff (p ++ a) (p ++ b) v := by
  obtain ⟨q, c, d, ra, rb, rfl, rfl, h⟩ := h
  exact ⟨p ++ q, c, d, ra, rb, by simp, by simp, h⟩
theorem Diff.post {a b : List UInt8} {v : Int} (h : Diff a b v) (s t : List UInt8) : Diff (a ++ s) (b ++ t) v := by
  obtain ⟨q, c, d, ra, rb, rfl, rfl, h⟩ := h
  exact ⟨q, c, d, ra ++ s, rb ++ t, by simp, by simp, h⟩
theorem Diff.swap {a b : List UInt8} {v : Int} (h : Diff a b v) : Diff b a (-v) := by
  obtain ⟨q, c, d, ra, rb, rfl, rfl, h⟩ := h
  exact ⟨q, d, c, rb, ra, rfl, rfl, h.elim (fun ⟨h, e⟩ => .inr ⟨h, by rw [e]; rfl⟩) (fun ⟨h, e⟩ => .inl ⟨h, by rw [e]⟩)⟩
theorem Diff.head {c d : UInt8} (h : c ≠ d) (s t : List UInt8) : Diff (c :: s) (d :: t) (if c < d then -1 else 1) := by
  refine ⟨[], c, d, s, t, rfl, rfl, ?_⟩
  by_cases hc : c < d
  · exact .inl ⟨hc, if_pos hc⟩
  · exact .inr ⟨(UInt8.lt_or_lt_of_ne h).elim (fun h => absurd h hc) (fun h => h), if_neg hc⟩
/-- Each byte turned over. -/
def turn (l : List UInt8) : List UInt8 := l.map (~~~·)
theorem not_lt_iff (c d : UInt8) : ~~~c < ~~~d ↔ d < c := by
  rw [UInt8.lt_iff_toNat_lt, UInt8.lt_iff_toNat_lt, UInt8.toNat_not, UInt8.toNat_not]
  have := c.toNat_lt
  have := d.toNat_lt
  simp only [UInt8.size] at *
  omega
theorem Diff.turn {a b : List UInt8} {v : Int} (h : Diff a b v) : Diff (turn a) (turn b) (-v) := by
  obtain ⟨q, c, d, ra, rb, rfl, rfl, h⟩ := h
  refine ⟨Proofs.YtgcicljklejmjaaDoor.turn q, ~~~c, ~~~d, Proofs.YtgcicljklejmjaaDoor.turn ra, Proofs.YtgcicljklejmjaaDoor.turn rb, by simp [Proofs.YtgcicljklejmjaaDoor.turn], by simp [Proofs.YtgcicljklejmjaaDoor.turn], ?_⟩
  rcases h with ⟨h, rfl⟩ | ⟨h, rfl⟩
  · exact .inr ⟨(not_lt_iff d c).2 h, rfl⟩
  · exact .inl ⟨(not_lt_iff c d).2 h, rfl⟩
theorem turn_turn (l : List UInt8) : turn (turn l) = l := by
  unfold turn; rw [List.map_map]; conv => rhs; rw [← List.map_id l]
  congr 1; funext c; simp
theorem turn_len (l : List UInt8) : (turn l).length = l.length := by simp [turn]

/-- Bytes with each 0 marked. -/
def esc (l : List UInt8) : List UInt8 := l.flatMap fun c => if c = 0 then [0, 255] else [c]
theorem esc_cons (c : UInt8) (l : List UInt8) : esc (c :: l) = (if c = 0 then [0, 255] else [c]) ++ esc l := rfl
theorem esc_diff : ∀ (t u : List UInt8), cb t u ≠ 0 → Diff (esc t ++ [0, 1]) (esc u ++ [0, 1]) (cb t u)
  | [], [], h => absurd (cb_self []) h
  | [], c :: u, _ => by
    rw [esc_cons]
    by_cases hc : c = 0
    · subst hc
      exact ⟨[0], 1, 255, [], esc u ++ [0, 1], rfl, by simp, .inl ⟨by decide, rfl⟩⟩
    · rw [if_neg hc]
      refine ⟨[], 0, c, [1], esc u ++ [0, 1], rfl, by simp, .inl ⟨?_, rfl⟩⟩
      exact UInt8.pos_iff_ne_zero.2 hc
  | c :: t, [], _ => by
    rw [esc_cons]
    by_cases hc : c = 0
    · subst hc
      exact ⟨[0], 255, 1, esc t ++ [0, 1], [], by simp, rfl, .inr ⟨by decide, rfl⟩⟩
    · rw [if_neg hc]
      refine ⟨[], c, 0, esc t ++ [0, 1], [1], by simp, rfl, .inr ⟨?_, rfl⟩⟩
      exact UInt8.pos_iff_ne_zero.2 hc
  | c :: t, d :: u, h => by
    by_cases hcd : c = d
    · subst hcd
      have e : cb (c :: t) (c :: u) = cb t u := by unfold cb; simp [Lib.compareBytes]
      rw [e] at h ⊢
      rw [esc_cons, esc_cons, List.append_assoc, List.append_assoc]
      exact (esc_diff t u h).pre _
    · have e : cb (c :: t) (d :: u) = if c < d then -1 else 1 := by
        unfold cb
        by_cases h1 : c < d
        · simp [Lib.compareBytes, h1]
        · have h2 : d < c := (UInt8.lt_or_lt_of_ne hcd).elim (fun h => absurd h h1) (fun h => h)
          simp [Lib.compareBytes, h1, h2]
      rw [e, esc_cons, esc_cons]
      by_cases hc : c = 0
      · subst hc
        rw [if_pos rfl, if_neg (fun e => hcd e.symm)]
        exact Diff.head hcd _ _
      · rw [if_neg hc]
        by_cases hd : d = 0
        · subst hd
          rw [if_pos rfl]
          exact Diff.head hcd _ _
        · rw [if_neg hd]
          exact Diff.head hcd _ _

/-- A number of n bytes, the greatest first. -/
def be : Nat → Nat → List UInt8
  | 0, _ => []
  | n + 1, x => UInt8.ofNat (x / 256 ^ n) :: be n (x % 256 ^ n)
theorem be_len : ∀ (n x : Nat), (be n x).length = n
  | 0, _ => rfl
  | n + 1, x => by simp [be, be_len n]
theorem be_diff : ∀ (n x y : Nat), x < 256 ^ n → y < 256 ^ n → x ≠ y → Diff (be n x) (be n y) (if x < y then -1 else 1)
  | 0, x, y, hx, hy, h => absurd (show x = y by simp at hx hy; omega) h
  | n + 1, x, y, hx, hy, h => by
    have hp : 0 < 256 ^ n := Nat.pow_pos (by omega)
    have q1 : x / 256 ^ n < 256 := Nat.div_lt_of_lt_mul (by rw [Nat.pow_succ, Nat.mul_comm] at hx; rw [Nat.mul_comm]; simpa [Nat.mul_comm] using hx)
    have q2 : y / 256 ^ n < 256 := Nat.div_lt_of_lt_mul (by rw [Nat.pow_succ, Nat.mul_comm] at hy; rw [Nat.mul_comm]; simpa [Nat.mul_comm] using hy)
    have ex := Nat.div_add_mod x (256 ^ n)
    have ey := Nat.div_add_mod y (256 ^ n)
    have rx := Nat.mod_lt x hp
    have ry := Nat.mod_lt y hp
    unfold be
    by_cases hq : x / 256 ^ n = y / 256 ^ n
    · have hr : x % 256 ^ n ≠ y % 256 ^ n := fun e => h (by rw [← ex, ← ey, hq, e])
      rw [hq]
      have := (be_diff n _ _ rx ry hr).pre [UInt8.ofNat (y / 256 ^ n)]
      have e : (x < y) = (x % 256 ^ n < y % 256 ^ n) := by
        have h1 : x < y ↔ x % 256 ^ n < y % 256 ^ n := by
          rw [hq] at ex
          constructor <;> intro h2 <;> omega
        exact propext h1
      simp only [e]
      exact this
    · have hne : UInt8.ofNat (x / 256 ^ n) ≠ UInt8.ofNat (y / 256 ^ n) := fun e => hq (by
        have h5 := congrArg UInt8.toNat e
        rw [UInt8.toNat_ofNat', UInt8.toNat_ofNat'] at h5
        exact ((Nat.mod_eq_of_lt q1).symm.trans h5).trans (Nat.mod_eq_of_lt q2))
      have := Diff.head hne (be n (x % 256 ^ n)) (be n (y % 256 ^ n))
      have e : (x < y) = (UInt8.ofNat (x / 256 ^ n) < UInt8.ofNat (y / 256 ^ n)) := by
        refine propext ?_
        have t1 : (UInt8.ofNat (x / 256 ^ n)).toNat = x / 256 ^ n := by rw [UInt8.toNat_ofNat']; exact Nat.mod_eq_of_lt q1
        have t2 : (UInt8.ofNat (y / 256 ^ n)).toNat = y / 256 ^ n := by rw [UInt8.toNat_ofNat']; exact Nat.mod_eq_of_lt q2
        rw [UInt8.lt_iff_toNat_lt, t1, t2]
        constructor
        · intro h2
          have h3 : x / 256 ^ n ≤ y / 256 ^ n := Nat.div_le_div_right (Nat.le_of_lt h2)
          exact Nat.lt_of_le_of_ne h3 hq
        · intro h2
          refine Nat.lt_of_not_le fun h3 => ?_
          have h4 : y / 256 ^ n ≤ x / 256 ^ n := Nat.div_le_div_right h3
          exact absurd h2 (Nat.not_lt.2 h4)
      simp only [e]
      exact this
end Go.Proofs.YtgcicljklejmjaaDoor
