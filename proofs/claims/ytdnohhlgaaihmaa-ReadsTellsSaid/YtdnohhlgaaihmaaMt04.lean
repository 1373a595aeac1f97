import Derived.Test.YtdnohhlgaaihmaaMt03
import Derived.WalkSpells
import Derived.Lib.Bytealg
import Derived.Laws.Externs
import Derived.Laws.CopyRow

/- append onto a row of one's own ('Ow'), with room or without: what the elder slice shows stays. General. -/
namespace Go
open Go.RowKit

/-- In the elder place, or in a new block. -/
def Stays (w w' : World) (v v' : Value) (n N : Nat) : Prop := (∃ A c, v = .slice A n c ∧ v' = .slice A N c) ∨ ∀ k, v'.ownBlock = some k → w.heap.size ≤ k ∧ k < w'.heap.size

section
variable {P : Program} {w : World} {o : Oper} {a : Act} {K : Act → World → Prop} {Q : Exit → Act → World → Prop}

theorem run_apo {t e : TypeId} {z : Value} {size bytes : Nat} (tb : Tb P t e z size bytes) (ty : TypeId) {v : Value} {n : Nat} {xs : List Value} (hs : Ow w e size v n xs)
    {x : Value} {m : Nat} {news : List Value} (hx : Sl w size x m news) (h1 : ∀ u ∈ news, u.oneCell' = true) (h63 : n + m ≤ maxLen) (hb : (n + m) * bytes ≤ 140737488355328) :
    ∃ A c w', (Builtin.append_ #[t, t] ty #[v, x]).run P w = .ok (.slice A (n + m) c) w' ∧ Ow w' e size (.slice A (n + m) c) (n + m) (xs ++ news) ∧ Ow w' e size v n xs ∧ Fr (fun k => v.ownBlock = some k) w w' ∧ Stays w w' v (.slice A (n + m) c) n (n + m) := by
  obtain ⟨i, hi, hz0, hz1, hz2⟩ := info_parts tb.info
  obtain ⟨X, cx, rfl, hcx1, hcx2⟩ := hx.form
  have hsmall : n + m ≤ 9223372036854775807 := by simp only [maxLen] at h63; omega
  have hlen : (xs ++ news).length = (n + m) * size := by rw [List.length_append, hs.1, hx.1, Nat.add_mul]
  obtain ⟨A, c, hv, hnc0⟩ : ∃ A c, v = .slice A n c ∧ n ≤ c := by
    rcases hs.2 with ⟨rfl, rfl⟩ | ⟨g, cap, cur, rfl, _, h, _⟩
    · exact ⟨_, _, rfl, Nat.le_refl _⟩
    · exact ⟨_, _, rfl, h⟩
  subst hv
  by_cases hm : m = 0
  · subst hm
    have hn : news = [] := List.eq_nil_of_length_eq_zero (by simpa using hx.1)
    subst hn
    refine ⟨A, c, w, ?_, by simpa using hs, hs, Fr.refl _ _, .inl ⟨A, c, rfl, rfl⟩⟩
    cases X with
    | none => cases A <;> simp [Builtin.append_, run_underlying tb.und, sizeOf, typeInfo, hi, Builtin.lenOf, Builtin.firstCells, storeCells, Nat.not_lt.2 hnc0]
    | some y =>
      have hf := run_firstCells_some (P := P) w i.size 0 y 0 cx [] (by simp) (by simp)
      cases A <;> simp [Builtin.append_, run_underlying tb.und, sizeOf, typeInfo, hi, Builtin.lenOf, hf, storeCells, Nat.not_lt.2 hnc0]
  · obtain ⟨b, off, cap', h2, hnews⟩ : ∃ b off cap', Value.slice X m cx = .slice (some ⟨b, off, none⟩) m cap' ∧ ∀ j u, news[j]? = some u → w.cell? ⟨b, off + j, none⟩ = some u := by
      rcases hx.2 with ⟨_, _, h2⟩ | ⟨b, off, cap', h2, _, _, hc⟩
      · omega
      · exact ⟨b, off, cap', h2, hc⟩
    have hnews' : ∀ j u, news[j]? = some u → w.cell? ((⟨b, off, none⟩ : Addr).add j) = some u := fun j u hu => by rw [Addr.add_lit]; exact hnews j u hu
    rw [h2]
    have grown : ∀ old, old < n + m → Ow (w.drew.alloc (.cells (xs.toArray ++ news.toArray ++ Builtin.zeroCells z.cells (grownCap w (n + m) old e - (n + m))) e)) e size
        (.slice (some ⟨w.heap.size, 0, none⟩) (n + m) (grownCap w (n + m) old e)) (n + m) (xs ++ news) := by
      intro old ho
      have hge := grownCap_ge w (n + m) old e
      refine ⟨hlen, .inr ⟨w.heap.size, _, _, rfl, heap_alloc_new w.drew _, hge, grownCap_le_maxLen w (n + m) old e h63, ?_, ?_⟩⟩
      · simp only [Array.size_append, List.size_toArray, size_zeroCells, tb.zs, hs.1, hx.1, ← Nat.add_mul]
        apply Nat.le_of_eq
        congr 1
        omega
      · simp only [Array.toList_append, List.append_assoc]
        rw [← List.append_assoc, ← hlen]
        exact List.take_left
    have frg : ∀ o, Fr no w (w.drew.alloc o) := fun o => Fr.alloc (Fr.drew (Fr.refl _ _)) o
    rcases hs.2 with ⟨h3, h4⟩ | ⟨g, cap, cur, h3, hg, hnc, hcm, hcs, htake⟩
    · cases h3
      have hx0 : xs = [] := List.eq_nil_of_length_eq_zero (by simpa using hs.1)
      subst hx0
      have hr := run_append_nil (P := P) w t ty e i z tb.und hi hz0 ⟨b, off, none⟩ m cap' news (by rw [hz1]; exact hx.1) hnews' (by omega) (by omega) (by simp only [Nat.zero_add] at hb; rw [hz2]; omega)
      have hgr := grown 0 (by omega)
      simp only [Nat.zero_add, List.nil_append, Array.empty_append] at hgr ⊢
      exact ⟨_, _, _, hr, hgr, ⟨by simp, .inl ⟨rfl, rfl⟩⟩, (frg _).mono (fun _ _ h => h.elim), .inr fun k hk => by
        have hk' : w.heap.size = k := by simpa [Value.ownBlock] using hk
        subst hk'
        exact ⟨Nat.le_refl _, by simp⟩⟩
    · cases h3
      by_cases hroom : n + m ≤ c
      · subst hz1
        have hfit : n * i.size + news.length ≤ cur.size := by rw [hx.1, ← Nat.add_mul]; exact Nat.le_trans (Nat.mul_le_mul_right _ hroom) hcs
        have hrun := run_append_room (P := P) w t ty e i tb.und hi g n c cur hg ⟨b, off, none⟩ m cap' news hx.1 hnews' h1 hroom hfit
        refine ⟨_, _, _, hrun, ⟨hlen, .inr ⟨g, c, _, rfl, setRow_heap w g cur _ e _ hg, hroom, hcm, ?_, ?_⟩⟩, ⟨hs.1, .inr ⟨g, c, _, rfl, setRow_heap w g cur _ e _ hg, hnc, hcm, ?_, ?_⟩⟩, ⟨rfl, rfl, rfl, by simp, fun k _ hk => setRow_other w g k _ (fun e => hk (by rw [e]; rfl))⟩, .inl ⟨_, _, rfl, rfl⟩⟩
        · simp only [List.size_toArray, List.length_append, List.length_take, List.length_drop, Array.length_toList]; omega
        · rw [htake, ← hlen]; exact List.take_left
        · simp only [List.size_toArray, List.length_append, List.length_take, List.length_drop, Array.length_toList]; omega
        · rw [htake, List.append_assoc, ← hs.1]; exact List.take_left
      · have holds : ∀ j u, xs[j]? = some u → w.cell? ((⟨g, 0, none⟩ : Addr).add j) = some u := by
          intro j u hu
          rw [Addr.add_lit, Nat.zero_add, cell_of_row w g j cur e (0, 0) hg]
          rw [← htake, List.getElem?_take] at hu
          split at hu
          · simpa using hu
          · cases hu
        have hr := run_append_grow (P := P) w t ty e i z tb.und hi hz0 ⟨g, 0, none⟩ n c xs (by rw [hz1]; exact hs.1) holds ⟨b, off, none⟩ m cap' news (by rw [hz1]; exact hx.1) hnews' (by omega) (by omega) (growslice_fits (by omega) (by rw [hz2]; exact hb))
        exact ⟨_, _, _, hr, grown c (by omega), hs.kept (frg _) (fun _ _ h => h.elim), (frg _).mono (fun _ _ h => h.elim), .inr fun k hk => by
          have hk' : w.heap.size = k := by simpa [Value.ownBlock] using hk
          subst hk'
          exact ⟨Nat.le_refl _, by simp⟩⟩

theorem wp_apo (s x : Operand) (t : TypeId) (ho : o.op = .call { callee := .builtin .append, args := #[s, x], argTypes := #[t, t] })
    {e : TypeId} {z : Value} {size bytes : Nat} (tb : Tb P t e z size bytes) {v : Value} {n : Nat} {xs : List Value} (hs : Ow w e size v n xs)
    {vx : Value} {m : Nat} {news : List Value} (hx : Sl w size vx m news) (hse : a.eval s = v) (hxe : a.eval x = vx) (h1 : ∀ u ∈ news, u.oneCell' = true) (h63 : n + m ≤ maxLen) (hb : (n + m) * bytes ≤ 140737488355328)
    (h : ∀ A N c w', N = n + m → Ow w' e size (.slice A N c) N (xs ++ news) → Ow w' e size v n xs → Fr (fun k => v.ownBlock = some k) w w' → Stays w w' v (.slice A N c) n N → K (a.put o.dst (.slice A N c)) w') : o.wp P a w K Q := by
  obtain ⟨A, c, w', hr, h2, h3, h4, h5⟩ := run_apo (P := P) tb o.type hs hx h1 h63 hb
  unfold Oper.wp execOp
  simp only [ho, resolve, invoke, builtin, Sem.run_bind, Sem.run_pure, Result.andThen_ok, List.map_toArray, List.map_cons, List.map_nil, hse, hxe, hr]
  exact h A _ c w' rfl h2 h3 h4 h5
variable {ops : Array Oper} {rest : List Oper}
theorem wpList_apo (hgd : o.guard = none) (s x : Operand) (t : TypeId) (ho : o.op = .call { callee := .builtin .append, args := #[s, x], argTypes := #[t, t] })
    {e : TypeId} {z : Value} {size bytes : Nat} (tb : Tb P t e z size bytes) {v : Value} {n : Nat} {xs : List Value} (hs : Ow w e size v n xs)
    {vx : Value} {m : Nat} {news : List Value} (hx : Sl w size vx m news) (hse : a.eval s = v) (hxe : a.eval x = vx) (h1 : ∀ u ∈ news, u.oneCell' = true) (h63 : n + m ≤ maxLen) (hb : (n + m) * bytes ≤ 140737488355328)
    (h : ∀ A N c w', N = n + m → Ow w' e size (.slice A N c) N (xs ++ news) → Ow w' e size v n xs → Fr (fun k => v.ownBlock = some k) w w' → Stays w w' v (.slice A N c) n N → wpList P ops Q rest (a.put o.dst (.slice A N c)) w') : wpList P ops Q (o :: rest) a w :=
  wpList_plain hgd fun _ hK => wp_apo s x t ho tb hs hx hse hxe h1 h63 hb fun A' N c w' h2 h3 h4 h5 h6 => hK _ _ (h A' N c w' h2 h3 h4 h5 h6)
end
end Go

/- Rws of one kind, each of its own. General. -/
namespace Go
open Go.RowKit

namespace Ow
variable {w w1 : World} {e sz n : Nat} {v : Value} {xs : List Value} {S : Nat → Prop}
theorem form (h : Ow w e sz v n xs) : ∃ A c, v = .slice A n c ∧ n ≤ c ∧ c ≤ maxLen := h.sl.form
theorem head {A : Option Addr} {c : Nat} (h : Ow w e sz (.slice A n c) n xs) (m : Nat) (hm : m ≤ n) : Ow w e sz (.slice A m c) m (xs.take (m * sz)) := by
  have hl := h.1
  have hmul : m * sz ≤ n * sz := Nat.mul_le_mul_right _ hm
  refine ⟨by rw [List.length_take]; omega, ?_⟩
  rcases h.2 with ⟨h1, h2⟩ | ⟨g, cap, cur, h1, hg, h2, h3, h4, h5⟩
  · cases h1
    obtain rfl : m = 0 := by omega
    exact .inl ⟨rfl, rfl⟩
  · cases h1
    exact .inr ⟨g, c, cur, rfl, hg, by omega, h3, h4, by rw [← h5, List.take_take, Nat.min_eq_left hmul]⟩
/-- The cells of element k. -/
theorem cells (h : Ow w e sz v n xs) (k : Nat) (hk : k < n) : ∃ g c, v = .slice (some ⟨g, 0, none⟩) n c ∧ n ≤ c ∧ c ≤ maxLen ∧ g < w.heap.size ∧ (∀ o, w.frozen? ⟨g, o, none⟩ = false) ∧
    (∀ (j : Nat) u, xs[j]? = some u → w.cell? ⟨g, j, none⟩ = some u) := by
  rcases h.2 with ⟨h1, h2⟩ | ⟨g, cap, cur, h1, hg, h2, h3, h4, h5⟩
  · omega
  · refine ⟨g, cap, h1, h2, h3, (Array.getElem?_eq_some_iff.1 hg).1, fun o => by simp [World.frozen?, hg], fun j u hu => ?_⟩
    rw [cell_of_row w g j cur e (0, 0) hg]
    rw [← h5, List.getElem?_take] at hu
    split at hu
    · simpa using hu
    · cases hu
/-- One cell of it written. -/
theorem set {g c j : Nat} (h : Ow w e sz (.slice (some ⟨g, 0, none⟩) n c) n xs) (_hj : j < xs.length) (u : Value) : Ow (w.setCell ⟨g, j, none⟩ u) e sz (.slice (some ⟨g, 0, none⟩) n c) n (xs.set j u) := by
  refine ⟨by rw [List.length_set]; exact h.1, ?_⟩
  rcases h.2 with ⟨h1, h2⟩ | ⟨g', cap, cur, h1, hg, h2, h3, h4, h5⟩
  · cases h1
  · cases h1
    refine .inr ⟨g, c, cur.setIfInBounds j u, rfl, hp_same hg j u, h2, h3, by simpa using h4, ?_⟩
    rw [Array.toList_setIfInBounds, List.take_set, h5]
end Ow

/-- The rows vs: the j-th has C j, in a block of its own. -/
structure Rws (w : World) (e : TypeId) (sz : Nat) (vs : List Value) (ns : Nat → Nat) (C : Nat → List Value) : Prop where
  row : ∀ j (h : j < vs.length), Ow w e sz vs[j] (ns j) (C j)
  apart : ∀ i j (hi : i < vs.length) (hj : j < vs.length) b, i ≠ j → vs[i].ownBlock = some b → vs[j].ownBlock ≠ some b

def InRows (vs : List Value) : Nat → Prop := fun b => ∃ v ∈ vs, v.ownBlock = some b

namespace Rws
variable {w w1 : World} {e sz : Nat} {vs : List Value} {ns : Nat → Nat} {C : Nat → List Value} {S : Nat → Prop}
theorem kept (h : Rws w e sz vs ns C) (f : Fr S w w1) (hn : ∀ b, InRows vs b → ¬ S b) : Rws w1 e sz vs ns C :=
  ⟨fun j hj => (h.row j hj).kept f (fun k hk => hn k ⟨_, List.getElem_mem hj, hk⟩), h.apart⟩
/-- One row turned. -/
theorem one (h : Rws w e sz vs ns C) (i : Nat) (hi : i < vs.length) (f : Fr (fun b => vs[i].ownBlock = some b) w w1) (c : List Value) (hr : Ow w1 e sz vs[i] (ns i) c) : Rws w1 e sz vs ns (fun j => if j = i then c else C j) := by
  refine ⟨fun j hj => ?_, h.apart⟩
  by_cases hji : j = i
  · subst hji; simpa using hr
  · simp only [hji, if_false]
    exact (h.row j hj).kept f (fun k hk => fun hk2 => h.apart i j hi hj k (fun e => hji e.symm) hk2 hk)
theorem congr {C' : Nat → List Value} (h : Rws w e sz vs ns C) (hc : ∀ j, j < vs.length → C j = C' j) : Rws w e sz vs ns C' :=
  ⟨fun j hj => by rw [← hc j hj]; exact h.row j hj, h.apart⟩
theorem lt (h : Rws w e sz vs ns C) : ∀ b, InRows vs b → b < w.heap.size := by
  rintro b ⟨v, hv, hb⟩
  obtain ⟨j, hj, rfl⟩ := List.getElem_of_mem hv
  exact (h.row j hj).lt b hb
end Rws

/-- Marks: of row i, place k. -/
def mks (m : Int → Nat → List Value) (i : Int) (n : Nat) : List Value := (List.range n).flatMap (m i)

theorem mks_succ (m : Int → Nat → List Value) (i : Int) (n : Nat) : mks m i (n + 1) = mks m i n ++ m i n := by simp [mks, List.range_succ]
theorem mks_len {m : Int → Nat → List Value} {sz : Nat} (hm : ∀ i k, (m i k).length = sz) (i : Int) (n : Nat) : (mks m i n).length = n * sz := by
  induction n with
  | zero => simp [mks]
  | succ n ih => rw [mks_succ, List.length_append, ih, hm, Nat.succ_mul]
theorem mks_take {m : Int → Nat → List Value} {sz : Nat} (hm : ∀ i k, (m i k).length = sz) (i : Int) (k n : Nat) (h : k ≤ n) : (mks m i n).take (k * sz) = mks m i k := by
  induction n with
  | zero =>
    obtain rfl : k = 0 := by omega
    simp [mks]
  | succ n ih =>
    by_cases hk : k = n + 1
    · subst hk
      exact List.take_of_length_le (by rw [mks_len hm]; exact Nat.le_refl _)
    · rw [mks_succ, List.take_append_of_le_length (by rw [mks_len hm]; exact Nat.mul_le_mul_right _ (by omega)), ih (by omega)]
theorem mks_get {m : Int → Nat → List Value} {sz : Nat} (hm : ∀ i k, (m i k).length = sz) (i : Int) (k n : Nat) (h : k < n) (j : Nat) (hj : j < sz) : (mks m i n)[k * sz + j]? = (m i k)[j]? := by
  have h1 := mks_take hm i (k + 1) n h
  have h2 : (mks m i n)[k * sz + j]? = ((mks m i n).take ((k + 1) * sz))[k * sz + j]? := by
    rw [List.getElem?_take, if_pos (by rw [Nat.succ_mul]; omega)]
  rw [h2, h1, mks_succ, List.getElem?_append_right (by rw [mks_len hm]; omega), mks_len hm]
  congr 1
  omega

end Go

/- Bytes of package bytes: Compare, Clone; slices.Clip. -/
namespace Go
open Go.RowKit
theorem run_loadB {P : Program} {w : World} (b : Nat) : ∀ (l : List UInt8) (o : Nat) (acc : ByteArray), (∀ (j : Nat) u, l[j]? = some u → w.cell? ⟨b, o + j, none⟩ = some (.int .u8 u.toNat)) →
    (Extern.Bytes.loadBytes ⟨b, o, none⟩ l.length acc).run P w = .ok ⟨acc.data ++ l.toArray⟩ w
  | [], o, acc, _ => by simp [Extern.Bytes.loadBytes]
  | c :: l, o, acc, h => by
    have h0 := h 0 c rfl
    have ih := run_loadB (P := P) (w := w) b l (o + 1) (acc.push c) (fun j u hu => by rw [show o + 1 + j = o + (j + 1) by omega]; exact h (j + 1) u (by simpa using hu))
    have hl := run_load P w ⟨b, o, none⟩
    simp only [Nat.add_zero] at h0
    rw [h0] at hl
    have e1 : (⟨b, o, none⟩ : Addr).add 1 = ⟨b, o + 1, none⟩ := Addr.add_lit _ _ _
    have e2 : ((c.toNat : Int).toNat).toUInt8 = c := by simp
    simp only [List.length_cons, Extern.Bytes.loadBytes, Sem.run_bind, hl, Result.andThen_ok, e1, e2, ih]
    simp [ByteArray.push]

theorem run_bytesOf {P : Program} {w : World} {v : Value} {l : List UInt8} (h : Sl w 1 v l.length (bvs l)) : (Extern.Bytes.bytesOf v).run P w = .ok ⟨l.toArray⟩ w := by
  rcases h.2 with ⟨A, rfl, h0⟩ | ⟨b, o, cap, rfl, h1, h2, h3⟩
  · obtain rfl : l = [] := List.eq_nil_of_length_eq_zero h0
    cases A <;> simp [Extern.Bytes.bytesOf, Extern.Bytes.loadBytes, ByteArray.empty, ByteArray.emptyWithCapacity] <;> rfl
  · have := run_loadB (P := P) (w := w) b l o .empty (fun j u hu => by
      have hj := (List.getElem?_eq_some_iff.1 hu).1
      have := h3 j _ (bvs_get l j hj)
      rw [List.getElem?_eq_getElem hj] at hu
      cases hu
      exact this)
    simp only [Extern.Bytes.bytesOf, this]
    simp [ByteArray.empty, ByteArray.emptyWithCapacity]; rfl
end Go
namespace Go.Proofs.Ytdnohhlgaaihmaa
open Go.RowKit

/-- Bytes compared. -/
def cb (l k : List UInt8) : Int := Lib.compareBytes l k

theorem cb_range (l k : List UInt8) : cb l k = -1 ∨ cb l k = 0 ∨ cb l k = 1 := by
  unfold cb
  induction l generalizing k with
  | nil => cases k <;> simp [Lib.compareBytes]
  | cons a l ih =>
    cases k with
    | nil => simp [Lib.compareBytes]
    | cons b k =>
      simp only [Lib.compareBytes]
      split
      · exact .inl rfl
      · split
        · exact .inr (.inr rfl)
        · exact ih k

set_option maxRecDepth 100000 in
set_option maxHeartbeats 400000 in
theorem cmp_any (w : World) (x y : Value) (l k : List UInt8) (hx : Sl w 1 x l.length (bvs l)) (hy : Sl w 1 y k.length (bvs k)) :
    Calls Try.prog 62 #[x, y] w fun e w' => e = .returned (.int .i64 (cb l k)) ∧ w' = w := by
  have hrun : (Extern.BytealgCompare.compare #[x, y]).run Try.prog w = .ok (.int .i64 (cb l k)) w := by
    change Sem.run Try.prog (do pure (goInt (Extern.BytealgCompare.cmp (← Extern.Bytes.bytesOf x) (← Extern.Bytes.bytesOf y)))) w = _
    simp only [Sem.run_bind, Sem.run_pure, Result.andThen_ok, run_bytesOf hx, run_bytesOf hy]
    rw [Lib.cmp_eq]
    rfl
  go_enter Try.func62, Try.ntmps62
  go_wp2
  rw [run_callFunc_extern Try.func122 (by kernel_rfl) (by kernel_rfl) (by kernel_rfl) (e := Extern.BytealgCompare.compare) (by kernel_rfl), hrun]
  simp only [Result.andThen]
  rw [Oper.upon_value]
  go_wp2
  go_ret
  exact ⟨rfl, rfl⟩

set_option maxRecDepth 100000 in
set_option maxHeartbeats 400000 in
theorem bclip_any (w : World) (A : Option Addr) (n c : Nat) (hc : n ≤ c) :
    Calls Try.prog 133 #[.slice A n c] w fun e w' => e = .returned (.slice A n n) ∧ w' = w := by
  by_cases hn : n = 0
  · subst hn
    go_enter Try.func133, Try.ntmps133
    go_wp2
    go_ret
    exact ⟨rfl, rfl⟩
  · go_enter Try.func133, Try.ntmps133
    go_wp2
    go_ret
    refine ⟨?_, rfl⟩
    cases A <;> simp

set_option maxRecDepth 100000 in
set_option maxHeartbeats 400000 in
/-- bytes.Clone: nil of nil; else a row of its own. -/
theorem bclone_any (w : World) (x : Value) (l : List UInt8) (hx : Sl w 1 x l.length (bvs l)) (hl : l.length ≤ 140737488351232) :
    Calls Try.prog 134 #[x] w fun e w' => ∃ A c, e = .returned (.slice A l.length c) ∧ Ow w' 5 1 (.slice A l.length c) l.length (bvs l) ∧ (∀ k, Value.ownBlock (.slice A l.length c) = some k → w.heap.size ≤ k) ∧ Fr no w w' := by
  have hx2 : (x = .slice none 0 0 ∧ l.length = 0) ∨ ∃ y cap, x = .slice (some y) l.length cap ∧ l.length ≤ cap ∧ cap ≤ maxLen := by
    rcases hx.2 with ⟨Y, h1, h2⟩ | ⟨b, o, cap, h1, h2, h3, _⟩
    · cases Y with
      | none => exact .inl ⟨h1, h2⟩
      | some y => exact .inr ⟨y, 0, by rw [h1, h2], by omega, Nat.zero_le _⟩
    · exact .inr ⟨_, cap, h1, h2, h3⟩
  rcases hx2 with ⟨rfl, h0⟩ | ⟨y, cap, rfl, h1, h2⟩
  · obtain rfl : l = [] := List.eq_nil_of_length_eq_zero h0
    have hnil := fun (w : World) (a : Option Addr) (n c n' c' : Nat) => Lib.run_eql_slice_nil (P := Try.prog) w 34 5 a n c n' c' (by kernel_rfl)
    go_enter Try.func134, Try.ntmps134
    go_wp2
    go_ret
    exact ⟨none, 0, rfl, ⟨rfl, .inl ⟨rfl, rfl⟩⟩, by simp [Value.ownBlock], Fr.refl _ _⟩
  · have HX := Lib.hid hx; clear hx
    have hnil := fun (w : World) (a : Option Addr) (n c n' c' : Nat) => Lib.run_eql_slice_nil (P := Try.prog) w 34 5 a n c n' c' (by kernel_rfl)
    go_enter Try.func134, Try.ntmps134
    go_wp2_with (at_builtin; refine wpList_apo (n := 0) (xs := []) rfl (.tmp 5) (.tmp 6) 34 rfl tbB ?own (HX.out.kept0 ?fr) rfl rfl (bvs_one l) ?b1 ?b2 ?go)
    case own => exact ⟨rfl, .inr ⟨w.heap.size, 0, #[], rfl, heap_alloc_new _ _, Nat.le_refl _, Nat.zero_le _, by simp, by simp⟩⟩
    case fr => (repeat first | exact Fr.refl _ _ | apply Fr.drew | apply Fr.alloc)
    case b1 => simp only [maxLen]; omega
    case b2 => omega
    case go =>
      intro A N c w' hN ho _ hf hs
      obtain rfl : N = l.length := by omega
      have HO := Lib.hid ho; have HF := Lib.hid hf; have HS := Lib.hid hs; clear ho hf hs
      go_wp2
      go_ret
      refine ⟨A, c, rfl, HO.out, fun k hk => ?_, ?_⟩
      · rcases HS.out with ⟨A', c', h, h'⟩ | h
        · cases h; cases h'
          have : w.heap.size = k := by simpa [Value.ownBlock] using hk
          omega
        · have := h k hk; simp at this; omega
      · exact Fr.trans (S := no) (by (repeat first | exact Fr.refl _ _ | apply Fr.drew | apply Fr.alloc)) HF.out (fun k hk h => by simp [Value.ownBlock] at h; omega)
end Go.Proofs.Ytdnohhlgaaihmaa

/- copy, clear, and append of what make makes, on rows of one's own. General. -/
namespace Go
open Go.RowKit

/-- Block g has these cells. -/
def Has (w : World) (g : Nat) (e : TypeId) (xs : List Value) : Prop := w.heap[g]? = some (.cells xs.toArray e (0, 0))

section
variable {P : Program} {w : World} {o : Oper} {a : Act} {K : Act → World → Prop} {Q : Exit → Act → World → Prop}

theorem fr_setRow (w : World) (g : Nat) (cs : Array Value) : Fr (fun k => k = g) w (w.setRow g cs) := ⟨rfl, rfl, rfl, by simp, fun k _ hk => setRow_other w g k _ (fun e => hk e)⟩

theorem sl_first {sz n m : Nat} {v : Value} {xs : List Value} (h : Sl w sz v n xs) (hm : m ≤ n) : (Builtin.firstCells sz m v).run P w = .ok (xs.take (m * sz)).toArray w := by
  have hl : (xs.take (m * sz)).length = m * sz := by
    have := h.1
    have h2 : m * sz ≤ n * sz := Nat.mul_le_mul_right _ hm
    rw [List.length_take]; omega
  rcases h.2 with ⟨A, rfl, rfl⟩ | ⟨b, off, cap, rfl, h1, h2, h3⟩
  · obtain rfl : m = 0 := by omega
    cases A with
    | none => simp [Builtin.firstCells]
    | some y => simpa using run_firstCells_some (P := P) w sz 0 y 0 0 [] (by simp) (by simp)
  · refine run_firstCells_some (P := P) w sz m _ n cap _ hl (fun j u hu => ?_)
    rw [Addr.add_lit]
    rw [List.getElem?_take] at hu
    split at hu
    · exact h3 j u hu
    · cases hu

theorem run_cp {dT sT e : TypeId} (hu : P.underlying dT = some (.slice e)) {i : TypeInfo} (hi : P.info? e = some i) {sz : Nat} (hsz : i.size = sz) {g off dLen dCap : Nat} {cur : List Value} (hg : Has w g e cur) {src : Value} {sLen : Nat} {xs : List Value} (hs : Sl w sz src sLen xs)
    (hfit : off + min sLen dLen * sz ≤ cur.length) (h1 : ∀ u ∈ xs.take (min sLen dLen * sz), u.oneCell' = true) (ty : TypeId) :
    ∃ w', (Builtin.copy_ #[dT, sT] ty #[.slice (some ⟨g, off, none⟩) dLen dCap, src]).run P w = .ok (goInt (min sLen dLen : Nat)) w' ∧ Has w' g e (cur.take off ++ xs.take (min sLen dLen * sz) ++ cur.drop (off + min sLen dLen * sz)) ∧ Fr (fun k => k = g) w w' := by
  have hf := sl_first (P := P) hs (Nat.min_le_left sLen dLen)
  have hlen : (xs.take (min sLen dLen * sz)).length = min sLen dLen * sz := by
    have := hs.1
    have h2 : min sLen dLen * sz ≤ sLen * sz := Nat.mul_le_mul_right _ (Nat.min_le_left _ _)
    rw [List.length_take]; omega
  have hst := run_storeCells_at P g off e (xs.take (min sLen dLen * sz)) 0 cur.toArray w hg (by rw [hlen]; simpa using hfit) h1
  obtain ⟨X, cx, hX, _, _⟩ := hs.form
  subst hX
  simp only [Nat.add_zero, hlen] at hst
  refine ⟨w.setRow g (cur.take off ++ xs.take (min sLen dLen * sz) ++ cur.drop (off + min sLen dLen * sz)).toArray, ?_, ?_, fr_setRow w g _⟩
  · have hnm : Nat.min sLen dLen = min sLen dLen := rfl
    subst hsz
    unfold Builtin.copy_
    simp [run_underlying hu, Builtin.lenOf, sizeOf, typeInfo, hi, hf, hst, hnm]
  · exact setRow_heap w g cur.toArray _ e _ hg

theorem wp_cp (d s : Operand) (dT sT : TypeId) (ho : o.op = .call { callee := .builtin .copy, args := #[d, s], argTypes := #[dT, sT] }) {e : TypeId} {z : Value} {sz bytes : Nat} (tb : Tb P dT e z sz bytes) {g off dLen dCap : Nat} {cur : List Value} (hg : Has w g e cur) {src : Value} {sLen : Nat} {xs : List Value} (hs : Sl w sz src sLen xs)
    (hd : a.eval d = .slice (some ⟨g, off, none⟩) dLen dCap) (hse : a.eval s = src) (hfit : off + min sLen dLen * sz ≤ cur.length) (h1 : ∀ u ∈ xs.take (min sLen dLen * sz), u.oneCell' = true)
    (h : ∀ w', Has w' g e (cur.take off ++ xs.take (min sLen dLen * sz) ++ cur.drop (off + min sLen dLen * sz)) → Fr (fun k => k = g) w w' → K (a.put o.dst (goInt (min sLen dLen : Nat))) w') : o.wp P a w K Q := by
  obtain ⟨i, hi, hz0, hz1, hz2⟩ := info_parts tb.info
  obtain ⟨w', hr, h2, h3⟩ := run_cp (P := P) (sT := sT) tb.und hi hz1 (dLen := dLen) (dCap := dCap) hg hs hfit h1 o.type
  unfold Oper.wp execOp
  simp only [ho, resolve, invoke, builtin, Sem.run_bind, Sem.run_pure, Result.andThen_ok, List.map_toArray, List.map_cons, List.map_nil, hd, hse, hr]
  exact h w' h2 h3
variable {ops : Array Oper} {rest : List Oper}
theorem wpList_cp (hgd : o.guard = none) (d s : Operand) (dT sT : TypeId) (ho : o.op = .call { callee := .builtin .copy, args := #[d, s], argTypes := #[dT, sT] }) {e : TypeId} {z : Value} {sz bytes : Nat} (tb : Tb P dT e z sz bytes) {g off dLen dCap : Nat} {cur : List Value} (hg : Has w g e cur) {src : Value} {sLen : Nat} {xs : List Value} (hs : Sl w sz src sLen xs)
    (hd : a.eval d = .slice (some ⟨g, off, none⟩) dLen dCap) (hse : a.eval s = src) (hfit : off + min sLen dLen * sz ≤ cur.length) (h1 : ∀ u ∈ xs.take (min sLen dLen * sz), u.oneCell' = true)
    (h : ∀ w', Has w' g e (cur.take off ++ xs.take (min sLen dLen * sz) ++ cur.drop (off + min sLen dLen * sz)) → Fr (fun k => k = g) w w' → wpList P ops Q rest (a.put o.dst (goInt (min sLen dLen : Nat))) w') : wpList P ops Q (o :: rest) a w :=
  wpList_plain hgd fun _ hK => wp_cp d s dT sT ho tb hg hs hd hse hfit h1 fun w' h2 h3 => hK _ _ (h w' h2 h3)

theorem run_cl {dT e : TypeId} {z : Value} {sz bytes : Nat} (tb : Tb P dT e z sz bytes) (hzc : ∀ u ∈ z.cells.toList, u.oneCell' = true) {g off n c : Nat} {cur : List Value} (hg : Has w g e cur) (hfit : off + n * sz ≤ cur.length) (ty : TypeId) :
    ∃ w' ys, (Builtin.clear_ #[dT] ty #[.slice (some ⟨g, off, none⟩) n c]).run P w = .ok (.tuple #[]) w' ∧ ys.length = n * sz ∧ Has w' g e (cur.take off ++ ys ++ cur.drop (off + n * sz)) ∧ Fr (fun k => k = g) w w' := by
  obtain ⟨i, hi, hz0, hz1, hz2⟩ := info_parts tb.info
  by_cases hn : n = 0
  · subst hn
    refine ⟨w, [], ?_, by simp, ?_, Fr.refl _ _⟩
    · simp [Builtin.clear_, run_underlying tb.und]
    · simpa using hg
  · obtain ⟨m, rfl⟩ : ∃ m, n = m + 1 := ⟨n - 1, by omega⟩
    have hv : (zeroValue e).run P w = .ok z w := by simp [zeroValue, typeInfo, hi, hz0]
    have hyl : (Builtin.zeroCells z.cells (m + 1)).toList.length = (m + 1) * sz := by rw [Array.length_toList, size_zeroCells, tb.zs]
    have hst := run_storeCells_at P g off e (Builtin.zeroCells z.cells (m + 1)).toList 0 cur.toArray w hg (by rw [hyl]; simpa using hfit) (fun u hu => by
      simp only [Builtin.zeroCells] at hu
      simp only [Array.toList_map, List.mem_map] at hu
      obtain ⟨j, _, rfl⟩ := hu
      have hpos : 0 < z.cells.size := by rw [tb.zs]; exact tb.pos
      have hj : j % z.cells.size < z.cells.size := Nat.mod_lt _ hpos
      rw [getElem!_pos z.cells _ hj]
      exact hzc _ (by simp))
    simp only [Nat.add_zero, hyl] at hst
    refine ⟨_, (Builtin.zeroCells z.cells (m + 1)).toList, ?_, hyl, setRow_heap w g cur.toArray _ e _ hg, fr_setRow w g _⟩
    simp [Builtin.clear_, run_underlying tb.und, hv, hst]

theorem wp_cl (s : Operand) (dT : TypeId) (ho : o.op = .call { callee := .builtin .clear, args := #[s], argTypes := #[dT] }) {e : TypeId} {z : Value} {sz bytes : Nat} (tb : Tb P dT e z sz bytes) (hzc : ∀ u ∈ z.cells.toList, u.oneCell' = true) {g off n c : Nat} {cur : List Value} (hg : Has w g e cur)
    (hse : a.eval s = .slice (some ⟨g, off, none⟩) n c) (hfit : off + n * sz ≤ cur.length)
    (h : ∀ w' ys, ys.length = n * sz → Has w' g e (cur.take off ++ ys ++ cur.drop (off + n * sz)) → Fr (fun k => k = g) w w' → K (a.put o.dst (.tuple #[])) w') : o.wp P a w K Q := by
  obtain ⟨w', ys, hr, h2, h3, h4⟩ := run_cl (P := P) tb hzc (c := c) hg hfit o.type
  unfold Oper.wp execOp
  simp only [ho, resolve, invoke, builtin, Sem.run_bind, Sem.run_pure, Result.andThen_ok, List.map_toArray, List.map_cons, List.map_nil, hse, hr]
  exact h w' ys h2 h3 h4

theorem wpList_cl (hgd : o.guard = none) (s : Operand) (dT : TypeId) (ho : o.op = .call { callee := .builtin .clear, args := #[s], argTypes := #[dT] }) {e : TypeId} {z : Value} {sz bytes : Nat} (tb : Tb P dT e z sz bytes) (hzc : ∀ u ∈ z.cells.toList, u.oneCell' = true) {g off n c : Nat} {cur : List Value} (hg : Has w g e cur)
    (hse : a.eval s = .slice (some ⟨g, off, none⟩) n c) (hfit : off + n * sz ≤ cur.length)
    (h : ∀ w' ys, ys.length = n * sz → Has w' g e (cur.take off ++ ys ++ cur.drop (off + n * sz)) → Fr (fun k => k = g) w w' → wpList P ops Q rest (a.put o.dst (.tuple #[])) w') : wpList P ops Q (o :: rest) a w :=
  wpList_plain hgd fun _ hK => wp_cl s dT ho tb hzc hg hse hfit fun w' ys h2 h3 h4 => hK _ _ (h w' ys h2 h3 h4)

/-- append(s[:n], make(S, m)...) where there is no room: a new block. -/
theorem run_apm {t u e : TypeId} {z : Value} {sz bytes : Nat} (tb : Tb P t e z sz bytes) (hu : P.underlying u = some (.int .i64)) (ty : TypeId) {b : Addr} {n c m : Nat} {xs : List Value} (hl : xs.length = n * sz) (hxs : ∀ j v, xs[j]? = some v → w.cell? (b.add j) = some v) (hroom : c < n + m) (hm : 0 < m) (h63 : n + m ≤ maxLen) (hb : (n + m) * bytes ≤ 140737488355328) :
    ∃ c' ys w', (Builtin.append_ #[t, u] ty #[.slice (some b) n c, .int .i64 (m : Int)]).run P w = .ok (.slice (some ⟨w.heap.size, 0, none⟩) (n + m) c') w' ∧ n + m ≤ c' ∧ c' ≤ maxLen ∧ (xs ++ ys).length = c' * sz ∧ Has w' w.heap.size e (xs ++ ys) ∧ Fr no w w' ∧ w'.heap.size = w.heap.size + 1 := by
  obtain ⟨i, hi, hz0, hz1, hz2⟩ := info_parts tb.info
  subst hz1
  have hl63 : n + m ≤ 9223372036854775807 := by simp only [maxLen] at h63; omega
  have hms : ¬ (m * i.size = 0) := Nat.mul_ne_zero (by omega) (by have := tb.pos; omega)
  have hn : ¬ (n + m ≤ c) := by omega
  have h63' : ¬ (9223372036854775807 < ((n : Int) + (m : Int))) := by omega
  have h48' : ¬ (281474976710656 < Builtin.nextslicecap (n + m) c * i.bytes) := by
    have := growslice_fits (need := n + m) (old := c) (bytes := i.bytes) (by omega) (by rw [hz2]; exact hb)
    omega
  have hmb : m * bytes ≤ (n + m) * bytes := Nat.mul_le_mul_right _ (by omega)
  have h48m : ¬ (281474976710656 < (m : Int) * (i.bytes : Int)) := by rw [hz2]; omega
  have hwr : IntKind.i64.wrap (m : Int) = (m : Int) := by rw [IntKind.wrap_i64]; omega
  have hm0 : ¬ ((m : Int) < 0) := by omega
  have hge := grownCap_ge w (n + m) c e
  have hle := grownCap_le_maxLen w (n + m) c e h63
  have hfo := run_firstCells_some (P := P) w.drew i.size n b n c xs hl (by simpa using hxs)
  have hrun : (Builtin.append_ #[t, u] ty #[.slice (some b) n c, .int .i64 (m : Int)]).run P w =
      .ok (.slice (some ⟨w.heap.size, 0, none⟩) (n + m) (grownCap w (n + m) c e))
        (w.drew.alloc (.cells (xs ++ ((Builtin.zeroCells z.cells m).toList ++ (Builtin.zeroCells z.cells (grownCap w (n + m) c e - (n + m))).toList)).toArray e)) := by
    unfold Builtin.append_
    simp [run_underlying tb.und, run_underlying hu, sizeOf, typeInfo, zeroValue, hi, hz0, asInt, asIntOf, hwr, hm0, h48m, hms, hn, h63', h48', Question.forced, hfo, newRow, grownCap]
    congr 2
    apply Array.ext'
    simp
  refine ⟨grownCap w (n + m) c e, _, _, hrun, hge, hle, ?_, heap_alloc_new w.drew _, Fr.alloc (Fr.drew (Fr.refl _ _)) _, by simp⟩
  simp only [List.length_append, Array.length_toList, size_zeroCells, tb.zs, hl, ← Nat.add_mul]
  congr 1
  omega

theorem wp_apm (s x : Operand) (t u : TypeId) (ho : o.op = .call { callee := .builtin .append, args := #[s, x], argTypes := #[t, u] }) {e : TypeId} {z : Value} {sz bytes : Nat} (tb : Tb P t e z sz bytes) (hu : P.underlying u = some (.int .i64)) {b : Addr} {n c m : Nat} {xs : List Value} (hl : xs.length = n * sz) (hxs : ∀ j v, xs[j]? = some v → w.cell? (b.add j) = some v) (hse : a.eval s = .slice (some b) n c) {mi : Int} (hxe : a.eval x = .int .i64 mi) (hmi : mi = (m : Int)) (hroom : c < n + m) (hm : 0 < m) (h63 : n + m ≤ maxLen) (hb : (n + m) * bytes ≤ 140737488355328)
    (h : ∀ c' N ys w', N = n + m → N ≤ c' → c' ≤ maxLen → (xs ++ ys).length = c' * sz → Has w' w.heap.size e (xs ++ ys) → Fr no w w' → w'.heap.size = w.heap.size + 1 → K (a.put o.dst (.slice (some ⟨w.heap.size, 0, none⟩) N c')) w') : o.wp P a w K Q := by
  subst hmi
  obtain ⟨c', ys, w', hr, h2, h3, h4, h5, h6, h7⟩ := run_apm (P := P) tb hu o.type hl hxs hroom hm h63 hb
  unfold Oper.wp execOp
  simp only [ho, resolve, invoke, builtin, Sem.run_bind, Sem.run_pure, Result.andThen_ok, List.map_toArray, List.map_cons, List.map_nil, hse, hxe, hr]
  exact h c' _ ys w' rfl h2 h3 h4 h5 h6 h7

theorem wpList_apm (hgd : o.guard = none) (s x : Operand) (t u : TypeId) (ho : o.op = .call { callee := .builtin .append, args := #[s, x], argTypes := #[t, u] }) {e : TypeId} {z : Value} {sz bytes : Nat} (tb : Tb P t e z sz bytes) (hu : P.underlying u = some (.int .i64)) {b : Addr} {n c m : Nat} {xs : List Value} (hl : xs.length = n * sz) (hxs : ∀ j v, xs[j]? = some v → w.cell? (b.add j) = some v) (hse : a.eval s = .slice (some b) n c) {mi : Int} (hxe : a.eval x = .int .i64 mi) (hmi : mi = (m : Int)) (hroom : c < n + m) (hm : 0 < m) (h63 : n + m ≤ maxLen) (hb : (n + m) * bytes ≤ 140737488355328)
    (h : ∀ c' N ys w', N = n + m → N ≤ c' → c' ≤ maxLen → (xs ++ ys).length = c' * sz → Has w' w.heap.size e (xs ++ ys) → Fr no w w' → w'.heap.size = w.heap.size + 1 → wpList P ops Q rest (a.put o.dst (.slice (some ⟨w.heap.size, 0, none⟩) N c')) w') : wpList P ops Q (o :: rest) a w :=
  wpList_plain hgd fun _ hK => wp_apm s x t u ho tb hu hl hxs hse hxe hmi hroom hm h63 hb fun c' N ys w' h1 h2 h3 h4 h5 h6 h7 => hK _ _ (h c' N ys w' h1 h2 h3 h4 h5 h6 h7)
end
end Go
