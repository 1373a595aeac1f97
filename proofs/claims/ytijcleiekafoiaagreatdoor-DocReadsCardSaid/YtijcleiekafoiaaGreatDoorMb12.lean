import Derived.Test.YtijcleiekafoiaaGreatDoorMb05
import Derived.Test.YtijcleiekafoiaaGreatDoorMb10
import Derived.Test.YtijcleiekafoiaaGreatDoorMb11

/- Reading values out of bytes: what both readers (the program's, the document's) come to; the lists under way. No program's function is named. -/
namespace Go.Proofs.YtijcleiekafoiaaGreatDoor
open Go.RowKit
open Tr

/-- A value as it lies, all of it in blocks that are there. -/
inductive Held (w : World) : Tr Mm → Prop
  | mk (x : Tr Mm) (B : Sl w 1 x.B x.bs.length (bvs x.bs)) (L : Sl w 7 x.L x.l.length (x.l.flatMap cells)) (F : Sl w 8 x.F x.f.length (x.f.flatMap fcells))
      (at0 : ∀ k, x.B.ownBlock = some k ∨ x.L.ownBlock = some k ∨ x.F.ownBlock = some k → k < w.heap.size) (kids : ∀ y ∈ x.kids, Held w y) : Held w x
theorem Held.B {w : World} {x : Tr Mm} : Held w x → Sl w 1 x.B x.bs.length (bvs x.bs) | .mk _ h _ _ _ _ => h
theorem Held.L {w : World} {x : Tr Mm} : Held w x → Sl w 7 x.L x.l.length (x.l.flatMap cells) | .mk _ _ h _ _ _ => h
theorem Held.F {w : World} {x : Tr Mm} : Held w x → Sl w 8 x.F x.f.length (x.f.flatMap fcells) | .mk _ _ _ h _ _ => h
theorem Held.at0 {w : World} {x : Tr Mm} : Held w x → ∀ k, x.B.ownBlock = some k ∨ x.L.ownBlock = some k ∨ x.F.ownBlock = some k → k < w.heap.size | .mk _ _ _ _ h _ => h
theorem Held.kids {w : World} {x : Tr Mm} : Held w x → ∀ y ∈ x.kids, Held w y | .mk _ _ _ _ _ h => h
theorem Held.lt {w : World} {x : Tr Mm} (h : Held w x) : ∀ k, Blk x k → k < w.heap.size := by
  induction x using Tr.ind with
  | h x ih =>
    intro k hk
    rcases hk.cases with hk | hk | hk | ⟨y, hy, hk⟩
    · exact h.at0 k (.inl hk)
    · exact h.at0 k (.inr (.inl hk))
    · exact h.at0 k (.inr (.inr hk))
    · exact ih y hy (h.kids y hy) k hk
theorem Held.kept {w w1 : World} {S : Nat → Prop} {x : Tr Mm} (h : Held w x) (f : Fr S w w1) (hS : ∀ k, Blk x k → ¬ S k) : Held w1 x := by
  induction x using Tr.ind with
  | h x ih =>
    exact ⟨x, h.B.kept f (fun k hk => hS k (.B x k hk)), h.L.kept f (fun k hk => hS k (.L x k hk)), h.F.kept f (fun k hk => hS k (.F x k hk)), fun k hk => Nat.lt_of_lt_of_le (h.at0 k hk) f.size, fun y hy => ih y hy (h.kids y hy) (fun k hk => hS k (.kid x y k hy hk))⟩
theorem Held.kept0 {w w1 : World} {x : Tr Mm} (h : Held w x) (f : Fr no w w1) : Held w1 x := h.kept f (fun _ _ h => h)
theorem held_leaf (w : World) (k : UInt8) (b : Bool) (i : Int) (t : List UInt8) : Held w (.mk k b i t [] nil3 [] []) :=
  ⟨_, Sl.nil _ _, Sl.nil _ _, Sl.nil _ _, (fun k h => by rcases h with h | h | h <;> cases h), fun _ h => nomatch h⟩
theorem held_raw {w : World} {v : Value} {t : List UInt8} (h : Sl w 1 v t.length (bvs t)) (hv : ∀ k, v.ownBlock = some k → k < w.heap.size) (k : UInt8) (b : Bool) (i : Int) : Held w (.mk k b i [] t (v, .slice none 0 0, .slice none 0 0) [] []) :=
  ⟨_, h, Sl.nil _ _, Sl.nil _ _, (fun k h => by rcases h with h | h | h; exact hv k h; cases h; cases h), fun _ h => nomatch h⟩
theorem held_list {w : World} {v : Value} {ys : List (Tr Mm)} (h : Ow w 27 7 v ys.length (ys.flatMap cells)) (hy : ∀ y ∈ ys, Held w y) (k : UInt8) (b : Bool) (i : Int) :
    Held w (.mk k b i [] [] (.slice none 0 0, v, .slice none 0 0) ys []) :=
  ⟨_, Sl.nil _ _, h.sl, Sl.nil _ _, (fun k hk => by rcases hk with hk | hk | hk; cases hk; exact h.lt k hk; cases hk), fun y hy' => hy y (by rw [kids_list] at hy'; exact hy')⟩
theorem kids_flds {v : Value} {ys : List (List UInt8 × Tr Mm)} {k : UInt8} {b : Bool} {i : Int} : Tr.kids (.mk k b i [] [] (.slice none 0 0, .slice none 0 0, v) [] ys) = ys.map Prod.snd := by
  simp [kids, Tr.l, Tr.f]
theorem held_flds {w : World} {v : Value} {ys : List (List UInt8 × Tr Mm)} (h : Ow w 87 8 v ys.length (ys.flatMap fcells)) (hy : ∀ y ∈ ys, Held w y.2) (k : UInt8) (b : Bool) (i : Int) :
    Held w (.mk k b i [] [] (.slice none 0 0, .slice none 0 0, v) [] ys) :=
  ⟨_, Sl.nil _ _, Sl.nil _ _, h.sl, (fun k hk => by rcases hk with hk | hk | hk; cases hk; cases hk; exact h.lt k hk), fun y hy' => by
    rw [kids_flds] at hy'
    obtain ⟨p, hp', rfl⟩ := List.mem_map.1 hy'
    exact hy p hp'⟩
theorem blk_flds {v : Value} {ys : List (List UInt8 × Tr Mm)} {k : UInt8} {b : Bool} {i : Int} {j : Nat} (h : Blk (.mk k b i [] [] (.slice none 0 0, .slice none 0 0, v) [] ys) j) : v.ownBlock = some j ∨ ∃ y ∈ ys, Blk y.2 j := by
  rcases h.cases with h | h | h | ⟨y, h, hb⟩
  · cases h
  · cases h
  · exact .inl h
  · rw [kids_flds] at h
    obtain ⟨p, hp', rfl⟩ := List.mem_map.1 h
    exact .inr ⟨p, hp', hb⟩

/-- A reader's state is lost. -/
def Lost (s : RS) (bad : Bool) : Prop := bad = true ∨ s.e ≠ 0
/-- Some value came out. -/
def AggForm (e : Ending) : Prop := ∃ k b i t BA bn bc LA ln lc FA fn fc, e = .returned (.agg #[.int .u8 k, .bool b, .int .i64 i, .string t, .slice BA bn bc, .slice LA ln lc, .slice FA fn fc])

/-- What a reader's state needs: it stays, where nothing older than m is written; what it writes is older. -/
structure RdK (m : Nat) (S : Nat → Prop) (D : World → RS → Bool → Prop) : Prop where
  kept : ∀ {W W1 : World} {S1 : Nat → Prop} {s : RS} {b : Bool}, D W s b → Fr S1 W W1 → (∀ k, S1 k → m ≤ k) → D W1 s b
  lt : ∀ k, S k → k < m

/-- What is read at the depth d of the bytes r. -/
def DOut (l : List UInt8) (S : Nat → Prop) (D : World → RS → Bool → Prop) (d : Nat) (r : List UInt8) (w : World) (e : Ending) (w' : World) : Prop :=
  Fr S w w' ∧ ((∃ x r' s', ddec d r = some (bare x, r') ∧ e = .returned x.agg ∧ Held w' x ∧ (∀ k, Blk x k → w.heap.size ≤ k) ∧ D w' s' false ∧ RS.On l s' r')
    ∨ (ddec d r = none ∧ AggForm e ∧ ∃ s' b', D w' s' b' ∧ Lost s' b'))
/-- What is read where all is lost. -/
def WOut (S : Nat → Prop) (D : World → RS → Bool → Prop) (w : World) (e : Ending) (w' : World) : Prop := Fr S w w' ∧ AggForm e ∧ ∃ s' b', D w' s' b' ∧ Lost s' b'

theorem agg_form (x : Tr Mm) {BA LA FA : Option Addr} {bc lc fc : Nat} (h : Forms x BA bc LA lc FA fc) : AggForm (.returned x.agg) := ⟨_, _, _, _, _, _, _, _, _, _, _, _, _, by rw [h.agg]⟩

/-- Values of bytes that are not too long lie as the others do. -/
theorem held_good {w : World} {N : Nat} (hN : N * 120 ≤ 140737488351232) (x : Tr Mm) : FitAll (bare x) → (denc (bare x)).length ≤ N → Held w x → Tr.Good w x := by
  induction x using Tr.ind with
  | h x ih =>
    intro hf hl ho
    obtain ⟨⟨hk1, hk2⟩, s2, s3, s4, s5, s6, s7⟩ := shape_parts hf.here.shape
    have hN2 : N ≤ 140737488351232 := by omega
    have hk : (bare x).k = 1 ∨ (bare x).k = 2 ∨ (bare x).k = 3 ∨ (bare x).k = 4 ∨ (bare x).k = 5 ∨ (bare x).k = 6 ∨ (bare x).k = 7 := kinds7 hk1 hk2
    rw [denc_eq] at hl
    have hmem : ∀ y ∈ x.l, (bare x).k = 6 → (denc (bare y)).length ≤ N := fun y hy h => by
      rw [if_neg (by rw [h]; decide), if_neg (by rw [h]; decide), if_neg (by rw [h]; decide), if_neg (by rw [h]; decide), if_neg (by rw [h]; decide), if_pos h] at hl
      simp only [List.length_cons, List.length_append] at hl
      have := len_mem_flat (f := denc) (show bare y ∈ (bare x).l by rw [bare_l]; exact List.mem_map_of_mem hy)
      omega
    have hmemf : ∀ p ∈ x.f, (bare x).k = 7 → p.1.length + (denc (bare p.2)).length ≤ N := fun p hp h => by
      rw [if_neg (by rw [h]; decide), if_neg (by rw [h]; decide), if_neg (by rw [h]; decide), if_neg (by rw [h]; decide), if_neg (by rw [h]; decide), if_neg (by rw [h]; decide), if_pos h] at hl
      simp only [List.length_cons, List.length_append] at hl
      have := len_mem_flat (f := fenc) (show (p.1, bare p.2) ∈ (bare x).f by rw [bare_f]; exact List.mem_map.2 ⟨p, hp, rfl⟩)
      unfold fenc vt at this
      simp only [List.length_append] at this
      unfold fenc vt at hl
      omega
    have hcl : ∀ (c : List (Tr Unit)), (∀ y ∈ c, 1 ≤ y.k ∧ y.k ≤ 7) → c.length ≤ (c.flatMap denc).length := fun c hc => by
      induction c with
      | nil => simp
      | cons y c ih2 =>
        have h1 := denc_pos y (hc y (.head _)).1 (hc y (.head _)).2
        have h2 := ih2 fun z hz => hc z (.tail _ hz)
        rw [List.flatMap_cons, List.length_append, List.length_cons]; omega
    have hcf : ∀ (c : List (List UInt8 × Tr Unit)), c.length ≤ (c.flatMap fenc).length := fun c => by
      induction c with
      | nil => simp
      | cons y c ih2 =>
        have h1 := vi_pos y.1.length
        rw [List.flatMap_cons, List.length_append, List.length_cons]
        unfold fenc vt at ih2 ⊢
        simp only [List.length_append] at ih2 ⊢
        omega
    have ht : x.t.length ≤ N := by
      by_cases h : (bare x).k = 4
      · rw [if_neg (by rw [h]; decide), if_neg (by rw [h]; decide), if_neg (by rw [h]; decide), if_pos h] at hl
        unfold vt at hl
        rw [bare_t] at hl
        simp only [List.length_cons, List.length_append] at hl
        omega
      · have := s4 h
        rw [bare_t] at this
        rw [this]; simp
    have hb : x.bs.length ≤ N := by
      by_cases h : (bare x).k = 5
      · rw [if_neg (by rw [h]; decide), if_neg (by rw [h]; decide), if_neg (by rw [h]; decide), if_neg (by rw [h]; decide), if_pos h] at hl
        unfold vt at hl
        rw [bare_bs] at hl
        simp only [List.length_cons, List.length_append] at hl
        omega
      · have := s5 h
        rw [bare_bs] at this
        rw [this]; simp
    have hll : x.l.length ≤ N := by
      by_cases h : (bare x).k = 6
      · rw [if_neg (by rw [h]; decide), if_neg (by rw [h]; decide), if_neg (by rw [h]; decide), if_neg (by rw [h]; decide), if_neg (by rw [h]; decide), if_pos h] at hl
        simp only [List.length_cons, List.length_append] at hl
        have h1 := hcl (bare x).l fun y hy => by
          obtain ⟨⟨h1, h2⟩, _⟩ := shape_parts (hf.kid y (Tr.kids_l hy)).here.shape
          exact ⟨h1, h2⟩
        rw [bare_l, List.length_map] at h1
        rw [bare_l] at hl
        omega
      · have := s6 h
        rw [bare_l] at this
        simp only [List.map_eq_nil_iff] at this
        rw [this]; simp
    have hlf : x.f.length ≤ N := by
      by_cases h : (bare x).k = 7
      · rw [if_neg (by rw [h]; decide), if_neg (by rw [h]; decide), if_neg (by rw [h]; decide), if_neg (by rw [h]; decide), if_neg (by rw [h]; decide), if_neg (by rw [h]; decide), if_pos h] at hl
        simp only [List.length_cons, List.length_append] at hl
        have h1 := hcf (bare x).f
        rw [bare_f, List.length_map] at h1
        rw [bare_f] at hl
        omega
      · have := s7 h
        rw [bare_f] at this
        simp only [List.map_eq_nil_iff] at this
        rw [this]; simp
    have hkl : ∀ y ∈ x.l, (bare x).k = 6 := fun y hy => by
      by_cases h : (bare x).k = 6
      · exact h
      · have := s6 h
        rw [bare_l] at this
        simp only [List.map_eq_nil_iff] at this
        rw [this] at hy; cases hy
    have hkf : ∀ p ∈ x.f, (bare x).k = 7 := fun p hp => by
      by_cases h : (bare x).k = 7
      · exact h
      · have := s7 h
        rw [bare_f] at this
        simp only [List.map_eq_nil_iff] at this
        rw [this] at hp; cases hp
    have hi := hf.here.i
    rw [bare_i] at hi
    refine ⟨x, ⟨ho.B, ho.L, ho.F, hi, Nat.le_trans ht hN2, Nat.le_trans hb hN2, Nat.le_trans hll hN2, Nat.le_trans hlf hN2, fun p hp => ?_, ?_, ?_⟩, fun y hy => ?_⟩
    · have := hmemf p hp (hkf p hp)
      exact Nat.le_trans (by omega) hN2
    · show x.l.length * 104 ≤ 140737488351232
      omega
    · show x.f.length * 120 ≤ 140737488351232
      omega
    · have hfy : FitAll (bare y) := hf.kid _ (by rw [bare_kids]; exact List.mem_map_of_mem hy)
      have hly : (denc (bare y)).length ≤ N := by
        rcases List.mem_append.1 hy with h | h
        · exact hmem y h (hkl y h)
        · obtain ⟨p, hp, rfl⟩ := List.mem_map.1 h
          have := hmemf p hp (hkf p hp)
          omega
      exact ih y hy hfy hly (ho.kids y hy)
end Go.Proofs.YtijcleiekafoiaaGreatDoor

/- Lists and fields that are being read, for both readers. Printed by mkdrdl.py. -/
namespace Go.Proofs.YtijcleiekafoiaaGreatDoor
open Go.RowKit
open Tr

theorem stays_new {W W' : World} {A A' : Option Addr} {n c n' c' m m' : Nat} (st : Stays W W' (.slice A n c) (.slice A' n' c') m m') : ∀ k, Value.ownBlock (.slice A' n' c') = some k → Value.ownBlock (.slice A n c) = some k ∨ W.heap.size ≤ k := stays_own st
theorem ddecL_nil (g : List UInt8 → Option (Tr Unit × List UInt8)) (b : List UInt8) : ddecL g 0 b = some ([], b) := rfl
theorem ddecF_nil (g : List UInt8 → Option (Tr Unit × List UInt8)) (b : List UInt8) : ddecF g 0 b = some ([], b) := rfl
theorem ddecL_succ (g : List UInt8 → Option (Tr Unit × List UInt8)) (n : Nat) (b : List UInt8) : ddecL g (n + 1) b = match g b with
    | none => none
    | some (x, s) => (ddecL g n s).map fun p => (x :: p.1, p.2) := rfl
theorem ddecF_succ (g : List UInt8 → Option (Tr Unit × List UInt8)) (n : Nat) (b : List UInt8) : ddecF g (n + 1) b = match rvt b with
    | none => none
    | some (t, r) => match g r with
      | none => none
      | some (x, s) => (ddecF g n s).map fun p => ((t, x) :: p.1, p.2) := rfl

/-- What comes of reading one more. -/
def ItemOut (l : List UInt8) (S : Nat → Prop) (D : World → RS → Bool → Prop) (Good : Tr Mm → List UInt8 → Prop) (Bad : Prop) (w : World) (e : Ending) (w' : World) : Prop :=
  Fr S w w' ∧ ((∃ y r' s', Good y r' ∧ e = .returned y.agg ∧ Held w' y ∧ (∀ k, Blk y k → w.heap.size ≤ k) ∧ D w' s' false ∧ RS.On l s' r') ∨ (Bad ∧ AggForm e ∧ ∃ s' b', D w' s' b' ∧ Lost s' b'))
theorem item_l {l : List UInt8} {S : Nat → Prop} {D : World → RS → Bool → Prop} {d k : Nat} {r : List UInt8} {w w' : World} {e : Ending} (h : DOut l S D d r w e w') : ItemOut l S D (fun y r' => ddec d r = some (bare y, r')) (ddecL (ddec d) (k + 1) r = none) w e w' := by
  refine ⟨h.1, ?_⟩
  rcases h.2 with ⟨x, r', s', h1, h2⟩ | ⟨h1, h2⟩
  · exact .inl ⟨x, r', s', h1, h2⟩
  · exact .inr ⟨by rw [ddecL_succ, h1], h2⟩
theorem item_f {l : List UInt8} {S : Nat → Prop} {D : World → RS → Bool → Prop} {d k : Nat} {r r1 t : List UInt8} {w w' : World} {e : Ending} (ht : rvt r = some (t, r1)) (h : DOut l S D d r1 w e w') : ItemOut l S D (fun y r' => ddec d r1 = some (bare y, r')) (ddecF (ddec d) (k + 1) r = none) w e w' := by
  refine ⟨h.1, ?_⟩
  rcases h.2 with ⟨x, r', s', h1, h2⟩ | ⟨h1, h2⟩
  · exact .inl ⟨x, r', s', h1, h2⟩
  · exact .inr ⟨by rw [ddecF_succ, ht]; simp only; rw [h1], h2⟩
theorem item_w {l : List UInt8} {S : Nat → Prop} {D : World → RS → Bool → Prop} {d k : Nat} {r : List UInt8} {w w' : World} {e : Ending} (ht : rvt r = none) (h : WOut S D w e w') : ItemOut l S D (fun _ _ => False) (ddecF (ddec d) (k + 1) r = none) w e w' :=
  ⟨h.1, .inr ⟨by rw [ddecF_succ, ht], h.2⟩⟩
theorem built8d (w : World) (a b c d e f h i : Value) (T : TypeId) : Sl (w.alloc (.cells #[a, b, c, d, e, f, h, i] T)) 8 (.slice (some ⟨w.heap.size, 0, none⟩) 1 1) 1 [a, b, c, d, e, f, h, i] := by
  refine ⟨rfl, .inr ⟨w.heap.size, 0, 1, rfl, by omega, by simp [maxLen], fun j u hu => ?_⟩⟩
  rw [cell_of_row _ _ _ _ _ (0, 0) (heap_alloc_new w _)]
  simpa using hu

/-- L under way: n0 of them are to be read of the bytes r0, m of them are left in r. -/
structure LG (l : List UInt8) (D : World → RS → Bool → Prop) (d g m0 : Nat) (wr : World) (n0 : Nat) (r0 : List UInt8) (m : Nat) (ys : List (Tr Mm)) (s : RS) (r : List UInt8) (A : Option Addr) (c : Nat) : Prop where
  row : wr.heap[g]? = some (.cells #[.int .u8 6, .bool false, .int .i64 0, .string ⟨#[]⟩, .slice none 0 0, .slice A ys.length c, .slice none 0 0] 27 (0, 0))
  ow : Ow wr 27 7 (.slice A ys.length c) ys.length (ys.flatMap cells)
  own : ∀ k, Value.ownBlock (.slice A ys.length c) = some k → m0 < k
  each : ∀ y ∈ ys, Held wr y
  yn : ∀ y ∈ ys, ∀ k, Blk y k → m0 < k ∧ Value.ownBlock (.slice A ys.length c) ≠ some k
  rd : D wr s false
  on : RS.On l s r
  dl : ddecL (ddec d) n0 r0 = (ddecL (ddec d) m r).map fun q => (ys.map bare ++ q.1, q.2)
  ln : r.length + ys.length ≤ r0.length
/-- Lost. -/
structure LB (D : World → RS → Bool → Prop) (d g : Nat) (wr : World) (n0 : Nat) (r0 : List UInt8) (A : Option Addr) (n c : Nat) : Prop where
  row : wr.heap[g]? = some (.cells #[.int .u8 6, .bool false, .int .i64 0, .string ⟨#[]⟩, .slice none 0 0, .slice A n c, .slice none 0 0] 27 (0, 0))
  rd : ∃ s b, D wr s b ∧ Lost s b
  dl : ddecL (ddec d) n0 r0 = none

theorem L_row {S : Nat → Prop} {g m0 : Nat} {wr w5 W6 w7 : World} {A : Option Addr} {n c : Nat} {o : Obj} (hr : wr.heap[g]? = some o) (hS : ∀ k, S k → k < g) (hg : g ≤ m0) (f5 : Fr S wr w5) (f6 : Fr no w5 W6) (f7 : Fr (fun k => Value.ownBlock (.slice A n c) = some k) W6 w7) (ho : ∀ k, Value.ownBlock (.slice A n c) = some k → m0 < k) :
    w7.heap[g]? = some o :=
  f7.heap (f6.heap (f5.heap hr (fun h => by have := hS _ h; omega)) (fun h => h)) (fun h => by have := ho _ h; omega)

theorem LG.kept0 {l : List UInt8} {S : Nat → Prop} {D : World → RS → Bool → Prop} {d g m0 mr : Nat} {wr w1 : World} {n0 m : Nat} {r0 r : List UInt8} {ys : List (Tr Mm)} {s : RS} {A : Option Addr} {c : Nat} (h : LG l D d g m0 wr n0 r0 m ys s r A c) (K : RdK mr S D) (f : Fr no wr w1) : LG l D d g m0 w1 n0 r0 m ys s r A c :=
  ⟨f.heap h.row (fun h => h), h.ow.kept0 f, h.own, fun y hy => (h.each y hy).kept0 f, h.yn, K.kept h.rd f (fun _ h => h.elim), h.on, h.dl, h.ln⟩
theorem LG.lt {l : List UInt8} {D : World → RS → Bool → Prop} {d g m0 : Nat} {wr : World} {n0 m : Nat} {r0 r : List UInt8} {ys : List (Tr Mm)} {s : RS} {A : Option Addr} {c : Nat} (h : LG l D d g m0 wr n0 r0 m ys s r A c) : g < wr.heap.size := (Array.getElem?_eq_some_iff.1 h.row).1
theorem LB.kept0 {S : Nat → Prop} {D : World → RS → Bool → Prop} {d g mr : Nat} {wr w1 : World} {n0 : Nat} {r0 : List UInt8} {A : Option Addr} {n c : Nat} (h : LB D d g wr n0 r0 A n c) (K : RdK mr S D) (f : Fr no wr w1) : LB D d g w1 n0 r0 A n c := by
  obtain ⟨s, b, h1, h2⟩ := h.rd
  exact ⟨f.heap h.row (fun h => h), ⟨s, b, K.kept h1 f (fun _ h => h.elim), h2⟩, h.dl⟩

theorem LG.start {l : List UInt8} {D : World → RS → Bool → Prop} {d g m0 : Nat} {wr : World} {n0 : Nat} {r0 : List UInt8} {s : RS} (hr : wr.heap[g]? = some (.cells #[.int .u8 6, .bool false, .int .i64 0, .string ⟨#[]⟩, .slice none 0 0, .slice none 0 0, .slice none 0 0] 27 (0, 0))) (hd : D wr s false) (ho : RS.On l s r0) : LG l D d g m0 wr n0 r0 n0 [] s r0 none 0 :=
  ⟨hr, ow_none _ _ _, (fun _ h => nomatch h), (fun _ h => nomatch h), (fun _ h => nomatch h), hd, ho, by cases ddecL (ddec d) n0 r0 <;> simp, by simp⟩

theorem LG.step {l : List UInt8} {S : Nat → Prop} {D : World → RS → Bool → Prop} {d g m0 mr : Nat} {wr w5 W6 w7 : World} {n0 m : Nat} {r0 r r2 : List UInt8} {ys : List (Tr Mm)} {s s2 : RS} {A A' : Option Addr} {c c' : Nat} {y : Tr Mm}
    (h : LG l D d g m0 wr n0 r0 (m + 1) ys s r A c) (K : RdK mr S D) (hmr : mr ≤ g) (hg : g ≤ m0) (hm0 : m0 < wr.heap.size) (f5 : Fr S wr w5) (ho : Held w5 y) (hb : ∀ k, Blk y k → wr.heap.size ≤ k) (hr : D w5 s2 false) (hon : RS.On l s2 r2) (hd : ddec d r = some (bare y, r2))
    (f6 : Fr no w5 W6) (o7 : Ow w7 27 7 (.slice A' (ys.length + 1) c') (ys.length + 1) (ys.flatMap cells ++ y.cells)) (f7 : Fr (fun k => Value.ownBlock (.slice A ys.length c) = some k) W6 w7) (st : Stays W6 w7 (.slice A ys.length c) (.slice A' (ys.length + 1) c') ys.length (ys.length + 1)) :
    LG l D d g m0 (w7.setCell ⟨g, 5, none⟩ (.slice A' (ys.length + 1) c')) n0 r0 m (ys ++ [y]) s2 r2 A' c' := by
  have e1 : (ys ++ [y]).length = ys.length + 1 := by simp
  have hS : ∀ k, S k → k < g := fun k hk => Nat.lt_of_lt_of_le (K.lt k hk) hmr
  have hs5 := f5.size; have hs6 := f6.size
  have hset := Fr.setCell (Fr.refl (fun k => k = g) w7) ⟨g, 5, none⟩ (.slice A' (ys.length + 1) c') (fun _ => rfl)
  have hown : ∀ k, Value.ownBlock (.slice A' (ys.length + 1) c') = some k → m0 < k := fun k hk => by
    rcases stays_own st k hk with h1 | h1
    · exact h.own k h1
    · omega
  have hnot : ∀ k, Value.ownBlock (.slice A' (ys.length + 1) c') = some k → Value.ownBlock (.slice A ys.length c) = some k ∨ W6.heap.size ≤ k := stays_own st
  have hrow := L_row (A := A) (n := ys.length) (c := c) h.row hS hg f5 f6 f7 h.own
  have hlt := ddec_lt hd
  refine ⟨?_, ?_, ?_, ?_, ?_, ?_, hon, ?_, ?_⟩
  · rw [hp_same hrow 5, e1]
    rfl
  · rw [e1, List.flatMap_append, List.flatMap_singleton]
    exact o7.kept hset (fun k hk h1 => by have := hown k hk; omega)
  · rw [e1]; exact hown
  · intro z hz
    rcases List.mem_append.1 hz with hz | hz
    · have hzn := h.yn z hz
      exact ((((h.each z hz).kept f5 (fun k hk h1 => by have := (hzn k hk).1; have := hS k h1; omega)).kept0 f6).kept f7 (fun k hk h1 => (hzn k hk).2 h1)).kept hset (fun k hk h1 => by have := (hzn k hk).1; omega)
    · rw [List.mem_singleton.1 hz]
      exact ((ho.kept0 f6).kept f7 (fun k hk h1 => by have := h.ow.lt k h1; have := hb k hk; omega)).kept hset (fun k hk h1 => by have := hb k hk; omega)
  · intro z hz k hk
    rw [e1]
    rcases List.mem_append.1 hz with hz | hz
    · refine ⟨(h.yn z hz k hk).1, fun h1 => ?_⟩
      rcases hnot k h1 with h2 | h2
      · exact (h.yn z hz k hk).2 h2
      · have := (h.each z hz).lt k hk; omega
    · rw [List.mem_singleton.1 hz] at hk
      refine ⟨by have := hb k hk; omega, fun h1 => ?_⟩
      rcases hnot k h1 with h2 | h2
      · have := h.ow.lt k h2; have := hb k hk; omega
      · have := ho.lt k hk; omega
  · exact K.kept (K.kept (K.kept hr f6 (fun _ h => h.elim)) f7 (fun k h1 => by have := h.own k h1; omega)) hset (fun k h1 => by omega)
  · rw [h.dl]
    rw [ddecL_succ, hd]
    simp only
    cases ddecL (ddec d) m r2 <;> simp
  · rw [e1]
    have := h.ln
    omega

theorem LG.lose {l : List UInt8} {S : Nat → Prop} {D : World → RS → Bool → Prop} {d g m0 mr : Nat} {wr w5 W6 w7 : World} {n0 m : Nat} {r0 r : List UInt8} {ys : List (Tr Mm)} {s s2 : RS} {b2 : Bool} {A A' : Option Addr} {c n' c' : Nat}
    (h : LG l D d g m0 wr n0 r0 (m + 1) ys s r A c) (K : RdK mr S D) (hmr : mr ≤ g) (hg : g ≤ m0) (f5 : Fr S wr w5) (hr : D w5 s2 b2) (hlo : Lost s2 b2) (hd : ddecL (ddec d) (m + 1) r = none)
    (f6 : Fr no w5 W6) (f7 : Fr (fun k => Value.ownBlock (.slice A ys.length c) = some k) W6 w7) :
    LB D d g (w7.setCell ⟨g, 5, none⟩ (.slice A' n' c')) n0 r0 A' n' c' := by
  have hS : ∀ k, S k → k < g := fun k hk => Nat.lt_of_lt_of_le (K.lt k hk) hmr
  have hset := Fr.setCell (Fr.refl (fun k => k = g) w7) ⟨g, 5, none⟩ (.slice A' n' c') (fun _ => rfl)
  have hrow := L_row (A := A) (n := ys.length) (c := c) h.row hS hg f5 f6 f7 h.own
  refine ⟨?_, ⟨s2, b2, ?_, hlo⟩, by rw [h.dl, hd]; rfl⟩
  · rw [hp_same hrow 5]
    rfl
  · exact K.kept (K.kept (K.kept hr f6 (fun _ h => h.elim)) f7 (fun k h1 => by have := h.own k h1; omega)) hset (fun k h1 => by omega)

theorem L_fr {S : Nat → Prop} {g m0 : Nat} {w wr w5 W6 w7 : World} {A : Option Addr} {n c : Nat} {v : Value} (f : Fr S w wr) (f5 : Fr S wr w5) (f6 : Fr no w5 W6) (f7 : Fr (fun k => Value.ownBlock (.slice A n c) = some k) W6 w7) (hw : w.heap.size ≤ g) (hg : g ≤ m0) (ho : ∀ k, Value.ownBlock (.slice A n c) = some k → m0 < k) :
    Fr S w (w7.setCell ⟨g, 5, none⟩ v) := by
  have hset := Fr.setCell (Fr.refl (fun k => k = g) w7) ⟨g, 5, none⟩ v (fun _ => rfl)
  exact (((f.trans f5 (fun _ _ h => h)).trans f6 (fun _ _ h => h.elim)).trans f7 (fun k hk h => by have := ho k h; omega)).trans hset (fun k hk h => by omega)

/-- F under way: n0 of them are to be read of the bytes r0, m of them are left in r. -/
structure FG (l : List UInt8) (D : World → RS → Bool → Prop) (d g m0 : Nat) (wr : World) (n0 : Nat) (r0 : List UInt8) (m : Nat) (ys : List (List UInt8 × Tr Mm)) (s : RS) (r : List UInt8) (A : Option Addr) (c : Nat) : Prop where
  row : wr.heap[g]? = some (.cells #[.int .u8 7, .bool false, .int .i64 0, .string ⟨#[]⟩, .slice none 0 0, .slice none 0 0, .slice A ys.length c] 27 (0, 0))
  ow : Ow wr 87 8 (.slice A ys.length c) ys.length (ys.flatMap fcells)
  own : ∀ k, Value.ownBlock (.slice A ys.length c) = some k → m0 < k
  each : ∀ y ∈ ys, Held wr y.2
  yn : ∀ y ∈ ys, ∀ k, Blk y.2 k → m0 < k ∧ Value.ownBlock (.slice A ys.length c) ≠ some k
  rd : D wr s false
  on : RS.On l s r
  dl : ddecF (ddec d) n0 r0 = (ddecF (ddec d) m r).map fun q => ((ys.map fun p => (p.1, bare p.2)) ++ q.1, q.2)
  ln : r.length + ys.length ≤ r0.length
/-- Lost. -/
structure FB (D : World → RS → Bool → Prop) (d g : Nat) (wr : World) (n0 : Nat) (r0 : List UInt8) (A : Option Addr) (n c : Nat) : Prop where
  row : wr.heap[g]? = some (.cells #[.int .u8 7, .bool false, .int .i64 0, .string ⟨#[]⟩, .slice none 0 0, .slice none 0 0, .slice A n c] 27 (0, 0))
  rd : ∃ s b, D wr s b ∧ Lost s b
  dl : ddecF (ddec d) n0 r0 = none

theorem F_row {S : Nat → Prop} {g m0 : Nat} {wr w5 W6 w7 : World} {A : Option Addr} {n c : Nat} {o : Obj} (hr : wr.heap[g]? = some o) (hS : ∀ k, S k → k < g) (hg : g ≤ m0) (f5 : Fr S wr w5) (f6 : Fr no w5 W6) (f7 : Fr (fun k => Value.ownBlock (.slice A n c) = some k) W6 w7) (ho : ∀ k, Value.ownBlock (.slice A n c) = some k → m0 < k) :
    w7.heap[g]? = some o :=
  f7.heap (f6.heap (f5.heap hr (fun h => by have := hS _ h; omega)) (fun h => h)) (fun h => by have := ho _ h; omega)

theorem FG.kept0 {l : List UInt8} {S : Nat → Prop} {D : World → RS → Bool → Prop} {d g m0 mr : Nat} {wr w1 : World} {n0 m : Nat} {r0 r : List UInt8} {ys : List (List UInt8 × Tr Mm)} {s : RS} {A : Option Addr} {c : Nat} (h : FG l D d g m0 wr n0 r0 m ys s r A c) (K : RdK mr S D) (f : Fr no wr w1) : FG l D d g m0 w1 n0 r0 m ys s r A c :=
  ⟨f.heap h.row (fun h => h), h.ow.kept0 f, h.own, fun y hy => (h.each y hy).kept0 f, h.yn, K.kept h.rd f (fun _ h => h.elim), h.on, h.dl, h.ln⟩
theorem FG.lt {l : List UInt8} {D : World → RS → Bool → Prop} {d g m0 : Nat} {wr : World} {n0 m : Nat} {r0 r : List UInt8} {ys : List (List UInt8 × Tr Mm)} {s : RS} {A : Option Addr} {c : Nat} (h : FG l D d g m0 wr n0 r0 m ys s r A c) : g < wr.heap.size := (Array.getElem?_eq_some_iff.1 h.row).1
theorem FB.kept0 {S : Nat → Prop} {D : World → RS → Bool → Prop} {d g mr : Nat} {wr w1 : World} {n0 : Nat} {r0 : List UInt8} {A : Option Addr} {n c : Nat} (h : FB D d g wr n0 r0 A n c) (K : RdK mr S D) (f : Fr no wr w1) : FB D d g w1 n0 r0 A n c := by
  obtain ⟨s, b, h1, h2⟩ := h.rd
  exact ⟨f.heap h.row (fun h => h), ⟨s, b, K.kept h1 f (fun _ h => h.elim), h2⟩, h.dl⟩

theorem FG.start {l : List UInt8} {D : World → RS → Bool → Prop} {d g m0 : Nat} {wr : World} {n0 : Nat} {r0 : List UInt8} {s : RS} (hr : wr.heap[g]? = some (.cells #[.int .u8 7, .bool false, .int .i64 0, .string ⟨#[]⟩, .slice none 0 0, .slice none 0 0, .slice none 0 0] 27 (0, 0))) (hd : D wr s false) (ho : RS.On l s r0) : FG l D d g m0 wr n0 r0 n0 [] s r0 none 0 :=
  ⟨hr, ow_none _ _ _, (fun _ h => nomatch h), (fun _ h => nomatch h), (fun _ h => nomatch h), hd, ho, by cases ddecF (ddec d) n0 r0 <;> simp, by simp⟩

theorem FG.step {l : List UInt8} {S : Nat → Prop} {D : World → RS → Bool → Prop} {d g m0 mr : Nat} {wr w5 W6 w7 : World} {n0 m : Nat} {r0 r r2 : List UInt8} {ys : List (List UInt8 × Tr Mm)} {s s2 : RS} {A A' : Option Addr} {c c' : Nat} {y : Tr Mm} {t r1 : List UInt8}
    (h : FG l D d g m0 wr n0 r0 (m + 1) ys s r A c) (K : RdK mr S D) (hmr : mr ≤ g) (hg : g ≤ m0) (hm0 : m0 < wr.heap.size) (f5 : Fr S wr w5) (ho : Held w5 y) (hb : ∀ k, Blk y k → wr.heap.size ≤ k) (hr : D w5 s2 false) (hon : RS.On l s2 r2) (ht : rvt r = some (t, r1)) (hd : ddec d r1 = some (bare y, r2))
    (f6 : Fr no w5 W6) (o7 : Ow w7 87 8 (.slice A' (ys.length + 1) c') (ys.length + 1) (ys.flatMap fcells ++ fcells (t, y))) (f7 : Fr (fun k => Value.ownBlock (.slice A ys.length c) = some k) W6 w7) (st : Stays W6 w7 (.slice A ys.length c) (.slice A' (ys.length + 1) c') ys.length (ys.length + 1)) :
    FG l D d g m0 (w7.setCell ⟨g, 6, none⟩ (.slice A' (ys.length + 1) c')) n0 r0 m (ys ++ [(t, y)]) s2 r2 A' c' := by
  have e1 : (ys ++ [(t, y)]).length = ys.length + 1 := by simp
  have hS : ∀ k, S k → k < g := fun k hk => Nat.lt_of_lt_of_le (K.lt k hk) hmr
  have hs5 := f5.size; have hs6 := f6.size
  have hset := Fr.setCell (Fr.refl (fun k => k = g) w7) ⟨g, 6, none⟩ (.slice A' (ys.length + 1) c') (fun _ => rfl)
  have hown : ∀ k, Value.ownBlock (.slice A' (ys.length + 1) c') = some k → m0 < k := fun k hk => by
    rcases stays_own st k hk with h1 | h1
    · exact h.own k h1
    · omega
  have hnot : ∀ k, Value.ownBlock (.slice A' (ys.length + 1) c') = some k → Value.ownBlock (.slice A ys.length c) = some k ∨ W6.heap.size ≤ k := stays_own st
  have hrow := F_row (A := A) (n := ys.length) (c := c) h.row hS hg f5 f6 f7 h.own
  have hlt := ddec_lt hd
  have hlt2 := rvt_lt ht
  refine ⟨?_, ?_, ?_, ?_, ?_, ?_, hon, ?_, ?_⟩
  · rw [hp_same hrow 6, e1]
    rfl
  · rw [e1, List.flatMap_append, List.flatMap_singleton]
    exact o7.kept hset (fun k hk h1 => by have := hown k hk; omega)
  · rw [e1]; exact hown
  · intro z hz
    rcases List.mem_append.1 hz with hz | hz
    · have hzn := h.yn z hz
      exact ((((h.each z hz).kept f5 (fun k hk h1 => by have := (hzn k hk).1; have := hS k h1; omega)).kept0 f6).kept f7 (fun k hk h1 => (hzn k hk).2 h1)).kept hset (fun k hk h1 => by have := (hzn k hk).1; omega)
    · rw [List.mem_singleton.1 hz]
      exact ((ho.kept0 f6).kept f7 (fun k hk h1 => by have := h.ow.lt k h1; have := hb k hk; omega)).kept hset (fun k hk h1 => by have := hb k hk; omega)
  · intro z hz k hk
    rw [e1]
    rcases List.mem_append.1 hz with hz | hz
    · refine ⟨(h.yn z hz k hk).1, fun h1 => ?_⟩
      rcases hnot k h1 with h2 | h2
      · exact (h.yn z hz k hk).2 h2
      · have := (h.each z hz).lt k hk; omega
    · rw [List.mem_singleton.1 hz] at hk
      refine ⟨by have := hb k hk; omega, fun h1 => ?_⟩
      rcases hnot k h1 with h2 | h2
      · have := h.ow.lt k h2; have := hb k hk; omega
      · have := ho.lt k hk; omega
  · exact K.kept (K.kept (K.kept hr f6 (fun _ h => h.elim)) f7 (fun k h1 => by have := h.own k h1; omega)) hset (fun k h1 => by omega)
  · rw [h.dl]
    rw [ddecF_succ, ht]
    simp only
    rw [hd]
    simp only
    cases ddecF (ddec d) m r2 <;> simp
  · rw [e1]
    have := h.ln
    omega

theorem FG.lose {l : List UInt8} {S : Nat → Prop} {D : World → RS → Bool → Prop} {d g m0 mr : Nat} {wr w5 W6 w7 : World} {n0 m : Nat} {r0 r : List UInt8} {ys : List (List UInt8 × Tr Mm)} {s s2 : RS} {b2 : Bool} {A A' : Option Addr} {c n' c' : Nat}
    (h : FG l D d g m0 wr n0 r0 (m + 1) ys s r A c) (K : RdK mr S D) (hmr : mr ≤ g) (hg : g ≤ m0) (f5 : Fr S wr w5) (hr : D w5 s2 b2) (hlo : Lost s2 b2) (hd : ddecF (ddec d) (m + 1) r = none)
    (f6 : Fr no w5 W6) (f7 : Fr (fun k => Value.ownBlock (.slice A ys.length c) = some k) W6 w7) :
    FB D d g (w7.setCell ⟨g, 6, none⟩ (.slice A' n' c')) n0 r0 A' n' c' := by
  have hS : ∀ k, S k → k < g := fun k hk => Nat.lt_of_lt_of_le (K.lt k hk) hmr
  have hset := Fr.setCell (Fr.refl (fun k => k = g) w7) ⟨g, 6, none⟩ (.slice A' n' c') (fun _ => rfl)
  have hrow := F_row (A := A) (n := ys.length) (c := c) h.row hS hg f5 f6 f7 h.own
  refine ⟨?_, ⟨s2, b2, ?_, hlo⟩, by rw [h.dl, hd]; rfl⟩
  · rw [hp_same hrow 6]
    rfl
  · exact K.kept (K.kept (K.kept hr f6 (fun _ h => h.elim)) f7 (fun k h1 => by have := h.own k h1; omega)) hset (fun k h1 => by omega)

theorem F_fr {S : Nat → Prop} {g m0 : Nat} {w wr w5 W6 w7 : World} {A : Option Addr} {n c : Nat} {v : Value} (f : Fr S w wr) (f5 : Fr S wr w5) (f6 : Fr no w5 W6) (f7 : Fr (fun k => Value.ownBlock (.slice A n c) = some k) W6 w7) (hw : w.heap.size ≤ g) (hg : g ≤ m0) (ho : ∀ k, Value.ownBlock (.slice A n c) = some k → m0 < k) :
    Fr S w (w7.setCell ⟨g, 6, none⟩ v) := by
  have hset := Fr.setCell (Fr.refl (fun k => k = g) w7) ⟨g, 6, none⟩ v (fun _ => rfl)
  exact (((f.trans f5 (fun _ _ h => h)).trans f6 (fun _ _ h => h.elim)).trans f7 (fun k hk h => by have := ho k h; omega)).trans hset (fun k hk h => by omega)

end Go.Proofs.YtijcleiekafoiaaGreatDoor
