import Derived.Test.YtdnohhlgaaihmaaMt01

/- Of which sort the operations of a region are: what yields a value without memory, what only reads, what only makes memory. General; no condition. -/
namespace Go

/-- It yields its value in every world, and leaves each as it is. -/
def Sem.Pu {α : Type} (P : Program) (s : Sem α) : Prop := ∀ w v w', s.run P w = .ok v w' → w' = w ∧ ∀ w2, s.run P w2 = .ok v w2
/-- It yields its value in every longer world, and leaves each as it is. -/
def Sem.Rd {α : Type} (P : Program) (s : Sem α) : Prop := ∀ w v w', s.run P w = .ok v w' → w' = w ∧ ∀ e, s.run P (w.ext e) = .ok v (w.ext e)
/-- It leaves a longer world. -/
def Sem.Gr {α : Type} (P : Program) (s : Sem α) : Prop := ∀ w v w', s.run P w = .ok v w' → ∃ x, w' = w.ext x

section
variable {α β : Type} {P : Program}

theorem Sem.Pu.rd {s : Sem α} (h : s.Pu P) : s.Rd P := fun w v w' hr => ⟨(h w v w' hr).1, fun _ => (h w v w' hr).2 _⟩
theorem Sem.Rd.gr {s : Sem α} (h : s.Rd P) : s.Gr P := fun w v w' hr => ⟨(#[], w.drawn), by rw [World.ext_self]; exact (h w v w' hr).1⟩

theorem andThen_ok_iff {r : Result α} {f : α → World → Result β} {v : β} {w : World} : r.andThen f = .ok v w ↔ ∃ a w1, r = .ok a w1 ∧ f a w1 = .ok v w := by
  cases r with
  | ok a w1 => exact ⟨fun h => ⟨a, w1, rfl, h⟩, fun ⟨_, _, h1, h2⟩ => by cases h1; exact h2⟩
  | halt h w1 => exact ⟨fun h => (by cases h), fun ⟨_, _, h1, _⟩ => (by cases h1)⟩

theorem Sem.Pu.bind {s : Sem α} {f : α → Sem β} (hs : s.Pu P) (hf : ∀ a, (f a).Pu P) : (s >>= f).Pu P := by
  intro w v w' hr
  rw [Sem.run_bind, andThen_ok_iff] at hr
  obtain ⟨a, w1, h1, h2⟩ := hr
  obtain ⟨rfl, h3⟩ := hs _ _ _ h1
  obtain ⟨rfl, h4⟩ := hf a _ _ _ h2
  refine ⟨rfl, fun w2 => ?_⟩
  rw [Sem.run_bind, h3 w2]
  exact h4 w2

theorem Sem.Rd.bind {s : Sem α} {f : α → Sem β} (hs : s.Rd P) (hf : ∀ a, (f a).Rd P) : (s >>= f).Rd P := by
  intro w v w' hr
  rw [Sem.run_bind, andThen_ok_iff] at hr
  obtain ⟨a, w1, h1, h2⟩ := hr
  obtain ⟨rfl, h3⟩ := hs _ _ _ h1
  obtain ⟨rfl, h4⟩ := hf a _ _ _ h2
  refine ⟨rfl, fun e => ?_⟩
  rw [Sem.run_bind, h3 e]
  exact h4 e

theorem Sem.Gr.bind {s : Sem α} {f : α → Sem β} (hs : s.Gr P) (hf : ∀ a, (f a).Gr P) : (s >>= f).Gr P := by
  intro w v w' hr
  rw [Sem.run_bind, andThen_ok_iff] at hr
  obtain ⟨a, w1, h1, h2⟩ := hr
  obtain ⟨e, rfl⟩ := hs _ _ _ h1
  obtain ⟨f', rfl⟩ := hf a _ _ _ h2
  exact ⟨_, World.ext_ext _ _ _⟩

theorem Sem.Pu.pure (a : α) : (Pure.pure a : Sem α).Pu P := by
  intro w v w' hr
  rw [Sem.run_pure] at hr
  injection hr with h1 h2
  subst h1; subst h2
  exact ⟨rfl, fun w2 => Sem.run_pure _ _ _⟩

theorem Sem.Pu.halt (h : Halt) : (Sem.halt h : Sem α).Pu P := by intro w v w' hr; simp [Sem.run] at hr
theorem Sem.Pu.program : (Go.program).Pu P := by
  intro w v w' hr
  simp only [Go.program, Sem.run] at hr
  injection hr with h1 h2
  subst h1; subst h2
  exact ⟨rfl, fun w2 => rfl⟩

/-- What never comes to a value is of every sort. -/
theorem Sem.Pu.never {s : Sem α} (h : ∀ w v w', s.run P w ≠ .ok v w') : s.Pu P := fun w v w' hr => absurd hr (h w v w')

theorem runtimePanic_never (e : RuntimeError) (w : World) (v : α) (w' : World) : (runtimePanic e : Sem α).run P w ≠ .ok v w' := by
  cases e <;> simp [runtimePanic, Go.program, goPanic, Sem.run_bind, Sem.run, Result.andThen] <;> (split <;> (try split) <;> simp)

theorem Sem.Pu.panic (e : RuntimeError) : (runtimePanic e : Sem α).Pu P := .never (runtimePanic_never e)

theorem bind_never {s : Sem α} {f : α → Sem β} (h : ∀ a w v w', (f a).run P w ≠ .ok v w') : ∀ w v w', (s >>= f).run P w ≠ .ok v w' := by
  intro w v w' hr
  rw [Sem.run_bind, andThen_ok_iff] at hr
  obtain ⟨a, w1, _, h2⟩ := hr
  exact h _ _ _ _ h2

theorem bounds_never (k : IntKind) (x y : Int) (c : BoundsCode) : ∀ (w : World) (v : α) (w' : World), (boundsPanic k x y c : Sem α).run P w ≠ .ok v w' := by
  unfold boundsPanic
  intro w v w'
  simp only []
  split
  · exact bind_never (fun a w v w' => runtimePanic_never _ w v w') w v w'
  · exact bind_never (fun a w v w' => runtimePanic_never _ w v w') w v w'

theorem Sem.Pu.bounds (k : IntKind) (x y : Int) (c : BoundsCode) : (boundsPanic k x y c : Sem α).Pu P := .never (bounds_never k x y c)

theorem Sem.Pu.ite {c : Prop} [Decidable c] {s t : Sem α} (hs : s.Pu P) (ht : t.Pu P) : (if c then s else t).Pu P := by split <;> assumption
theorem Sem.Gr.ite {c : Prop} [Decidable c] {s t : Sem α} (hs : s.Gr P) (ht : t.Gr P) : (if c then s else t).Gr P := by split <;> assumption

theorem Sem.Pu.typeInfo (t : TypeId) : (Go.typeInfo t).Pu P := .bind .program fun p => by split <;> first | exact .pure _ | exact .halt _
theorem Sem.Pu.underlying (t : TypeId) : (Go.underlying t).Pu P := .bind .program fun p => by split <;> first | exact .pure _ | exact .halt _
theorem Sem.Pu.sizeOf (t : TypeId) : (Go.sizeOf t).Pu P := .bind (.typeInfo t) fun _ => .pure _
theorem Sem.Pu.zeroValue (t : TypeId) : (Go.zeroValue t).Pu P := .bind (.typeInfo t) fun _ => by split <;> first | exact .pure _ | exact .halt _
theorem Sem.Pu.isAgg (t : TypeId) : (Go.isAgg t).Pu P := by
  unfold Go.isAgg
  refine .bind (.underlying t) fun d => ?_
  split <;> exact .pure _

theorem Sem.Rd.load (a : Addr) : (Go.load a).Rd P := by
  intro w v w' hr
  simp only [Go.load, Sem.run] at hr
  cases hc : w.cell? a with
  | some u =>
    rw [hc] at hr
    simp only [Result.ok.injEq] at hr
    obtain ⟨rfl, rfl⟩ := hr
    have hlt := World.block_lt_of_cell? w a hc
    refine ⟨rfl, fun e => ?_⟩
    simp only [Go.load, Sem.run, World.ext_cell w e a hlt, hc]
  | none =>
    rw [hc] at hr
    simp only at hr
    cases hf : World.farLoad P w a (Mode.plain == Mode.atomic) with
    | error h => rw [hf] at hr; simp at hr
    | ok r =>
      rw [hf] at hr
      obtain ⟨u, l⟩ := r
      simp only [Result.ok.injEq] at hr
      obtain ⟨rfl, rfl⟩ := hr
      refine ⟨rfl, fun e => ?_⟩
      have key : (w.ext e).cell? a = none ∧ World.farLoad P (w.ext e) a (Mode.plain == Mode.atomic) = .ok (u, l) := by
        unfold World.farLoad at hf ⊢
        cases hb : w.heap[a.block]? with
        | none => rw [hb] at hf; simp at hf
        | some o =>
          have hlt := (Array.getElem?_eq_some_iff.1 hb).1
          refine ⟨by rw [World.ext_cell w e a hlt]; exact hc, ?_⟩
          rw [World.ext_heap w e a.block hlt, hb]
          rw [hb] at hf
          cases o <;> simp only at hf ⊢ <;> try (simp at hf; done)
          rename_i at_ u'
          have hseen : ∀ k at', (∃ r, World.seen P w at_ u' k at' = .ok r) → World.seen P (w.ext e) at_ u' k at' = World.seen P w at_ u' k at' := by
            intro k at' ⟨r, hr⟩
            cases hv : w.heap[at_.block]? with
            | none =>
              exfalso
              unfold World.seen at hr
              rw [hv] at hr
              revert hr
              repeat' (first | split | (intro hr; cases hr; done))
              all_goals (intro hr; first | contradiction | (simp at hr; done))
            | some o =>
              have hlt' := (Array.getElem?_eq_some_iff.1 hv).1
              unfold World.seen
              rw [World.ext_heap w e at_.block hlt', hv]
          unfold World.viewLoad at hf ⊢
          cases hs : World.seen P w at_ u' a (Mode.plain == Mode.atomic) with
          | error x => rw [hs] at hf; exact absurd hf (by intro h; cases h)
          | ok r => rw [hseen _ _ ⟨r, hs⟩]; exact hf
      simp only [Go.load, Sem.run, key.1, key.2]

theorem Sem.Rd.loadCellsFrom (a : Addr) : ∀ (n i : Nat) (acc : Array Value), (Go.loadCellsFrom a i n acc).Rd P
  | 0, _, _ => (Sem.Pu.pure _).rd
  | n + 1, _, _ => .bind (.load _) fun _ => Sem.Rd.loadCellsFrom a n _ _

theorem Sem.Rd.loadVar (t : TypeId) (a : Addr) : (Go.loadVar t a).Rd P := by
  unfold Go.loadVar
  refine .bind (Sem.Pu.isAgg t).rd fun b => ?_
  split
  · exact .bind (Sem.Pu.sizeOf t).rd fun n => .bind (Sem.Rd.loadCellsFrom a _ _ _) fun c => (Sem.Pu.pure _).rd
  · exact .load a

theorem Sem.Gr.newObj (o : Obj) : (Go.newObj o).Gr P := by
  intro w v w' hr
  simp only [Go.newObj, Sem.run] at hr
  injection hr with h1 h2
  subst h2
  exact ⟨(#[o], w.drawn), by simp [World.ext]⟩

theorem Sem.Gr.newRow (t : TypeId) (c : Array Value) : (Go.newRow t c).Gr P := .bind (.newObj _) fun _ => (Sem.Pu.pure _).rd.gr
theorem Sem.Gr.newVar (t : TypeId) (v : Value) : (Go.newVar t v).Gr P := .newRow _ _

theorem Sem.Rd.ite {c : Prop} [Decidable c] {s t : Sem α} (hs : s.Rd P) (ht : t.Rd P) : (if c then s else t).Rd P := by split <;> assumption

/-! ### Operations -/
variable {ρ : Operand → Value}

/-- .. and what it yields is a value. -/
def Sem.PuN (P : Program) (s : Sem Next) : Prop := ∀ w n w', s.run P w = .ok n w' → (∃ v, n = .value v) ∧ w' = w ∧ ∀ w2, s.run P w2 = .ok n w2
def Sem.RdN (P : Program) (s : Sem Next) : Prop := ∀ w n w', s.run P w = .ok n w' → (∃ v, n = .value v) ∧ w' = w ∧ ∀ e, s.run P (w.ext e) = .ok n (w.ext e)
def Sem.GrN (P : Program) (s : Sem Next) : Prop := ∀ w n w', s.run P w = .ok n w' → (∃ v, n = .value v) ∧ ∃ x, w' = w.ext x

theorem isval_v {s : Sem Value} {w : World} {n : Next} {w' : World} (hr : (do Pure.pure (Next.value (← s)) : Sem Next).run P w = .ok n w') : ∃ v, n = .value v := by
  rw [Sem.run_bind, andThen_ok_iff] at hr
  obtain ⟨a, w1, _, h2⟩ := hr
  rw [Sem.run_pure] at h2
  injection h2 with h3 h4
  exact ⟨a, h3.symm⟩

theorem pu_value (v : Value) : (Pure.pure (Next.value v) : Sem Next).PuN P := fun w n w' hr => ⟨by rw [Sem.run_pure] at hr; injection hr with h1 h2; exact ⟨v, h1.symm⟩, Sem.Pu.pure _ w n w' hr⟩
theorem pu_v {s : Sem Value} (h : s.Pu P) : (do Pure.pure (Next.value (← s)) : Sem Next).PuN P := fun w n w' hr => ⟨isval_v hr, Sem.Pu.bind h (fun _ => .pure _) w n w' hr⟩
theorem rd_v {s : Sem Value} (h : s.Rd P) : (do Pure.pure (Next.value (← s)) : Sem Next).RdN P := fun w n w' hr => ⟨isval_v hr, Sem.Rd.bind h (fun _ => (Sem.Pu.pure _).rd) w n w' hr⟩
theorem gr_v {s : Sem Value} (h : s.Gr P) : (do Pure.pure (Next.value (← s)) : Sem Next).GrN P := fun w n w' hr => ⟨isval_v hr, Sem.Gr.bind h (fun _ => (Sem.Pu.pure _).rd.gr) w n w' hr⟩

variable {o : Oper}

theorem pu_move {x : Operand} (h : o.op = .move x) : (execOp ρ o).PuN P := by unfold execOp; rw [h]; exact pu_value _
theorem pu_assign {x : Operand} (h : o.op = .assign x) : (execOp ρ o).PuN P := by unfold execOp; rw [h]; exact pu_value _
theorem pu_nilCheck {x : Operand} {a : Option Addr} (h : o.op = .nilCheck x) (hx : ρ x = .pointer a) : (execOp ρ o).PuN P := by
  unfold execOp; rw [h]; simp only [hx]
  cases a with
  | none => intro w n w' hr; exact absurd hr (runtimePanic_never _ _ _ _)
  | some a => exact pu_value _

theorem pu_intArith (op : BinOp) (k : IntKind) (x y : Int) : (Op.intArith op k x y).Pu P := by
  unfold Op.intArith; split <;> first | exact .pure _ | exact .halt _
theorem pu_intDiv (op : BinOp) (k : IntKind) (x y : Int) : (Op.intDiv op k x y).Pu P := by
  unfold Op.intDiv; split
  · exact .panic _
  · split <;> first | exact .pure _ | exact .halt _
theorem pu_intBits (op : BinOp) (k : IntKind) (x y : Int) : (Op.intBits op k x y).Pu P := by
  unfold Op.intBits; simp only []; split <;> first | exact .pure _ | exact .halt _
theorem pu_intCmp (op : BinOp) (x y : Int) : (Op.intCmp op x y).Pu P := by
  unfold Op.intCmp; split <;> first | exact .pure _ | exact .halt _
theorem pu_shift (op : BinOp) (k : IntKind) (x : Int) (yk : IntKind) (y : Int) : (Op.shift op k x yk y).Pu P := by
  unfold Op.shift; split
  · exact .panic _
  · simp only []; split <;> first | exact .pure _ | exact .halt _
theorem pu_stringOp (op : BinOp) (x y : ByteArray) : (Op.stringOp op x y).Pu P := by
  unfold Op.stringOp; simp only []; split <;> first | exact .pure _ | exact .halt _ | (split <;> first | exact .pure _ | exact .halt _)

theorem pu_binInt {op : BinOp} {t t' : TypeId} {x y : Operand} {k k' : IntKind} {m n : Int} (h : o.op = .binOp op t x y t') (hx : ρ x = .int k m) (hy : ρ y = .int k' n) : (execOp ρ o).PuN P := by
  unfold execOp; rw [h]; simp only [hx, hy]
  refine pu_v (.bind ?_ fun _ => ?_)
  · unfold eqGuard; split <;> exact .pure _
  · cases op <;> simp only [binOp] <;> first
      | exact pu_shift _ _ _ _ _
      | (split <;> first | exact .halt _ | exact pu_intArith _ _ _ _ | exact pu_intDiv _ _ _ _ | exact pu_intBits _ _ _ _ | exact pu_intCmp _ _ _)

theorem pu_binStr {op : BinOp} {t t' : TypeId} {x y : Operand} {m n : ByteArray} (h : o.op = .binOp op t x y t') (hx : ρ x = .string m) (hy : ρ y = .string n) : (execOp ρ o).PuN P := by
  unfold execOp; rw [h]; simp only [hx, hy]
  refine pu_v (.bind ?_ fun _ => ?_)
  · unfold eqGuard; split <;> exact .pure _
  · cases op <;> simp only [binOp] <;> exact pu_stringOp _ _ _

theorem pu_unary (op : UnOp) (x : Value) : (Op.unary op x).Pu P := by
  unfold Op.unary; split <;> first | exact .pure _ | exact .halt _ | exact pu_intArith _ _ _ _ | exact pu_intBits _ _ _ _
theorem pu_unOp {op : UnOp} {t : TypeId} {x : Operand} (h : o.op = .unOp op t x) : (execOp ρ o).PuN P := by
  unfold execOp; rw [h]; exact pu_v (pu_unary _ _)

theorem pu_convInt {s d : TypeId} {x : Operand} {k k' : IntKind} {n : Int} (h : o.op = .convert s d x) (hx : ρ x = .int k n) (hd : P.underlying d = some (.int k')) : (execOp ρ o).PuN P := by
  unfold execOp; rw [h]; simp only [hx]
  refine pu_v ?_
  intro w v w' hr
  unfold convert at hr ⊢
  simp only [Sem.run_bind, run_underlying hd] at hr ⊢
  cases hs : P.underlying s with
  | none =>
    exfalso
    rw [andThen_ok_iff] at hr
    obtain ⟨a, w1, h1, _⟩ := hr
    simp [Go.underlying, Go.program, Sem.run_bind, Sem.run, Result.andThen, hs, stuck] at h1
  | some e =>
    simp only [run_underlying hs, Result.andThen_ok, Conv.intToInt, Sem.run_pure, Result.ok.injEq] at hr ⊢
    obtain ⟨rfl, rfl⟩ := hr
    exact ⟨rfl, fun _ => by simp⟩

theorem rd_load {t : TypeId} {x : Operand} (h : o.op = .load t x) : (execOp ρ o).RdN P := by
  unfold execOp; rw [h]
  refine rd_v (Sem.Rd.bind ?_ fun a => .loadVar _ _)
  unfold Instr.sureAddr
  split <;> first | exact (Sem.Pu.pure _).rd | exact (Sem.Pu.halt _).rd

/-- A field's place: of a type that is told, at a field that has a cell. -/
theorem pu_field {s : TypeId} {x : Operand} {f : Nat} {fs : Array Field} {fd : Field} {i : TypeInfo} (h : o.op = .fieldAddr s x f) (hs : P.underlying s = some (.struct fs)) (hf : fs[f]? = some fd) (hi : P.info? fd.type = some i) (hz : i.size ≠ 0) : (execOp ρ o).PuN P := by
  unfold execOp; rw [h]
  refine pu_v ?_
  intro w v w' hr
  unfold Instr.fieldAt at hr ⊢
  simp only [Sem.run_bind, run_underlying hs, Result.andThen_ok, hf] at hr ⊢
  revert hr
  unfold Instr.sureAddr
  split
  · intro hr
    simp only [Sem.run_bind, Sem.run_pure, Result.andThen_ok, fieldPlace, sizeOf, typeInfo, Go.program, Sem.run, hi, hz, if_false, Result.ok.injEq] at hr ⊢
    obtain ⟨rfl, rfl⟩ := hr
    exact ⟨rfl, fun _ => by simp⟩
  · intro hr; simp [stuck, Result.andThen] at hr

theorem pu_indexAddr {t e : TypeId} {x y : Operand} {a : Option Addr} {l c : Nat} {k : IntKind} {n : Int} {i : TypeInfo} (h : o.op = .indexAddr t x y) (hx : ρ x = .slice a l c) (hy : ρ y = .int k n) (ht : P.underlying t = some (.slice e)) (hi : P.info? e = some i) : (execOp ρ o).PuN P := by
  unfold execOp; rw [h]; simp only [hx, hy]
  refine pu_v ?_
  intro w v w' hr
  unfold Instr.indexAt at hr ⊢
  simp only [Sem.run_bind, run_underlying ht, asIntOf, Sem.run_pure, Result.andThen_ok] at hr ⊢
  cases a with
  | none => exact absurd hr (by simpa using bounds_never _ _ _ _ w v w')
  | some a =>
    simp only [] at hr ⊢
    by_cases hb : 0 ≤ n ∧ n < (l : Int)
    · simp only [hb, and_self, if_true, Sem.run_bind, sizeOf, typeInfo, Go.program, Sem.run, hi, Sem.run_pure, Result.andThen_ok, Result.ok.injEq] at hr ⊢
      obtain ⟨rfl, rfl⟩ := hr
      exact ⟨rfl, fun _ => by simp⟩
    · simp only [hb, if_false, Bool.and_false, Bool.false_eq_true] at hr
      exact absurd hr (bounds_never _ _ _ _ w v w')

theorem gr_alloc {t : TypeId} (h : o.op = .alloc t) : (execOp ρ o).GrN P := by
  unfold execOp; rw [h]
  refine gr_v ?_
  unfold Instr.alloc
  exact .bind (Sem.Pu.zeroValue t).rd.gr fun z => .bind (.newVar _ _) fun _ => (Sem.Pu.pure _).rd.gr
theorem gr_box {t : TypeId} {x : Operand} (h : o.op = .box t x) : (execOp ρ o).GrN P := by
  unfold execOp; rw [h]
  exact gr_v (.bind (.newVar _ _) fun _ => (Sem.Pu.pure _).rd.gr)

theorem gr_buildSlice {t : TypeId} {n : Nat} {ps : Array (Nat × Operand)} (h : o.op = .buildSlice t n ps) : (execOp ρ o).GrN P := by
  unfold execOp; rw [h]
  refine gr_v ?_
  unfold Instr.buildSlice
  refine .bind (Sem.Pu.underlying t).rd.gr fun d => ?_
  split
  · rename_i e
    refine .bind (Sem.Pu.sizeOf e).rd.gr fun s => ?_
    have key : ∀ (zero : Array Value), Sem.Gr P (match Instr.fill (fun i => some (i * s, s)) ((Array.range (n * s)).map (zero[· % zero.size]!)) (ps.map fun (i, x) => (i, ρ x)).toList with
        | some cells => do pure (.slice (some (← newRow e cells)) n n)
        | _ => stuck "buildSlice: a part of the wrong size" : Sem Value) := by
      intro zero
      split
      · exact .bind (.newRow _ _) fun _ => (Sem.Pu.pure _).rd.gr
      · exact (Sem.Pu.halt _).rd.gr
    have key2 : Sem.Gr P (if n * s = 0 then (do let zero ← pure #[]; (match Instr.fill (fun i => some (i * s, s)) ((Array.range (n * s)).map (zero[· % zero.size]!)) (ps.map fun (i, x) => (i, ρ x)).toList with
        | some cells => do pure (.slice (some (← newRow e cells)) n n)
        | _ => stuck "buildSlice: a part of the wrong size" : Sem Value)) else (do let z ← zeroValue e; let zero ← pure z.cells; (match Instr.fill (fun i => some (i * s, s)) ((Array.range (n * s)).map (zero[· % zero.size]!)) (ps.map fun (i, x) => (i, ρ x)).toList with
        | some cells => do pure (.slice (some (← newRow e cells)) n n)
        | _ => stuck "buildSlice: a part of the wrong size" : Sem Value))) := by
      split
      · exact .bind (Sem.Pu.pure _).rd.gr key
      · exact .bind (Sem.Pu.zeroValue _).rd.gr fun _ => .bind (Sem.Pu.pure _).rd.gr key
    simp only []
    split
    · exact .bind (Sem.Pu.halt _).rd.gr fun _ => key2
    · exact key2
  · exact (Sem.Pu.halt _).rd.gr

/-! ### The same, what is asked of the tables as one closed Bool -/

def Program.intB (P : Program) (t : TypeId) : Bool := match P.underlying t with | some (.int _) => true | _ => false
def Program.fieldB (P : Program) (s : TypeId) (f : Nat) : Bool := match P.underlying s with
  | some (.struct fs) => (match fs[f]? with | some fd => (match P.info? fd.type with | some i => i.size != 0 | none => false) | none => false)
  | _ => false
def Program.sliceB (P : Program) (t : TypeId) : Bool := match P.underlying t with | some (.slice e) => (P.info? e).isSome | _ => false

theorem pu_conv {s d : TypeId} {x : Operand} {k : IntKind} {n : Int} (h : o.op = .convert s d x) (hx : ρ x = .int k n) (hd : P.intB d = true) : (execOp ρ o).PuN P := by
  unfold Program.intB at hd
  split at hd
  · rename_i hu; exact pu_convInt h hx hu
  · cases hd

theorem pu_fld {s : TypeId} {x : Operand} {f : Nat} (h : o.op = .fieldAddr s x f) (hd : P.fieldB s f = true) : (execOp ρ o).PuN P := by
  unfold Program.fieldB at hd
  split at hd
  · rename_i hu
    split at hd
    · rename_i hf
      split at hd
      · rename_i hi; exact pu_field h hu hf hi (by simpa using hd)
      · cases hd
    · cases hd
  · cases hd

theorem pu_ix {t : TypeId} {x y : Operand} {a : Option Addr} {l c : Nat} {k : IntKind} {n : Int} (h : o.op = .indexAddr t x y) (hx : ρ x = .slice a l c) (hy : ρ y = .int k n) (hd : P.sliceB t = true) : (execOp ρ o).PuN P := by
  unfold Program.sliceB at hd
  split at hd
  · rename_i hu
    obtain ⟨i, hi⟩ := Option.isSome_iff_exists.1 hd
    exact pu_indexAddr h hx hy hu hi
  · cases hd

theorem pu_len_ (ts : Array TypeId) (ty : TypeId) {x : Value} (hx : (∃ a l c, x = .slice a l c) ∨ ∃ s, x = .string s) : (Builtin.len_ ts ty #[x]).Pu P := by
  unfold Builtin.len_
  simp only [List.getElem?_toArray, List.getElem?_cons_zero]
  cases ts[0]? with
  | none => exact .halt _
  | some t =>
    simp only []
    refine .bind (.underlying t) fun d => ?_
    rcases hx with ⟨a, l, c, rfl⟩ | ⟨s, rfl⟩
    · cases d <;> simp only [] <;> first | exact .pure _ | exact .halt _ | (refine .bind (.underlying _) fun d => ?_; split <;> first | exact .pure _ | exact .halt _)
    · cases d <;> simp only [] <;> first | exact .pure _ | exact .halt _ | (refine .bind (.underlying _) fun d => ?_; split <;> first | exact .pure _ | exact .halt _)

theorem pu_len {x : Operand} {ts : Array TypeId} {a : Option Addr} {l c : Nat} (h : o.op = .call { callee := .builtin .len, args := #[x], argTypes := ts }) (hx : ρ x = .slice a l c) : (execOp ρ o).PuN P := by
  have e : execOp ρ o = (do pure (Next.value (← Builtin.len_ ts o.type #[ρ x]))) := by
    obtain ⟨dst, op, ty, pos, after, guard⟩ := o
    simp only at h
    subst h
    rw [BigFrame.execOp_builtin, BigFrame.builtin_len]
    simp
  rw [e]
  exact pu_v (pu_len_ ts o.type (.inl ⟨a, l, c, hx⟩))

theorem pu_lens {x : Operand} {ts : Array TypeId} {s : ByteArray} (h : o.op = .call { callee := .builtin .len, args := #[x], argTypes := ts }) (hx : ρ x = .string s) : (execOp ρ o).PuN P := by
  have e : execOp ρ o = (do pure (Next.value (← Builtin.len_ ts o.type #[ρ x]))) := by
    obtain ⟨dst, op, ty, pos, after, guard⟩ := o
    simp only at h
    subst h
    rw [BigFrame.execOp_builtin, BigFrame.builtin_len]
    simp
  rw [e]
  exact pu_v (pu_len_ ts o.type (.inr ⟨s, hx⟩))

theorem pu_pick {c x y : Operand} (h : o.op = .pick c x y) : (execOp ρ o).PuN P := by
  unfold execOp; rw [h]
  have e : (do pure (Next.value (if ← asBool (ρ c) then ρ x else ρ y)) : Sem Next) = (do pure (Next.value (← (do pure (if ← asBool (ρ c) then ρ x else ρ y) : Sem Value)))) := by
    unfold asBool
    split <;> rfl
  show Sem.PuN P (do pure (Next.value (if ← asBool (ρ c) then ρ x else ρ y)) : Sem Next)
  rw [e]
  refine pu_v (.bind ?_ fun _ => .pure _)
  unfold asBool
  split <;> first | exact .pure _ | exact .halt _

theorem pu_bound (x : Value) (y : Nat) (c : BoundsCode) : (Instr.sliceBound x y c).Pu P := by
  unfold Instr.sliceBound
  refine .bind ?_ fun ki => ?_
  · unfold asIntOf; split <;> first | exact .pure _ | exact .halt _
  · simp only []
    split
    · exact .pure _
    · exact .bounds _ _ _ _

theorem pu_bounds (b : Bool) (n c : Nat) (lo hi mx : Option Value) : (Instr.sliceBounds b n c lo hi mx).Pu P := by
  unfold Instr.sliceBounds
  simp only []
  cases mx <;> cases hi <;> cases lo <;> simp only [] <;>
    refine .bind (by first | exact pu_bound _ _ _ | exact .pure _ | exact .halt _) fun m => .bind (by first | exact pu_bound _ _ _ | exact .pure _ | exact .halt _) fun h => .bind (by first | exact pu_bound _ _ _ | exact .pure _ | exact .halt _) fun l => .pure _

theorem pu_sliceOf (t : TypeId) (a : Option Addr) (l c : Nat) (lo hi mx : Option Value) : (Instr.slice t (.slice a l c) lo hi mx).Pu P := by
  unfold Instr.slice
  refine .bind (.underlying t) fun d => ?_
  cases d <;> simp only [] <;> first
    | exact .halt _
    | exact .bind (pu_bounds _ _ _ _ _ _) fun _ => .bind (.sizeOf _) fun _ => .pure _
    | exact .bind (.halt _) fun _ => .bind (.underlying _) fun d => by split <;> first | exact .halt _ | exact .bind (pu_bounds _ _ _ _ _ _) fun _ => .bind (.sizeOf _) fun _ => .pure _

theorem pu_slice {t : TypeId} {x : Operand} {lo hi mx : Option Operand} {a : Option Addr} {l c : Nat} (h : o.op = .slice t x lo hi mx) (hx : ρ x = .slice a l c) : (execOp ρ o).PuN P := by
  unfold execOp; rw [h]; simp only [hx]
  refine pu_v ?_
  unfold Instr.sliceAt
  refine .bind (.underlying t) fun d => ?_
  split
  · exact .bind (.halt _) fun _ => .bind (pu_bounds _ _ _ _ _ _) fun _ => .bind (.sizeOf _) fun _ => .pure _
  · exact pu_sliceOf _ _ _ _ _ _ _

/-! ### What the walk in our order asks -/
section
variable {ops : Array Oper} {Q : Exit → Act → World → Prop} {I : World → Prop} {kds : Nat → Kd} {i : Nat} {rest : List Nat} {a : Act} {w : World}

/-- The walk of one operation as the kit's walk has it; its sort from the laws above. -/
theorem wpX_pu (hi : ops[i]? = some o) (hg : Region.wanted o (yielded ops a.tmps) = true) (hk : kds i = .p) (hp : (execOp a.eval o).PuN P)
    (h : ∀ K : Act → World → Prop, (∀ a w, wpX P ops Q I kds rest a w → K a w) → o.wp P a w K (NoPanic Q)) : wpX P ops Q I kds (i :: rest) a w := by
  refine wpX_step hi hg fun K hK => ?_
  rw [hk]
  have h1 := h K hK
  unfold Oper.wp at h1
  cases hr : (execOp a.eval o).run P w with
  | ok n w' =>
    rw [hr] at h1
    obtain ⟨⟨v, rfl⟩, rfl, h3⟩ := hp _ _ _ hr
    refine ⟨v, fun w2 => ?_, h1⟩
    unfold Oper.val
    rw [h3 w2]
    exact ⟨rfl, rfl⟩
  | halt x w' =>
    rw [hr] at h1
    cases x <;> simp only [Oper.upon] at h1
    exact h1.elim

theorem wpX_rd (hi : ops[i]? = some o) (hg : Region.wanted o (yielded ops a.tmps) = true) (hk : kds i = .l) (hp : (execOp a.eval o).RdN P)
    (h : ∀ K : Act → World → Prop, (∀ a w, wpX P ops Q I kds rest a w → K a w) → o.wp P a w K (NoPanic Q)) : wpX P ops Q I kds (i :: rest) a w := by
  refine wpX_step hi hg fun K hK => ?_
  rw [hk]
  have h1 := h K hK
  unfold Oper.wp at h1
  cases hr : (execOp a.eval o).run P w with
  | ok n w' =>
    rw [hr] at h1
    obtain ⟨⟨v, rfl⟩, rfl, h3⟩ := hp _ _ _ hr
    refine ⟨v, fun e => ?_, h1⟩
    unfold Oper.val
    rw [h3 e]
    exact ⟨rfl, rfl⟩
  | halt x w' =>
    rw [hr] at h1
    cases x <;> simp only [Oper.upon] at h1
    exact h1.elim

theorem wpX_gr (hi : ops[i]? = some o) (hg : Region.wanted o (yielded ops a.tmps) = true) (hk : kds i = .g) (hp : (execOp a.eval o).GrN P)
    (h : ∀ K : Act → World → Prop, (∀ a w, wpX P ops Q anyW kds rest a w → K a w) → o.wp P a w K (NoPanic Q)) : wpX P ops Q anyW kds (i :: rest) a w := by
  refine wpX_step hi hg fun K hK => ?_
  rw [hk]
  have h1 := h K hK
  unfold Oper.wp at h1
  show o.wp P a w _ _
  unfold Oper.wp
  cases hr : (execOp a.eval o).run P w with
  | ok n w' =>
    rw [hr] at h1
    obtain ⟨⟨v, rfl⟩, h3⟩ := hp _ _ _ hr
    exact ⟨h3, True.intro, h1⟩
  | halt x w' =>
    rw [hr] at h1
    cases x <;> simp only [Oper.upon] at h1 ⊢
    exact h1

theorem wpX_ex (hi : ops[i]? = some o) (hg : Region.wanted o (yielded ops a.tmps) = true) (hk : kds i = .e)
    (h : ∀ K : Act → World → Prop, (∀ a w, wpX P ops Q anyW kds rest a w → K a w) → o.wp P a w K (NoPanic Q)) : wpX P ops Q anyW kds (i :: rest) a w := by
  refine wpX_step hi hg fun K hK => ?_
  rw [hk]
  exact Oper.wp_mono (fun a w h => ⟨True.intro, h⟩) (h K hK)

/-- .. that keeps the region's invariant. -/
theorem wpX_es (hi : ops[i]? = some o) (hg : Region.wanted o (yielded ops a.tmps) = true) (hk : kds i = .e)
    (h : ∀ K : Act → World → Prop, (∀ a w, I w → wpX P ops Q I kds rest a w → K a w) → o.wp P a w K (NoPanic Q)) : wpX P ops Q I kds (i :: rest) a w := by
  refine wpX_step hi hg fun K hK => ?_
  rw [hk]
  exact h _ (fun a w hI hx => ⟨hI, hK _ _ hx⟩)

/-- It reads what the invariant tells. -/
theorem wpX_md (v : Value) {d : Nat} (hi : ops[i]? = some o) (hg : Region.wanted o (yielded ops a.tmps) = true) (hk : kds i = .m) (hp : (execOp a.eval o).RdN P) (hd : o.dst = some d) (hs : d < a.tmps.size)
    (hv : ∀ w', I w' → o.wp P a w' (fun a' w'' => a' = a.put o.dst v ∧ w'' = w') (NoPanic Q))
    (h : wpX P ops Q I kds rest (a.put o.dst v) w) : wpX P ops Q I kds (i :: rest) a w := by
  refine wpX_step hi hg fun K hK => ?_
  rw [hk]
  refine ⟨v, fun w' hI => ?_, hK _ _ h⟩
  have h1 := hv w' hI
  unfold Oper.wp at h1
  unfold Oper.val
  cases hr : (execOp a.eval o).run P w' with
  | ok n w'' =>
    rw [hr] at h1
    obtain ⟨⟨u, rfl⟩, rfl, h3⟩ := hp _ _ _ hr
    refine ⟨rfl, ?_⟩
    have h2 := congrArg (fun a : Act => a.tmps[d]?) h1.1
    simp only [hd, Act.put, Array.getElem?_setIfInBounds_self_of_lt hs] at h2
    exact Option.some.inj h2
  | halt x w'' =>
    rw [hr] at h1
    cases x <;> simp only [Oper.upon] at h1
    exact h1.elim

/-- A call that turns nothing of what was there. -/
theorem wpX_ca (hi : ops[i]? = some o) (hg : Region.wanted o (yielded ops a.tmps) = true) (hk : kds i = .g)
    (h : ∀ K : Act → World → Prop, (∀ a w, wpX P ops Q anyW kds rest a w → K a w) → o.wp P a w (fun a' w' => (∃ e, w' = w.ext e) ∧ K a' w') (NoPanic Q)) : wpX P ops Q anyW kds (i :: rest) a w := by
  refine wpX_step hi hg fun K hK => ?_
  rw [hk]
  exact Oper.wp_mono (fun a w h => ⟨h.1, True.intro, h.2⟩) (h K hK)

/-- What hangs on an answer and is not wanted. -/
theorem wpX_un (hi : ops[i]? = some o) (hw : Region.wanted o (yielded ops a.tmps) = false) (h : wpX P ops Q I kds rest (a.put o.dst undef) w) : wpX P ops Q I kds (i :: rest) a w := by
  refine wpX_guard hi fun K hK => ?_
  simp only [hw, Bool.false_eq_true, if_false]
  exact hK _ _ h
end
end
end Go
