import Derived.Test.YtdnohhlgaaihmaaMd20
import Derived.Test.YtdnohhlgaaihmaaMd31

/- law16: the pairs that a statement of package buffer is handed, opened; what a walk through a buffer hands out, in one form. -/
namespace Go.Proofs.Ytdnohhlgaaihmaa
open Go.RowKit

theorem two_of {c : List Value} (h : c.length = 2) : ∃ c0 c1, c = [c0, c1] := by
  match c, h with
  | [c0, c1], _ => exact ⟨c0, c1, rfl⟩

set_option maxRecDepth 100000 in
theorem pairs_open {w : World} {cs : List Value} (h : Td Try.prog w 22 cs) : ∃ (x : Value) (l : List PrV), cs = [x] ∧ Sl w 2 x l.length (l.flatMap PrV.cells) ∧ (∀ o ∈ l, Sl w 1 o.K o.k.length (bvs o.k) ∧ Sl w 1 o.V o.v.length (bvs o.v) ∧ o.k.length ≤ reachBytes ∧ o.v.length ≤ reachBytes) ∧ l.length ≤ reachBytes := by
  have hc : Try.prog.cellsOf 40 = 2 := by kernel_rfl
  have hb : Try.prog.bytesOf 40 = 48 := by kernel_rfl
  obtain ⟨v, css, rfl, h1, h2, h3⟩ := h.slice Try.underlying22 (by rw [hc]; decide)
  rw [hc] at h1
  rw [hb] at h3
  have key : ∀ (css : List (List Value)), (∀ c ∈ css, c.length = Try.prog.cellsOf 40 ∧ Td Try.prog w 40 c) → ∃ l : List PrV, l.length = css.length ∧ css.flatten = l.flatMap PrV.cells ∧ ∀ o ∈ l, Sl w 1 o.K o.k.length (bvs o.k) ∧ Sl w 1 o.V o.v.length (bvs o.v) ∧ o.k.length ≤ reachBytes ∧ o.v.length ≤ reachBytes := by
    intro css
    induction css with
    | nil => intro _; exact ⟨[], rfl, rfl, by simp⟩
    | cons c css ih =>
      intro hall
      obtain ⟨os, e1, e2, e3⟩ := ih fun c hc => hall c (.tail _ hc)
      obtain ⟨hl, hd⟩ := hall c (.head _)
      have hf := (hd.struct Try.underlying40).2
      obtain ⟨c0, c1, rfl⟩ := two_of (hl.trans hc)
      have z0 : Try.prog.cellsOf 34 = 1 := by kernel_rfl
      have f0 : Td Try.prog w 34 [c0] := by
        have h : Td Try.prog w 34 (([c0, c1].drop 0).take (Try.prog.cellsOf 34)) := hf 0 _ rfl
        rw [z0] at h; exact h
      have f1 : Td Try.prog w 34 [c1] := by
        have h : Td Try.prog w 34 (([c0, c1].drop 1).take (Try.prog.cellsOf 34)) := hf 1 _ rfl
        rw [z0] at h; exact h
      obtain ⟨B, bs, hB, hBs, hBl⟩ := f0.bytes Try.underlying34 Try.underlying5 (by kernel_rfl) (by kernel_rfl)
      obtain ⟨C, ct, hC, hCs, hCl⟩ := f1.bytes Try.underlying34 Try.underlying5 (by kernel_rfl) (by kernel_rfl)
      simp only [List.cons.injEq, and_true] at hB hC
      subst hB; subst hC
      refine ⟨⟨c0, c1, bs, ct⟩ :: os, by simp [e1], ?_, ?_⟩
      · rw [List.flatten_cons, e2]; rfl
      · intro o ho
        rcases List.mem_cons.1 ho with rfl | ho
        · exact ⟨hBs, hCs, hBl, hCl⟩
        · exact e3 o ho
  obtain ⟨os, e1, e2, e3⟩ := key css h2
  rw [e2, ← e1] at h1
  exact ⟨v, os, rfl, h1, e3, by omega⟩

/-- What a walk through a buffer answers: is there one, the error, the key, the value. -/
def resN : Option (Option (List UInt8 × List UInt8)) → Bool × Nat × List UInt8 × List UInt8
  | none => (false, 6, [], [])
  | some none => (false, 0, [], [])
  | some (some kv) => (true, 0, kv.1, kv.2)
theorem ThrE.form {w w' : World} {r : Option (Option (List UInt8 × List UInt8))} {e : Ending} (h : ThrE w w' r e) :
    ∃ (K V : Option Addr) (k v : List UInt8) (kc vc : Nat) (is : Bool) (c : Nat), e = .returned (.tuple #[.agg #[.slice K k.length kc, .slice V v.length vc], .bool is, .int .u16 c]) ∧ resN r = (is, c, k, v) ∧
      Sl w' 1 (.slice K k.length kc) k.length (bvs k) ∧ Sl w' 1 (.slice V v.length vc) v.length (bvs v) ∧ (∀ q, ((Value.slice K k.length kc).ownBlock = some q ∨ (Value.slice V v.length vc).ownBlock = some q) → w.heap.size ≤ q ∧ q < w'.heap.size) := by
  rcases r with _ | _ | ⟨k, v⟩
  · exact ⟨none, none, [], [], 0, 0, false, 6, h, rfl, ⟨rfl, .inl ⟨none, rfl, rfl⟩⟩, ⟨rfl, .inl ⟨none, rfl, rfl⟩⟩, fun q hq => by rcases hq with hq | hq <;> simp [Value.ownBlock] at hq⟩
  · exact ⟨none, none, [], [], 0, 0, false, 0, h, rfl, ⟨rfl, .inl ⟨none, rfl, rfl⟩⟩, ⟨rfl, .inl ⟨none, rfl, rfl⟩⟩, fun q hq => by rcases hq with hq | hq <;> simp [Value.ownBlock] at hq⟩
  · obtain ⟨A, B, h1, h2, h3, h4, h5⟩ := h
    exact ⟨A, B, k, v, k.length, v.length, true, 0, h1, rfl, h2.sl, h3.sl, fun q hq => ⟨h4 q hq, by rcases hq with hq | hq; exact h2.lt q hq; exact h3.lt q hq⟩⟩
/-- A pair of it in a row of one. -/
theorem pair_one {w : World} {vb : Nat} {K V : Value} {k v : List UInt8} (hv : Has w vb 40 [K, V]) (hK : Sl w 1 K k.length (bvs k)) (hV : Sl w 1 V v.length (bvs v)) (lk : k.length ≤ 140737488351232) (lv : v.length ≤ 140737488351232) :
    Pairs w (.slice (some ⟨vb, 0, none⟩) 1 1) [⟨K, V, k, v⟩] :=
  ⟨one_pair hv rfl, fun y hy => by cases List.mem_singleton.1 hy; exact ⟨hK, hV, lk, lv⟩, by simp⟩
/-- Two pairs in rows of one. -/
theorem two_has (w : World) (K V K2 V2 : Value) : Has ((w.alloc (.cells #[K, V] 40)).alloc (.cells #[K2, V2] 40)) w.heap.size 40 [K, V] ∧
    Has ((w.alloc (.cells #[K, V] 40)).alloc (.cells #[K2, V2] 40)) (w.heap.size + 1) 40 [K2, V2] ∧ Fr no w ((w.alloc (.cells #[K, V] 40)).alloc (.cells #[K2, V2] 40)) := by
  have a1 := (Fr.refl no w).alloc (.cells #[K, V] 40)
  have a2 := (Fr.refl no (w.alloc (.cells #[K, V] 40))).alloc (.cells #[K2, V2] 40)
  have e1 := heap_alloc_new w (.cells #[K, V] 40)
  have e2 := heap_alloc_new (w.alloc (.cells #[K, V] 40)) (.cells #[K2, V2] 40)
  rw [World.size_alloc] at e2
  exact ⟨a2.heap e1 (fun h => h), e2, a1.trans a2 (fun _ _ h => h)⟩
theorem Bel.keptS {w w1 : World} {b : Nat} {lv : Value} {l : List PrV} {n : Nat} {S : Nat → Prop} (h : Bel w b lv l n) (f : Fr S w w1) (hb : ¬ S b) (hn : ∀ q, (lv.ownBlock = some q ∨ ∃ y ∈ l, y.K.ownBlock = some q ∨ y.V.ownBlock = some q) → ¬ S q) : Bel w1 b lv l n :=
  ⟨f.heap h.at_ hb, h.pairs.kept f (fun k hk => hn k (.inl hk)) (fun y hy k hk => hn k (.inr ⟨y, hy, hk⟩)), h.ne, h.nk⟩
end Go.Proofs.Ytdnohhlgaaihmaa
