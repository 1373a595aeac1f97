/- What all walks need of memory. -/
import Derived.Test.YtdnohhlgaaihmaaProg
import Derived.Test.YtdnohhlgaaihmaaMem
import Derived.KernelRfl
import Derived.Lib.Hide
namespace Go.Proofs.Ytdnohhlgaaihmaa
open Go.RowKit

theorem tbB : Tb Try.prog 34 5 (.int .u8 0) 1 1 := ⟨by kernel_rfl, by kernel_rfl, rfl, by decide⟩

theorem one_cells {w : World} {p : Nat} {v : Value} {T : TypeId} (h : w.heap[p]? = some (.cells #[v] T (0, 0))) : w.cell? ⟨p, 0, none⟩ = some v ∧ (∀ o, w.frozen? ⟨p, o, none⟩ = false) ∧ p < w.heap.size := by
  refine ⟨by simp [World.cell?, h], fun o => by simp [World.frozen?, h], (Array.getElem?_eq_some_iff.1 h).1⟩

theorem four_cells {w : World} {p : Nat} {a b c d : Value} {T : TypeId} (h : w.heap[p]? = some (.cells #[a, b, c, d] T (0, 0))) :
    w.cell? ⟨p, 0, none⟩ = some a ∧ w.cell? ⟨p, 1, none⟩ = some b ∧ w.cell? ⟨p, 2, none⟩ = some c ∧ w.cell? ⟨p, 3, none⟩ = some d ∧ (∀ o, w.frozen? ⟨p, o, none⟩ = false) ∧ p < w.heap.size := by
  refine ⟨by simp [World.cell?, h], by simp [World.cell?, h], by simp [World.cell?, h], by simp [World.cell?, h], fun o => by simp [World.frozen?, h], (Array.getElem?_eq_some_iff.1 h).1⟩

def At (p : Nat) : Nat → Prop := fun k => k = p

theorem _root_.Go.Fr.setAt {p : Nat} {w w1 : World} (h : Fr (At p) w w1) (o : Nat) (v : Value) : Fr (At p) w (w1.setCell ⟨p, o, none⟩ v) := h.setCell _ _ (fun _ => rfl)

theorem fr_sooner {w w1 w2 : World} {S : Nat → Prop} (f : Fr no w w1) (g : Fr S w1 w2) : Fr S w w2 := (f.mono (fun _ _ h => h.elim)).trans g (fun _ _ h => h)

theorem results_tmp4 {fn : Func} {t u v x : Tmp} (h : fn.results = #[.tmp t, .tmp u, .tmp v, .tmp x]) (tmps : Array Value) (P : Program) (w : World) :
    (results fn tmps).run P w = .ok (.tuple #[tmps.getD t undef, tmps.getD u undef, tmps.getD v undef, tmps.getD x undef]) w := by
  simp [results, h]

theorem below_by {w0 w w1 : World} {S : Nat → Prop} (h : Below w0.heap.size w0 w) (f : Fr S w w1) (hS : ∀ k, S k → w0.heap.size ≤ k) : Below w0.heap.size w0 w1 := by
  have s := h.size
  exact ⟨f.os.trans h.os, f.tape.trans h.tape, f.output.trans h.output, Nat.le_trans s f.size, fun k hk => (f.block k (by omega) (fun h2 => by have := hS k h2; omega)).trans (h.block k hk)⟩

end Go.Proofs.Ytdnohhlgaaihmaa
