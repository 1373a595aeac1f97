/- package buffer: a buffer, and how its changes are undone. -/
import Derived.Test.YtdnohhlgaaihmaaBuf1
namespace Go.Proofs.Ytdnohhlgaaihmaa
open Go.RowKit

/-- What a value of a change or span takes up. -/
def BlC (x : SpV) (k : Nat) : Prop := x.F.ownBlock = some k ∨ x.T.ownBlock = some k

/-- An undoing: its boxes, the place, and what was there. -/
inductive Und where
  | set (bw bx bi i : Nat) (was : SpV)
  | ins (bx bi i : Nat)

namespace Und
def val : Und → Value
  | .set bw bx bi _ _ => .func (.func 127) #[] #[.pointer (some ⟨bw, 0, none⟩), .pointer (some ⟨bx, 0, none⟩), .pointer (some ⟨bi, 0, none⟩)]
  | .ins bx bi _ => .func (.func 129) #[] #[.pointer (some ⟨bx, 0, none⟩), .pointer (some ⟨bi, 0, none⟩)]
/-- Its boxes. -/
def Ok (w : World) (p : Nat) : Und → Prop
  | .set bw bx bi i was => w.heap[bw]? = some (.cells #[was.F, was.T, .bool was.o] 36 (0, 0)) ∧ w.heap[bx]? = some (.cells #[.pointer (some ⟨p, 0, none⟩)] 25 (0, 0)) ∧ w.heap[bi]? = some (.cells #[.int .i64 i] 3 (0, 0)) ∧ was.Good w
  | .ins bx bi i => w.heap[bx]? = some (.cells #[.pointer (some ⟨p, 0, none⟩)] 25 (0, 0)) ∧ w.heap[bi]? = some (.cells #[.int .i64 i] 3 (0, 0))
/-- What it takes up. -/
def blk : Und → Nat → Prop
  | .set bw bx bi _ was, k => k = bw ∨ k = bx ∨ k = bi ∨ BlC was k
  | .ins bx bi _, k => k = bx ∨ k = bi
/-- What it does. -/
def back : Und → List SpV → List SpV
  | .set _ _ _ i was, l => l.set i was
  | .ins _ _ i, l => l.eraseIdx i
def fits : Und → List SpV → Prop
  | .set _ _ _ i _, l => i < l.length
  | .ins _ _ i, l => i < l.length
theorem Ok.kept {w w1 : World} {p : Nat} {u : Und} {S : Nat → Prop} (h : u.Ok w p) (f : Fr S w w1) (hn : ∀ k, u.blk k → ¬ S k) : u.Ok w1 p := by
  cases u with
  | set bw bx bi i was => exact ⟨f.heap h.1 (hn _ (.inl rfl)), f.heap h.2.1 (hn _ (.inr (.inl rfl))), f.heap h.2.2.1 (hn _ (.inr (.inr (.inl rfl)))), h.2.2.2.kept f (fun k hk => hn k (.inr (.inr (.inr (.inl hk))))) (fun k hk => hn k (.inr (.inr (.inr (.inr hk)))))⟩
  | ins bx bi i => exact ⟨f.heap h.1 (hn _ (.inl rfl)), f.heap h.2 (hn _ (.inr rfl))⟩
end Und

/-- How a list of changes came: the newest first. -/
def Hist : List Und → List SpV → Prop
  | [], l => l = []
  | u :: us, l => u.fits l ∧ Ris (u.back l) ∧ Hist us (u.back l)

/-- A buffer at block p. -/
structure Bf (w : World) (p : Nat) (lv : Value) (l : List SpV) (uv : Value) (us : List Und) : Prop where
  at_ : w.heap[p]? = some (.cells #[lv, uv] 112 (0, 0))
  row : Ow w 36 3 lv l.length (l.flatMap SpV.cells)
  good : ∀ x ∈ l, x.Good w
  undo : Ow w 1 1 uv us.length (us.reverse.map Und.val)
  uok : ∀ u ∈ us, u.Ok w p
  ris : Ris l
  hist : Hist us l
  nl : lv.ownBlock ≠ some p
  nu : uv.ownBlock ≠ some p
  lu : ∀ k, lv.ownBlock = some k → uv.ownBlock ≠ some k
  apart : ∀ k, ((∃ x ∈ l, BlC x k) ∨ ∃ u ∈ us, u.blk k) → k ≠ p ∧ lv.ownBlock ≠ some k ∧ uv.ownBlock ≠ some k ∧ k < w.heap.size

/-- What it takes up. -/
def BfF (p : Nat) (lv : Value) (l : List SpV) (uv : Value) (us : List Und) : Nat → Prop := fun k => k = p ∨ lv.ownBlock = some k ∨ uv.ownBlock = some k ∨ (∃ x ∈ l, BlC x k) ∨ ∃ u ∈ us, u.blk k

theorem Bf.kept {w w1 : World} {p : Nat} {lv uv : Value} {l : List SpV} {us : List Und} {S : Nat → Prop} (h : Bf w p lv l uv us) (f : Fr S w w1) (hn : ∀ k, BfF p lv l uv us k → ¬ S k) : Bf w1 p lv l uv us :=
  ⟨f.heap h.at_ (hn p (.inl rfl)), h.row.kept f (fun k hk => hn k (.inr (.inl hk))), fun x hx => (h.good x hx).kept f (fun k hk => hn k (.inr (.inr (.inr (.inl ⟨x, hx, .inl hk⟩))))) (fun k hk => hn k (.inr (.inr (.inr (.inl ⟨x, hx, .inr hk⟩))))),
    h.undo.kept f (fun k hk => hn k (.inr (.inr (.inl hk)))), fun u hu => (h.uok u hu).kept f (fun k hk => hn k (.inr (.inr (.inr (.inr ⟨u, hu, hk⟩))))), h.ris, h.hist, h.nl, h.nu, h.lu, fun k hk => by
      obtain ⟨a, b, c, d⟩ := h.apart k hk; exact ⟨a, b, c, Nat.lt_of_lt_of_le d f.size⟩⟩
theorem Bf.kept0 {w w1 : World} {p : Nat} {lv uv : Value} {l : List SpV} {us : List Und} (h : Bf w p lv l uv us) (f : Fr no w w1) : Bf w1 p lv l uv us := h.kept f (fun _ _ h => h)
theorem Bf.lt {w : World} {p : Nat} {lv uv : Value} {l : List SpV} {us : List Und} (h : Bf w p lv l uv us) : ∀ k, BfF p lv l uv us k → k < w.heap.size := by
  rintro k (rfl | hk | hk | hk)
  · exact (Array.getElem?_eq_some_iff.1 h.at_).1
  · exact h.row.lt k hk
  · exact h.undo.lt k hk
  · exact (h.apart k hk).2.2.2

theorem two_cells {w : World} {g : Nat} {x y : Value} {T : TypeId} (h : w.heap[g]? = some (.cells #[x, y] T (0, 0))) :
    w.cell? ⟨g, 0, none⟩ = some x ∧ w.cell? ⟨g, 1, none⟩ = some y ∧ (∀ j, w.frozen? ⟨g, j, none⟩ = false) ∧ g < w.heap.size :=
  ⟨by rw [cell_of_row _ _ _ _ _ (0, 0) h]; rfl, by rw [cell_of_row _ _ _ _ _ (0, 0) h]; rfl, fun j => by simp [World.frozen?, h], (Array.getElem?_eq_some_iff.1 h).1⟩
theorem one_cell {w : World} {g : Nat} {x : Value} {T : TypeId} (h : w.heap[g]? = some (.cells #[x] T (0, 0))) :
    w.cell? ⟨g, 0, none⟩ = some x ∧ (∀ j, w.frozen? ⟨g, j, none⟩ = false) ∧ g < w.heap.size :=
  ⟨by rw [cell_of_row _ _ _ _ _ (0, 0) h]; rfl, fun j => by simp [World.frozen?, h], (Array.getElem?_eq_some_iff.1 h).1⟩

set_option maxRecDepth 100000 in
set_option maxHeartbeats 400000 in
theorem bnew_any (w : World) :
    Calls Try.prog 33 #[] w fun e w' => ∃ p, e = .returned (.pointer (some ⟨p, 0, none⟩)) ∧ w.heap.size ≤ p ∧ Bf w' p (.slice none 0 0) [] (.slice none 0 0) [] ∧ Fr no w w' := by
  go_enter Try.func33, Try.ntmps33
  go_wp2
  go_ret
  refine ⟨_, rfl, Nat.le_refl _, ⟨heap_alloc_new _ _, ⟨rfl, .inl ⟨rfl, rfl⟩⟩, (fun x hx => nomatch hx), ⟨rfl, .inl ⟨rfl, rfl⟩⟩, (fun x hx => nomatch hx), List.Pairwise.nil, rfl, by simp [Value.ownBlock], by simp [Value.ownBlock], fun k hk => by simp [Value.ownBlock] at hk, ?_⟩, (Fr.refl no w).alloc _⟩
  rintro k (⟨x, hx, _⟩ | ⟨x, hx, _⟩) <;> cases hx

set_option maxRecDepth 100000 in
set_option maxHeartbeats 400000 in
theorem blen_any (w : World) (p : Nat) (lv uv : Value) (l : List SpV) (us : List Und) (h : Bf w p lv l uv us) :
    Calls Try.prog 28 #[.pointer (some ⟨p, 0, none⟩)] w fun e w' => e = .returned (.int .i64 l.length) ∧ w' = w := by
  obtain ⟨A, c, rfl, _, _⟩ := h.row.form
  obtain ⟨c0, _, _, _⟩ := two_cells h.at_
  clear h
  go_enter Try.func28, Try.ntmps28
  go_wp2
  go_ret
  exact ⟨rfl, rfl⟩
set_option maxRecDepth 100000 in
set_option maxHeartbeats 400000 in
theorem bmark_any (w : World) (p : Nat) (lv uv : Value) (l : List SpV) (us : List Und) (h : Bf w p lv l uv us) :
    Calls Try.prog 29 #[.pointer (some ⟨p, 0, none⟩)] w fun e w' => e = .returned (.int .i64 us.length) ∧ w' = w := by
  obtain ⟨A, c, rfl, _, _⟩ := h.undo.form
  obtain ⟨_, c0, _, _⟩ := two_cells h.at_
  clear h
  go_enter Try.func29, Try.ntmps29
  go_wp2
  go_ret
  exact ⟨rfl, rfl⟩

set_option maxRecDepth 100000 in
set_option maxHeartbeats 400000 in
theorem at_any (w : World) (p : Nat) (lv uv K : Value) (l : List SpV) (us : List Und) (k : List UInt8) (h : Bf w p lv l uv us) (hK : Sl w 1 K k.length (bvs k)) (hl : l.length ≤ 1000000) :
    Calls Try.prog 68 #[.pointer (some ⟨p, 0, none⟩), K] w fun e w' => e = .returned (.tuple #[.int .i64 (posK l k), .bool (saidK l k)]) ∧ Fr no w w' := by
  obtain ⟨A, c, rfl, _, _⟩ := h.row.form
  obtain ⟨c0, _, _, _⟩ := two_cells h.at_
  have HB := Lib.hid h; have HK := Lib.hid hK; clear h hK
  go_enter Try.func68, Try.ntmps68
  go_wp2_with fail
  refine (search_any w _ K l k HB.out.row.sl HB.out.good HK.out HB.out.ris hl).mono ?_
  rintro e w1 ⟨rfl, f1⟩
  have F1 := Lib.hid f1; clear f1
  go_wp2
  refine bodyPost_ret (results_tmp2 rfl _ _ _) rfl ?_
  exact ⟨rfl, F1.out⟩
end Go.Proofs.Ytdnohhlgaaihmaa
