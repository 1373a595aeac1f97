/- reads.Set: Span adds all keys of a span. -/
import Derived.Test.YtdnohhlgaaihmaaSpans
import Derived.Test.YtdnohhlgaaihmaaInsSpan
import Derived.Test.YtdnohhlgaaihmaaSep
namespace Go.Proofs.Ytdnohhlgaaihmaa
open Go.RowKit

set_option maxRecDepth 100000 in
set_option maxHeartbeats 400000 in
theorem rown_any (w : World) (x : Value) (l : List UInt8) (hx : Sl w 1 x l.length (bvs l)) (hl : l.length ≤ 1000000000) :
    Calls Try.prog 111 #[x] w fun e w' => ∃ A, e = .returned (.slice A l.length l.length) ∧ Ow w' 5 1 (.slice A l.length l.length) l.length (bvs l) ∧ (∀ k, Value.ownBlock (.slice A l.length l.length) = some k → w.heap.size ≤ k) ∧ Fr no w w' := by
  have HX := Lib.hid hx; clear hx
  go_enter Try.func111, Try.ntmps111
  go_wp2_with fail
  refine (bclone_any _ _ l HX.out hl).mono ?_
  rintro e w1 ⟨A1, c1, rfl, ho, hfresh, hf⟩
  obtain ⟨A2, c2, h1, h2, h3⟩ := ho.form
  cases h1
  have HO := Lib.hid ho; have HFR := Lib.hid hfresh; have HF := Lib.hid hf; clear ho hfresh hf h3
  go_wp2_with fail
  refine (bclip_any _ _ _ _ h2).mono ?_
  rintro e w2 ⟨rfl, rfl⟩
  go_wp2
  go_ret
  exact ⟨A1, rfl, HO.out.clip, fun k hk => HFR.out k (by cases A1 <;> exact hk), HF.out⟩

namespace SpV
/-- One more span met. -/
def merge (x y : SpV) : SpV :=
  let a : SpV := if cb y.f x.f < 0 then { x with F := y.F, f := y.f } else x
  if a.o then a else if y.o then { a with o := true, T := .slice none 0 0, t := [] } else if 0 < cb y.t a.t then { a with T := y.T, t := y.t } else a

/-- All that are met, and what comes of it. -/
def mt : List SpV → SpV → Nat × SpV
  | [], x => (0, x)
  | y :: ys, x => if reach x.o x.t y.f then ((mt ys (merge x y)).1 + 1, (mt ys (merge x y)).2) else (0, x)

/-- The place of the first that reaches x. -/
def fst_ (l : List SpV) (k : List UInt8) : Nat := (l.findIdx? fun y => reach y.o y.t k).getD l.length

/-- A span added. -/
def add (l : List SpV) (x : SpV) : List SpV :=
  l.take (fst_ l x.f) ++ [(mt (l.drop (fst_ l x.f)) x).2] ++ l.drop (fst_ l x.f + (mt (l.drop (fst_ l x.f)) x).1)

theorem fst_le (l : List SpV) (k : List UInt8) : fst_ l k ≤ l.length := by
  unfold fst_
  cases h : l.findIdx? (fun y => reach y.o y.t k) with
  | none => simp
  | some i => have := (List.findIdx?_eq_some_iff_getElem.1 h).1; simp; omega

theorem mt_le : ∀ (l : List SpV) (x : SpV), (mt l x).1 ≤ l.length
  | [], x => by simp [mt]
  | y :: ys, x => by
    unfold mt
    split
    · have := mt_le ys (merge x y); simp; omega
    · simp

theorem fits_fst (l : List SpV) (k : List UInt8) : (fits (fun y => reach y.o y.t k) l = -1 ∧ fst_ l k = l.length) ∨ (fits (fun y => reach y.o y.t k) l = (fst_ l k : Int) ∧ fst_ l k < l.length) := by
  unfold fits fst_
  cases h : l.findIdx? (fun y => reach y.o y.t k) with
  | none => left; simp
  | some i => right; have := (List.findIdx?_eq_some_iff_getElem.1 h).1; simp; exact this
end SpV

/-- What a set takes up: itself, its row, its spans' bytes. -/
def SeF (p : Nat) (sv : Value) (l : List SpV) : Nat → Prop := fun k => k = p ∨ sv.ownBlock = some k ∨ ∃ x ∈ l, x.F.ownBlock = some k ∨ x.T.ownBlock = some k

/-- A set at block p. -/
structure Se (w : World) (p : Nat) (sv : Value) (l : List SpV) : Prop where
  at_ : w.heap[p]? = some (.cells #[sv] 159 (0, 0))
  row : Ow w 100 3 sv l.length (l.flatMap SpV.cells)
  good : ∀ x ∈ l, x.Good w
  ne : sv.ownBlock ≠ some p
  apart : ∀ x ∈ l, ∀ k, x.F.ownBlock = some k ∨ x.T.ownBlock = some k → k ≠ p ∧ sv.ownBlock ≠ some k ∧ k < w.heap.size

theorem Se.kept {w w1 : World} {p : Nat} {sv : Value} {l : List SpV} {S : Nat → Prop} (h : Se w p sv l) (f : Fr S w w1) (hn : Dj (SeF p sv l) S) : Se w1 p sv l :=
  ⟨f.heap h.at_ (hn p (.inl rfl)), h.row.kept f (fun k hk => hn k (.inr (.inl hk))), fun x hx => (h.good x hx).kept f (fun k hk => hn k (.inr (.inr ⟨x, hx, .inl hk⟩))) (fun k hk => hn k (.inr (.inr ⟨x, hx, .inr hk⟩))), h.ne, fun x hx k hk => by obtain ⟨h1, h2, h3⟩ := h.apart x hx k hk; exact ⟨h1, h2, Nat.lt_of_lt_of_le h3 f.size⟩⟩
theorem Se.kept0 {w w1 : World} {p : Nat} {sv : Value} {l : List SpV} (h : Se w p sv l) (f : Fr no w w1) : Se w1 p sv l := h.kept f (fun _ _ h => h)

/-- A span in a variable of its own. -/
def VarAt (w : World) (b : Nat) (x : SpV) : Prop := w.heap[b]? = some (.cells #[x.F, x.T, .bool x.o] 100 (0, 0))

theorem VarAt.cells {w : World} {b : Nat} {x : SpV} (h : VarAt w b x) : w.cell? ⟨b, 0, none⟩ = some x.F ∧ w.cell? ⟨b, 1, none⟩ = some x.T ∧ w.cell? ⟨b, 2, none⟩ = some (.bool x.o) ∧ (∀ o, w.frozen? ⟨b, o, none⟩ = false) ∧ b < w.heap.size := by
  unfold VarAt at h
  exact ⟨by simp [World.cell?, h], by simp [World.cell?, h], by simp [World.cell?, h], fun o => by simp [World.frozen?, h], (Array.getElem?_eq_some_iff.1 h).1⟩
theorem VarAt.kept {w w1 : World} {b : Nat} {x : SpV} {S : Nat → Prop} (h : VarAt w b x) (f : Fr S w w1) (hn : ¬ S b) : VarAt w1 b x := f.heap h hn
theorem VarAt.setF {w : World} {b : Nat} {x : SpV} (h : VarAt w b x) (v : Value) (l : List UInt8) : VarAt (w.setCell ⟨b, 0, none⟩ v) b { x with F := v, f := l } := by
  unfold VarAt at *; rw [hp_same h]; simp
theorem VarAt.setT {w : World} {b : Nat} {x : SpV} (h : VarAt w b x) (v : Value) (l : List UInt8) : VarAt (w.setCell ⟨b, 1, none⟩ v) b { x with T := v, t := l } := by
  unfold VarAt at *; rw [hp_same h]; simp
theorem VarAt.setO {w : World} {b : Nat} {x : SpV} (h : VarAt w b x) (o : Bool) : VarAt (w.setCell ⟨b, 2, none⟩ (.bool o)) b { x with o := o } := by
  unfold VarAt at *; rw [hp_same h]; simp
end Go.Proofs.Ytdnohhlgaaihmaa
