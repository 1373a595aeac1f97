/- The book of lists: bytes put into it. -/
import Derived.Test.YtdnohhlgaaihmaaBase
namespace Go.Proofs.Ytdnohhlgaaihmaa
open Go.RowKit

theorem tbRows : Tb Try.prog 63 34 (.slice none 0 0) 1 24 := ⟨by kernel_rfl, by kernel_rfl, rfl, by decide⟩

def nilS : Value := .slice none 0 0

/-- A book at block b that holds lists of bytes alone. -/
def Bk (w : World) (b : Nat) (v : Value) (rs : List Value) : Prop :=
  w.heap[b]? = some (.cells (#[v] ++ Array.replicate 22 nilS) 87 (0, 0)) ∧ w.ownsRow 0 34 1 v rs.length rs ∧ v.ownBlock ≠ some b

theorem Bk.cells {w : World} {b : Nat} {v : Value} {rs : List Value} (h : Bk w b v rs) : w.cell? ⟨b, 0, none⟩ = some v ∧ (∀ i, i < 22 → w.cell? ⟨b, i + 1, none⟩ = some (.slice none 0 0)) ∧ (∀ o, w.frozen? ⟨b, o, none⟩ = false) ∧ b < w.heap.size := by
  refine ⟨by simp [World.cell?, h.1], fun i hi => ?_, fun o => by simp [World.frozen?, h.1], (Array.getElem?_eq_some_iff.1 h.1).1⟩
  simp only [World.cell?, h.1, Option.isSome_none, Bool.false_eq_true, if_false]
  rw [Array.getElem?_append_right (by simp), Array.getElem?_replicate]
  rw [if_pos (by simp; omega)]; rfl

set_option maxRecDepth 100000 in
set_option maxHeartbeats 400000 in
theorem book_bytes (b : Nat) (w : World) (v : Value) (rs : List Value) (A : Option Addr) (n c : Nat) (h : Bk w b v rs) (hl : rs.length ≤ 1000000) :
    Calls Try.prog 82 #[.pointer (some ⟨b, 0, none⟩), .slice A n c] w fun e w' => e = .returned (.tuple #[]) ∧ ∃ v', Bk w' b v' (rs ++ [.slice A n c]) ∧ Fr (fun k => k = b ∨ v.ownBlock = some k) w w' ∧ Moved w w' v v' := by
  obtain ⟨B, d, rfl⟩ := own_form h.2.1
  obtain ⟨hc0, _, hfz, hbs⟩ := h.cells
  have HB := Lib.hid h; clear h
  go_enter Try.func82, Try.ntmps82
  go_wp2_with (at_builtin; refine wpList_ap rfl (.tmp 8) (.tmp 10) 63 rfl tbRows HB.out.2.1 ?fr ((Sl.built w _ _).kept0 ((Fr.refl no _))) rfl rfl (by simp [Value.oneCell']) ?b1 ?b2 ?go)
  case fr => (repeat first | exact Fr.refl _ _ | apply Fr.drew | apply Fr.alloc)
  case b1 => simp only [maxLen]; omega
  case b2 => omega
  case go =>
    intro A' N c' w2 ho hf2 hm2
    have hg : Fr (fun k => Value.ownBlock (.slice B rs.length d) = some k) w w2 := Fr.trans (S := fun k => Value.ownBlock (.slice B rs.length d) = some k) (by (repeat first | exact Fr.refl _ _ | apply Fr.drew | apply Fr.alloc)) hf2 (fun _ _ h => h)
    have hc1 := hg.cell hc0 HB.out.2.2
    have hf1 := (hg.frozen (a := ⟨b, 0, none⟩) hbs HB.out.2.2).trans (hfz 0)
    have hheap := hg.heap HB.out.1 HB.out.2.2
    have HO := Lib.hid ho; have HG := Lib.hid hg; have HM := Lib.hid hm2; have HH := Lib.hid hheap; clear ho hf2 hm2 hg hheap
    go_wp2
    go_end0
    obtain rfl : N = (rs ++ [Value.slice A n c]).length := by have := HO.out.1; simpa using this.symm
    have hne : Value.ownBlock (.slice A' (rs ++ [Value.slice A n c]).length c') ≠ some b := HM.out.not (by simp; omega) HB.out.2.2
    refine ⟨rfl, _, ⟨?_, own_set HO.out _ _ (by simpa using hne), hne⟩, ?_, ?_⟩
    · rw [hp_same HH.out]; simp
    · exact (HG.out.mono (fun _ _ h => .inr h)).setCell _ _ (fun _ => .inl rfl)
    · exact (HM.out.first (by simp)).later (by simp [World.setCell])
end Go.Proofs.Ytdnohhlgaaihmaa
