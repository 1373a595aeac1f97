/- The keys and spans that a law of package reads is handed, opened. -/
import Derived.Test.YtdnohhlgaaihmaaSpanQ
namespace Go.Proofs.Ytdnohhlgaaihmaa
open Go.RowKit

theorem one_of' {c : List Value} (h : c.length = 1) : ∃ c0, c = [c0] := by
  match c, h with
  | [c0], _ => exact ⟨c0, rfl⟩
theorem three_of {c : List Value} (h : c.length = 3) : ∃ c0 c1 c2, c = [c0, c1, c2] := by
  match c, h with
  | [c0, c1, c2], _ => exact ⟨c0, c1, c2, rfl⟩

set_option maxRecDepth 100000 in
theorem keys_open {w : World} {cs : List Value} (h : Td Try.prog w 63 cs) : ∃ x ks, cs = [x] ∧ Keys w x ks ∧ ks.length ≤ reachBytes := by
  have hc : Try.prog.cellsOf 34 = 1 := by kernel_rfl
  have hb : Try.prog.bytesOf 34 = 24 := by kernel_rfl
  obtain ⟨v, css, rfl, h1, h2, h3⟩ := h.slice Try.underlying63 (by rw [hc]; decide)
  rw [hc] at h1
  rw [hb] at h3
  have key : ∀ (css : List (List Value)), (∀ c ∈ css, c.length = Try.prog.cellsOf 34 ∧ Td Try.prog w 34 c) → ∃ ks : List Kv, ks.length = css.length ∧ css.flatten = ks.map Kv.V ∧ ∀ o ∈ ks, o.Good w := by
    intro css
    induction css with
    | nil => intro _; exact ⟨[], rfl, rfl, by simp⟩
    | cons c css ih =>
      intro hall
      obtain ⟨ks, e1, e2, e3⟩ := ih fun c hc => hall c (.tail _ hc)
      obtain ⟨hl, hd⟩ := hall c (.head _)
      obtain ⟨B, bs, hB, hBs, hBl⟩ := hd.bytes Try.underlying34 Try.underlying5 (by kernel_rfl) (by kernel_rfl)
      subst hB
      refine ⟨⟨B, bs⟩ :: ks, by simp [e1], ?_, ?_⟩
      · rw [List.flatten_cons, e2]; rfl
      · intro o ho
        rcases List.mem_cons.1 ho with rfl | ho
        · exact ⟨hBs, hBl⟩
        · exact e3 o ho
  obtain ⟨ks, e1, e2, e3⟩ := key css h2
  rw [e2, ← e1] at h1
  exact ⟨v, ks, rfl, ⟨h1, e3⟩, by omega⟩

set_option maxRecDepth 100000 in
theorem spans_open {w : World} {cs : List Value} (h : Td Try.prog w 90 cs) : ∃ x l, cs = [x] ∧ SpIn w x l := by
  have hc : Try.prog.cellsOf 100 = 3 := by kernel_rfl
  have hb : Try.prog.bytesOf 100 = 56 := by kernel_rfl
  obtain ⟨v, css, rfl, h1, h2, h3⟩ := h.slice Try.underlying90 (by rw [hc]; decide)
  rw [hc] at h1
  rw [hb] at h3
  have key : ∀ (css : List (List Value)), (∀ c ∈ css, c.length = Try.prog.cellsOf 100 ∧ Td Try.prog w 100 c) → ∃ l : List SpV, l.length = css.length ∧ css.flatten = l.flatMap SpV.cells ∧ ∀ o ∈ l, o.Raw w := by
    intro css
    induction css with
    | nil => intro _; exact ⟨[], rfl, rfl, by simp⟩
    | cons c css ih =>
      intro hall
      obtain ⟨os, e1, e2, e3⟩ := ih fun c hc => hall c (.tail _ hc)
      obtain ⟨hl, hd⟩ := hall c (.head _)
      have hf := (hd.struct Try.underlying100).2
      obtain ⟨c0, c1, c2, rfl⟩ := three_of (hl.trans hc)
      have z0 : Try.prog.cellsOf 34 = 1 := by kernel_rfl
      have z1 : Try.prog.cellsOf 4 = 1 := by kernel_rfl
      have f0 : Td Try.prog w 34 [c0] := by
        have h : Td Try.prog w 34 (([c0, c1, c2].drop 0).take (Try.prog.cellsOf 34)) := hf 0 _ rfl
        rw [z0] at h; exact h
      have f1 : Td Try.prog w 34 [c1] := by
        have h : Td Try.prog w 34 (([c0, c1, c2].drop 1).take (Try.prog.cellsOf 34)) := hf 1 _ rfl
        rw [z0] at h; exact h
      have f2 : Td Try.prog w 4 [c2] := by
        have h : Td Try.prog w 4 (([c0, c1, c2].drop 2).take (Try.prog.cellsOf 4)) := hf 2 _ rfl
        rw [z1] at h; exact h
      obtain ⟨B, bs, hB, hBs, hBl⟩ := f0.bytes Try.underlying34 Try.underlying5 (by kernel_rfl) (by kernel_rfl)
      obtain ⟨C, ct, hC, hCs, hCl⟩ := f1.bytes Try.underlying34 Try.underlying5 (by kernel_rfl) (by kernel_rfl)
      obtain ⟨b, hb⟩ := f2.bool Try.underlying4
      simp only [List.cons.injEq, and_true] at hB hC hb
      subst hB; subst hC; subst hb
      refine ⟨⟨c0, c1, bs, ct, b⟩ :: os, by simp [e1], ?_, ?_⟩
      · rw [List.flatten_cons, e2]; rfl
      · intro o ho
        rcases List.mem_cons.1 ho with rfl | ho
        · exact ⟨hBs, hCs, hBl, hCl⟩
        · exact e3 o ho
  obtain ⟨os, e1, e2, e3⟩ := key css h2
  rw [e2, ← e1] at h1
  exact ⟨v, os, rfl, h1, e3, by omega⟩
end Go.Proofs.Ytdnohhlgaaihmaa
