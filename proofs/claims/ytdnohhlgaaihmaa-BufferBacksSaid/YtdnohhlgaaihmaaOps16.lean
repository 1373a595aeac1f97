/- law16: the calls that a statement of package buffer is handed. -/
import Derived.Test.YtdnohhlgaaihmaaBuf6
import Derived.Test.YtdnohhlgaaihmaaTd
namespace Go.Proofs.Ytdnohhlgaaihmaa
open Go.RowKit

/-- A call: its kind, its key and value, and the rest. -/
structure OpB where
  k : Nat
  K : Value
  V : Value
  kb : List UInt8
  vb : List UInt8
  i : Bool
  n : Int
namespace OpB
def cells (o : OpB) : List Value := [.int .u8 o.k, o.K, o.V, .bool o.i, .int .i64 o.n]
structure Good (w : World) (o : OpB) : Prop where
  k : o.k < 256
  K : Sl w 1 o.K o.kb.length (bvs o.kb)
  V : Sl w 1 o.V o.vb.length (bvs o.vb)
  n0 : -9223372036854775808 ≤ o.n
  n1 : o.n ≤ 9223372036854775807
  lk : o.kb.length ≤ reachBytes
  lv : o.vb.length ≤ reachBytes
theorem Good.kept0 {w w1 : World} {o : OpB} (h : o.Good w) (f : Fr no w w1) : o.Good w1 := ⟨h.k, h.K.kept0 f, h.V.kept0 f, h.n0, h.n1, h.lk, h.lv⟩
end OpB

theorem flat5 (l : List OpB) (j : Nat) (h : j < l.length) (i : Nat) (hi : i < 5) : (l.flatMap OpB.cells)[5 * j + i]? = (l[j].cells)[i]? := by
  have e : l.flatMap OpB.cells = (l.map OpB.cells).flatten := by rw [List.flatMap_def]
  rw [e, flat_get (sz := 5) (by omega) _ (by intro c hc; obtain ⟨o, _, rfl⟩ := List.mem_map.1 hc; rfl)]
  rw [show (5 * j + i) / 5 = j by omega, show (5 * j + i) % 5 = i by omega]
  simp [h]

/-- Calls in a row. -/
structure OpsB (w : World) (x : Value) (l : List OpB) : Prop where
  sl : Sl w 5 x l.length (l.flatMap OpB.cells)
  good : ∀ o ∈ l, o.Good w
  n : l.length ≤ reachBytes
theorem OpsB.kept0 {w w1 : World} {x : Value} {l : List OpB} (h : OpsB w x l) (f : Fr no w w1) : OpsB w1 x l := ⟨h.sl.kept0 f, fun y hy => (h.good y hy).kept0 f, h.n⟩
theorem OpsB.at {w : World} {A : Option Addr} {n c : Nat} {l : List OpB} (h : OpsB w (.slice A n c) l) (j : Nat) (hj : j < l.length) :
    ∃ b o KA kc VA vc, A = some ⟨b, o, none⟩ ∧ n = l.length ∧ w.cell? ⟨b, o + j * 5, none⟩ = some (.int .u8 l[j].k) ∧ w.cell? ⟨b, o + j * 5 + 1, none⟩ = some (.slice KA l[j].kb.length kc) ∧ w.cell? ⟨b, o + j * 5 + 2, none⟩ = some (.slice VA l[j].vb.length vc) ∧
      w.cell? ⟨b, o + j * 5 + 3, none⟩ = some (.bool l[j].i) ∧ w.cell? ⟨b, o + j * 5 + 4, none⟩ = some (.int .i64 l[j].n) ∧
      Sl w 1 (.slice KA l[j].kb.length kc) l[j].kb.length (bvs l[j].kb) ∧ Sl w 1 (.slice VA l[j].vb.length vc) l[j].vb.length (bvs l[j].vb) := by
  have hg := h.good l[j] (List.getElem_mem _)
  obtain ⟨KA, kc, hK, _, _⟩ := hg.K.form
  obtain ⟨VA, vc, hV, _, _⟩ := hg.V.form
  rcases h.sl.2 with ⟨_, h1, h2⟩ | ⟨b, o, cap, h1, _, _, h4⟩
  · omega
  · cases h1
    have g : ∀ i, i < 5 → ∀ u, (l[j].cells)[i]? = some u → w.cell? ⟨b, o + j * 5 + i, none⟩ = some u := fun i hi u hu => by
      have := h4 (5 * j + i) u (by rw [flat5 l j hj i hi, hu])
      rw [show o + j * 5 + i = o + (5 * j + i) by omega]; exact this
    refine ⟨b, o, KA, kc, VA, vc, rfl, rfl, g 0 (by omega) _ rfl, ?_, ?_, g 3 (by omega) _ rfl, g 4 (by omega) _ rfl, hK ▸ hg.K, hV ▸ hg.V⟩
    · rw [← hK]; exact g 1 (by omega) _ rfl
    · rw [← hV]; exact g 2 (by omega) _ rfl

/-- More than is looked at. -/
def sum16 (l : List OpB) : Nat := l.length + (l.map fun o => o.kb.length / 8 + o.vb.length / 8).sum
def over16 (l : List OpB) : Bool := decide (3000 < sum16 l) || decide (300 < l.length)

theorem five_of {c : List Value} (h : c.length = 5) : ∃ c0 c1 c2 c3 c4, c = [c0, c1, c2, c3, c4] := by
  match c, h with
  | [c0, c1, c2, c3, c4], _ => exact ⟨c0, c1, c2, c3, c4, rfl⟩

set_option maxRecDepth 100000 in
theorem ops16_open {w : World} {cs : List Value} (h : Td Try.prog w 23 cs) : ∃ x l, cs = [x] ∧ OpsB w x l := by
  have hc : Try.prog.cellsOf 54 = 5 := by kernel_rfl
  have hb : Try.prog.bytesOf 54 = 72 := by kernel_rfl
  obtain ⟨v, css, rfl, h1, h2, h3⟩ := h.slice Try.underlying23 (by rw [hc]; decide)
  rw [hc] at h1
  rw [hb] at h3
  have key : ∀ (css : List (List Value)), (∀ c ∈ css, c.length = Try.prog.cellsOf 54 ∧ Td Try.prog w 54 c) → ∃ l : List OpB, l.length = css.length ∧ css.flatten = l.flatMap OpB.cells ∧ ∀ o ∈ l, o.Good w := by
    intro css
    induction css with
    | nil => intro _; exact ⟨[], rfl, rfl, by simp⟩
    | cons c css ih =>
      intro hall
      obtain ⟨os, e1, e2, e3⟩ := ih fun c hc => hall c (.tail _ hc)
      obtain ⟨hl, hd⟩ := hall c (.head _)
      have hf := (hd.struct Try.underlying54).2
      obtain ⟨c0, c1, c2, c3, c4, rfl⟩ := five_of (hl.trans hc)
      have z0 : Try.prog.cellsOf 5 = 1 := by kernel_rfl
      have z1 : Try.prog.cellsOf 34 = 1 := by kernel_rfl
      have z2 : Try.prog.cellsOf 4 = 1 := by kernel_rfl
      have z3 : Try.prog.cellsOf 3 = 1 := by kernel_rfl
      have f0 : Td Try.prog w 5 [c0] := by
        have h : Td Try.prog w 5 (([c0, c1, c2, c3, c4].drop 0).take (Try.prog.cellsOf 5)) := hf 0 _ rfl
        rw [z0] at h; exact h
      have f1 : Td Try.prog w 34 [c1] := by
        have h : Td Try.prog w 34 (([c0, c1, c2, c3, c4].drop 1).take (Try.prog.cellsOf 34)) := hf 1 _ rfl
        rw [z1] at h; exact h
      have f2 : Td Try.prog w 34 [c2] := by
        have h : Td Try.prog w 34 (([c0, c1, c2, c3, c4].drop 2).take (Try.prog.cellsOf 34)) := hf 2 _ rfl
        rw [z1] at h; exact h
      have f3 : Td Try.prog w 4 [c3] := by
        have h : Td Try.prog w 4 (([c0, c1, c2, c3, c4].drop 3).take (Try.prog.cellsOf 4)) := hf 3 _ rfl
        rw [z2] at h; exact h
      have f4 : Td Try.prog w 3 [c4] := by
        have h : Td Try.prog w 3 (([c0, c1, c2, c3, c4].drop 4).take (Try.prog.cellsOf 3)) := hf 4 _ rfl
        rw [z3] at h; exact h
      obtain ⟨k, hk, hkw⟩ := f0.int Try.underlying5
      obtain ⟨B, bs, hB, hBs, hBl⟩ := f1.bytes Try.underlying34 Try.underlying5 (by kernel_rfl) (by kernel_rfl)
      obtain ⟨C, ct, hC, hCs, hCl⟩ := f2.bytes Try.underlying34 Try.underlying5 (by kernel_rfl) (by kernel_rfl)
      obtain ⟨b, hb⟩ := f3.bool Try.underlying4
      obtain ⟨n, hn, hnw⟩ := f4.int Try.underlying3
      simp only [List.cons.injEq, and_true] at hk hB hC hb hn
      subst hk; subst hB; subst hC; subst hb; subst hn
      obtain ⟨k0, k1⟩ := u8_of_wf hkw
      obtain ⟨n0, n1⟩ := i64_of_wf hnw
      obtain ⟨k, rfl⟩ := Int.eq_ofNat_of_zero_le k0
      refine ⟨⟨k, c1, c2, bs, ct, b, n⟩ :: os, by simp [e1], ?_, ?_⟩
      · rw [List.flatten_cons, e2]; rfl
      · intro o ho
        rcases List.mem_cons.1 ho with rfl | ho
        · exact ⟨by show k < 256; omega, hBs, hCs, n0, n1, hBl, hCl⟩
        · exact e3 o ho
  obtain ⟨os, e1, e2, e3⟩ := key css h2
  rw [e2, ← e1] at h1
  exact ⟨v, os, rfl, h1, e3, by omega⟩
end Go.Proofs.Ytdnohhlgaaihmaa
