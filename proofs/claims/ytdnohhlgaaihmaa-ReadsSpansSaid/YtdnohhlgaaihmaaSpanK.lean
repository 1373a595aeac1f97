/- A span lent to a call: SpoilSpans of one span. -/
import Derived.Test.YtdnohhlgaaihmaaSpanJ
namespace Go.Proofs.Ytdnohhlgaaihmaa
open Go.RowKit

theorem six_cells {w : World} {g : Nat} {cur : Array Value} (h : w.heap[g]? = some (.cells cur 100 (0, 0))) (hs : cur.size = 6) :
    (∀ j, j < 6 → ∃ v, w.cell? ⟨g, j, none⟩ = some v) ∧ (∀ j, w.frozen? ⟨g, j, none⟩ = false) ∧ g < w.heap.size := by
  refine ⟨fun j hj => ⟨cur[j]'(by omega), ?_⟩, fun j => by simp [World.frozen?, h], (Array.getElem?_eq_some_iff.1 h).1⟩
  rw [cell_of_row w g _ _ _ (0, 0) h]; simp

set_option maxRecDepth 100000 in
set_option maxHeartbeats 4000000 in
theorem spoilsp_any (w : World) (g gF gT gM : Nat) (y : SpV) (hL : LentS w g gF gT gM y) (hF : y.f.length ≤ 1000000000) (hT : y.t.length ≤ 1000000000) (h1 : g < gF) (h2 : gF < gT) :
    Calls Try.prog 110 #[.slice (some ⟨g, 0, none⟩) 1 2] w fun e w' => e = .returned (.tuple #[]) ∧ Fr (fun k => k = g ∨ k = gF ∨ k = gT) w w' := by
  have HL := Lib.hid hL; clear hL
  have HN := Lib.hid (And.intro h1 h2); clear h1 h2
  go_enter Try.func110, Try.ntmps110
  go_wp2
  go_loopw [2] (fun i wr => ((i = .int .i64 0 ∧ LentS wr g gF gT gM y) ∨ i = .int .i64 1) ∧ Fr (fun k => k = g ∨ k = gF ∨ k = gT) w wr ∧ ∃ cur, wr.heap[g]? = some (.cells cur 100 (0, 0)) ∧ cur.size = 6) (fun i _ => 1 - (intOf i).toNat)
  case atStart => exact ⟨.inl ⟨rfl, HL.out⟩, Fr.refl _ _, _, HL.out.row, by simp [lentCells]⟩
  case round =>
    obtain ⟨⟨rfl, hl⟩ | rfl, hf, cur, hg, hs⟩ := hrel
    · obtain ⟨c0, c1, c2, _, c4⟩ := hl.cells
      have HF := Lib.hid hf; have HG := Lib.hid hg; have HL1 := Lib.hid hl; clear hf hg hl
      go_wp2_with fail
      refine (spoil_lent _ gF y.f HL1.out.F hF).mono ?_
      rintro e w1 ⟨rfl, f1⟩
      have c1' := f1.cell c1 (fun e => by have := HN.out; have e2 : g = gF := e; omega)
      have HT := Lib.hid (HL1.out.T.kept f1 (fun e => by have := HN.out; have e2 : gT = gF := e; omega))
      have HG1 := Lib.hid (f1.heap HG.out (fun e => by have := HN.out; have e2 : g = gF := e; omega))
      have F1 := Lib.hid f1
      have c5 : g < w1.heap.size := by have := f1.size; omega
      clear f1 c0 c1 c2
      go_wp2_with fail
      refine (spoil_lent _ gT y.t HT.out hT).mono ?_
      rintro e w2 ⟨rfl, f2⟩
      have HG2 := Lib.hid (f2.heap HG1.out (fun e => by have := HN.out; have e2 : g = gT := e; omega))
      have F2 := Lib.hid ((HF.out.trans F1.out (fun _ _ h => .inr (.inl h))).trans f2 (fun _ _ h => .inr (.inr h)))
      clear f2 c1'
      go_wp2
      go_roundw
      case rel => exact ⟨.inr (by first | rfl | go_num), F2.out, _, HG2.out, hs⟩
      case measure => simp [intOf]
    · have HF := Lib.hid hf; have HG := Lib.hid hg; clear hf hg
      go_wp2
      go_loopw [4] (fun i wr => (i = .int .i64 0 ∨ i = .int .i64 1 ∨ i = .int .i64 2) ∧ Fr (fun k => k = g ∨ k = gF ∨ k = gT) w wr ∧ ∃ cur, wr.heap[g]? = some (.cells cur 100 (0, 0)) ∧ cur.size = 6) (fun i _ => 2 - (intOf i).toNat)
      case atStart => exact ⟨.inl rfl, HF.out, _, HG.out, hs⟩
      case round =>
        obtain ⟨h, hf, cur, hg, hs⟩ := hrel
        obtain ⟨hc, hz, hlt⟩ := six_cells hg hs
        have HF := Lib.hid hf; have HG := Lib.hid hg; clear hf hg
        rcases h with rfl | rfl | rfl
        · obtain ⟨v0, q0⟩ := hc 0 (by omega); obtain ⟨v1, q1⟩ := hc 1 (by omega); obtain ⟨v2, q2⟩ := hc 2 (by omega)
          clear hc
          go_wp2
          go_roundw
          case rel => exact ⟨.inr (.inl (by first | rfl | go_num)), ((HF.out.setCell _ _ (fun _ => .inl rfl)).setCell _ _ (fun _ => .inl rfl)).setCell _ _ (fun _ => .inl rfl), _, hp_same (hp_same (hp_same HG.out _ _) _ _) _ _, by simp [hs]⟩
          case measure => simp [intOf]
        · obtain ⟨v0, q0⟩ := hc 3 (by omega); obtain ⟨v1, q1⟩ := hc 4 (by omega); obtain ⟨v2, q2⟩ := hc 5 (by omega)
          clear hc
          go_wp2
          go_roundw
          case rel => exact ⟨.inr (.inr (by first | rfl | go_num)), ((HF.out.setCell _ _ (fun _ => .inl rfl)).setCell _ _ (fun _ => .inl rfl)).setCell _ _ (fun _ => .inl rfl), _, hp_same (hp_same (hp_same HG.out _ _) _ _) _ _, by simp [hs]⟩
          case measure => simp [intOf]
        · clear hc
          go_wp2
          go_end0
          exact ⟨rfl, HF.out⟩
end Go.Proofs.Ytdnohhlgaaihmaa
