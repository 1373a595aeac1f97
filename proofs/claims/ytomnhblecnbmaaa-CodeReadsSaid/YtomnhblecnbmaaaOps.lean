/- The calls that a law of package code is handed, opened; and whether they are much. -/
import Derived.Test.YtomnhblecnbmaaaPuts
import Derived.Test.YtomnhblecnbmaaaTd
namespace Go.Proofs.Ytomnhblecnbmaaa
open Go.RowKit

/-- A row of calls. -/
def Ops (w : World) (x : Value) (os : List OpV) : Prop :=
  Sl w 4 x os.length (os.flatMap OpV.cells) ∧ (∀ o ∈ os, o.Good w ∧ o.bs.length ≤ reachBytes) ∧ os.length ≤ reachBytes

theorem four_of {c : List Value} (h : c.length = 4) : ∃ c0 c1 c2 c3, c = [c0, c1, c2, c3] := by
  match c, h with
  | [c0, c1, c2, c3], _ => exact ⟨c0, c1, c2, c3, rfl⟩

set_option maxRecDepth 100000 in
theorem ops_open {w : World} {cs : List Value} (h : Td Try.prog w 39 cs) : ∃ x os, cs = [x] ∧ Ops w x os := by
  have hc : Try.prog.cellsOf 69 = 4 := by kernel_rfl
  have hb : Try.prog.bytesOf 69 = 48 := by kernel_rfl
  obtain ⟨v, css, rfl, h1, h2, h3⟩ := h.slice Try.underlying39 (by rw [hc]; decide)
  rw [hc] at h1
  rw [hb] at h3
  have key : ∀ (css : List (List Value)), (∀ c ∈ css, c.length = Try.prog.cellsOf 69 ∧ Td Try.prog w 69 c) → ∃ os : List OpV, os.length = css.length ∧ css.flatten = os.flatMap OpV.cells ∧ ∀ o ∈ os, o.Good w ∧ o.bs.length ≤ reachBytes := by
    intro css
    induction css with
    | nil => intro _; exact ⟨[], rfl, rfl, by simp⟩
    | cons c css ih =>
      intro hall
      obtain ⟨os, e1, e2, e3⟩ := ih fun c hc => hall c (.tail _ hc)
      obtain ⟨hl, hd⟩ := hall c (.head _)
      have hf := (hd.struct Try.underlying69).2
      have hl4 : c.length = 4 := hl.trans hc
      obtain ⟨c0, c1, c2, c3, rfl⟩ := four_of hl4
      have z0 : Try.prog.cellsOf 5 = 1 := by kernel_rfl
      have z1 : Try.prog.cellsOf 23 = 1 := by kernel_rfl
      have z2 : Try.prog.cellsOf 3 = 1 := by kernel_rfl
      have z3 : Try.prog.cellsOf 22 = 1 := by kernel_rfl
      have f0 : Td Try.prog w 5 [c0] := by
        have h : Td Try.prog w 5 (([c0, c1, c2, c3].drop 0).take (Try.prog.cellsOf 5)) := hf 0 _ rfl
        rw [z0] at h; exact h
      have f1 : Td Try.prog w 23 [c1] := by
        have h : Td Try.prog w 23 (([c0, c1, c2, c3].drop 1).take (Try.prog.cellsOf 23)) := hf 1 _ rfl
        rw [z1] at h; exact h
      have f2 : Td Try.prog w 3 [c2] := by
        have h : Td Try.prog w 3 (([c0, c1, c2, c3].drop 2).take (Try.prog.cellsOf 3)) := hf 2 _ rfl
        rw [z2] at h; exact h
      have f3 : Td Try.prog w 22 [c3] := by
        have h : Td Try.prog w 22 (([c0, c1, c2, c3].drop 3).take (Try.prog.cellsOf 22)) := hf 3 _ rfl
        rw [z3] at h; exact h
      obtain ⟨k, hk, hkw⟩ := f0.int Try.underlying5
      obtain ⟨v, hv, hvw⟩ := f1.int Try.underlying23
      obtain ⟨n, hn, hnw⟩ := f2.int Try.underlying3
      obtain ⟨B, bs, hB, hBs, hBl⟩ := f3.bytes Try.underlying22 Try.underlying5 (by kernel_rfl) (by kernel_rfl)
      simp only [List.cons.injEq, and_true] at hk hv hn hB
      subst hk; subst hv; subst hn; subst hB
      obtain ⟨k0, k1⟩ := u8_of_wf hkw
      obtain ⟨v0, v1⟩ := u64_of_wf hvw
      obtain ⟨n0, n1⟩ := i64_of_wf hnw
      obtain ⟨k, rfl⟩ := Int.eq_ofNat_of_zero_le k0
      obtain ⟨v, rfl⟩ := Int.eq_ofNat_of_zero_le v0
      refine ⟨⟨k, v, n, c3, bs⟩ :: os, by simp [e1], ?_, ?_⟩
      · rw [List.flatten_cons, e2]; rfl
      · intro o ho
        rcases List.mem_cons.1 ho with rfl | ho
        · exact ⟨⟨by show k < 256; omega, ⟨v1⟩, n0, n1, hBs⟩, hBl⟩
        · exact e3 o ho
  obtain ⟨os, e1, e2, e3⟩ := key css h2
  rw [e2, ← e1] at h1
  exact ⟨v, os, rfl, h1, e3, by omega⟩
/-- What the loop of much reckons. -/
def total (os : List OpV) : Nat := os.length + (os.map (fun o => o.bs.length)).sum

theorem flat4 (os : List OpV) (j : Nat) (h : j < os.length) (i : Nat) (hi : i < 4) : (os.flatMap OpV.cells)[4 * j + i]? = (os[j].cells)[i]? := by
  have e : os.flatMap OpV.cells = (os.map OpV.cells).flatten := by rw [List.flatMap_def]
  rw [e, flat_get (sz := 4) (by omega) _ (by intro c hc; obtain ⟨o, _, rfl⟩ := List.mem_map.1 hc; rfl)]
  rw [show (4 * j + i) / 4 = j by omega, show (4 * j + i) % 4 = i by omega]
  simp [h]

theorem Ops.at {w : World} {A : Option Addr} {n c : Nat} {os : List OpV} (h : Sl w 4 (.slice A n c) os.length (os.flatMap OpV.cells)) (j : Nat) (hj : j < os.length) :
    ∃ b o, A = some ⟨b, o, none⟩ ∧ w.cell? ⟨b, o + j * 4, none⟩ = some (.int .u8 os[j].k) ∧ w.cell? ⟨b, o + j * 4 + 1, none⟩ = some (.int .u64 os[j].v) ∧
      w.cell? ⟨b, o + j * 4 + 2, none⟩ = some (.int .i64 os[j].n) ∧ w.cell? ⟨b, o + j * 4 + 3, none⟩ = some os[j].B := by
  rcases h.2 with ⟨_, h1, h2⟩ | ⟨b, o, cap, h1, _, _, h4⟩
  · omega
  · cases h1
    have g : ∀ i, i < 4 → ∀ u, (os[j].cells)[i]? = some u → w.cell? ⟨b, o + j * 4 + i, none⟩ = some u := fun i hi u hu => by
      have := h4 (4 * j + i) u (by rw [flat4 os j hj i hi, hu])
      rw [show o + j * 4 + i = o + (4 * j + i) by omega]; exact this
    exact ⟨b, o, rfl, g 0 (by omega) _ rfl, g 1 (by omega) _ rfl, g 2 (by omega) _ rfl, g 3 (by omega) _ rfl⟩

theorem total_take (os : List OpV) (j : Nat) (h : j < os.length) : ((os.take (j + 1)).map (fun o => o.bs.length)).sum = ((os.take j).map (fun o => o.bs.length)).sum + os[j].bs.length := by
  rw [List.take_succ_eq_append_getElem h, List.map_append, List.sum_append]; simp

theorem total_le (os : List OpV) (j : Nat) : os.length + ((os.take j).map (fun o => o.bs.length)).sum ≤ total os := by
  unfold total
  have : os.map (fun o => o.bs.length) = (os.take j).map (fun o => o.bs.length) ++ (os.drop j).map (fun o => o.bs.length) := by rw [← List.map_append, List.take_append_drop]
  rw [this, List.sum_append]; omega

set_option maxRecDepth 100000 in
set_option maxHeartbeats 1000000 in
theorem much_any (w : World) (x : Value) (os : List OpV) (hx : Ops w x os) :
    Calls Try.prog 18 #[x] w fun e w' => e = .returned (.bool (decide (20000 < total os))) ∧ ∃ n, w' = w.drewN n := by
  obtain ⟨h1, h2, h3⟩ := hx
  obtain ⟨A, c, rfl, hc1, hc2⟩ := h1.form
  have H1 := Lib.hid h1; have H2 := Lib.hid h2; have H3 := Lib.hid h3; clear h1 h2 h3 hc2
  go_enter Try.func18, Try.ntmps18
  go_wp2
  go_loopw [3, 4] (fun s i wr => ∃ j n : Nat, j ≤ os.length ∧ i = .int .i64 j ∧ s = .int .i64 ((os.length + ((os.take j).map (fun o => o.bs.length)).sum : Nat) : Int) ∧ wr = w.drewN n) (fun s i _ => os.length - (intOf i).toNat)
  case atStart => exact ⟨0, 0, Nat.zero_le _, rfl, by simp, rfl⟩
  case round =>
    obtain ⟨j, n, hj, rfl, rfl, rfl⟩ := hrel
    obtain ⟨T, hT⟩ : ∃ T, T = os.length + ((os.take j).map (fun o => o.bs.length)).sum := ⟨_, rfl⟩
    rw [← hT]
    have HT := Lib.hid hT; clear hT
    by_cases hlt : j < os.length
    · by_cases hb : T ≤ 20000
      · obtain ⟨b, o, rfl, q0, q1, q2, q3⟩ := Ops.at H1.out j hlt
        have hg := H2.out os[j] (List.getElem_mem _)
        obtain ⟨B, d, hB, _, _⟩ := hg.1.B.form
        rw [hB] at q3
        have HG := Lib.hid hg; clear hg hB q0 q1 q2
        have HS := Lib.hid (total_take os j hlt)
        go_wp2
        have hs := HS.out
        have hT := HT.out
        have hbl := HG.out.2
        have hjl := H3.out
        simp only [reachBytes] at hbl hjl
        rw [wrap64_id _ (by omega) (by omega), wrap64_id _ (by omega) (by omega)]
        refine ⟨⟨j + 1, n, hlt, rfl, ?_, rfl⟩, by simp [intOf]; omega⟩
        congr 1
        omega
      · go_wp2
        go_ret
        have h := total_le os j
        rw [← HT.out] at h
        have e : decide (20000 < total os) = true := decide_eq_true (by omega)
        rw [e]
        exact ⟨rfl, n, rfl⟩
    · obtain rfl : j = os.length := by omega
      rw [List.take_of_length_le (Nat.le_refl _)] at HT
      go_wp2
      go_ret
      have h : T = total os := HT.out
      subst h
      refine ⟨?_, n, rfl⟩
      have e : decide ((20000 : Int) < (total os : Int)) = decide (20000 < total os) := by
        by_cases h : 20000 < total os
        · rw [decide_eq_true h, decide_eq_true (by omega)]
        · rw [decide_eq_false h, decide_eq_false (by omega)]
      exact congrArg (fun b => Ending.returned (.bool b)) e
end Go.Proofs.Ytomnhblecnbmaaa
