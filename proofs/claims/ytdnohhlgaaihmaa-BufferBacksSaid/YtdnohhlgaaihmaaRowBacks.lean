/- BufferBacks holds, for every input. No condition. -/
import Derived.Test.YtdnohhlgaaihmaaRows
import Derived.Test.YtdnohhlgaaihmaaBacks
import Derived.Test.YtdnohhlgaaihmaaArgs
import Derived.WalkKit
import Derived.ProofKit
import Derived.OpenShut
import Derived.ChangeOld
import Derived.Below
import Derived.SizedLaws
namespace Go.Proofs.Ytdnohhlgaaihmaa
open Go.ChangeShapes Go.WideShapes Go.ChangeAt Go.RowKit
namespace RBufferBacks
theorem own : ownKnob Try.prog.godebug = none := by kernel_rfl
theorem laidOut : laidOutB Try.prog = true := by kernel_rfl

set_option maxRecDepth 100000 in
theorem lifted (os : Os) (started : os.Started) (H : Type) (enc : TypeId × Value → H) :
    ReturnsInHanded {} Try.checked os 6 .any (Rows.bufferBacksSpec.pre6 enc Try.prog Try.f6 Rows.bufferBacksRow.domain false) (Rows.bufferBacksSpec.post enc Try.prog Try.f6 false true false false) := by
  refine returnsInHanded_of_change_sized (C := Try.checked) own started (by kernel_rfl) Try.func6
    (ChangeSpec.witness6 (enc := enc) (C := Try.checked) false ⟨#[], #[.slice none 0 0, .slice none 0 0], []⟩ 8 (by kernel_rfl) (by kernel_rfl) (by kernel_rfl) (by kernel_rfl)) ?_
  intro W base args ds gs before hval0 hW hcnd hsz0 _
  have hval : ∀ (j : Nat) t v, Try.f6.params[j]? = some t → args[j]? = some v → Value.okWide Try.prog W .any base t v := hval0
  have hW' := hW
  obtain ⟨p, q, hA0, hV, rfl, hfz, hnd⟩ := hW
  have hA : DataW.TrodAll enc Try.prog W 0 (fun _ => true) true Try.f6.params.toList args.toList ds p := hA0
  have hsz : (DataW.weightsEach Try.prog (Try.f6.params.toList ++ Rows.bufferBacksSpec.plain.varTypes Try.prog) (ds ++ gs)).all (· ≤ reachBytes) = true := hsz0
  have hTd : ∀ (j : Nat) t v, Try.f6.params.toList[j]? = some t → args.toList[j]? = some v → Td Try.prog W t v.cells.toList := fun j t v h1 h2 => Td.arg hA hsz j t v h1 h2
  clear hsz hsz0
  rw [Try.params6] at hA hval hTd
  obtain ⟨v0, vs0, d0, ds0, p0, q0, hargs, rfl, rfl, h0, r0⟩ := trodAll_cons hA
  obtain ⟨v1, vs1, d1, ds1, p1, q1, rfl, rfl, rfl, h1, r1⟩ := trodAll_cons r0
  obtain ⟨rfl, rfl, rfl⟩ := trodAll_nil r1
  obtain rfl : args = #[v0, v1] := by cases args; simp_all
  obtain ⟨rfl, rfl⟩ := trodVars_none hV
  obtain ⟨a0, n0, c0, rfl⟩ := okWide_slice Try.underlying23 (hval 0 23 v0 rfl rfl)
  have lt0 : ∀ x ∈ p0, x.block < W.heap.size := by obtain ⟨m, hm⟩ := h0; exact DataW.trod_lt m _ _ _ hm
  have lo0 : ∀ k, (Value.slice a0 n0 c0).ownBlock = some k → k < W.heap.size := okWide_lt Try.underlying23 (hval 0 23 _ rfl rfl)
  have td0 : Td Try.prog W 23 [.slice a0 n0 c0] := hTd 0 23 _ rfl rfl
  obtain ⟨a1, n1, c1, rfl⟩ := okWide_slice Try.underlying23 (hval 1 23 v1 rfl rfl)
  have lt1 : ∀ x ∈ p1, x.block < W.heap.size := by obtain ⟨m, hm⟩ := h1; exact DataW.trod_lt m _ _ _ hm
  have lo1 : ∀ k, (Value.slice a1 n1 c1).ownBlock = some k → k < W.heap.size := okWide_lt Try.underlying23 (hval 1 23 _ rfl rfl)
  have td1 : Td Try.prog W 23 [.slice a1 n1 c1] := hTd 1 23 _ rfl rfl
  have walk : Calls Try.prog 6 #[.slice a0 n0 c0, .slice a1 n1 c1] W fun e w' => e = .returned (.bool true) ∧ Below W.heap.size W w' := by
    clear hA0 hTd hval hval0
    obtain ⟨x0, l, e0, hl⟩ := ops16_open td0
    obtain ⟨x1, m, e1, hm⟩ := ops16_open td1
    simp only [List.cons.injEq, and_true] at e0 e1
    subst e0; subst e1
    by_cases h : over16 l = true ∨ over16 m = true
    · exact (backs_over W _ _ l m hl hm h).mono fun e w' h => ⟨h.1, h.2.below (fun k _ h => h)⟩
    · have h1 : over16 l = false := by cases h1 : over16 l; rfl; exact absurd (.inl h1) h
      have h2 : over16 m = false := by cases h2 : over16 m; rfl; exact absurd (.inr h2) h
      exact (backs_walk W _ _ l m hl h1 hm h2).mono fun e w' h => ⟨h.1, h.2.below (fun k _ h => h)⟩
  clear hA0 hval0 hTd
  refine walk.mono fun e W' ⟨he, bel⟩ => ?_
  subst he
  exact ⟨_, rfl, _, _, _, [], _, [], hW', trodAll_mk1 (shut_bool Try.underlying4 _), (trodAll_cons_mk (Below.trod laidOut (by kernel_rfl) (of_decide_eq_true (by kernel_rfl)) h0 bel lt0) (trodAll_cons_mk (Below.trod laidOut (by kernel_rfl) (of_decide_eq_true (by kernel_rfl)) h1 bel lt1) trodAll_mk0)), rfl, bel.frame _, fun h => by cases h⟩

theorem over : Rows.bufferBacksRow.holds Try.pinned (OpenSpec.ofChange Rows.bufferBacksSpec) :=
  OpenClaim.holds_of_wide 6 Try.f6 rfl rfl rfl rfl rfl rfl rfl ⟨rfl, rfl, rfl, rfl, rfl⟩ rfl rfl rfl rfl rfl (by kernel_rfl) Try.func6 (by kernel_rfl)
    (of_decide_eq_true (by kernel_rfl)) (by unfold Func.isWrapper; first | (rw [if_pos (by decide +kernel)]; kernel_rfl) | (rw [if_neg (by decide +kernel)]; exact ⟨rfl, rfl⟩))
    (fun os started H enc _ => lifted os started H enc)
end RBufferBacks

/-- The row. -/
theorem bufferBacks_holds : Rows.BufferBacksSaid := RBufferBacks.over
#print axioms bufferBacks_holds
end Go.Proofs.Ytdnohhlgaaihmaa
