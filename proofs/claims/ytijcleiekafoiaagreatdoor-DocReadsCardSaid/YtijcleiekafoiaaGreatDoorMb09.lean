import Derived.Test.YtijcleiekafoiaaGreatDoorMb06
import Derived.Test.YtijcleiekafoiaaGreatDoorMb08
import Derived.Test.YtijcleiekafoiaaGreatDoorMb02
import Derived.WalkSpells
import Derived.Test.YtijcleiekafoiaaGreatDoorMb04

/- value.Check: may a value be? -/
namespace Go.Proofs.YtijcleiekafoiaaGreatDoor
open Go.RowKit Go.Shelf
open Tr
attribute [local go_sem] Oper.semAt_some

/-- No depth of a value that is not too deep is great. -/
theorem pre_depth (n : Nat) : ∀ (d : Nat) (x : Tr Mm), deep n x = false → ∀ p ∈ pre d x, p.1 ≤ d + n := by
  induction n with
  | zero => intro d x h; cases h
  | succ n ih =>
    intro d x h p hp
    rw [pre_eq] at hp
    rcases List.mem_cons.1 hp with rfl | hp
    · show d ≤ _; omega
    · obtain ⟨y, hy, hp⟩ := List.mem_flatMap.1 hp
      simp only [deep, List.any_eq_false] at h
      have := ih (d + 1) y (by simpa using h y hy) p hp
      omega

theorem firstErr_at : ∀ {l : List Nat} {i : Nat} (h : i < l.length), (∀ k (hk : k < l.length), k < i → l[k] = 0) → l[i] ≠ 0 → firstErr l = l[i]
  | e :: l, 0, _, _, h2 => by
    simp only [List.getElem_cons_zero] at h2 ⊢
    unfold firstErr
    rw [if_pos h2]
  | e :: l, i + 1, h, h1, h2 => by
    have e0 : e = 0 := h1 0 (by simp) (by omega)
    simp only [List.getElem_cons_succ] at h2 ⊢
    unfold firstErr
    rw [if_neg (fun h => h e0)]
    exact firstErr_at (by simpa using h) (fun k hk hki => by have := h1 (k + 1) (by simp; omega) (by omega); simpa using this) h2
theorem allErr_at {x : Tr Mm} {i : Nat} (h : i < (pre 1 x).length) (h1 : ∀ k (hk : k < (pre 1 x).length), k < i → own (pre 1 x)[k].2 = 0) (h2 : own (pre 1 x)[i].2 ≠ 0) : allErr x = own (pre 1 x)[i].2 := by
  unfold allErr
  have h3 := firstErr_at (l := (pre 1 x).map fun p => own p.2) (i := i) (by simpa using h) (fun k hk hki => by simpa using h1 k (by simpa using hk) hki) (by simpa using h2)
  rw [h3]; simp

theorem results_cell1 {P : Program} {fn : Func} {p : Tmp} {ty : TypeId} (h : fn.results = #[.cell p ty]) (ha : ∀ w, (isAgg ty).run P w = .ok false w) (tmps : Array Value) (w : World) (g : Nat) (v : Value)
    (hp : tmps.getD p undef = .pointer (some ⟨g, 0, none⟩)) (hc : w.cell? ⟨g, 0, none⟩ = some v) : (results fn tmps).run P w = .ok v w := by
  have hp' : tmps[p]?.getD undef = .pointer (some ⟨g, 0, none⟩) := by simpa using hp
  simp [results, h, hp', asAddr, Result.andThen, loadVar, ha, hc, go_sem]
theorem _root_.Go.Fr.since {S : Nat → Prop} {w w1 w2 : World} (h : Fr no w w1) (f : Fr S w1 w2) (hS : ∀ k, S k → w.heap.size ≤ k) : Fr no w w2 :=
  h.trans f (fun k hk h => absurd (hS k h) (by omega))
theorem one_set {w : World} {g : Nat} {u v : Value} {T : TypeId} (h : w.heap[g]? = some (.cells #[u] T (0, 0))) : (w.setCell ⟨g, 0, none⟩ v).heap[g]? = some (.cells #[v] T (0, 0)) := hp_same h 0 v

set_option maxRecDepth 100000 in
set_option maxHeartbeats 8000000 in
theorem check_any (w : World) (x : Tr Mm) (hx : Tr.Good w x) (hT : Tabs w) : Calls Tryz.prog 26 #[x.agg] w fun e w' => e = .returned (.int .u16 (check x)) ∧ Fr no w w' := by
  obtain ⟨BA, bc, LA, lc, FA, fc, hf⟩ := hx.node.forms
  have hag := hf.agg
  have hdp := fun W (f : Fr no w W) => deep_any 8 W x (hx.kept0 f) (by omega)
  rw [hag] at hdp ⊢
  have HD := Lib.hid hdp; have HX := Lib.hid hx; have HT := Lib.hid hT; have HF := Lib.hid hf; have HAG := Lib.hid hag
  clear hdp hx hT hf hag
  refine (callsIn_wide (n := 10)).1 ?_
  refine callsIn_of_wp_marks Tryz.func26 rfl trivial ?_ rfl
  simp only [Tryz.ntmps26, List.size_toArray, List.length_cons, List.length_nil, Nat.reduceAdd, Nat.reduceSub, Array.replicate_succ, Array.replicate_zero, List.push_toArray, List.append_toArray, List.nil_append, List.cons_append]
  gi_wp2_with (fail)
  refine ⟨trivial, (callsIn_wide.2 (HD.out _ (by (repeat first | exact Fr.refl _ _ | exact Fr.drewN _ _ _ | apply Fr.drew | apply Fr.alloc | apply Fr.setAt | apply Fr.moreN)))).mono ?_⟩
  rintro e w1 ⟨rfl, f1⟩
  have hb1 := f1.heap (((Fr.refl no _).alloc _).heap (heap_alloc_new w (.cells #[.int .u8 x.k.toNat, .bool x.b, .int .i64 x.i, .string ⟨x.t.toArray⟩, .slice BA x.bs.length bc, .slice LA x.l.length lc, .slice FA x.f.length fc] 27)) (fun h => h)) (fun h => h)
  have hr1 := heap_alloc_new (w.alloc (.cells #[.int .u8 x.k.toNat, .bool x.b, .int .i64 x.i, .string ⟨x.t.toArray⟩, .slice BA x.bs.length bc, .slice LA x.l.length lc, .slice FA x.f.length fc] 27)) (.cells #[.int .u16 0] 31)
  rw [World.size_alloc] at hr1
  have hr1 := f1.heap hr1 (fun h => h)
  have hf1 := Fr.trans (by (repeat first | exact Fr.refl _ _ | exact Fr.drewN _ _ _ | apply Fr.drew | apply Fr.alloc | apply Fr.setAt | apply Fr.moreN) : Fr no w _) f1 (fun _ _ h => h)
  have HB1 := Lib.hid hb1; have HR1 := Lib.hid hr1; have F1 := Lib.hid hf1
  obtain ⟨r0, rz, rl⟩ := one_cells hr1
  clear f1 hb1 hr1 hf1
  cases hd : deep 8 x with
  | true =>
    have HDD := Lib.hid hd; clear hd
    gi_wp2
    have hr2 := one_set (v := .int .u16 31) HR1.out
    refine ⟨_, results_cell1 (P := Tryz.prog) rfl Tryz.isAgg31 _ _ (w.heap.size + 1) _ rfl (one_cells hr2).1, ?_⟩
    have hch : check x = 31 := by unfold check; rw [if_pos HDD.out]
    rw [hch]
    exact ⟨rfl, F1.out.since (Fr.setCell (Fr.refl (fun k => k = w.heap.size + 1) w1) ⟨w.heap.size + 1, 0, none⟩ _ (fun _ => rfl)) (fun k h => by omega)⟩
  | false =>
    have HDD := Lib.hid hd; clear hd
    have q0 := cell_of_row w1 w.heap.size 0 _ _ (0, 0) HB1.out
    have q1 := cell_of_row w1 w.heap.size 1 _ _ (0, 0) HB1.out
    have q2 := cell_of_row w1 w.heap.size 2 _ _ (0, 0) HB1.out
    have q3 := cell_of_row w1 w.heap.size 3 _ _ (0, 0) HB1.out
    have q4 := cell_of_row w1 w.heap.size 4 _ _ (0, 0) HB1.out
    have q5 := cell_of_row w1 w.heap.size 5 _ _ (0, 0) HB1.out
    have q6 := cell_of_row w1 w.heap.size 6 _ _ (0, 0) HB1.out
    simp only [List.getElem?_toArray, List.getElem?_cons_succ, List.getElem?_cons_zero] at q0 q1 q2 q3 q4 q5 q6
    have hbl := (Array.getElem?_eq_some_iff.1 HB1.out).1
    gi_wp2_with (fail)
    refine ⟨trivial, (callsIn_wide.2 (HAG.out ▸ each_any _ x HF.out)).mono ?_⟩
    rintro e w3 ⟨rfl, hw3⟩
    rw [World.size_alloc] at *
    have hp3 := heap_alloc_new w1 (.cells #[.int .i64 0] 3)
    have hx3 := heap_alloc_new (w1.alloc (.cells #[.int .i64 0] 3)) (.cells #[.int .u8 x.k.toNat, .bool x.b, .int .i64 x.i, .string ⟨x.t.toArray⟩, .slice BA x.bs.length bc, .slice LA x.l.length lc, .slice FA x.f.length fc] 27)
    rw [World.size_alloc, ← hw3] at hx3
    have f3 : Fr no w1 w3 := by rw [hw3]; exact ((Fr.refl no w1).alloc _).alloc _
    have hp3 : w3.heap[w1.heap.size]? = some (.cells #[.int .i64 0] 3 (0, 0)) := by rw [hw3]; exact ((Fr.refl no _).alloc _).heap hp3 (fun h => h)
    have hs3 : w3.heap.size = w1.heap.size + 2 := by rw [hw3, World.size_alloc, World.size_alloc]
    have hb3 := f3.heap HB1.out (fun h => h)
    have hr3 := f3.heap HR1.out (fun h => h)
    have hF3 := F1.out.trans f3 (fun _ _ h => h)
    have hsz1 := F1.out.size
    have hrl := rl
    obtain ⟨bp, hbp⟩ : ∃ bp, w1.heap.size = bp := ⟨_, rfl⟩
    rw [hbp] at hp3 hx3 hs3 hrl hsz1 hbl ⊢
    have HP3 := Lib.hid hp3; have HX3 := Lib.hid hx3; have HS3 := Lib.hid hs3; have HB3 := Lib.hid hb3; have HR3 := Lib.hid hr3; have F3 := Lib.hid hF3
    have HRL := Lib.hid hrl; have HBL := Lib.hid hbl; have HSZ := Lib.hid hsz1
    clear hp3 hx3 f3 hs3 hb3 hr3 hF3 hw3 hbp q0 q1 q2 q3 q4 q5 q6 r0 rz rl hbl hrl hsz1 HB1 HR1
    have hS1 : ∀ k, (k = bp ∨ twoB w3 k) → w.heap.size + 2 ≤ k := fun k h => by
      have h1 := HS3.out; have h2 := HRL.out
      rcases h with h | h | h <;> omega
    have HS1 := Lib.hid hS1; clear hS1
    have hpd := pre_depth 8 1 x HDD.out
    gi_wp2_with (fail)
    refine wpIn_range_b (P := Tryz.prog) (by omega) (gf := 109) (lb := #[.pointer (some ⟨bp + 1, 0, none⟩)]) rfl (enters_of Tryz.func109 (by kernel_rfl) rfl) (len := (pre 1 x).length) (Wh := isDV x) (Kp := Fr (fun k => k = bp ∨ twoB w3 k))
      (each_iter _ w3 (bp + 1) x HF.out _ (fun W f => f.heap HX3.out (fun h => by have h1 := HS3.out; rcases h with h | h | h <;> omega)) (fun W f => HX.out.kept0 (F3.out.since f (fun k h => by have := HS1.out k h; omega))) (fun k h => by have h1 := HS3.out; rcases h with h | h | h <;> omega) (fun p hp => by have := hpd p hp; omega))
      (fun i xs W h => by obtain ⟨_, rfl⟩ := h; rfl) (fun h k => h.trans k (fun _ _ h => h)) (fun W o' => (fr_putObj W _ o').mono (fun k _ h => .inr (.inr h)))
      (fun i W => Fr (fun k => k = bp ∨ twoB w3 k) w3 W ∧ W.heap[bp]? = some (.cells #[.int .i64 i] 3 (0, 0)) ∧ i ≤ 512)
      (fun c W => c = .ret ∧ W.heap[w.heap.size + 1]? = some (.cells #[.int .u16 32] 31 (0, 0)) ∧ 512 < (pre 1 x).length ∧ Fr (fun k => k = w.heap.size + 1 ∨ k = bp ∨ twoB w3 k) w3 W) ?hI ?hIx ?h0 ?round ?done ?stop
    case hI => exact fun i A B ⟨h1, h2, h3⟩ f => ⟨h1.trans f (fun k hk h => absurd (show w3.heap.size ≤ k from h) (by omega)), f.heap h2 (fun h => absurd (show w3.heap.size ≤ _ from h) (by have h1 := HS3.out; omega)), h3⟩
    case hIx => exact fun c A B ⟨h1, h2, h3, h4⟩ f => ⟨h1, f.heap h2 (fun h => absurd (show w3.heap.size ≤ _ from h) (by have h1 := HS3.out; have := HRL.out; omega)), h3, h4.trans f (fun k hk h => absurd (show w3.heap.size ≤ k from h) (by omega))⟩
    case h0 => exact ⟨Fr.refl _ _, HP3.out, Nat.zero_le _⟩
    case round =>
      intro l i xs W hi hwh hI hlt
      obtain ⟨hi2, rfl⟩ := hwh
      obtain ⟨j1, j2, j3⟩ := hI
      refine wpIn_skip ?_
      refine ⟨Fr.refl _ _, Fr.refl _ _, fun W2 f2 => ?_⟩
      have hl2 : w3.heap.size + 1 < W2.heap.size := Nat.lt_of_lt_of_le hlt f2.size
      have k2 := f2.heap j2 (fun h => by have h1 := HS3.out; rcases h with h | h <;> omega)
      have k1 := j1.trans (f2.mono (fun k _ h => .inr h)) (fun _ _ h => h)
      have kr := k1.heap HR3.out (fun h => by have h1 := HS3.out; have := HRL.out; rcases h with h | h | h <;> omega)
      obtain ⟨p0, pz, pl⟩ := one_cells k2
      obtain ⟨r0, rz, rl⟩ := one_cells kr
      have hne : ¬ bp = w.heap.size + 1 := by have := HRL.out; omega
      have hne2 : ¬ w.heap.size + 1 = bp := by have := HRL.out; omega
      have K1 := Lib.hid k1; have K2 := Lib.hid k2; have KR := Lib.hid kr; have HI := Lib.hid hi
      have hS3 := HS3.out
      clear k1 k2 kr j1 j2 f2
      simp only [encDV]
      by_cases h5 : i = 512
      · subst h5
        gi_wp2
        have g1 := Fr.setCell (Fr.refl (fun k => k = bp) W2) ⟨bp, 0, none⟩ (.int .i64 513) (fun _ => rfl)
        have g2 := Fr.setCell (Fr.refl (fun k => k = w.heap.size + 1) (W2.setCell ⟨bp, 0, none⟩ (.int .i64 513))) ⟨w.heap.size + 1, 0, none⟩ (.int .u16 32) (fun _ => rfl)
        have hk1 := g1.heap KR.out (fun h => hne2 h)
        refine ⟨fun k hk => ?_, ⟨rfl, one_set hk1, HI.out, ?_⟩, fun k hk hlt => ?_⟩
        · have h1 := HS3.out; have h2 := HRL.out
          rw [g2.block k (by have := g1.size; rcases hk with h | h <;> omega) (fun h => by rcases hk with h | h <;> omega), g1.block k (by rcases hk with h | h <;> omega) (fun h => by rcases hk with h | h <;> omega)]
        rotate_left
        · have h1 := HS3.out; have h2 := HRL.out
          rw [g2.block k (by have := g1.size; omega) (fun h => by omega), g1.block k (by omega) (fun h => by omega)]
        · exact ((K1.out.mono (fun k _ h => .inr h)).trans (g1.mono (fun k _ h => .inr (.inl h))) (fun _ _ h => h)).trans (g2.mono (fun k _ h => .inl h)) (fun _ _ h => h)
      · have g1 : decide ((512 : Int) < (i : Int) + 1) = false := decide_eq_false (by omega)
        gi_wp2
        have g2 := Fr.setCell (Fr.refl (fun k => k = bp) W2) ⟨bp, 0, none⟩ (.int .i64 ((i : Int) + 1)) (fun _ => rfl)
        refine ⟨fun k hk => ?_, g2.mono (fun k _ h => .inl h), K1.out.trans (g2.mono (fun k _ h => .inl h)) (fun _ _ h => h), one_set K2.out, by omega⟩
        have h1 := HS3.out
        rw [g2.block k (by rcases hk with h | h <;> omega) (fun h => by rcases hk with h | h <;> omega)]
    case stop =>
      rintro c W ⟨rfl, h1, h2, h3⟩ hW hD
      have hr2 : (W.putObj w3.heap.size (.deferred none)).heap[w.heap.size + 1]? = _ := (World.putObj_heap_other (by have := HS3.out; have := HRL.out; omega)).trans h1
      have HR9 := Lib.hid hr2; have H2 := Lib.hid h2; have H3 := Lib.hid h3; have HD9 := Lib.hid hD
      clear h1 h2 h3 hr2 hD
      gi_wp2
      refine ⟨by simp, .inl ⟨_, _, rfl, run_takeDeferred HD9.out, ?_⟩⟩
      refine ⟨_, results_cell1 (P := Tryz.prog) rfl Tryz.isAgg31 _ _ (w.heap.size + 1) _ rfl (one_cells HR9.out).1, ?_⟩
      have hch : check x = 32 := by unfold check parts; rw [if_neg (by rw [HDD.out]; exact Bool.noConfusion), if_pos H2.out]
      rw [hch]
      have hS9 : ∀ k, (k = w.heap.size + 1 ∨ k = bp ∨ twoB w3 k) → w.heap.size ≤ k := fun k h => by
        rcases h with h | h
        · omega
        · have := HS1.out k h; omega
      exact ⟨rfl, F3.out.since (H3.out.trans ((fr_putObj W _ _).mono (fun k _ h => .inr (.inr (.inl h)))) (fun _ _ h => h)) hS9⟩
    case done =>
      rintro W ⟨h1, _, h3⟩ hW hD
      have hb := h1.heap HB3.out (fun h => by have := HS1.out _ h; omega)
      have hr := h1.heap HR3.out (fun h => by have := HS1.out _ h; omega)
      have hFW := F3.out.since h1 (fun k h => by have := HS1.out k h; omega)
      have HB4 := Lib.hid hb; have HR4 := Lib.hid hr; have F4 := Lib.hid hFW; have HD4 := Lib.hid hD; have H3 := Lib.hid h3
      have hbl := (Array.getElem?_eq_some_iff.1 hb).1
      have hw3W : w3.heap.size < W.heap.size := by omega
      have q0 := cell_of_row W w.heap.size 0 _ _ (0, 0) hb
      have q1 := cell_of_row W w.heap.size 1 _ _ (0, 0) hb
      have q2 := cell_of_row W w.heap.size 2 _ _ (0, 0) hb
      have q3 := cell_of_row W w.heap.size 3 _ _ (0, 0) hb
      have q4 := cell_of_row W w.heap.size 4 _ _ (0, 0) hb
      have q5 := cell_of_row W w.heap.size 5 _ _ (0, 0) hb
      have q6 := cell_of_row W w.heap.size 6 _ _ (0, 0) hb
      simp only [List.getElem?_toArray, List.getElem?_cons_succ, List.getElem?_cons_zero] at q0 q1 q2 q3 q4 q5 q6
      clear h1 h3 hb hr hFW hD HP3 HX3 HB3 HR3
      gi_wp2_with (fail)
      refine ⟨trivial, (callsIn_wide.2 (HAG.out ▸ each_any _ x HF.out)).mono ?_⟩
      rintro e w5 ⟨rfl, hw5⟩
      have hx5 := heap_alloc_new W (.cells #[.int .u8 x.k.toNat, .bool x.b, .int .i64 x.i, .string ⟨x.t.toArray⟩, .slice BA x.bs.length bc, .slice LA x.l.length lc, .slice FA x.f.length fc] 27)
      rw [← hw5] at hx5
      have f5 : Fr no W w5 := by rw [hw5]; exact (Fr.refl no W).alloc _
      have hs5 : w5.heap.size = W.heap.size + 1 := by rw [hw5, World.size_alloc]
      have hr5 := f5.heap HR4.out (fun h => h)
      have hd5 := f5.heap HD4.out (fun h => h)
      have hF5 := F4.out.trans f5 (fun _ _ h => h)
      obtain ⟨Bx, hBx⟩ : ∃ Bx, W.heap.size = Bx := ⟨_, rfl⟩
      rw [hBx] at hx5 hs5 hw3W ⊢
      have HX5 := Lib.hid hx5; have HS5 := Lib.hid hs5; have HR5 := Lib.hid hr5; have HD5 := Lib.hid hd5; have F5 := Lib.hid hF5; have HW3 := Lib.hid hw3W
      clear hx5 f5 hs5 hr5 hd5 hF5 hw5 hBx q0 q1 q2 q3 q4 q5 q6 hbl hw3W HB4 HR4 HD4
      have hS5 : ∀ k, twoB w5 k → w.heap.size + 2 ≤ k := fun k h => by
        have h1 := HS5.out; have h2 := HRL.out; have h3 := HW3.out; have h4 := HS3.out
        rcases h with h | h <;> omega
      have HS5' := Lib.hid hS5; clear hS5
      gi_wp2_with (fail)
      refine wpIn_range_b (P := Tryz.prog) (by omega) (gf := 109) (lb := #[.pointer (some ⟨Bx, 0, none⟩)]) rfl (enters_of Tryz.func109 (by kernel_rfl) rfl) (len := (pre 1 x).length) (Wh := isDV x) (Kp := Fr (twoB w5))
        (each_iter _ w5 Bx x HF.out (twoB w5) (fun W f => f.heap HX5.out (fun h => by have h1 := HS5.out; rcases h with h | h <;> omega)) (fun W f => HX.out.kept0 (F5.out.since f (fun k h => by have := HS5'.out k h; omega))) (fun k h => by rcases h with h | h <;> omega) (fun p hp => by have := hpd p hp; omega))
        (fun i xs W h => by obtain ⟨_, rfl⟩ := h; rfl) (fun h k => h.trans k (fun _ _ h => h)) (fun W o' => (fr_putObj W _ o').mono (fun k _ h => .inr h))
        (fun i W => Fr (twoB w5) w5 W ∧ ∀ k (h : k < (pre 1 x).length), k < i → own (pre 1 x)[k].2 = 0)
        (fun c W => c = .ret ∧ W.heap[w.heap.size + 1]? = some (.cells #[.int .u16 (allErr x)] 31 (0, 0)) ∧ allErr x ≠ 0 ∧ Fr (fun k => k = w.heap.size + 1 ∨ twoB w5 k) w5 W) ?hI5 ?hIx5 ?h05 ?round5 ?done5 ?stop5
      case hI5 => exact fun i A B ⟨h1, h2⟩ f => ⟨h1.trans f (fun k hk h => absurd (show w5.heap.size ≤ k from h) (by omega)), h2⟩
      case hIx5 => exact fun c A B ⟨h1, h2, h3, h4⟩ f => ⟨h1, f.heap h2 (fun h => absurd (show w5.heap.size ≤ _ from h) (by have h2 := HS3.out; have h1 := HRL.out; have := HS5.out; have := HW3.out; omega)), h3, h4.trans f (fun k hk h => absurd (show w5.heap.size ≤ k from h) (by omega))⟩
      case h05 => exact ⟨Fr.refl _ _, fun k _ h => by omega⟩
      case round5 =>
        intro l i xs W2 hi hwh hI hlt
        obtain ⟨hi2, rfl⟩ := hwh
        obtain ⟨j1, j2⟩ := hI
        have fW2 := F5.out.since j1 (fun k h => by have := HS5'.out k h; omega)
        obtain ⟨y, hy⟩ : ∃ y, (pre 1 x)[i].2 = y := ⟨_, rfl⟩
        have hgy : ∀ W', Fr no w W' → Tr.Good W' y := fun W' f => hy ▸ (HX.out.kept0 f).pre 1 _ (List.getElem_mem hi2)
        obtain ⟨KB, kb, KL, kl, KF, kf, hfy⟩ := (hgy w (Fr.refl _ _)).node.forms
        simp only [encDV]
        rw [hy, hfy.agg]
        have FW2 := Lib.hid fW2; have HGY := Lib.hid hgy; have HI2 := Lib.hid hi2; have J1 := Lib.hid j1; have J2 := Lib.hid j2; have HY := Lib.hid hy; have HFY := Lib.hid hfy; have HLT := Lib.hid hlt
        clear fW2 hgy j1 j2 hy hfy hlt hi hpd
        gi_wp2
        refine ⟨by (repeat first | exact Fr.refl _ _ | exact Fr.drewN _ _ _ | apply Fr.drew | apply Fr.alloc | apply Fr.setAt | apply Fr.moreN), (by (repeat first | exact Fr.refl _ _ | exact Fr.drewN _ _ _ | apply Fr.drew | apply Fr.alloc | apply Fr.setAt | apply Fr.moreN) : Fr no W2 _).mono (fun _ _ h => h.elim), fun W3 f3 => ?_⟩
        have hy3 := f3.heap (heap_alloc_new W2 (.cells #[.int .u8 y.k.toNat, .bool y.b, .int .i64 y.i, .string ⟨y.t.toArray⟩, .slice KB y.bs.length kb, .slice KL y.l.length kl, .slice KF y.f.length kf] 27)) (fun h => by have h1 := HLT.out; rcases h with h | h <;> omega)
        have fW3 : Fr (twoB w5) W2 W3 := ((by (repeat first | exact Fr.refl _ _ | exact Fr.drewN _ _ _ | apply Fr.drew | apply Fr.alloc | apply Fr.setAt | apply Fr.moreN) : Fr no W2 _).mono (fun _ _ h => h.elim)).trans f3 (fun _ _ h => h)
        have gW3 := FW2.out.since fW3 (fun k h => by have := HS5'.out k h; omega)
        have hl3 := (Array.getElem?_eq_some_iff.1 hy3).1
        have q0 := cell_of_row W3 W2.heap.size 0 _ _ (0, 0) hy3
        have q1 := cell_of_row W3 W2.heap.size 1 _ _ (0, 0) hy3
        have q2 := cell_of_row W3 W2.heap.size 2 _ _ (0, 0) hy3
        have q3 := cell_of_row W3 W2.heap.size 3 _ _ (0, 0) hy3
        have q4 := cell_of_row W3 W2.heap.size 4 _ _ (0, 0) hy3
        have q5 := cell_of_row W3 W2.heap.size 5 _ _ (0, 0) hy3
        have q6 := cell_of_row W3 W2.heap.size 6 _ _ (0, 0) hy3
        simp only [List.getElem?_toArray, List.getElem?_cons_succ, List.getElem?_cons_zero] at q0 q1 q2 q3 q4 q5 q6
        have hcall := own_any W3 y (HGY.out W3 gW3) (HT.out.kept0 gW3)
        rw [HFY.out.agg] at hcall
        have hr3 := fW3.heap (J1.out.heap HR5.out (fun h => by have := HS5'.out _ h; omega)) (fun h => by have := HS5'.out _ h; omega)
        have HC := Lib.hid hcall; have F3W := Lib.hid fW3; have HR7 := Lib.hid hr3
        clear f3 hy3 fW3 gW3 hcall hr3
        gi_wp2_with (fail)
        refine ⟨trivial, (callsIn_wide.2 HC.out).mono ?_⟩
        rintro e W4 ⟨rfl, f4⟩
        have hr4 := f4.heap HR7.out (fun h => h)
        obtain ⟨r0, rz, rl⟩ := one_cells hr4
        have F4W := Lib.hid (F3W.out.trans (f4.mono (fun _ _ h => h.elim)) (fun _ _ h => h)); have HR8 := Lib.hid hr4
        have f34 := Lib.hid f4
        have hs3 : w5.heap.size + 1 < W3.heap.size := by have := HLT.out; have := F3W.out.size; omega
        have HS3W := Lib.hid hs3
        clear f4 hr4 q0 q1 q2 q3 q4 q5 q6 hl3 hs3
        by_cases h0 : own y = 0
        · have H0 := Lib.hid h0
          rw [h0]
          clear h0
          gi_wp2
          refine ⟨fun k hk => f34.out.block k (by have := HS3W.out; rcases hk with h | h <;> omega) (fun h => h), f34.out.mono (fun _ _ h => h.elim), J1.out.trans F4W.out (fun _ _ h => h), fun k hk hlt => ?_⟩
          by_cases h : k < i
          · exact J2.out k hk h
          · obtain rfl : k = i := by omega
            rw [HY.out]; exact H0.out
        · have g1 : ((own y : Int) != 0) = true := by rw [bne_iff_ne]; omega
          have H0 := Lib.hid h0; clear h0
          have hall : allErr x = own y := by
            have := allErr_at HI2.out J2.out (by rw [HY.out]; exact H0.out)
            rw [this, HY.out]
          have HALL := Lib.hid hall; clear hall
          gi_wp2
          have g2 := Fr.setCell (Fr.refl (fun k => k = w.heap.size + 1) W4) ⟨w.heap.size + 1, 0, none⟩ (.int .u16 (own y)) (fun _ => rfl)
          refine ⟨fun k hk => ?_, ⟨rfl, by rw [HALL.out]; exact one_set HR8.out, by rw [HALL.out]; exact H0.out, ?_⟩, fun k hk hlt => ?_⟩
          rotate_left 2
          · have h1 := HS3W.out; have h2 := f34.out.size; have h3 := HS5'.out _ (.inl rfl)
            rw [g2.block k (by omega) (fun h => by omega), f34.out.block k (by omega) (fun h => h)]
          · have h1 := HS3W.out; have h2 := f34.out.size; have h3 := HS5'.out k hk
            rw [g2.block k (by rcases hk with h | h <;> omega) (fun h => by omega), f34.out.block k (by rcases hk with h | h <;> omega) (fun h => h)]
          · exact ((J1.out.trans F4W.out (fun _ _ h => h)).mono (fun k _ h => .inr h)).trans (g2.mono (fun k _ h => .inl h)) (fun _ _ h => h)
      case stop5 =>
        rintro c W9 ⟨rfl, h1, h2, h3⟩ hW9 hD9
        have hS9 : ∀ k, (k = w.heap.size + 1 ∨ twoB w5 k) → w.heap.size ≤ k := fun k h => by
          rcases h with h | h
          · omega
          · have := HS5'.out k h; omega
        have e3 : w.heap.size + 1 < w3.heap.size := by have := HS3.out; have := HRL.out; omega
        have e5 : w3.heap.size < w5.heap.size := by have := HS5.out; have := HW3.out; omega
        have hd3 := h3.heap HD5.out (fun h => by rcases h with h | h | h <;> omega)
        have hd3' : (W9.putObj w5.heap.size (.deferred none)).heap[w3.heap.size]? = _ := (World.putObj_heap_other (by omega)).trans hd3
        have hr9 : ((W9.putObj w5.heap.size (.deferred none)).putObj w3.heap.size (.deferred none)).heap[w.heap.size + 1]? = _ := ((World.putObj_heap_other (by omega)).trans (World.putObj_heap_other (by omega))).trans h1
        have fend : Fr (fun k => k = w3.heap.size ∨ k = w.heap.size + 1 ∨ twoB w5 k) w5 ((W9.putObj w5.heap.size (.deferred none)).putObj w3.heap.size (.deferred none)) :=
          ((h3.mono (fun _ _ h => .inr h)).trans ((fr_putObj W9 _ _).mono (fun k _ h => .inr (.inr (.inl h)))) (fun _ _ h => h)).trans ((fr_putObj _ _ _).mono (fun k _ h => .inl h)) (fun _ _ h => h)
        have hfin := F5.out.since fend (fun k h => by
          rcases h with h | h
          · omega
          · exact hS9 k h)
        have HR9 := Lib.hid hr9; have HD3 := Lib.hid hd3'; have HD9 := Lib.hid hD9; have HFIN := Lib.hid hfin; have H2 := Lib.hid h2
        clear h1 h2 h3 hr9 hd3 hd3' hD9 fend hfin
        gi_wp2
        refine ⟨by simp, .inl ⟨_, _, rfl, run_takeDeferred HD9.out, by simp, .inl ⟨_, _, rfl, run_takeDeferred HD3.out, ?_⟩⟩⟩
        refine ⟨_, results_cell1 (P := Tryz.prog) rfl Tryz.isAgg31 _ _ (w.heap.size + 1) _ rfl (one_cells HR9.out).1, ?_⟩
        have hch : check x = allErr x := by unfold check parts; rw [if_neg (by rw [HDD.out]; exact Bool.noConfusion), if_neg (by have := H3.out; omega)]
        rw [hch]
        exact ⟨rfl, HFIN.out⟩
      case done5 =>
        rintro W9 ⟨h1, h2⟩ hW9 hD9
        have e3 : w.heap.size + 1 < w3.heap.size := by have := HS3.out; have := HRL.out; omega
        have e5 : w3.heap.size < w5.heap.size := by have := HS5.out; have := HW3.out; omega
        have hr := h1.heap HR5.out (fun h => by have := HS5'.out _ h; omega)
        have hd3 := h1.heap HD5.out (fun h => by rcases h with h | h <;> omega)
        obtain ⟨r0, rz, rl⟩ := one_cells hr
        have HR := Lib.hid hr; have HD3 := Lib.hid hd3; have HD9 := Lib.hid hD9; have H1 := Lib.hid h1; have H2 := Lib.hid h2
        clear h1 h2 hr hd3 hD9 hpd
        gi_wp2
        have g2 := Fr.setCell (Fr.refl (fun k => k = w.heap.size + 1) W9) ⟨w.heap.size + 1, 0, none⟩ (.int .u16 0) (fun _ => rfl)
        have hD9' := g2.heap HD9.out (fun h => by omega)
        have hd3' := g2.heap HD3.out (fun h => by omega)
        have hd3'' := (World.putObj_heap_other (o := .deferred none) (show w3.heap.size ≠ w5.heap.size by omega)).trans hd3'
        have hr9 := ((World.putObj_heap_other (o := .deferred none) (show w.heap.size + 1 ≠ w3.heap.size by omega)).trans (World.putObj_heap_other (o := .deferred none) (show w.heap.size + 1 ≠ w5.heap.size by omega))).trans (one_set (v := .int .u16 0) HR.out)
        refine ⟨by simp, .inl ⟨_, _, rfl, run_takeDeferred hD9', by simp, .inl ⟨_, _, rfl, run_takeDeferred hd3'', ?_⟩⟩⟩
        refine ⟨_, results_cell1 (P := Tryz.prog) rfl Tryz.isAgg31 _ _ (w.heap.size + 1) _ rfl (one_cells hr9).1, ?_⟩
        have hch : check x = 0 := check_zero.2 ⟨HDD.out, H3.out, fun p hp => by
          obtain ⟨k, hk, rfl⟩ := List.getElem_of_mem hp
          exact H2.out k hk hk⟩
        rw [hch]
        have fend : Fr (fun k => k = w3.heap.size ∨ k = w.heap.size + 1 ∨ twoB w5 k) w5 _ :=
          (((H1.out.mono (fun _ _ h => .inr (.inr h))).trans (g2.mono (fun _ _ h => .inr (.inl h))) (fun _ _ h => h)).trans ((fr_putObj _ w5.heap.size (.deferred none)).mono (fun k _ h => .inr (.inr (.inl h)))) (fun _ _ h => h)).trans ((fr_putObj _ w3.heap.size (.deferred none)).mono (fun k _ h => .inl h)) (fun _ _ h => h)
        exact ⟨rfl, F5.out.since fend (fun k h => by
          rcases h with h | h | h
          · omega
          · omega
          · have := HS5'.out k h; omega)⟩
end Go.Proofs.YtijcleiekafoiaaGreatDoor

/- append onto a row of one's own ('Ow'), with room or without: what the elder slice shows stays. General. -/
namespace Go
open Go.RowKit

/-- In the elder place, or in a new block. -/
def Stays (w w' : World) (v v' : Value) (n N : Nat) : Prop := (∃ A c, v = .slice A n c ∧ v' = .slice A N c) ∨ ∀ k, v'.ownBlock = some k → w.heap.size ≤ k ∧ k < w'.heap.size

section
variable {P : Program} {w : World} {o : Oper} {a : Act} {K : Act → World → Prop} {Q : Exit → Act → World → Prop}

theorem run_apo {t e : TypeId} {z : Value} {size bytes : Nat} (tb : Tb P t e z size bytes) (ty : TypeId) {v : Value} {n : Nat} {xs : List Value} (hs : Ow w e size v n xs)
    {x : Value} {m : Nat} {news : List Value} (hx : Sl w size x m news) (h1 : ∀ u ∈ news, u.oneCell' = true) (h63 : n + m ≤ maxLen) (hb : (n + m) * bytes ≤ 140737488355328) :
    ∃ A c w', (Builtin.append_ #[t, t] ty #[v, x]).run P w = .ok (.slice A (n + m) c) w' ∧ Ow w' e size (.slice A (n + m) c) (n + m) (xs ++ news) ∧ Ow w' e size v n xs ∧ Fr (fun k => v.ownBlock = some k) w w' ∧ Stays w w' v (.slice A (n + m) c) n (n + m) := by
  obtain ⟨i, hi, hz0, hz1, hz2⟩ := info_parts tb.info
  obtain ⟨X, cx, rfl, hcx1, hcx2⟩ := hx.form
  have hsmall : n + m ≤ 9223372036854775807 := by simp only [maxLen] at h63; omega
  have hlen : (xs ++ news).length = (n + m) * size := by rw [List.length_append, hs.1, hx.1, Nat.add_mul]
  obtain ⟨A, c, hv, hnc0⟩ : ∃ A c, v = .slice A n c ∧ n ≤ c := by
    rcases hs.2 with ⟨rfl, rfl⟩ | ⟨g, cap, cur, rfl, _, h, _⟩
    · exact ⟨_, _, rfl, Nat.le_refl _⟩
    · exact ⟨_, _, rfl, h⟩
  subst hv
  by_cases hm : m = 0
  · subst hm
    have hn : news = [] := List.eq_nil_of_length_eq_zero (by simpa using hx.1)
    subst hn
    refine ⟨A, c, w, ?_, by simpa using hs, hs, Fr.refl _ _, .inl ⟨A, c, rfl, rfl⟩⟩
    cases X with
    | none => cases A <;> simp [Builtin.append_, run_underlying tb.und, sizeOf, typeInfo, hi, Builtin.lenOf, Builtin.firstCells, storeCells, Nat.not_lt.2 hnc0]
    | some y =>
      have hf := run_firstCells_some (P := P) w i.size 0 y 0 cx [] (by simp) (by simp)
      cases A <;> simp [Builtin.append_, run_underlying tb.und, sizeOf, typeInfo, hi, Builtin.lenOf, hf, storeCells, Nat.not_lt.2 hnc0]
  · obtain ⟨b, off, cap', h2, hnews⟩ : ∃ b off cap', Value.slice X m cx = .slice (some ⟨b, off, none⟩) m cap' ∧ ∀ j u, news[j]? = some u → w.cell? ⟨b, off + j, none⟩ = some u := by
      rcases hx.2 with ⟨_, _, h2⟩ | ⟨b, off, cap', h2, _, _, hc⟩
      · omega
      · exact ⟨b, off, cap', h2, hc⟩
    have hnews' : ∀ j u, news[j]? = some u → w.cell? ((⟨b, off, none⟩ : Addr).add j) = some u := fun j u hu => by rw [Addr.add_lit]; exact hnews j u hu
    rw [h2]
    have grown : ∀ old, old < n + m → Ow (w.drew.alloc (.cells (xs.toArray ++ news.toArray ++ Builtin.zeroCells z.cells (grownCap w (n + m) old e - (n + m))) e)) e size
        (.slice (some ⟨w.heap.size, 0, none⟩) (n + m) (grownCap w (n + m) old e)) (n + m) (xs ++ news) := by
      intro old ho
      have hge := grownCap_ge w (n + m) old e
      refine ⟨hlen, .inr ⟨w.heap.size, _, _, rfl, heap_alloc_new w.drew _, hge, grownCap_le_maxLen w (n + m) old e h63, ?_, ?_⟩⟩
      · simp only [Array.size_append, List.size_toArray, size_zeroCells, tb.zs, hs.1, hx.1, ← Nat.add_mul]
        apply Nat.le_of_eq
        congr 1
        omega
      · simp only [Array.toList_append, List.append_assoc]
        rw [← List.append_assoc, ← hlen]
        exact List.take_left
    have frg : ∀ o, Fr no w (w.drew.alloc o) := fun o => Fr.alloc (Fr.drew (Fr.refl _ _)) o
    rcases hs.2 with ⟨h3, h4⟩ | ⟨g, cap, cur, h3, hg, hnc, hcm, hcs, htake⟩
    · cases h3
      have hx0 : xs = [] := List.eq_nil_of_length_eq_zero (by simpa using hs.1)
      subst hx0
      have hr := run_append_nil (P := P) w t ty e i z tb.und hi hz0 ⟨b, off, none⟩ m cap' news (by rw [hz1]; exact hx.1) hnews' (by omega) (by omega) (by simp only [Nat.zero_add] at hb; rw [hz2]; omega)
      have hgr := grown 0 (by omega)
      simp only [Nat.zero_add, List.nil_append, Array.empty_append] at hgr ⊢
      exact ⟨_, _, _, hr, hgr, ⟨by simp, .inl ⟨rfl, rfl⟩⟩, (frg _).mono (fun _ _ h => h.elim), .inr fun k hk => by
        have hk' : w.heap.size = k := by simpa [Value.ownBlock] using hk
        subst hk'
        exact ⟨Nat.le_refl _, by simp⟩⟩
    · cases h3
      by_cases hroom : n + m ≤ c
      · subst hz1
        have hfit : n * i.size + news.length ≤ cur.size := by rw [hx.1, ← Nat.add_mul]; exact Nat.le_trans (Nat.mul_le_mul_right _ hroom) hcs
        have hrun := run_append_room (P := P) w t ty e i tb.und hi g n c cur hg ⟨b, off, none⟩ m cap' news hx.1 hnews' h1 hroom hfit
        refine ⟨_, _, _, hrun, ⟨hlen, .inr ⟨g, c, _, rfl, setRow_heap w g cur _ e _ hg, hroom, hcm, ?_, ?_⟩⟩, ⟨hs.1, .inr ⟨g, c, _, rfl, setRow_heap w g cur _ e _ hg, hnc, hcm, ?_, ?_⟩⟩, ⟨rfl, rfl, rfl, by simp, fun k _ hk => setRow_other w g k _ (fun e => hk (by rw [e]; rfl))⟩, .inl ⟨_, _, rfl, rfl⟩⟩
        · simp only [List.size_toArray, List.length_append, List.length_take, List.length_drop, Array.length_toList]; omega
        · rw [htake, ← hlen]; exact List.take_left
        · simp only [List.size_toArray, List.length_append, List.length_take, List.length_drop, Array.length_toList]; omega
        · rw [htake, List.append_assoc, ← hs.1]; exact List.take_left
      · have holds : ∀ j u, xs[j]? = some u → w.cell? ((⟨g, 0, none⟩ : Addr).add j) = some u := by
          intro j u hu
          rw [Addr.add_lit, Nat.zero_add, cell_of_row w g j cur e (0, 0) hg]
          rw [← htake, List.getElem?_take] at hu
          split at hu
          · simpa using hu
          · cases hu
        have hr := run_append_grow (P := P) w t ty e i z tb.und hi hz0 ⟨g, 0, none⟩ n c xs (by rw [hz1]; exact hs.1) holds ⟨b, off, none⟩ m cap' news (by rw [hz1]; exact hx.1) hnews' (by omega) (by omega) (growslice_fits (by omega) (by rw [hz2]; exact hb))
        exact ⟨_, _, _, hr, grown c (by omega), hs.kept (frg _) (fun _ _ h => h.elim), (frg _).mono (fun _ _ h => h.elim), .inr fun k hk => by
          have hk' : w.heap.size = k := by simpa [Value.ownBlock] using hk
          subst hk'
          exact ⟨Nat.le_refl _, by simp⟩⟩

theorem wp_apo (s x : Operand) (t : TypeId) (ho : o.op = .call { callee := .builtin .append, args := #[s, x], argTypes := #[t, t] })
    {e : TypeId} {z : Value} {size bytes : Nat} (tb : Tb P t e z size bytes) {v : Value} {n : Nat} {xs : List Value} (hs : Ow w e size v n xs)
    {vx : Value} {m : Nat} {news : List Value} (hx : Sl w size vx m news) (hse : a.eval s = v) (hxe : a.eval x = vx) (h1 : ∀ u ∈ news, u.oneCell' = true) (h63 : n + m ≤ maxLen) (hb : (n + m) * bytes ≤ 140737488355328)
    (h : ∀ A N c w', N = n + m → Ow w' e size (.slice A N c) N (xs ++ news) → Ow w' e size v n xs → Fr (fun k => v.ownBlock = some k) w w' → Stays w w' v (.slice A N c) n N → K (a.put o.dst (.slice A N c)) w') : o.wp P a w K Q := by
  obtain ⟨A, c, w', hr, h2, h3, h4, h5⟩ := run_apo (P := P) tb o.type hs hx h1 h63 hb
  unfold Oper.wp execOp
  simp only [ho, resolve, invoke, builtin, Sem.run_bind, Sem.run_pure, Result.andThen_ok, List.map_toArray, List.map_cons, List.map_nil, hse, hxe, hr]
  exact h A _ c w' rfl h2 h3 h4 h5
variable {ops : Array Oper} {rest : List Oper}
theorem wpList_apo (hgd : o.guard = none) (s x : Operand) (t : TypeId) (ho : o.op = .call { callee := .builtin .append, args := #[s, x], argTypes := #[t, t] })
    {e : TypeId} {z : Value} {size bytes : Nat} (tb : Tb P t e z size bytes) {v : Value} {n : Nat} {xs : List Value} (hs : Ow w e size v n xs)
    {vx : Value} {m : Nat} {news : List Value} (hx : Sl w size vx m news) (hse : a.eval s = v) (hxe : a.eval x = vx) (h1 : ∀ u ∈ news, u.oneCell' = true) (h63 : n + m ≤ maxLen) (hb : (n + m) * bytes ≤ 140737488355328)
    (h : ∀ A N c w', N = n + m → Ow w' e size (.slice A N c) N (xs ++ news) → Ow w' e size v n xs → Fr (fun k => v.ownBlock = some k) w w' → Stays w w' v (.slice A N c) n N → wpList P ops Q rest (a.put o.dst (.slice A N c)) w') : wpList P ops Q (o :: rest) a w :=
  wpList_plain hgd fun _ hK => wp_apo s x t ho tb hs hx hse hxe h1 h63 hb fun A' N c w' h2 h3 h4 h5 h6 => hK _ _ (h A' N c w' h2 h3 h4 h5 h6)
end
end Go

/- Rws of one kind, each of its own. General. -/
namespace Go
open Go.RowKit

namespace Ow
variable {w w1 : World} {e sz n : Nat} {v : Value} {xs : List Value} {S : Nat → Prop}
theorem form (h : Ow w e sz v n xs) : ∃ A c, v = .slice A n c ∧ n ≤ c ∧ c ≤ maxLen := h.sl.form
theorem head {A : Option Addr} {c : Nat} (h : Ow w e sz (.slice A n c) n xs) (m : Nat) (hm : m ≤ n) : Ow w e sz (.slice A m c) m (xs.take (m * sz)) := by
  have hl := h.1
  have hmul : m * sz ≤ n * sz := Nat.mul_le_mul_right _ hm
  refine ⟨by rw [List.length_take]; omega, ?_⟩
  rcases h.2 with ⟨h1, h2⟩ | ⟨g, cap, cur, h1, hg, h2, h3, h4, h5⟩
  · cases h1
    obtain rfl : m = 0 := by omega
    exact .inl ⟨rfl, rfl⟩
  · cases h1
    exact .inr ⟨g, c, cur, rfl, hg, by omega, h3, h4, by rw [← h5, List.take_take, Nat.min_eq_left hmul]⟩
/-- The cells of element k. -/
theorem cells (h : Ow w e sz v n xs) (k : Nat) (hk : k < n) : ∃ g c, v = .slice (some ⟨g, 0, none⟩) n c ∧ n ≤ c ∧ c ≤ maxLen ∧ g < w.heap.size ∧ (∀ o, w.frozen? ⟨g, o, none⟩ = false) ∧
    (∀ (j : Nat) u, xs[j]? = some u → w.cell? ⟨g, j, none⟩ = some u) := by
  rcases h.2 with ⟨h1, h2⟩ | ⟨g, cap, cur, h1, hg, h2, h3, h4, h5⟩
  · omega
  · refine ⟨g, cap, h1, h2, h3, (Array.getElem?_eq_some_iff.1 hg).1, fun o => by simp [World.frozen?, hg], fun j u hu => ?_⟩
    rw [cell_of_row w g j cur e (0, 0) hg]
    rw [← h5, List.getElem?_take] at hu
    split at hu
    · simpa using hu
    · cases hu
/-- One cell of it written. -/
theorem set {g c j : Nat} (h : Ow w e sz (.slice (some ⟨g, 0, none⟩) n c) n xs) (_hj : j < xs.length) (u : Value) : Ow (w.setCell ⟨g, j, none⟩ u) e sz (.slice (some ⟨g, 0, none⟩) n c) n (xs.set j u) := by
  refine ⟨by rw [List.length_set]; exact h.1, ?_⟩
  rcases h.2 with ⟨h1, h2⟩ | ⟨g', cap, cur, h1, hg, h2, h3, h4, h5⟩
  · cases h1
  · cases h1
    refine .inr ⟨g, c, cur.setIfInBounds j u, rfl, hp_same hg j u, h2, h3, by simpa using h4, ?_⟩
    rw [Array.toList_setIfInBounds, List.take_set, h5]
end Ow

/-- The rows vs: the j-th has C j, in a block of its own. -/
structure Rws (w : World) (e : TypeId) (sz : Nat) (vs : List Value) (ns : Nat → Nat) (C : Nat → List Value) : Prop where
  row : ∀ j (h : j < vs.length), Ow w e sz vs[j] (ns j) (C j)
  apart : ∀ i j (hi : i < vs.length) (hj : j < vs.length) b, i ≠ j → vs[i].ownBlock = some b → vs[j].ownBlock ≠ some b

def InRows (vs : List Value) : Nat → Prop := fun b => ∃ v ∈ vs, v.ownBlock = some b

namespace Rws
variable {w w1 : World} {e sz : Nat} {vs : List Value} {ns : Nat → Nat} {C : Nat → List Value} {S : Nat → Prop}
theorem kept (h : Rws w e sz vs ns C) (f : Fr S w w1) (hn : ∀ b, InRows vs b → ¬ S b) : Rws w1 e sz vs ns C :=
  ⟨fun j hj => (h.row j hj).kept f (fun k hk => hn k ⟨_, List.getElem_mem hj, hk⟩), h.apart⟩
/-- One row turned. -/
theorem one (h : Rws w e sz vs ns C) (i : Nat) (hi : i < vs.length) (f : Fr (fun b => vs[i].ownBlock = some b) w w1) (c : List Value) (hr : Ow w1 e sz vs[i] (ns i) c) : Rws w1 e sz vs ns (fun j => if j = i then c else C j) := by
  refine ⟨fun j hj => ?_, h.apart⟩
  by_cases hji : j = i
  · subst hji; simpa using hr
  · simp only [hji, if_false]
    exact (h.row j hj).kept f (fun k hk => fun hk2 => h.apart i j hi hj k (fun e => hji e.symm) hk2 hk)
theorem congr {C' : Nat → List Value} (h : Rws w e sz vs ns C) (hc : ∀ j, j < vs.length → C j = C' j) : Rws w e sz vs ns C' :=
  ⟨fun j hj => by rw [← hc j hj]; exact h.row j hj, h.apart⟩
theorem lt (h : Rws w e sz vs ns C) : ∀ b, InRows vs b → b < w.heap.size := by
  rintro b ⟨v, hv, hb⟩
  obtain ⟨j, hj, rfl⟩ := List.getElem_of_mem hv
  exact (h.row j hj).lt b hb
end Rws

/-- Marks: of row i, place k. -/
def mks (m : Int → Nat → List Value) (i : Int) (n : Nat) : List Value := (List.range n).flatMap (m i)

theorem mks_succ (m : Int → Nat → List Value) (i : Int) (n : Nat) : mks m i (n + 1) = mks m i n ++ m i n := by simp [mks, List.range_succ]
theorem mks_len {m : Int → Nat → List Value} {sz : Nat} (hm : ∀ i k, (m i k).length = sz) (i : Int) (n : Nat) : (mks m i n).length = n * sz := by
  induction n with
  | zero => simp [mks]
  | succ n ih => rw [mks_succ, List.length_append, ih, hm, Nat.succ_mul]
theorem mks_take {m : Int → Nat → List Value} {sz : Nat} (hm : ∀ i k, (m i k).length = sz) (i : Int) (k n : Nat) (h : k ≤ n) : (mks m i n).take (k * sz) = mks m i k := by
  induction n with
  | zero =>
    obtain rfl : k = 0 := by omega
    simp [mks]
  | succ n ih =>
    by_cases hk : k = n + 1
    · subst hk
      exact List.take_of_length_le (by rw [mks_len hm]; exact Nat.le_refl _)
    · rw [mks_succ, List.take_append_of_le_length (by rw [mks_len hm]; exact Nat.mul_le_mul_right _ (by omega)), ih (by omega)]
theorem mks_get {m : Int → Nat → List Value} {sz : Nat} (hm : ∀ i k, (m i k).length = sz) (i : Int) (k n : Nat) (h : k < n) (j : Nat) (hj : j < sz) : (mks m i n)[k * sz + j]? = (m i k)[j]? := by
  have h1 := mks_take hm i (k + 1) n h
  have h2 : (mks m i n)[k * sz + j]? = ((mks m i n).take ((k + 1) * sz))[k * sz + j]? := by
    rw [List.getElem?_take, if_pos (by rw [Nat.succ_mul]; omega)]
  rw [h2, h1, mks_succ, List.getElem?_append_right (by rw [mks_len hm]; omega), mks_len hm]
  congr 1
  omega

end Go

/- slices.Clip, bytes.Clone of bytes. (Byt without Compare.) -/
namespace Go.Proofs.YtijcleiekafoiaaGreatDoor
open Go.RowKit

set_option maxRecDepth 100000 in
set_option maxHeartbeats 400000 in
theorem bclip_any (w : World) (A : Option Addr) (n c : Nat) (hc : n ≤ c) :
    Calls Tryz.prog 79 #[.slice A n c] w fun e w' => e = .returned (.slice A n n) ∧ w' = w := by
  by_cases hn : n = 0
  · subst hn
    go_enter Tryz.func79, Tryz.ntmps79
    go_wp2
    go_ret
    exact ⟨rfl, rfl⟩
  · go_enter Tryz.func79, Tryz.ntmps79
    go_wp2
    go_ret
    refine ⟨?_, rfl⟩
    cases A <;> simp

end Go.Proofs.YtijcleiekafoiaaGreatDoor

/- slices.Clone, slices.Clip: of bytes, values, fields. (printed by mkvclone.py) -/
namespace Go.Proofs.YtijcleiekafoiaaGreatDoor
open Go.RowKit
open Tr

theorem tbV : Tb Tryz.prog 24 27 (.agg #[.int .u8 0, .bool false, .int .i64 0, .string ⟨#[]⟩, .slice none 0 0, .slice none 0 0, .slice none 0 0]) 7 104 := ⟨by kernel_rfl, by kernel_rfl, rfl, by decide⟩
theorem tbF : Tb Tryz.prog 25 87 (.agg #[.string ⟨#[]⟩, .int .u8 0, .bool false, .int .i64 0, .string ⟨#[]⟩, .slice none 0 0, .slice none 0 0, .slice none 0 0]) 8 120 := ⟨by kernel_rfl, by kernel_rfl, rfl, by decide⟩

set_option maxRecDepth 100000 in
set_option maxHeartbeats 400000 in
theorem sclB_any (w : World) (x : Value) (n : Nat) (cs : List Value) (hx : Sl w 1 x n cs) (hl : n * 1 ≤ 140737488355328) (hn : n ≤ 140737488351232) (h1 : ∀ u ∈ cs, u.oneCell' = true) :
    Calls Tryz.prog 80 #[x] w fun e w' => ∃ A c, e = .returned (.slice A n c) ∧ Ow w' 5 1 (.slice A n c) n cs ∧ (∀ k, Value.ownBlock (.slice A n c) = some k → w.heap.size ≤ k) ∧ Fr no w w' := by
  have hx2 : (x = .slice none 0 0 ∧ n = 0) ∨ ∃ y cap, x = .slice (some y) n cap ∧ n ≤ cap ∧ cap ≤ maxLen := by
    rcases hx.2 with ⟨Y, h1, h2⟩ | ⟨b, o, cap, h1, h2, h3, _⟩
    · cases Y with
      | none => exact .inl ⟨h1, h2⟩
      | some y => exact .inr ⟨y, 0, by rw [h1, h2], by omega, Nat.zero_le _⟩
    · exact .inr ⟨_, cap, h1, h2, h3⟩
  rcases hx2 with ⟨rfl, rfl⟩ | ⟨y, cap, rfl, h2, h3⟩
  · have hcs : cs = [] := List.eq_nil_of_length_eq_zero (by rw [hx.1])
    subst hcs
    have hnil := fun (w : World) (a : Option Addr) (n c n' c' : Nat) => Lib.run_eql_slice_nil (P := Tryz.prog) w 23 5 a n c n' c' (by kernel_rfl)
    go_enter Tryz.func80, Tryz.ntmps80
    go_wp2
    go_ret
    exact ⟨none, 0, rfl, ⟨by simp, .inl ⟨rfl, rfl⟩⟩, by simp [Value.ownBlock], Fr.refl _ _⟩
  · have HX := Lib.hid hx; have H1 := Lib.hid h1; clear hx h1
    have hnil := fun (w : World) (a : Option Addr) (n c n' c' : Nat) => Lib.run_eql_slice_nil (P := Tryz.prog) w 23 5 a n c n' c' (by kernel_rfl)
    go_enter Tryz.func80, Tryz.ntmps80
    go_wp2_with (at_builtin; refine wpList_apo (n := 0) (xs := []) rfl (.tmp 5) (.tmp 6) 23 rfl tbB ?ownB (HX.out.kept0 ?frB) rfl rfl H1.out ?b1B ?b2B ?goB)
    case ownB => exact ⟨rfl, .inr ⟨w.heap.size, 0, #[], rfl, heap_alloc_new _ _, Nat.le_refl _, Nat.zero_le _, by simp, by simp⟩⟩
    case frB => (repeat first | exact Fr.refl _ _ | apply Fr.drew | apply Fr.alloc)
    case b1B => simp only [maxLen]; omega
    case b2B => omega
    case goB =>
      intro A N c w' hN ho _ hf hs
      obtain rfl : N = n := by omega
      have HO := Lib.hid ho; have HF := Lib.hid hf; have HS := Lib.hid hs; clear ho hf hs
      go_wp2
      go_ret
      refine ⟨A, c, rfl, HO.out, fun k hk => ?_, ?_⟩
      · rcases HS.out with ⟨A', c', h, h'⟩ | h
        · cases h; cases h'
          have : w.heap.size = k := by simpa [Value.ownBlock] using hk
          omega
        · have := h k hk; simp at this; omega
      · exact Fr.trans (S := no) (by (repeat first | exact Fr.refl _ _ | apply Fr.drew | apply Fr.alloc)) HF.out (fun k hk h => by simp [Value.ownBlock] at h; omega)

set_option maxRecDepth 100000 in
set_option maxHeartbeats 400000 in
theorem sclV_any (w : World) (x : Value) (n : Nat) (cs : List Value) (hx : Sl w 7 x n cs) (hl : n * 104 ≤ 140737488355328) (hn : n ≤ 140737488351232) (h1 : ∀ u ∈ cs, u.oneCell' = true) :
    Calls Tryz.prog 95 #[x] w fun e w' => ∃ A c, e = .returned (.slice A n c) ∧ Ow w' 27 7 (.slice A n c) n cs ∧ (∀ k, Value.ownBlock (.slice A n c) = some k → w.heap.size ≤ k) ∧ Fr no w w' := by
  have hx2 : (x = .slice none 0 0 ∧ n = 0) ∨ ∃ y cap, x = .slice (some y) n cap ∧ n ≤ cap ∧ cap ≤ maxLen := by
    rcases hx.2 with ⟨Y, h1, h2⟩ | ⟨b, o, cap, h1, h2, h3, _⟩
    · cases Y with
      | none => exact .inl ⟨h1, h2⟩
      | some y => exact .inr ⟨y, 0, by rw [h1, h2], by omega, Nat.zero_le _⟩
    · exact .inr ⟨_, cap, h1, h2, h3⟩
  rcases hx2 with ⟨rfl, rfl⟩ | ⟨y, cap, rfl, h2, h3⟩
  · have hcs : cs = [] := List.eq_nil_of_length_eq_zero (by rw [hx.1])
    subst hcs
    have hnil := fun (w : World) (a : Option Addr) (n c n' c' : Nat) => Lib.run_eql_slice_nil (P := Tryz.prog) w 24 27 a n c n' c' (by kernel_rfl)
    go_enter Tryz.func95, Tryz.ntmps95
    go_wp2
    go_ret
    exact ⟨none, 0, rfl, ⟨by simp, .inl ⟨rfl, rfl⟩⟩, by simp [Value.ownBlock], Fr.refl _ _⟩
  · have HX := Lib.hid hx; have H1 := Lib.hid h1; clear hx h1
    have hnil := fun (w : World) (a : Option Addr) (n c n' c' : Nat) => Lib.run_eql_slice_nil (P := Tryz.prog) w 24 27 a n c n' c' (by kernel_rfl)
    go_enter Tryz.func95, Tryz.ntmps95
    go_wp2_with (at_builtin; refine wpList_apo (n := 0) (xs := []) rfl (.tmp 5) (.tmp 6) 24 rfl tbV ?ownV (HX.out.kept0 ?frV) rfl rfl H1.out ?b1V ?b2V ?goV)
    case ownV => exact ⟨rfl, .inr ⟨w.heap.size, 0, #[], rfl, heap_alloc_new _ _, Nat.le_refl _, Nat.zero_le _, by simp, by simp⟩⟩
    case frV => (repeat first | exact Fr.refl _ _ | apply Fr.drew | apply Fr.alloc)
    case b1V => simp only [maxLen]; omega
    case b2V => omega
    case goV =>
      intro A N c w' hN ho _ hf hs
      obtain rfl : N = n := by omega
      have HO := Lib.hid ho; have HF := Lib.hid hf; have HS := Lib.hid hs; clear ho hf hs
      go_wp2
      go_ret
      refine ⟨A, c, rfl, HO.out, fun k hk => ?_, ?_⟩
      · rcases HS.out with ⟨A', c', h, h'⟩ | h
        · cases h; cases h'
          have : w.heap.size = k := by simpa [Value.ownBlock] using hk
          omega
        · have := h k hk; simp at this; omega
      · exact Fr.trans (S := no) (by (repeat first | exact Fr.refl _ _ | apply Fr.drew | apply Fr.alloc)) HF.out (fun k hk h => by simp [Value.ownBlock] at h; omega)

set_option maxRecDepth 100000 in
theorem scpV_any (w : World) (A : Option Addr) (n c : Nat) (hc : n ≤ c) :
    Calls Tryz.prog 94 #[.slice A n c] w fun e w' => e = .returned (.slice A n n) ∧ w' = w := by
  by_cases hn : n = 0
  · subst hn
    go_enter Tryz.func94, Tryz.ntmps94
    go_wp2
    go_ret
    exact ⟨rfl, rfl⟩
  · go_enter Tryz.func94, Tryz.ntmps94
    go_wp2
    go_ret
    exact ⟨rfl, rfl⟩

set_option maxRecDepth 100000 in
set_option maxHeartbeats 400000 in
theorem sclF_any (w : World) (x : Value) (n : Nat) (cs : List Value) (hx : Sl w 8 x n cs) (hl : n * 120 ≤ 140737488355328) (hn : n ≤ 140737488351232) (h1 : ∀ u ∈ cs, u.oneCell' = true) :
    Calls Tryz.prog 97 #[x] w fun e w' => ∃ A c, e = .returned (.slice A n c) ∧ Ow w' 87 8 (.slice A n c) n cs ∧ (∀ k, Value.ownBlock (.slice A n c) = some k → w.heap.size ≤ k) ∧ Fr no w w' := by
  have hx2 : (x = .slice none 0 0 ∧ n = 0) ∨ ∃ y cap, x = .slice (some y) n cap ∧ n ≤ cap ∧ cap ≤ maxLen := by
    rcases hx.2 with ⟨Y, h1, h2⟩ | ⟨b, o, cap, h1, h2, h3, _⟩
    · cases Y with
      | none => exact .inl ⟨h1, h2⟩
      | some y => exact .inr ⟨y, 0, by rw [h1, h2], by omega, Nat.zero_le _⟩
    · exact .inr ⟨_, cap, h1, h2, h3⟩
  rcases hx2 with ⟨rfl, rfl⟩ | ⟨y, cap, rfl, h2, h3⟩
  · have hcs : cs = [] := List.eq_nil_of_length_eq_zero (by rw [hx.1])
    subst hcs
    have hnil := fun (w : World) (a : Option Addr) (n c n' c' : Nat) => Lib.run_eql_slice_nil (P := Tryz.prog) w 25 87 a n c n' c' (by kernel_rfl)
    go_enter Tryz.func97, Tryz.ntmps97
    go_wp2
    go_ret
    exact ⟨none, 0, rfl, ⟨by simp, .inl ⟨rfl, rfl⟩⟩, by simp [Value.ownBlock], Fr.refl _ _⟩
  · have HX := Lib.hid hx; have H1 := Lib.hid h1; clear hx h1
    have hnil := fun (w : World) (a : Option Addr) (n c n' c' : Nat) => Lib.run_eql_slice_nil (P := Tryz.prog) w 25 87 a n c n' c' (by kernel_rfl)
    go_enter Tryz.func97, Tryz.ntmps97
    go_wp2_with (at_builtin; refine wpList_apo (n := 0) (xs := []) rfl (.tmp 5) (.tmp 6) 25 rfl tbF ?ownF (HX.out.kept0 ?frF) rfl rfl H1.out ?b1F ?b2F ?goF)
    case ownF => exact ⟨rfl, .inr ⟨w.heap.size, 0, #[], rfl, heap_alloc_new _ _, Nat.le_refl _, Nat.zero_le _, by simp, by simp⟩⟩
    case frF => (repeat first | exact Fr.refl _ _ | apply Fr.drew | apply Fr.alloc)
    case b1F => simp only [maxLen]; omega
    case b2F => omega
    case goF =>
      intro A N c w' hN ho _ hf hs
      obtain rfl : N = n := by omega
      have HO := Lib.hid ho; have HF := Lib.hid hf; have HS := Lib.hid hs; clear ho hf hs
      go_wp2
      go_ret
      refine ⟨A, c, rfl, HO.out, fun k hk => ?_, ?_⟩
      · rcases HS.out with ⟨A', c', h, h'⟩ | h
        · cases h; cases h'
          have : w.heap.size = k := by simpa [Value.ownBlock] using hk
          omega
        · have := h k hk; simp at this; omega
      · exact Fr.trans (S := no) (by (repeat first | exact Fr.refl _ _ | apply Fr.drew | apply Fr.alloc)) HF.out (fun k hk h => by simp [Value.ownBlock] at h; omega)

set_option maxRecDepth 100000 in
theorem scpF_any (w : World) (A : Option Addr) (n c : Nat) (hc : n ≤ c) :
    Calls Tryz.prog 96 #[.slice A n c] w fun e w' => e = .returned (.slice A n n) ∧ w' = w := by
  by_cases hn : n = 0
  · subst hn
    go_enter Tryz.func96, Tryz.ntmps96
    go_wp2
    go_ret
    exact ⟨rfl, rfl⟩
  · go_enter Tryz.func96, Tryz.ntmps96
    go_wp2
    go_ret
    exact ⟨rfl, rfl⟩
end Go.Proofs.YtijcleiekafoiaaGreatDoor
