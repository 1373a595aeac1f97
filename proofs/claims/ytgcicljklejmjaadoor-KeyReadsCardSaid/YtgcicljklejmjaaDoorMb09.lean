import Derived.Test.YtgcicljklejmjaaDoorMb03
import Derived.Test.YtgcicljklejmjaaDoorMb08
import Derived.Test.YtgcicljklejmjaaDoorMb07
import Derived.Test.YtgcicljklejmjaaDoorMb06
import Derived.WalkKit
import Derived.Laws.DeepNot64

/- value.Check: may a value be? -/
namespace Go.Proofs.YtgcicljklejmjaaDoor
open Go.RowKit Go.Shelf
open Tr
attribute [local go_sem] Oper.semAt_some

/-- No depth of a value that is not too deep is great. -/
theorem pre_depth (n : Nat) : ∀ (d : Nat) (x : Tr Mm), deep n x = false → ∀ p ∈ pre d x, p.1 ≤ d + n := by
  induction n with
  | zero => intro d x h; cases h
  | succ n ih =>
    intro d x h p hp
    rw [pre_eq] at hp
    rcases List.mem_cons.1 hp with rfl | hp
    · show d ≤ _; omega
    · obtain ⟨y, hy, hp⟩ := List.mem_flatMap.1 hp
      simp only [deep, List.any_eq_false] at h
      have := ih (d + 1) y (by simpa using h y hy) p hp
      omega

theorem firstErr_at : ∀ {l : List Nat} {i : Nat} (h : i < l.length), (∀ k (hk : k < l.length), k < i → l[k] = 0) → l[i] ≠ 0 → firstErr l = l[i]
  | e :: l, 0, _, _, h2 => by
    simp only [List.getElem_cons_zero] at h2 ⊢
    unfold firstErr
    rw [if_pos h2]
  | e :: l, i + 1, h, h1, h2 => by
    have e0 : e = 0 := h1 0 (by simp) (by omega)
    simp only [List.getElem_cons_succ] at h2 ⊢
    unfold firstErr
    rw [if_neg (fun h => h e0)]
    exact firstErr_at (by simpa using h) (fun k hk hki => by have := h1 (k + 1) (by simp; omega) (by omega); simpa using this) h2
theorem allErr_at {x : Tr Mm} {i : Nat} (h : i < (pre 1 x).length) (h1 : ∀ k (hk : k < (pre 1 x).length), k < i → own (pre 1 x)[k].2 = 0) (h2 : own (pre 1 x)[i].2 ≠ 0) : allErr x = own (pre 1 x)[i].2 := by
  unfold allErr
  have h3 := firstErr_at (l := (pre 1 x).map fun p => own p.2) (i := i) (by simpa using h) (fun k hk hki => by simpa using h1 k (by simpa using hk) hki) (by simpa using h2)
  rw [h3]; simp

theorem results_cell1 {P : Program} {fn : Func} {p : Tmp} {ty : TypeId} (h : fn.results = #[.cell p ty]) (ha : ∀ w, (isAgg ty).run P w = .ok false w) (tmps : Array Value) (w : World) (g : Nat) (v : Value)
    (hp : tmps.getD p undef = .pointer (some ⟨g, 0, none⟩)) (hc : w.cell? ⟨g, 0, none⟩ = some v) : (results fn tmps).run P w = .ok v w := by
  have hp' : tmps[p]?.getD undef = .pointer (some ⟨g, 0, none⟩) := by simpa using hp
  simp [results, h, hp', asAddr, Result.andThen, loadVar, ha, hc, go_sem]
theorem _root_.Go.Fr.since {S : Nat → Prop} {w w1 w2 : World} (h : Fr no w w1) (f : Fr S w1 w2) (hS : ∀ k, S k → w.heap.size ≤ k) : Fr no w w2 :=
  h.trans f (fun k hk h => absurd (hS k h) (by omega))
theorem one_set {w : World} {g : Nat} {u v : Value} {T : TypeId} (h : w.heap[g]? = some (.cells #[u] T (0, 0))) : (w.setCell ⟨g, 0, none⟩ v).heap[g]? = some (.cells #[v] T (0, 0)) := hp_same h 0 v

set_option maxRecDepth 100000 in
set_option maxHeartbeats 8000000 in
theorem check_any (w : World) (x : Tr Mm) (hx : Tr.Good w x) (hT : Tabs w) : Calls Tryd.prog 36 #[x.agg] w fun e w' => e = .returned (.int .u16 (check x)) ∧ Fr no w w' := by
  obtain ⟨BA, bc, LA, lc, FA, fc, hf⟩ := hx.node.forms
  have hag := hf.agg
  have hdp := fun W (f : Fr no w W) => deep_any 8 W x (hx.kept0 f) (by omega)
  rw [hag] at hdp ⊢
  have HD := Lib.hid hdp; have HX := Lib.hid hx; have HT := Lib.hid hT; have HF := Lib.hid hf; have HAG := Lib.hid hag
  clear hdp hx hT hf hag
  refine (callsIn_wide (n := 10)).1 ?_
  refine callsIn_of_wp_marks Tryd.func36 rfl trivial ?_ rfl
  simp only [Tryd.ntmps36, List.size_toArray, List.length_cons, List.length_nil, Nat.reduceAdd, Nat.reduceSub, Array.replicate_succ, Array.replicate_zero, List.push_toArray, List.append_toArray, List.nil_append, List.cons_append]
  gi_wp2_with (fail)
  refine ⟨trivial, (callsIn_wide.2 (HD.out _ (by (repeat first | exact Fr.refl _ _ | exact Fr.drewN _ _ _ | apply Fr.drew | apply Fr.alloc | apply Fr.setAt | apply Fr.moreN)))).mono ?_⟩
  rintro e w1 ⟨rfl, f1⟩
  have hb1 := f1.heap (((Fr.refl no _).alloc _).heap (heap_alloc_new w (.cells #[.int .u8 x.k.toNat, .bool x.b, .int .i64 x.i, .string ⟨x.t.toArray⟩, .slice BA x.bs.length bc, .slice LA x.l.length lc, .slice FA x.f.length fc] 33)) (fun h => h)) (fun h => h)
  have hr1 := heap_alloc_new (w.alloc (.cells #[.int .u8 x.k.toNat, .bool x.b, .int .i64 x.i, .string ⟨x.t.toArray⟩, .slice BA x.bs.length bc, .slice LA x.l.length lc, .slice FA x.f.length fc] 33)) (.cells #[.int .u16 0] 27)
  rw [World.size_alloc] at hr1
  have hr1 := f1.heap hr1 (fun h => h)
  have hf1 := Fr.trans (by (repeat first | exact Fr.refl _ _ | exact Fr.drewN _ _ _ | apply Fr.drew | apply Fr.alloc | apply Fr.setAt | apply Fr.moreN) : Fr no w _) f1 (fun _ _ h => h)
  have HB1 := Lib.hid hb1; have HR1 := Lib.hid hr1; have F1 := Lib.hid hf1
  obtain ⟨r0, rz, rl⟩ := one_cells hr1
  clear f1 hb1 hr1 hf1
  cases hd : deep 8 x with
  | true =>
    have HDD := Lib.hid hd; clear hd
    gi_wp2
    have hr2 := one_set (v := .int .u16 31) HR1.out
    refine ⟨_, results_cell1 (P := Tryd.prog) rfl Tryd.isAgg27 _ _ (w.heap.size + 1) _ rfl (one_cells hr2).1, ?_⟩
    have hch : check x = 31 := by unfold check; rw [if_pos HDD.out]
    rw [hch]
    exact ⟨rfl, F1.out.since (Fr.setCell (Fr.refl (fun k => k = w.heap.size + 1) w1) ⟨w.heap.size + 1, 0, none⟩ _ (fun _ => rfl)) (fun k h => by omega)⟩
  | false =>
    have HDD := Lib.hid hd; clear hd
    have q0 := cell_of_row w1 w.heap.size 0 _ _ (0, 0) HB1.out
    have q1 := cell_of_row w1 w.heap.size 1 _ _ (0, 0) HB1.out
    have q2 := cell_of_row w1 w.heap.size 2 _ _ (0, 0) HB1.out
    have q3 := cell_of_row w1 w.heap.size 3 _ _ (0, 0) HB1.out
    have q4 := cell_of_row w1 w.heap.size 4 _ _ (0, 0) HB1.out
    have q5 := cell_of_row w1 w.heap.size 5 _ _ (0, 0) HB1.out
    have q6 := cell_of_row w1 w.heap.size 6 _ _ (0, 0) HB1.out
    simp only [List.getElem?_toArray, List.getElem?_cons_succ, List.getElem?_cons_zero] at q0 q1 q2 q3 q4 q5 q6
    have hbl := (Array.getElem?_eq_some_iff.1 HB1.out).1
    gi_wp2_with (fail)
    refine ⟨trivial, (callsIn_wide.2 (HAG.out ▸ each_any _ x HF.out)).mono ?_⟩
    rintro e w3 ⟨rfl, hw3⟩
    rw [World.size_alloc] at *
    have hp3 := heap_alloc_new w1 (.cells #[.int .i64 0] 3)
    have hx3 := heap_alloc_new (w1.alloc (.cells #[.int .i64 0] 3)) (.cells #[.int .u8 x.k.toNat, .bool x.b, .int .i64 x.i, .string ⟨x.t.toArray⟩, .slice BA x.bs.length bc, .slice LA x.l.length lc, .slice FA x.f.length fc] 33)
    rw [World.size_alloc, ← hw3] at hx3
    have f3 : Fr no w1 w3 := by rw [hw3]; exact ((Fr.refl no w1).alloc _).alloc _
    have hp3 : w3.heap[w1.heap.size]? = some (.cells #[.int .i64 0] 3 (0, 0)) := by rw [hw3]; exact ((Fr.refl no _).alloc _).heap hp3 (fun h => h)
    have hs3 : w3.heap.size = w1.heap.size + 2 := by rw [hw3, World.size_alloc, World.size_alloc]
    have hb3 := f3.heap HB1.out (fun h => h)
    have hr3 := f3.heap HR1.out (fun h => h)
    have hF3 := F1.out.trans f3 (fun _ _ h => h)
    have hsz1 := F1.out.size
    have hrl := rl
    obtain ⟨bp, hbp⟩ : ∃ bp, w1.heap.size = bp := ⟨_, rfl⟩
    rw [hbp] at hp3 hx3 hs3 hrl hsz1 hbl ⊢
    have HP3 := Lib.hid hp3; have HX3 := Lib.hid hx3; have HS3 := Lib.hid hs3; have HB3 := Lib.hid hb3; have HR3 := Lib.hid hr3; have F3 := Lib.hid hF3
    have HRL := Lib.hid hrl; have HBL := Lib.hid hbl; have HSZ := Lib.hid hsz1
    clear hp3 hx3 f3 hs3 hb3 hr3 hF3 hw3 hbp q0 q1 q2 q3 q4 q5 q6 r0 rz rl hbl hrl hsz1 HB1 HR1
    have hS1 : ∀ k, (k = bp ∨ twoB w3 k) → w.heap.size + 2 ≤ k := fun k h => by
      have h1 := HS3.out; have h2 := HRL.out
      rcases h with h | h | h <;> omega
    have HS1 := Lib.hid hS1; clear hS1
    have hpd := pre_depth 8 1 x HDD.out
    gi_wp2_with (fail)
    refine wpIn_range_b (P := Tryd.prog) (by omega) (gf := 98) (lb := #[.pointer (some ⟨bp + 1, 0, none⟩)]) rfl (enters_of Tryd.func98 (by kernel_rfl) rfl) (len := (pre 1 x).length) (Wh := isDV x) (Kp := Fr (fun k => k = bp ∨ twoB w3 k))
      (each_iter _ w3 (bp + 1) x HF.out _ (fun W f => f.heap HX3.out (fun h => by have h1 := HS3.out; rcases h with h | h | h <;> omega)) (fun W f => HX.out.kept0 (F3.out.since f (fun k h => by have := HS1.out k h; omega))) (fun k h => by have h1 := HS3.out; rcases h with h | h | h <;> omega) (fun p hp => by have := hpd p hp; omega))
      (fun i xs W h => by obtain ⟨_, rfl⟩ := h; rfl) (fun h k => h.trans k (fun _ _ h => h)) (fun W o' => (fr_putObj W _ o').mono (fun k _ h => .inr (.inr h)))
      (fun i W => Fr (fun k => k = bp ∨ twoB w3 k) w3 W ∧ W.heap[bp]? = some (.cells #[.int .i64 i] 3 (0, 0)) ∧ i ≤ 512)
      (fun c W => c = .ret ∧ W.heap[w.heap.size + 1]? = some (.cells #[.int .u16 32] 27 (0, 0)) ∧ 512 < (pre 1 x).length ∧ Fr (fun k => k = w.heap.size + 1 ∨ k = bp ∨ twoB w3 k) w3 W) ?hI ?hIx ?h0 ?round ?done ?stop
    case hI => exact fun i A B ⟨h1, h2, h3⟩ f => ⟨h1.trans f (fun k hk h => absurd (show w3.heap.size ≤ k from h) (by omega)), f.heap h2 (fun h => absurd (show w3.heap.size ≤ _ from h) (by have h1 := HS3.out; omega)), h3⟩
    case hIx => exact fun c A B ⟨h1, h2, h3, h4⟩ f => ⟨h1, f.heap h2 (fun h => absurd (show w3.heap.size ≤ _ from h) (by have h1 := HS3.out; have := HRL.out; omega)), h3, h4.trans f (fun k hk h => absurd (show w3.heap.size ≤ k from h) (by omega))⟩
    case h0 => exact ⟨Fr.refl _ _, HP3.out, Nat.zero_le _⟩
    case round =>
      intro l i xs W hi hwh hI hlt
      obtain ⟨hi2, rfl⟩ := hwh
      obtain ⟨j1, j2, j3⟩ := hI
      refine wpIn_skip ?_
      refine ⟨Fr.refl _ _, Fr.refl _ _, fun W2 f2 => ?_⟩
      have hl2 : w3.heap.size + 1 < W2.heap.size := Nat.lt_of_lt_of_le hlt f2.size
      have k2 := f2.heap j2 (fun h => by have h1 := HS3.out; rcases h with h | h <;> omega)
      have k1 := j1.trans (f2.mono (fun k _ h => .inr h)) (fun _ _ h => h)
      have kr := k1.heap HR3.out (fun h => by have h1 := HS3.out; have := HRL.out; rcases h with h | h | h <;> omega)
      obtain ⟨p0, pz, pl⟩ := one_cells k2
      obtain ⟨r0, rz, rl⟩ := one_cells kr
      have hne : ¬ bp = w.heap.size + 1 := by have := HRL.out; omega
      have hne2 : ¬ w.heap.size + 1 = bp := by have := HRL.out; omega
      have K1 := Lib.hid k1; have K2 := Lib.hid k2; have KR := Lib.hid kr; have HI := Lib.hid hi
      have hS3 := HS3.out
      clear k1 k2 kr j1 j2 f2
      simp only [encDV]
      by_cases h5 : i = 512
      · subst h5
        gi_wp2
        have g1 := Fr.setCell (Fr.refl (fun k => k = bp) W2) ⟨bp, 0, none⟩ (.int .i64 513) (fun _ => rfl)
        have g2 := Fr.setCell (Fr.refl (fun k => k = w.heap.size + 1) (W2.setCell ⟨bp, 0, none⟩ (.int .i64 513))) ⟨w.heap.size + 1, 0, none⟩ (.int .u16 32) (fun _ => rfl)
        have hk1 := g1.heap KR.out (fun h => hne2 h)
        refine ⟨fun k hk => ?_, ⟨rfl, one_set hk1, HI.out, ?_⟩, fun k hk hlt => ?_⟩
        · have h1 := HS3.out; have h2 := HRL.out
          rw [g2.block k (by have := g1.size; rcases hk with h | h <;> omega) (fun h => by rcases hk with h | h <;> omega), g1.block k (by rcases hk with h | h <;> omega) (fun h => by rcases hk with h | h <;> omega)]
        rotate_left
        · have h1 := HS3.out; have h2 := HRL.out
          rw [g2.block k (by have := g1.size; omega) (fun h => by omega), g1.block k (by omega) (fun h => by omega)]
        · exact ((K1.out.mono (fun k _ h => .inr h)).trans (g1.mono (fun k _ h => .inr (.inl h))) (fun _ _ h => h)).trans (g2.mono (fun k _ h => .inl h)) (fun _ _ h => h)
      · have g1 : decide ((512 : Int) < (i : Int) + 1) = false := decide_eq_false (by omega)
        gi_wp2
        have g2 := Fr.setCell (Fr.refl (fun k => k = bp) W2) ⟨bp, 0, none⟩ (.int .i64 ((i : Int) + 1)) (fun _ => rfl)
        refine ⟨fun k hk => ?_, g2.mono (fun k _ h => .inl h), K1.out.trans (g2.mono (fun k _ h => .inl h)) (fun _ _ h => h), one_set K2.out, by omega⟩
        have h1 := HS3.out
        rw [g2.block k (by rcases hk with h | h <;> omega) (fun h => by rcases hk with h | h <;> omega)]
    case stop =>
      rintro c W ⟨rfl, h1, h2, h3⟩ hW hD
      have hr2 : (W.putObj w3.heap.size (.deferred none)).heap[w.heap.size + 1]? = _ := (World.putObj_heap_other (by have := HS3.out; have := HRL.out; omega)).trans h1
      have HR9 := Lib.hid hr2; have H2 := Lib.hid h2; have H3 := Lib.hid h3; have HD9 := Lib.hid hD
      clear h1 h2 h3 hr2 hD
      gi_wp2
      refine ⟨by simp, .inl ⟨_, _, rfl, run_takeDeferred HD9.out, ?_⟩⟩
      refine ⟨_, results_cell1 (P := Tryd.prog) rfl Tryd.isAgg27 _ _ (w.heap.size + 1) _ rfl (one_cells HR9.out).1, ?_⟩
      have hch : check x = 32 := by unfold check parts; rw [if_neg (by rw [HDD.out]; exact Bool.noConfusion), if_pos H2.out]
      rw [hch]
      have hS9 : ∀ k, (k = w.heap.size + 1 ∨ k = bp ∨ twoB w3 k) → w.heap.size ≤ k := fun k h => by
        rcases h with h | h
        · omega
        · have := HS1.out k h; omega
      exact ⟨rfl, F3.out.since (H3.out.trans ((fr_putObj W _ _).mono (fun k _ h => .inr (.inr (.inl h)))) (fun _ _ h => h)) hS9⟩
    case done =>
      rintro W ⟨h1, _, h3⟩ hW hD
      have hb := h1.heap HB3.out (fun h => by have := HS1.out _ h; omega)
      have hr := h1.heap HR3.out (fun h => by have := HS1.out _ h; omega)
      have hFW := F3.out.since h1 (fun k h => by have := HS1.out k h; omega)
      have HB4 := Lib.hid hb; have HR4 := Lib.hid hr; have F4 := Lib.hid hFW; have HD4 := Lib.hid hD; have H3 := Lib.hid h3
      have hbl := (Array.getElem?_eq_some_iff.1 hb).1
      have hw3W : w3.heap.size < W.heap.size := by omega
      have q0 := cell_of_row W w.heap.size 0 _ _ (0, 0) hb
      have q1 := cell_of_row W w.heap.size 1 _ _ (0, 0) hb
      have q2 := cell_of_row W w.heap.size 2 _ _ (0, 0) hb
      have q3 := cell_of_row W w.heap.size 3 _ _ (0, 0) hb
      have q4 := cell_of_row W w.heap.size 4 _ _ (0, 0) hb
      have q5 := cell_of_row W w.heap.size 5 _ _ (0, 0) hb
      have q6 := cell_of_row W w.heap.size 6 _ _ (0, 0) hb
      simp only [List.getElem?_toArray, List.getElem?_cons_succ, List.getElem?_cons_zero] at q0 q1 q2 q3 q4 q5 q6
      clear h1 h3 hb hr hFW hD HP3 HX3 HB3 HR3
      gi_wp2_with (fail)
      refine ⟨trivial, (callsIn_wide.2 (HAG.out ▸ each_any _ x HF.out)).mono ?_⟩
      rintro e w5 ⟨rfl, hw5⟩
      have hx5 := heap_alloc_new W (.cells #[.int .u8 x.k.toNat, .bool x.b, .int .i64 x.i, .string ⟨x.t.toArray⟩, .slice BA x.bs.length bc, .slice LA x.l.length lc, .slice FA x.f.length fc] 33)
      rw [← hw5] at hx5
      have f5 : Fr no W w5 := by rw [hw5]; exact (Fr.refl no W).alloc _
      have hs5 : w5.heap.size = W.heap.size + 1 := by rw [hw5, World.size_alloc]
      have hr5 := f5.heap HR4.out (fun h => h)
      have hd5 := f5.heap HD4.out (fun h => h)
      have hF5 := F4.out.trans f5 (fun _ _ h => h)
      obtain ⟨Bx, hBx⟩ : ∃ Bx, W.heap.size = Bx := ⟨_, rfl⟩
      rw [hBx] at hx5 hs5 hw3W ⊢
      have HX5 := Lib.hid hx5; have HS5 := Lib.hid hs5; have HR5 := Lib.hid hr5; have HD5 := Lib.hid hd5; have F5 := Lib.hid hF5; have HW3 := Lib.hid hw3W
      clear hx5 f5 hs5 hr5 hd5 hF5 hw5 hBx q0 q1 q2 q3 q4 q5 q6 hbl hw3W HB4 HR4 HD4
      have hS5 : ∀ k, twoB w5 k → w.heap.size + 2 ≤ k := fun k h => by
        have h1 := HS5.out; have h2 := HRL.out; have h3 := HW3.out; have h4 := HS3.out
        rcases h with h | h <;> omega
      have HS5' := Lib.hid hS5; clear hS5
      gi_wp2_with (fail)
      refine wpIn_range_b (P := Tryd.prog) (by omega) (gf := 98) (lb := #[.pointer (some ⟨Bx, 0, none⟩)]) rfl (enters_of Tryd.func98 (by kernel_rfl) rfl) (len := (pre 1 x).length) (Wh := isDV x) (Kp := Fr (twoB w5))
        (each_iter _ w5 Bx x HF.out (twoB w5) (fun W f => f.heap HX5.out (fun h => by have h1 := HS5.out; rcases h with h | h <;> omega)) (fun W f => HX.out.kept0 (F5.out.since f (fun k h => by have := HS5'.out k h; omega))) (fun k h => by rcases h with h | h <;> omega) (fun p hp => by have := hpd p hp; omega))
        (fun i xs W h => by obtain ⟨_, rfl⟩ := h; rfl) (fun h k => h.trans k (fun _ _ h => h)) (fun W o' => (fr_putObj W _ o').mono (fun k _ h => .inr h))
        (fun i W => Fr (twoB w5) w5 W ∧ ∀ k (h : k < (pre 1 x).length), k < i → own (pre 1 x)[k].2 = 0)
        (fun c W => c = .ret ∧ W.heap[w.heap.size + 1]? = some (.cells #[.int .u16 (allErr x)] 27 (0, 0)) ∧ allErr x ≠ 0 ∧ Fr (fun k => k = w.heap.size + 1 ∨ twoB w5 k) w5 W) ?hI5 ?hIx5 ?h05 ?round5 ?done5 ?stop5
      case hI5 => exact fun i A B ⟨h1, h2⟩ f => ⟨h1.trans f (fun k hk h => absurd (show w5.heap.size ≤ k from h) (by omega)), h2⟩
      case hIx5 => exact fun c A B ⟨h1, h2, h3, h4⟩ f => ⟨h1, f.heap h2 (fun h => absurd (show w5.heap.size ≤ _ from h) (by have h2 := HS3.out; have h1 := HRL.out; have := HS5.out; have := HW3.out; omega)), h3, h4.trans f (fun k hk h => absurd (show w5.heap.size ≤ k from h) (by omega))⟩
      case h05 => exact ⟨Fr.refl _ _, fun k _ h => by omega⟩
      case round5 =>
        intro l i xs W2 hi hwh hI hlt
        obtain ⟨hi2, rfl⟩ := hwh
        obtain ⟨j1, j2⟩ := hI
        have fW2 := F5.out.since j1 (fun k h => by have := HS5'.out k h; omega)
        obtain ⟨y, hy⟩ : ∃ y, (pre 1 x)[i].2 = y := ⟨_, rfl⟩
        have hgy : ∀ W', Fr no w W' → Tr.Good W' y := fun W' f => hy ▸ (HX.out.kept0 f).pre 1 _ (List.getElem_mem hi2)
        obtain ⟨KB, kb, KL, kl, KF, kf, hfy⟩ := (hgy w (Fr.refl _ _)).node.forms
        simp only [encDV]
        rw [hy, hfy.agg]
        have FW2 := Lib.hid fW2; have HGY := Lib.hid hgy; have HI2 := Lib.hid hi2; have J1 := Lib.hid j1; have J2 := Lib.hid j2; have HY := Lib.hid hy; have HFY := Lib.hid hfy; have HLT := Lib.hid hlt
        clear fW2 hgy j1 j2 hy hfy hlt hi hpd
        gi_wp2
        refine ⟨by (repeat first | exact Fr.refl _ _ | exact Fr.drewN _ _ _ | apply Fr.drew | apply Fr.alloc | apply Fr.setAt | apply Fr.moreN), (by (repeat first | exact Fr.refl _ _ | exact Fr.drewN _ _ _ | apply Fr.drew | apply Fr.alloc | apply Fr.setAt | apply Fr.moreN) : Fr no W2 _).mono (fun _ _ h => h.elim), fun W3 f3 => ?_⟩
        have hy3 := f3.heap (heap_alloc_new W2 (.cells #[.int .u8 y.k.toNat, .bool y.b, .int .i64 y.i, .string ⟨y.t.toArray⟩, .slice KB y.bs.length kb, .slice KL y.l.length kl, .slice KF y.f.length kf] 33)) (fun h => by have h1 := HLT.out; rcases h with h | h <;> omega)
        have fW3 : Fr (twoB w5) W2 W3 := ((by (repeat first | exact Fr.refl _ _ | exact Fr.drewN _ _ _ | apply Fr.drew | apply Fr.alloc | apply Fr.setAt | apply Fr.moreN) : Fr no W2 _).mono (fun _ _ h => h.elim)).trans f3 (fun _ _ h => h)
        have gW3 := FW2.out.since fW3 (fun k h => by have := HS5'.out k h; omega)
        have hl3 := (Array.getElem?_eq_some_iff.1 hy3).1
        have q0 := cell_of_row W3 W2.heap.size 0 _ _ (0, 0) hy3
        have q1 := cell_of_row W3 W2.heap.size 1 _ _ (0, 0) hy3
        have q2 := cell_of_row W3 W2.heap.size 2 _ _ (0, 0) hy3
        have q3 := cell_of_row W3 W2.heap.size 3 _ _ (0, 0) hy3
        have q4 := cell_of_row W3 W2.heap.size 4 _ _ (0, 0) hy3
        have q5 := cell_of_row W3 W2.heap.size 5 _ _ (0, 0) hy3
        have q6 := cell_of_row W3 W2.heap.size 6 _ _ (0, 0) hy3
        simp only [List.getElem?_toArray, List.getElem?_cons_succ, List.getElem?_cons_zero] at q0 q1 q2 q3 q4 q5 q6
        have hcall := own_any W3 y (HGY.out W3 gW3) (HT.out.kept0 gW3)
        rw [HFY.out.agg] at hcall
        have hr3 := fW3.heap (J1.out.heap HR5.out (fun h => by have := HS5'.out _ h; omega)) (fun h => by have := HS5'.out _ h; omega)
        have HC := Lib.hid hcall; have F3W := Lib.hid fW3; have HR7 := Lib.hid hr3
        clear f3 hy3 fW3 gW3 hcall hr3
        gi_wp2_with (fail)
        refine ⟨trivial, (callsIn_wide.2 HC.out).mono ?_⟩
        rintro e W4 ⟨rfl, f4⟩
        have hr4 := f4.heap HR7.out (fun h => h)
        obtain ⟨r0, rz, rl⟩ := one_cells hr4
        have F4W := Lib.hid (F3W.out.trans (f4.mono (fun _ _ h => h.elim)) (fun _ _ h => h)); have HR8 := Lib.hid hr4
        have f34 := Lib.hid f4
        have hs3 : w5.heap.size + 1 < W3.heap.size := by have := HLT.out; have := F3W.out.size; omega
        have HS3W := Lib.hid hs3
        clear f4 hr4 q0 q1 q2 q3 q4 q5 q6 hl3 hs3
        by_cases h0 : own y = 0
        · have H0 := Lib.hid h0
          rw [h0]
          clear h0
          gi_wp2
          refine ⟨fun k hk => f34.out.block k (by have := HS3W.out; rcases hk with h | h <;> omega) (fun h => h), f34.out.mono (fun _ _ h => h.elim), J1.out.trans F4W.out (fun _ _ h => h), fun k hk hlt => ?_⟩
          by_cases h : k < i
          · exact J2.out k hk h
          · obtain rfl : k = i := by omega
            rw [HY.out]; exact H0.out
        · have g1 : ((own y : Int) != 0) = true := by rw [bne_iff_ne]; omega
          have H0 := Lib.hid h0; clear h0
          have hall : allErr x = own y := by
            have := allErr_at HI2.out J2.out (by rw [HY.out]; exact H0.out)
            rw [this, HY.out]
          have HALL := Lib.hid hall; clear hall
          gi_wp2
          have g2 := Fr.setCell (Fr.refl (fun k => k = w.heap.size + 1) W4) ⟨w.heap.size + 1, 0, none⟩ (.int .u16 (own y)) (fun _ => rfl)
          refine ⟨fun k hk => ?_, ⟨rfl, by rw [HALL.out]; exact one_set HR8.out, by rw [HALL.out]; exact H0.out, ?_⟩, fun k hk hlt => ?_⟩
          rotate_left 2
          · have h1 := HS3W.out; have h2 := f34.out.size; have h3 := HS5'.out _ (.inl rfl)
            rw [g2.block k (by omega) (fun h => by omega), f34.out.block k (by omega) (fun h => h)]
          · have h1 := HS3W.out; have h2 := f34.out.size; have h3 := HS5'.out k hk
            rw [g2.block k (by rcases hk with h | h <;> omega) (fun h => by omega), f34.out.block k (by rcases hk with h | h <;> omega) (fun h => h)]
          · exact ((J1.out.trans F4W.out (fun _ _ h => h)).mono (fun k _ h => .inr h)).trans (g2.mono (fun k _ h => .inl h)) (fun _ _ h => h)
      case stop5 =>
        rintro c W9 ⟨rfl, h1, h2, h3⟩ hW9 hD9
        have hS9 : ∀ k, (k = w.heap.size + 1 ∨ twoB w5 k) → w.heap.size ≤ k := fun k h => by
          rcases h with h | h
          · omega
          · have := HS5'.out k h; omega
        have e3 : w.heap.size + 1 < w3.heap.size := by have := HS3.out; have := HRL.out; omega
        have e5 : w3.heap.size < w5.heap.size := by have := HS5.out; have := HW3.out; omega
        have hd3 := h3.heap HD5.out (fun h => by rcases h with h | h | h <;> omega)
        have hd3' : (W9.putObj w5.heap.size (.deferred none)).heap[w3.heap.size]? = _ := (World.putObj_heap_other (by omega)).trans hd3
        have hr9 : ((W9.putObj w5.heap.size (.deferred none)).putObj w3.heap.size (.deferred none)).heap[w.heap.size + 1]? = _ := ((World.putObj_heap_other (by omega)).trans (World.putObj_heap_other (by omega))).trans h1
        have fend : Fr (fun k => k = w3.heap.size ∨ k = w.heap.size + 1 ∨ twoB w5 k) w5 ((W9.putObj w5.heap.size (.deferred none)).putObj w3.heap.size (.deferred none)) :=
          ((h3.mono (fun _ _ h => .inr h)).trans ((fr_putObj W9 _ _).mono (fun k _ h => .inr (.inr (.inl h)))) (fun _ _ h => h)).trans ((fr_putObj _ _ _).mono (fun k _ h => .inl h)) (fun _ _ h => h)
        have hfin := F5.out.since fend (fun k h => by
          rcases h with h | h
          · omega
          · exact hS9 k h)
        have HR9 := Lib.hid hr9; have HD3 := Lib.hid hd3'; have HD9 := Lib.hid hD9; have HFIN := Lib.hid hfin; have H2 := Lib.hid h2
        clear h1 h2 h3 hr9 hd3 hd3' hD9 fend hfin
        gi_wp2
        refine ⟨by simp, .inl ⟨_, _, rfl, run_takeDeferred HD9.out, by simp, .inl ⟨_, _, rfl, run_takeDeferred HD3.out, ?_⟩⟩⟩
        refine ⟨_, results_cell1 (P := Tryd.prog) rfl Tryd.isAgg27 _ _ (w.heap.size + 1) _ rfl (one_cells HR9.out).1, ?_⟩
        have hch : check x = allErr x := by unfold check parts; rw [if_neg (by rw [HDD.out]; exact Bool.noConfusion), if_neg (by have := H3.out; omega)]
        rw [hch]
        exact ⟨rfl, HFIN.out⟩
      case done5 =>
        rintro W9 ⟨h1, h2⟩ hW9 hD9
        have e3 : w.heap.size + 1 < w3.heap.size := by have := HS3.out; have := HRL.out; omega
        have e5 : w3.heap.size < w5.heap.size := by have := HS5.out; have := HW3.out; omega
        have hr := h1.heap HR5.out (fun h => by have := HS5'.out _ h; omega)
        have hd3 := h1.heap HD5.out (fun h => by rcases h with h | h <;> omega)
        obtain ⟨r0, rz, rl⟩ := one_cells hr
        have HR := Lib.hid hr; have HD3 := Lib.hid hd3; have HD9 := Lib.hid hD9; have H1 := Lib.hid h1; have H2 := Lib.hid h2
        clear h1 h2 hr hd3 hD9 hpd
        gi_wp2
        have g2 := Fr.setCell (Fr.refl (fun k => k = w.heap.size + 1) W9) ⟨w.heap.size + 1, 0, none⟩ (.int .u16 0) (fun _ => rfl)
        have hD9' := g2.heap HD9.out (fun h => by omega)
        have hd3' := g2.heap HD3.out (fun h => by omega)
        have hd3'' := (World.putObj_heap_other (o := .deferred none) (show w3.heap.size ≠ w5.heap.size by omega)).trans hd3'
        have hr9 := ((World.putObj_heap_other (o := .deferred none) (show w.heap.size + 1 ≠ w3.heap.size by omega)).trans (World.putObj_heap_other (o := .deferred none) (show w.heap.size + 1 ≠ w5.heap.size by omega))).trans (one_set (v := .int .u16 0) HR.out)
        refine ⟨by simp, .inl ⟨_, _, rfl, run_takeDeferred hD9', by simp, .inl ⟨_, _, rfl, run_takeDeferred hd3'', ?_⟩⟩⟩
        refine ⟨_, results_cell1 (P := Tryd.prog) rfl Tryd.isAgg27 _ _ (w.heap.size + 1) _ rfl (one_cells hr9).1, ?_⟩
        have hch : check x = 0 := check_zero.2 ⟨HDD.out, H3.out, fun p hp => by
          obtain ⟨k, hk, rfl⟩ := List.getElem_of_mem hp
          exact H2.out k hk hk⟩
        rw [hch]
        have fend : Fr (fun k => k = w3.heap.size ∨ k = w.heap.size + 1 ∨ twoB w5 k) w5 _ :=
          (((H1.out.mono (fun _ _ h => .inr (.inr h))).trans (g2.mono (fun _ _ h => .inr (.inl h))) (fun _ _ h => h)).trans ((fr_putObj _ w5.heap.size (.deferred none)).mono (fun k _ h => .inr (.inr (.inl h)))) (fun _ _ h => h)).trans ((fr_putObj _ w3.heap.size (.deferred none)).mono (fun k _ h => .inl h)) (fun _ _ h => h)
        exact ⟨rfl, F5.out.since fend (fun k h => by
          rcases h with h | h | h
          · omega
          · omega
          · have := HS5'.out k h; omega)⟩
end Go.Proofs.YtgcicljklejmjaaDoor

/- Keys without a program: tuples written and read, with their errors. -/
namespace Go.Proofs.YtgcicljklejmjaaDoor
open Go.RowKit
namespace Tr
variable {α β : Type}

/-! ### the order both ways -/
theorem cmpL_swap : ∀ (l : List (Tr α)) (k : List (Tr β)), (∀ x ∈ l, ∀ y : Tr β, cmp y x = - cmp x y) → cmpL k l = - cmpL l k
  | [], [], _ => by simp [cmpL]
  | [], _ :: _, _ => by simp [cmpL]
  | _ :: _, [], _ => by simp [cmpL]
  | x :: l, y :: k, h => by
    have h1 := h x (List.mem_cons_self ..) y
    have ih := cmpL_swap l k (fun x hx => h x (List.mem_cons_of_mem _ hx))
    rw [cmpL, cmpL, h1, ih]
    by_cases hc : cmp x y = 0
    · simp [hc]
    · have : - cmp x y ≠ 0 := by omega
      rw [if_pos hc, if_pos this]
theorem cmpF_swap : ∀ (l : List (List UInt8 × Tr α)) (k : List (List UInt8 × Tr β)), (∀ p ∈ l, ∀ y : Tr β, cmp y p.2 = - cmp p.2 y) → cmpF k l = - cmpF l k
  | [], [], _ => by simp [cmpF]
  | [], _ :: _, _ => by simp [cmpF]
  | _ :: _, [], _ => by simp [cmpF]
  | (n, x) :: l, (m, y) :: k, h => by
    have h1 := h (n, x) (List.mem_cons_self ..) y
    have ih := cmpF_swap l k (fun x hx => h x (List.mem_cons_of_mem _ hx))
    have h2 := cb_swap n m
    rw [cmpF, cmpF, h1, h2, ih]
    by_cases hn : cb n m = 0
    · by_cases hc : cmp x y = 0
      · simp [hc, hn]
      · have : - cmp x y ≠ 0 := by omega
        simp [hn, hc, this]
    · have : - cb n m ≠ 0 := by omega
      simp [hn, this]
theorem cmp_swap (x : Tr α) (y : Tr β) : cmp y x = - cmp x y := by
  induction x using ind generalizing y with
  | h x ih =>
    rw [cmp, cmp]
    by_cases hk : x.k = y.k
    · simp only [← hk, ne_eq, not_true_eq_false, if_false]
      by_cases h2 : x.k = 2
      · rw [if_pos h2, if_pos h2]; cases x.b <;> cases y.b <;> rfl
      rw [if_neg h2, if_neg h2]
      by_cases h3 : x.k = 3
      · rw [if_pos h3, if_pos h3]
        by_cases h5 : x.i < y.i
        · rw [if_neg (by omega), if_pos h5, if_pos h5]; rfl
        · by_cases h6 : y.i < x.i
          · rw [if_pos h6, if_neg h5, if_pos h6]
          · rw [if_neg h6, if_neg h5, if_neg h5, if_neg h6]; rfl
      rw [if_neg h3, if_neg h3]
      by_cases h4 : x.k = 4
      · rw [if_pos h4, if_pos h4]; exact cb_swap _ _
      rw [if_neg h4, if_neg h4]
      by_cases h5 : x.k = 5
      · rw [if_pos h5, if_pos h5]; exact cb_swap _ _
      rw [if_neg h5, if_neg h5]
      by_cases h6 : x.k = 6
      · rw [if_pos h6, if_pos h6]; exact cmpL_swap _ _ fun z hz y => ih z (List.mem_append_left _ hz) y
      rw [if_neg h6, if_neg h6]
      by_cases h7 : x.k = 7
      · rw [if_pos h7, if_pos h7]; exact cmpF_swap _ _ fun p hp y => ih p.2 (List.mem_append_right _ (List.mem_map_of_mem hp)) y
      rw [if_neg h7, if_neg h7]; rfl
    · have hk2 : y.k ≠ x.k := fun e => hk e.symm
      simp only [hk, hk2, ne_eq, not_false_eq_true, if_true]
      rcases UInt8.lt_or_lt_of_ne hk with h | h
      · have : ¬ y.k < x.k := UInt8.not_lt.2 (UInt8.le_of_lt h)
        rw [if_neg this, if_pos h]; rfl
      · have : ¬ x.k < y.k := UInt8.not_lt.2 (UInt8.le_of_lt h)
        rw [if_pos h, if_neg this]
theorem cmpT_swap (d : Nat → Bool) : ∀ (i : Nat) (l : List (Tr α)) (k : List (Tr β)), cmpT d i k l = - cmpT d i l k
  | _, [], [] => rfl
  | _, [], _ :: _ => rfl
  | _, _ :: _, [] => rfl
  | i, x :: l, y :: k => by
    have h1 := cmp_swap x y
    have ih := cmpT_swap d (i + 1) l k
    unfold cmpT
    rw [h1, ih]
    by_cases hc : cmp x y = 0
    · simp [hc]
    · have : - cmp x y ≠ 0 := by omega
      rw [if_pos hc, if_pos this]
      cases d i <;> simp

/-! ### without where it lies -/
theorem bare_rises : ∀ (p : Option (List UInt8)) (l : List (List UInt8 × Tr α)), risesF p (l.map fun q => (q.1, bare q.2)) = risesF p l
  | _, [] => rfl
  | p, x :: l => by
    rw [List.map_cons]
    unfold risesF
    rw [bare_rises (some x.1) l]
theorem bare_shape (x : Tr α) : shapeV (bare x) = shapeV x := by
  unfold shapeV
  rw [bare_k, bare_b, bare_i, bare_t, bare_bs, bare_l, bare_f]
  cases x.l <;> cases x.f <;> rfl
theorem bare_own (x : Tr α) : own (bare x) = own x := by
  unfold own
  rw [bare_shape, bare_f, bare_rises, bare_t, bare_bs]
theorem bare_check (x : Tr α) : check (bare x) = check x := by
  unfold check allErr
  rw [bare_deep, bare_parts, bare_pre, List.map_map]
  congr 3
  exact List.map_congr_left fun p _ => bare_own p.2
theorem bare_enc (x : Tr α) : enc (bare x) = enc x := by
  induction x using ind with
  | h x ih =>
    rw [enc_eq, enc_eq, bare_k, bare_b, bare_i, bare_t, bare_bs, bare_l, List.flatMap_map]
    have : (x.l.flatMap fun y => enc (bare y)) = x.l.flatMap enc := by
      simp only [List.flatMap]
      exact congrArg List.flatten (List.map_congr_left fun y hy => ih y (List.mem_append_left _ hy))
    rw [this]
theorem bare_keyed (x : Tr α) : keyed (bare x) = keyed x := by
  unfold keyed
  rw [bare_pre, List.all_map]
  congr 1
  funext p
  simp [bare_k]

/-! ### written -/
/-- What is wrong with a value as a key. -/
def oneErr (x : Tr α) : Nat := if check x ≠ 0 then 40 else if keyed x = false then 41 else if 160 < (enc x).length then 42 else 0
/-- What is wrong with a tuple. -/
def tupErr (l : List (Tr α)) : Nat := if 4 < l.length then 1 else if firstErr (l.map oneErr) ≠ 0 then firstErr (l.map oneErr) else if 160 < (encT (fun _ => false) 0 l).length then 42 else 0
theorem encD_len (down : Bool) (x : Tr α) : (encD down x).length = (enc x).length := by unfold encD; cases down <;> simp [turn_len]
theorem encT_len (d : Nat → Bool) : ∀ (i j : Nat) (l : List (Tr α)), (encT d i l).length = (encT (fun _ => false) j l).length
  | _, _, [] => rfl
  | i, j, x :: l => by
    unfold encT
    rw [List.length_append, List.length_append, encD_len, encD_len, encT_len d (i + 1) (j + 1) l]
theorem oneErr_zero {x : Tr α} : oneErr x = 0 ↔ check x = 0 ∧ keyed x = true ∧ (enc x).length ≤ 160 := by
  unfold oneErr
  by_cases h1 : check x = 0
  · rw [if_neg (fun h => h h1)]
    by_cases h2 : keyed x = false
    · rw [if_pos h2]; simp [h2]
    · rw [if_neg h2]
      by_cases h3 : 160 < (enc x).length
      · rw [if_pos h3]; constructor
        · intro h; cases h
        · rintro ⟨_, _, h⟩; omega
      · rw [if_neg h3]; exact ⟨fun _ => ⟨h1, by simpa using h2, by omega⟩, fun _ => rfl⟩
  · rw [if_pos h1]; constructor
    · intro h; cases h
    · rintro ⟨h, _⟩; exact absurd h h1
theorem tupErr_zero {l : List (Tr α)} : tupErr l = 0 ↔ l.length ≤ 4 ∧ (∀ x ∈ l, oneErr x = 0) ∧ (encT (fun _ => false) 0 l).length ≤ 160 := by
  unfold tupErr
  by_cases h1 : 4 < l.length
  · rw [if_pos h1]; constructor
    · intro h; cases h
    · rintro ⟨h, _⟩; omega
  · rw [if_neg h1]
    by_cases h2 : firstErr (l.map oneErr) = 0
    · rw [if_neg (fun h => h h2)]
      have h4 : ∀ x ∈ l, oneErr x = 0 := by rw [firstErr_zero, List.forall_mem_map] at h2; exact h2
      by_cases h3 : 160 < (encT (fun _ => false) 0 l).length
      · rw [if_pos h3]; constructor
        · intro h; cases h
        · rintro ⟨_, _, h⟩; omega
      · rw [if_neg h3]; exact ⟨fun _ => ⟨by omega, h4, by omega⟩, fun _ => rfl⟩
    · rw [if_pos h2]; constructor
      · intro h; exact absurd h h2
      · rintro ⟨_, h, _⟩
        exact absurd (by rw [firstErr_zero, List.forall_mem_map]; exact h) h2
theorem one_ok {x : Tr α} (h : oneErr x = 0) (hn : Nums x) : KeyedAll x ∧ PlainAll x ∧ deep 8 x = false := by
  obtain ⟨h1, h2, _⟩ := oneErr_zero.1 h
  obtain ⟨h3, _, h4⟩ := check_zero.1 h1
  obtain ⟨a, b⟩ := keyed_all x h4 h2 hn
  exact ⟨a, b, h3⟩
theorem deep_succ : ∀ (n : Nat) (x : Tr α), deep n x = false → deep (n + 1) x = false
  | 0, x, h => by cases h
  | n + 1, x, h => by
    simp only [deep, List.any_eq_false] at h ⊢
    intro y hy
    have h1 := deep_succ n y (by simpa using h y hy)
    unfold deep at h1
    rw [h1]; exact Bool.false_ne_true

/-! ### read -/
/-- The value that bytes begin with, and the rest. -/
def splitE (down : Bool) (b : List UInt8) : Option (Tr Unit × List UInt8) :=
  match dec 9 (if down then turn b else b) with
  | none => none
  | some (x, s) => if check x = 0 then some (x, b.drop (b.length - s.length)) else none
theorem splitE_enc (down : Bool) (x : Tr α) (s : List UInt8) (h : oneErr x = 0) (hn : Nums x) : splitE down (encD down x ++ s) = some (bare x, s) := by
  obtain ⟨h1, h2, h3⟩ := one_ok h hn
  have hc := (oneErr_zero.1 h).1
  unfold splitE
  have e : dec 9 (if down then turn (encD down x ++ s) else encD down x ++ s) = some (bare x, if down then turn s else s) := by
    cases down
    · simp only [Bool.false_eq_true, if_false]
      exact dec_enc 9 x s h1 h2 (deep_succ 8 x h3)
    · simp only [if_true]
      have : turn (encD true x ++ s) = enc x ++ turn s := by
        show turn (turn (enc x) ++ s) = _
        unfold turn; rw [List.map_append]
        exact congrArg (· ++ _) (turn_turn (enc x))
      rw [this]
      exact dec_enc 9 x (turn s) h1 h2 (deep_succ 8 x h3)
  rw [e]
  simp only
  rw [if_pos (by rw [bare_check]; exact hc)]
  have hl : (if down = true then turn s else s).length = s.length := by cases down <;> simp [turn_len]
  rw [hl, List.length_append, Nat.add_sub_cancel, List.drop_left]
theorem splitE_some {down : Bool} {b : List UInt8} {x : Tr Unit} {s : List UInt8} (h : splitE down b = some (x, s)) : b = encD down x ++ s ∧ check x = 0 ∧ KeyedAll x ∧ PlainAll x := by
  unfold splitE at h
  cases hd : dec 9 (if down then turn b else b) with
  | none => rw [hd] at h; cases h
  | some p =>
    obtain ⟨y, t⟩ := p
    rw [hd] at h
    simp only at h
    by_cases hc : check y = 0
    · rw [if_pos hc] at h
      cases h
      obtain ⟨e1, e2, e3, _⟩ := dec_some 9 _ _ _ hd
      refine ⟨?_, hc, e2, e3⟩
      have hb : b = encD down x ++ (if down then turn t else t) := by
        cases down
        · exact e1
        · simp only [if_true] at e1 ⊢
          have := congrArg turn e1
          rw [turn_turn] at this
          rw [this]; unfold turn; rw [List.map_append]; rfl
      have hl : (if down = true then turn t else t).length = t.length := by cases down <;> simp [turn_len]
      have hlb : b.length = (encD down x).length + t.length := by rw [hb, List.length_append, hl]
      have : b.drop (b.length - t.length) = (if down then turn t else t) := by
        rw [hlb, Nat.add_sub_cancel]
        conv => lhs; rw [hb]
        exact List.drop_left
      rw [this]; exact hb
    · rw [if_neg hc] at h; cases h
/-- A key's bytes are at least one. -/
theorem splitE_less {down : Bool} {b : List UInt8} {x : Tr Unit} {s : List UInt8} (h : splitE down b = some (x, s)) : s.length < b.length := by
  obtain ⟨e, _, hk, _⟩ := splitE_some h
  obtain ⟨c, r, hr⟩ := encD_ne hk.here down
  rw [e, hr]; simp
  omega

/-- The tuple that bytes are; or how many bytes were left where it ends. -/
def decT (d : Nat → Bool) : Nat → Nat → List UInt8 → Except Nat (List (Tr Unit))
  | _, _, [] => .ok []
  | 0, _, _ :: _ => .ok []
  | n + 1, i, c :: r =>
    match splitE (d i) (c :: r) with
    | none => .error (c :: r).length
    | some (x, s) => if i = 4 then .error (c :: r).length else
      match decT d n (i + 1) s with
      | .error e => .error e
      | .ok l => .ok (x :: l)
theorem decT_cons {d : Nat → Bool} {n i : Nat} {b : List UInt8} (hb : b ≠ []) : decT d (n + 1) i b = match splitE (d i) b with
    | none => .error b.length
    | some (x, s) => if i = 4 then .error b.length else match decT d n (i + 1) s with | .error e => .error e | .ok l => .ok (x :: l) := by
  cases b with
  | nil => exact absurd rfl hb
  | cons c r => rfl
theorem decT_fuel (d : Nat → Bool) : ∀ (n m i : Nat) (b : List UInt8), b.length ≤ n → b.length ≤ m → decT d n i b = decT d m i b
  | _, _, _, [], _, _ => by rw [decT, decT]
  | 0, _, _, c :: r, h, _ => by simp at h
  | _ + 1, 0, _, c :: r, _, h => by simp at h
  | n + 1, m + 1, i, c :: r, hn, hm => by
    unfold decT
    cases hs : splitE (d i) (c :: r) with
    | none => rfl
    | some p =>
      obtain ⟨x, s⟩ := p
      have := splitE_less hs
      simp only
      rw [decT_fuel d n m (i + 1) s (by omega) (by omega)]
/-- What is written is read. -/
theorem decT_enc (d : Nat → Bool) : ∀ (l : List (Tr α)) (n i : Nat), (∀ x ∈ l, oneErr x = 0) → (∀ x ∈ l, Nums x) → i + l.length ≤ 4 → (encT d i l).length ≤ n → decT d n i (encT d i l) = .ok (l.map bare)
  | [], n, i, _, _, _, _ => by unfold encT decT; rfl
  | x :: l, n, i, h, hN, hi, hn => by
    have h1 := h x (List.mem_cons_self ..)
    have h2 := hN x (List.mem_cons_self ..)
    obtain ⟨c, r, hr⟩ := encD_ne (one_ok h1 h2).1.here (d i)
    have hs := splitE_enc (d i) x (encT d (i + 1) l) h1 h2
    unfold encT at hn ⊢
    have hpos : 0 < (encD (d i) x).length := by rw [hr]; simp
    rw [List.length_append] at hn
    cases n with
    | zero => omega
    | succ n =>
      rw [decT_cons (by rw [hr]; simp), hs]
      simp only
      simp only [List.length_cons] at hi
      rw [if_neg (by omega), decT_enc d l n (i + 1) (fun x hx => h x (List.mem_cons_of_mem _ hx)) (fun x hx => hN x (List.mem_cons_of_mem _ hx)) (by omega) (by omega)]
      rfl
/-- What is read is written the same. -/
theorem decT_ok (d : Nat → Bool) : ∀ (n i : Nat) (b : List UInt8) (l : List (Tr Unit)), b.length ≤ n → decT d n i b = .ok l → b = encT d i l ∧ (∀ x ∈ l, check x = 0 ∧ KeyedAll x ∧ PlainAll x) ∧ (l ≠ [] → i + l.length ≤ 4 ∨ 4 < i)
  | n, i, [], l, _, h => by
    rw [decT] at h; cases h
    exact ⟨rfl, (fun _ h => nomatch h), fun h => absurd rfl h⟩
  | 0, _, c :: r, _, hn, _ => by simp at hn
  | n + 1, i, c :: r, l, hn, h => by
    rw [decT_cons (by simp)] at h
    cases hs : splitE (d i) (c :: r) with
    | none => rw [hs] at h; cases h
    | some p =>
      obtain ⟨x, s⟩ := p
      rw [hs] at h
      simp only at h
      by_cases h4 : i = 4
      · rw [if_pos h4] at h; cases h
      · rw [if_neg h4] at h
        cases hd : decT d n (i + 1) s with
        | error e => rw [hd] at h; cases h
        | ok l2 =>
          rw [hd] at h
          cases h
          have hl := splitE_less hs
          obtain ⟨e1, e2, e3, e4⟩ := splitE_some hs
          obtain ⟨i1, i2, i3⟩ := decT_ok d n (i + 1) s l2 (by omega) hd
          refine ⟨by unfold encT; rw [← i1]; exact e1, fun y hy => ?_, fun _ => ?_⟩
          · rcases List.mem_cons.1 hy with rfl | hy
            · exact ⟨e2, e3, e4⟩
            · exact i2 y hy
          · cases l2 with
            | nil => simp only [List.length_cons, List.length_nil]; omega
            | cons z l2 =>
              have := i3 (by simp)
              simp only [List.length_cons] at this ⊢
              omega
end Tr
end Go.Proofs.YtgcicljklejmjaaDoor

/- key.keyed: is no document among a value and all below? -/
namespace Go.Proofs.YtgcicljklejmjaaDoor
open Go.RowKit Go.Shelf
open Tr
attribute [local go_sem] Oper.semAt_some

theorem keyed_at {x : Tr Mm} {i : Nat} (h : i < (pre 1 x).length) (hk : (pre 1 x)[i].2.k = 7) : keyed x = false := by
  unfold keyed
  rw [List.all_eq_false]
  exact ⟨_, List.getElem_mem h, by rw [hk]; decide⟩
theorem keyed_of {x : Tr Mm} (h : ∀ k (hk : k < (pre 1 x).length), (pre 1 x)[k].2.k ≠ 7) : keyed x = true := by
  unfold keyed
  rw [List.all_eq_true]
  intro p hp
  obtain ⟨k, hk, rfl⟩ := List.getElem_of_mem hp
  exact bne_iff_ne.2 (h k hk)

set_option maxRecDepth 100000 in
set_option maxHeartbeats 8000000 in
theorem keyed_any (w : World) (x : Tr Mm) (hx : Tr.Good w x) (hdp : deep 8 x = false) : Calls Tryd.prog 69 #[x.agg] w fun e w' => e = .returned (.bool (keyed x)) ∧ Fr no w w' := by
  obtain ⟨BA, bc, LA, lc, FA, fc, hf⟩ := hx.node.forms
  have hag := hf.agg
  have hall := fun W (f : Fr no w W) => all_any W x (hx.kept0 f)
  rw [hag] at hall ⊢
  have HA := Lib.hid hall; have HX := Lib.hid hx; have HD := Lib.hid hdp
  clear hall hx hf hag hdp
  refine (callsIn_wide (n := 10)).1 ?_
  refine callsIn_of_wp_marks Tryd.func69 rfl trivial ?_ rfl
  simp only [Tryd.ntmps69, List.size_toArray, List.length_cons, List.length_nil, Nat.reduceAdd, Nat.reduceSub, Array.replicate_succ, Array.replicate_zero, List.push_toArray, List.append_toArray, List.nil_append, List.cons_append]
  gi_wp2_with (fail)
  refine ⟨trivial, (callsIn_wide.2 (HA.out _ (by (repeat first | exact Fr.refl _ _ | exact Fr.drewN _ _ _ | apply Fr.drew | apply Fr.alloc | apply Fr.setAt | apply Fr.moreN)))).mono ?_⟩
  rintro e w3 ⟨y, YB, yb, YL, yl, YF, yf, rfl, hb3, hfy, hby, hgy, f3⟩
  simp only [World.size_alloc] at hb3 ⊢
  have hr1 := heap_alloc_new (w.alloc (.cells #[.int .u8 x.k.toNat, .bool x.b, .int .i64 x.i, .string ⟨x.t.toArray⟩, .slice BA x.bs.length bc, .slice LA x.l.length lc, .slice FA x.f.length fc] 33)) (.cells #[.bool false] 4)
  rw [World.size_alloc] at hr1
  have hr3 := f3.heap hr1 (fun h => h)
  have hF3 := Fr.trans (by (repeat first | exact Fr.refl _ _ | exact Fr.drewN _ _ _ | apply Fr.drew | apply Fr.alloc | apply Fr.setAt | apply Fr.moreN) : Fr no w _) f3 (fun _ _ h => h)
  have hs3 : w.heap.size + 2 < w3.heap.size := (Array.getElem?_eq_some_iff.1 hb3).1
  have hdy : deep 8 y = false := by rw [← bare_deep, hby, bare_deep]; exact HD.out
  have hky : keyed y = keyed x := by rw [← bare_keyed, hby, bare_keyed]
  have HB3 := Lib.hid hb3; have HFY := Lib.hid hfy; have HGY := Lib.hid hgy; have F3 := Lib.hid hF3; have HR3 := Lib.hid hr3; have HS3 := Lib.hid hs3; have HKY := Lib.hid hky; have HDY := Lib.hid hdy
  clear hb3 hfy hby hgy f3 hr1 hr3 hF3 hs3 hdy hky
  gi_wp2_with (fail)
  refine wpIn_range_b (P := Tryd.prog) (by omega) (gf := 104) (lb := #[.pointer (some ⟨w.heap.size + 2, 0, none⟩)]) rfl (enters_of Tryd.func104 (by kernel_rfl) rfl) (len := (pre 1 y).length) (Wh := isCopy y) (Kp := Fr (twoB w3))
    (all_iter _ (by omega) w3 (w.heap.size + 2) y HFY.out (twoB w3) (fun W f => f.heap HB3.out (fun h => by have h1 := HS3.out; rcases h with h | h <;> omega)) (fun W f => HGY.out.kept0 ((Fr.refl no w3).since f (fun k h => by rcases h with h | h <;> omega))) (fun k h => by rcases h with h | h <;> omega) (fun p hp => by have := pre_depth 8 1 y HDY.out p hp; omega))
    (fun i xs W h => by obtain ⟨_, _, rfl, _⟩ := h; rfl) (fun h k => h.trans k (fun _ _ h => h)) (fun W o' => (fr_putObj W _ o').mono (fun k _ h => .inr h))
    (fun i W => Fr (twoB w3) w3 W ∧ ∀ k (hk : k < (pre 1 y).length), k < i → (pre 1 y)[k].2.k ≠ 7)
    (fun c W => c = .ret ∧ keyed x = false ∧ W.heap[w.heap.size + 1]? = some (.cells #[.bool false] 4 (0, 0)) ∧ Fr (fun k => k = w.heap.size + 1 ∨ twoB w3 k) w3 W) ?hI ?hIx ?h0 ?round ?done ?stop
  case hI => exact fun i A B ⟨h1, h2⟩ f => ⟨h1.trans f (fun k hk h => absurd (show w3.heap.size ≤ k from h) (by omega)), h2⟩
  case hIx => exact fun c A B ⟨h1, h2, h3, h4⟩ f => ⟨h1, h2, f.heap h3 (fun h => absurd (show w3.heap.size ≤ _ from h) (by have h1 := HS3.out; omega)), h4.trans f (fun k hk h => absurd (show w3.heap.size ≤ k from h) (by omega))⟩
  case h0 => exact ⟨Fr.refl _ _, fun k _ h => by omega⟩
  case round =>
    intro l i xs W2 hi hwh hI hlt
    obtain ⟨hi2, z, rfl, hbz, hgz⟩ := hwh
    obtain ⟨j1, j2⟩ := hI
    obtain ⟨KB, kb, KL, kl, KF, kf, hfz⟩ := hgz.node.forms
    have hzk : (pre 1 y)[i].2.k = z.k := by rw [← bare_k z, hbz, bare_k]
    simp only [encDV]
    rw [hfz.agg]
    have J1 := Lib.hid j1; have J2 := Lib.hid j2; have HZK := Lib.hid hzk; have HLT := Lib.hid hlt; have HI2 := Lib.hid hi2
    clear j1 j2 hzk hbz hgz hfz hlt hi
    gi_wp2
    refine ⟨by (repeat first | exact Fr.refl _ _ | exact Fr.drewN _ _ _ | apply Fr.drew | apply Fr.alloc | apply Fr.setAt | apply Fr.moreN), (by (repeat first | exact Fr.refl _ _ | exact Fr.drewN _ _ _ | apply Fr.drew | apply Fr.alloc | apply Fr.setAt | apply Fr.moreN) : Fr no W2 _).mono (fun _ _ h => h.elim), fun W3 f3 => ?_⟩
    have hz3 := f3.heap (heap_alloc_new W2 (.cells #[.int .u8 z.k.toNat, .bool z.b, .int .i64 z.i, .string ⟨z.t.toArray⟩, .slice KB z.bs.length kb, .slice KL z.l.length kl, .slice KF z.f.length kf] 33)) (fun h => by have h1 := HLT.out; rcases h with h | h <;> omega)
    have fW3 : Fr (twoB w3) W2 W3 := ((by (repeat first | exact Fr.refl _ _ | exact Fr.drewN _ _ _ | apply Fr.drew | apply Fr.alloc | apply Fr.setAt | apply Fr.moreN) : Fr no W2 _).mono (fun _ _ h => h.elim)).trans f3 (fun _ _ h => h)
    have hr4 := (J1.out.trans fW3 (fun _ _ h => h)).heap HR3.out (fun h => by have h1 := HS3.out; rcases h with h | h <;> omega)
    obtain ⟨q0, q1, q2, q3, q4, q5, q6, qz, hbl⟩ := seven_cells hz3
    obtain ⟨r0, rz, rl⟩ := one_cells hr4
    have hs5 : w3.heap.size + 1 < W3.heap.size := by have := HLT.out; have := fW3.size; omega
    have FW3 := Lib.hid fW3; have HR4 := Lib.hid hr4; have HS5 := Lib.hid hs5
    clear hz3 fW3 hr4 f3 hs5
    by_cases h7 : z.k = 7
    · have g : ((z.k.toNat : Int) == 7) = true := by rw [h7]; rfl
      gi_wp2
      have g1 := Fr.setCell (Fr.refl (fun k => k = w.heap.size + 1) W3) ⟨w.heap.size + 1, 0, none⟩ (.bool false) (fun _ => rfl)
      refine ⟨fun k hk => ?_, ⟨rfl, ?_, one_set HR4.out, ?_⟩, fun k hk hlt => ?_⟩
      · have h1 := HS5.out; have h2 := HS3.out
        exact g1.block k (by rcases hk with h | h <;> omega) (fun h => by rcases hk with h | h <;> omega)
      · rw [← HKY.out]; exact keyed_at HI2.out (by rw [HZK.out, h7])
      · exact Fr.trans (Fr.mono (Fr.trans J1.out FW3.out (fun _ _ h => h)) (fun k _ h => .inr h)) (g1.mono (fun k _ h => .inl h)) (fun _ _ h => h)
      · have h2 := HS3.out
        exact g1.block k hlt (fun h => by omega)
    · have g : ((z.k.toNat : Int) == 7) = false := by
        rw [beq_eq_false_iff_ne]
        intro h
        exact h7 (UInt8.toNat_inj.1 (show z.k.toNat = (7 : UInt8).toNat from by have : (7 : UInt8).toNat = 7 := rfl; omega))
      gi_wp2
      refine ⟨fun k hk => rfl, Fr.refl _ _, J1.out.trans FW3.out (fun _ _ h => h), fun k hk hlt => ?_⟩
      by_cases h : k < i
      · exact J2.out k hk h
      · obtain rfl : k = i := by omega
        rw [HZK.out]; exact h7
  case stop =>
    rintro c W9 ⟨rfl, h1, h2, h3⟩ hW9 hD9
    have hr9 : (W9.putObj w3.heap.size (.deferred none)).heap[w.heap.size + 1]? = _ := (World.putObj_heap_other (by have := HS3.out; omega)).trans h2
    have HR9 := Lib.hid hr9; have H1 := Lib.hid h1; have H3 := Lib.hid h3; have HD9 := Lib.hid hD9
    clear h1 h2 h3 hr9 hD9
    gi_wp2
    refine ⟨by simp, .inl ⟨_, _, rfl, run_takeDeferred HD9.out, ?_⟩⟩
    refine ⟨_, results_cell1 (P := Tryd.prog) rfl Tryd.isAgg4 _ _ (w.heap.size + 1) _ rfl (one_cells HR9.out).1, ?_⟩
    rw [H1.out]
    have hS9 : ∀ k, (k = w.heap.size + 1 ∨ twoB w3 k) → w.heap.size ≤ k := fun k h => by
      have := HS3.out
      rcases h with h | h | h <;> omega
    exact ⟨rfl, F3.out.since (H3.out.trans ((fr_putObj W9 _ _).mono (fun k _ h => .inr (.inl h))) (fun _ _ h => h)) hS9⟩
  case done =>
    rintro W9 ⟨h1, h2⟩ hW9 hD9
    have hr := h1.heap HR3.out (fun h => by have h1 := HS3.out; rcases h with h | h <;> omega)
    obtain ⟨r0, rz, rl⟩ := one_cells hr
    have hky : keyed x = true := by rw [← HKY.out]; exact keyed_of (fun k hk => h2 k hk hk)
    have HR := Lib.hid hr; have HD9 := Lib.hid hD9; have H1 := Lib.hid h1; have H2 := Lib.hid hky
    clear h1 h2 hr hD9 hky
    gi_wp2
    have g1 := Fr.setCell (Fr.refl (fun k => k = w.heap.size + 1) W9) ⟨w.heap.size + 1, 0, none⟩ (.bool true) (fun _ => rfl)
    have hD9' := g1.heap HD9.out (fun h => by have h1 := HS3.out; omega)
    have hr9 := (World.putObj_heap_other (o := .deferred none) (show w.heap.size + 1 ≠ w3.heap.size by have := HS3.out; omega)).trans (one_set (v := .bool true) HR.out)
    refine ⟨by simp, .inl ⟨_, _, rfl, run_takeDeferred hD9', ?_⟩⟩
    refine ⟨_, results_cell1 (P := Tryd.prog) rfl Tryd.isAgg4 _ _ (w.heap.size + 1) _ rfl (one_cells hr9).1, ?_⟩
    rw [H2.out]
    have hS9 : ∀ k, (k = w.heap.size + 1 ∨ twoB w3 k) → w.heap.size ≤ k := fun k h => by
      have := HS3.out
      rcases h with h | h | h <;> omega
    exact ⟨rfl, F3.out.since (((H1.out.mono (fun _ _ h => .inr h)).trans (g1.mono (fun _ _ h => .inl h)) (fun _ _ h => h)).trans ((fr_putObj _ w3.heap.size (.deferred none)).mono (fun k _ h => .inr (.inl h))) (fun _ _ h => h)) hS9⟩
end Go.Proofs.YtgcicljklejmjaaDoor

/- Plain laws on bits, as the code of codes uses them. No condition but the ranges. -/
namespace Go
open Go.RowKit

theorem or128_fin : ∀ y : Fin 256, bits .or .u8 ((y.val : Int)) 128 = ((y.val % 128 + 128 : Nat) : Int) := by decide +kernel

theorem or128 (x : Nat) : bits .or .u8 ((x : Int) % 256) 128 = ((x % 128 + 128 : Nat) : Int) := by
  have h := or128_fin ⟨x % 256, by omega⟩
  simp only at h
  have e : ((x % 256 : Nat) : Int) = (x : Int) % 256 := by omega
  rw [e] at h
  rw [h]
  omega

theorem xor_ones (a : Nat) (h : a < 18446744073709551616) : a ^^^ 18446744073709551615 = 18446744073709551615 - a := by
  have e : (BitVec.ofNat 64 a ^^^ BitVec.allOnes 64).toNat = (~~~ BitVec.ofNat 64 a).toNat := by rw [BitVec.xor_allOnes]
  rw [BitVec.toNat_not] at e
  simp only [BitVec.toNat_xor, BitVec.toNat_ofNat, BitVec.toNat_allOnes] at e
  have h1 : a % 2 ^ 64 = a := Nat.mod_eq_of_lt h
  rw [h1] at e
  exact e

theorem wrap_u64_neg (v : Int) (h : -9223372036854775808 ≤ v) (h2 : v < 0) : IntKind.u64.wrap v = v + 18446744073709551616 := by
  simp only [IntKind.wrap, IntKind.bits, IntKind.signed, Bool.false_and, Bool.false_eq_true, if_false]
  omega

theorem wrap_u64_id (v : Int) (h : 0 ≤ v) (h2 : v < 18446744073709551616) : IntKind.u64.wrap v = v := by
  simp only [IntKind.wrap, IntKind.bits, IntKind.signed, Bool.false_and, Bool.false_eq_true, if_false]
  omega

theorem wrap_u64_mod (v : Int) : IntKind.u64.wrap v = v % 18446744073709551616 := by
  simp only [IntKind.wrap, IntKind.bits, IntKind.signed, Bool.false_and, Bool.false_eq_true, if_false]
  omega

theorem zigzag (v : Int) (h : -9223372036854775808 ≤ v) (h2 : v ≤ 9223372036854775807) :
    bits .xor .u64 (IntKind.u64.wrap (IntKind.u64.wrap v * 2)) (IntKind.u64.wrap (v / 9223372036854775808)) = if 0 ≤ v then 2 * v else -2 * v - 1 := by
  by_cases hv : 0 ≤ v
  · have e1 : v / 9223372036854775808 = 0 := by omega
    rw [if_pos hv, e1, wrap_u64_id v hv (by omega), wrap_u64_id (v * 2) (by omega) (by omega), wrap_u64_id 0 (by omega) (by omega)]
    have := u64_xor (v * 2) 0 (by omega) (by omega) (by omega) (by omega)
    rw [this]
    simp only [Int.toNat_zero, Nat.xor_zero]
    omega
  · have e1 : v / 9223372036854775808 = -1 := by omega
    rw [if_neg hv, e1, wrap_u64_neg v h (by omega), wrap_u64_neg (-1) (by omega) (by omega), wrap_u64_mod ((v + 18446744073709551616) * 2)]
    have e2 : ((v + 18446744073709551616) * 2) % 18446744073709551616 = 2 * v + 18446744073709551616 := by omega
    rw [e2]
    have := u64_xor (2 * v + 18446744073709551616) 18446744073709551615 (by omega) (by omega) (by omega) (by omega)
    have e3 : (-1 + 18446744073709551616 : Int) = 18446744073709551615 := by omega
    rw [e3, this]
    have e4 : (18446744073709551615 : Int).toNat = 18446744073709551615 := rfl
    rw [e4, xor_ones _ (by omega)]
    omega

theorem and127_fin : ∀ y : Fin 256, bits .and .u8 ((y.val : Int)) 127 = ((y.val % 128 : Nat) : Int) := by decide +kernel

theorem and127 (y : Nat) (h : y < 256) : bits .and .u8 (y : Int) 127 = ((y % 128 : Nat) : Int) := and127_fin ⟨y, h⟩

theorem or_add (a x k : Nat) (ha : a < 2 ^ k) (hx : x * 2 ^ k < 18446744073709551616) (hk : 2 ^ k < 18446744073709551616) : bits .or .u64 (a : Int) ((x * 2 ^ k : Nat) : Int) = ((a + x * 2 ^ k : Nat) : Int) := by
  rw [bits_or_u64_nat a (x * 2 ^ k) (by omega) hx]
  congr 1
  have h := Nat.shiftLeft_add_eq_or_of_lt ha x
  rw [Nat.shiftLeft_eq] at h
  rw [Nat.or_comm, ← h, Nat.add_comm]

/-- One byte more of a number: as the program reckons it. -/
theorem seven (a y k : Nat) (hk : k ≤ 9) (ha : a < 2 ^ (7 * k)) (hy : y < 256) (h9 : k = 9 → y = 1) :
    bits .or .u64 (a : Int) (IntKind.u64.wrap (IntKind.u64.wrap (bits .and .u8 (y : Int) 127) * 2 ^ (7 * k))) = ((a + y % 128 * 2 ^ (7 * k) : Nat) : Int) ∧ y % 128 * 2 ^ (7 * k) < 18446744073709551616 := by
  have hp : 2 ^ (7 * k) ≤ 2 ^ 63 := Nat.pow_le_pow_right (by omega) (by omega)
  have hlt : y % 128 * 2 ^ (7 * k) < 18446744073709551616 := by
    by_cases e : k = 9
    · subst e; rw [h9 rfl]; decide
    · have hp2 : 2 ^ (7 * k) ≤ 2 ^ 56 := Nat.pow_le_pow_right (by omega) (by omega)
      have h1 : y % 128 * 2 ^ (7 * k) ≤ 127 * 2 ^ 56 := Nat.mul_le_mul (by omega) hp2
      omega
  refine ⟨?_, hlt⟩
  rw [and127 y hy, wrap_u64_id ((y % 128 : Nat) : Int) (by omega) (by omega)]
  have e : (((y % 128 : Nat) : Int) * 2 ^ (7 * k)) = ((y % 128 * 2 ^ (7 * k) : Nat) : Int) := by push_cast; rfl
  rw [e, wrap_u64_id _ (by omega) (by omega)]
  exact or_add a (y % 128) (7 * k) ha hlt (by omega)

/-- One byte more, the higher ones first. -/
theorem eight (v y : Nat) (hv : v < 72057594037927936) (hy : y < 256) : bits .or .u64 (IntKind.u64.wrap ((v : Int) * 256)) (y : Int) = ((v * 256 + y : Nat) : Int) := by
  rw [wrap_u64_id ((v : Int) * 256) (by omega) (by omega)]
  have e : ((v : Int) * 256) = ((v * 256 : Nat) : Int) := by omega
  rw [e, bits_or_u64_nat (v * 256) y (by omega) (by omega)]
  congr 1
  have h := Nat.shiftLeft_add_eq_or_of_lt (show y < 2 ^ 8 by omega) v
  rw [Nat.shiftLeft_eq] at h
  exact h.symm

theorem eight' (v y : Nat) (hv : v < 72057594037927936) (hy : y < 256) : bits .or .u64 ((v : Int) * 256) (y : Int) = ((v * 256 + y : Nat) : Int) := by
  have h := eight v y hv hy
  rwa [wrap_u64_id ((v : Int) * 256) (by omega) (by omega)] at h

theorem bits_xor_comm (k : IntKind) (a b : Int) : bits .xor k a b = bits .xor k b a := by
  simp only [bits, BitVec.xor_comm]

theorem and_one (x : Nat) (h : x < 18446744073709551616) : bits .and .u64 (x : Int) 1 = ((x % 2 : Nat) : Int) := by
  have := bits_and_u64_nat x 1 h (by omega)
  rw [show ((1 : Nat) : Int) = 1 from rfl] at this
  rw [this, Nat.and_one_is_mod]

theorem i64_xor_zero (a : Nat) (h : a < 9223372036854775808) : bits .xor .i64 (a : Int) 0 = (a : Int) := by
  show IntKind.i64.wrap (((BitVec.ofInt 64 (a : Int) ^^^ BitVec.ofInt 64 0 : BitVec 64).toNat : Nat) : Int) = (a : Int)
  have e3 : BitVec.ofInt 64 0 = 0#64 := rfl
  have e4 : BitVec.ofInt 64 (a : Int) = BitVec.ofNat 64 a := by rw [BitVec.ofInt_natCast]
  rw [e3, BitVec.xor_zero, e4, BitVec.toNat_ofNat]
  rw [IntKind.wrap_i64]
  omega

theorem unzig (x : Nat) (h : x < 18446744073709551616) :
    bits .xor .i64 (wrap64 ((x : Int) / 2)) (wrap64 (-wrap64 (bits .and .u64 (x : Int) 1))) = if x % 2 = 0 then ((x / 2 : Nat) : Int) else -((x / 2 : Nat) : Int) - 1 := by
  rw [and_one x h]
  have e1 : wrap64 ((x : Int) / 2) = ((x / 2 : Nat) : Int) := by unfold wrap64; omega
  rw [e1]
  by_cases h2 : x % 2 = 0
  · rw [if_pos h2, h2]
    have e2 : wrap64 (-wrap64 ((0 : Nat) : Int)) = 0 := by unfold wrap64; omega
    rw [e2]
    exact i64_xor_zero (x / 2) (by omega)
  · rw [if_neg h2]
    have e0 : x % 2 = 1 := by omega
    have e2 : wrap64 (-wrap64 ((x % 2 : Nat) : Int)) = -1 := by rw [e0]; unfold wrap64; omega
    rw [e2, bits_xor_comm, i64_not (x / 2) (by omega)]
    omega
end Go
