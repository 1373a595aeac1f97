import Derived.Test.YtijcleiekafoiaaGreatDoorMb10
import Derived.Test.YtijcleiekafoiaaGreatDoorMw03
import Derived.Test.YtijcleiekafoiaaGreatDoorMb15

/- Values that were lent: copies, a mark behind each of their lists. -/
namespace Go.Proofs.YtijcleiekafoiaaGreatDoor
open Go.RowKit
namespace Tr
def markV : List Value := [.int .u8 0, .bool false, .int .i64 (-777), .string ⟨#[]⟩, .slice none 0 0, .slice none 0 0, .slice none 0 0]
def markF : List Value := [.string ⟨#[116, 104, 101, 32, 111, 119, 110, 101, 114, 39, 115]⟩, .int .u8 0, .bool false, .int .i64 0, .string ⟨#[]⟩, .slice none 0 0, .slice none 0 0, .slice none 0 0]

/-- A row that was lent: its mark behind it; no block of it is older than lo. -/
structure LRow (lo : Nat) (w : World) (e : TypeId) (sz : Nat) (v : Value) (n : Nat) (xs mark : List Value) (g : Nat) : Prop where
  v : v = .slice (some ⟨g, 0, none⟩) n (n + 1)
  lo : lo ≤ g
  ow : Ow w e sz (.slice (some ⟨g, 0, none⟩) (n + 1) (n + 1)) (n + 1) (xs ++ mark)
  len : xs.length = n * sz
theorem LRow.kept {lo : Nat} {w w1 : World} {e : TypeId} {sz n g : Nat} {v : Value} {xs mark : List Value} {S : Nat → Prop} (h : LRow lo w e sz v n xs mark g) (f : Fr S w w1) (hS : ∀ k, lo ≤ k → ¬ S k) : LRow lo w1 e sz v n xs mark g :=
  ⟨h.v, h.lo, h.ow.kept f (fun k hk => by
    simp only [Value.ownBlock, Option.some.injEq] at hk
    subst hk
    exact hS _ h.lo), h.len⟩
theorem LRow.lower {lo lo' : Nat} {w : World} {e : TypeId} {sz n g : Nat} {v : Value} {xs mark : List Value} (h : LRow lo w e sz v n xs mark g) (hl : lo' ≤ lo) : LRow lo' w e sz v n xs mark g := ⟨h.v, Nat.le_trans hl h.lo, h.ow, h.len⟩
theorem LRow.sl {lo : Nat} {w : World} {e : TypeId} {sz n g : Nat} {v : Value} {xs mark : List Value} (h : LRow lo w e sz v n xs mark g) : Sl w sz v n xs := by
  have h1 := (h.ow.head n (by omega)).sl
  rw [List.take_left' h.len] at h1
  rw [h.v]
  exact h1
theorem LRow.cell {lo : Nat} {w : World} {e : TypeId} {sz n g : Nat} {v : Value} {xs mark : List Value} (h : LRow lo w e sz v n xs mark g) (j : Nat) (u : Value) (hu : mark[j]? = some u) : w.cell? ⟨g, n * sz + j, none⟩ = some u := by
  obtain ⟨g', c, h1, -, -, -, -, hc⟩ := h.ow.cells n (by omega)
  simp only [Value.slice.injEq, Option.some.injEq, Addr.mk.injEq, and_true, true_and] at h1
  obtain ⟨rfl, _⟩ := h1
  refine hc _ u ?_
  rw [List.getElem?_append_right (by rw [h.len]; omega), h.len, Nat.add_sub_cancel_left]
  exact hu

/-- A value that was lent. -/
inductive LT (lo : Nat) (w : World) : Tr Mm → Prop
  | mk (x : Tr Mm) (gB gL gF : Nat) (eB : x.B = .slice (some ⟨gB, 0, none⟩) x.bs.length (x.bs.length + 2)) (lB : lo ≤ gB) (B : Lent w gB x.bs)
      (L : LRow lo w 27 7 x.L x.l.length (x.l.flatMap cells) markV gL) (F : LRow lo w 87 8 x.F x.f.length (x.f.flatMap fcells) markF gF)
      (kids : ∀ y ∈ x.kids, LT lo w y) : LT lo w x
theorem LT.opened {lo : Nat} {w : World} {x : Tr Mm} : LT lo w x → ∃ gB gL gF, x.B = .slice (some ⟨gB, 0, none⟩) x.bs.length (x.bs.length + 2) ∧ lo ≤ gB ∧ Lent w gB x.bs ∧ LRow lo w 27 7 x.L x.l.length (x.l.flatMap cells) markV gL ∧ LRow lo w 87 8 x.F x.f.length (x.f.flatMap fcells) markF gF
  | .mk _ gB gL gF a b c d e _ => ⟨gB, gL, gF, a, b, c, d, e⟩
theorem LT.kids {lo : Nat} {w : World} {x : Tr Mm} : LT lo w x → ∀ y ∈ x.kids, LT lo w y | .mk _ _ _ _ _ _ _ _ _ h => h
theorem LT.l {lo : Nat} {w : World} {x : Tr Mm} (h : LT lo w x) : ∀ y ∈ x.l, LT lo w y := fun y hy => h.kids y (List.mem_append_left _ hy)
theorem LT.f {lo : Nat} {w : World} {x : Tr Mm} (h : LT lo w x) : ∀ p ∈ x.f, LT lo w p.2 := fun p hp => h.kids p.2 (List.mem_append_right _ (List.mem_map_of_mem hp))
theorem LT.kept {lo : Nat} {w w1 : World} {S : Nat → Prop} {x : Tr Mm} (h : LT lo w x) (f : Fr S w w1) (hS : ∀ k, lo ≤ k → ¬ S k) : LT lo w1 x := by
  induction x using Tr.ind with
  | h x ih =>
    obtain ⟨gB, gL, gF, a, b, c, d, e⟩ := h.opened
    exact ⟨x, gB, gL, gF, a, b, c.kept f (hS _ b), d.kept f hS, e.kept f hS, fun y hy => ih y hy (h.kids y hy)⟩
theorem LT.kept0 {lo : Nat} {w w1 : World} {x : Tr Mm} (h : LT lo w x) (f : Fr no w w1) : LT lo w1 x := h.kept f (fun _ _ h => h)
theorem LT.lower {lo lo' : Nat} {w : World} {x : Tr Mm} (h : LT lo w x) (hl : lo' ≤ lo) : LT lo' w x := by
  induction x using Tr.ind with
  | h x ih =>
    obtain ⟨gB, gL, gF, a, b, c, d, e⟩ := h.opened
    exact ⟨x, gB, gL, gF, a, Nat.le_trans hl b, c, d.lower hl, e.lower hl, fun y hy => ih y hy (h.kids y hy)⟩
theorem LT.good {lo : Nat} {w w1 : World} {x y : Tr Mm} (h : LT lo w1 y) (hb : bare y = bare x) (hg : Good w x) : Good w1 y := by
  induction x using Tr.ind generalizing y with
  | h x ih =>
    have e1 : y.bs = x.bs := by rw [← bare_bs y, ← bare_bs x, hb]
    have e2 : y.t = x.t := by rw [← bare_t y, ← bare_t x, hb]
    have e3 : y.i = x.i := by rw [← bare_i y, ← bare_i x, hb]
    have e4 : y.l.map bare = x.l.map bare := by rw [← bare_l y, ← bare_l x, hb]
    have e5 : (y.f.map fun p => (p.1, bare p.2)) = x.f.map fun p => (p.1, bare p.2) := by rw [← bare_f y, ← bare_f x, hb]
    have l4 : y.l.length = x.l.length := by have := congrArg List.length e4; simpa using this
    have l5 : y.f.length = x.f.length := by have := congrArg List.length e5; simpa using this
    have n5 : y.f.map (·.1) = x.f.map (·.1) := by
      have := congrArg (List.map (·.1)) e5
      simpa [List.map_map, Function.comp_def] using this
    have hk : y.kids.map bare = x.kids.map bare := by rw [← bare_kids y, ← bare_kids x, hb]
    have nd := hg.node
    obtain ⟨gB, gL, gF, a, b, c, d, e⟩ := h.opened
    have hB : Sl w1 1 y.B y.bs.length (bvs y.bs) := by rw [a]; exact c.sl (e1 ▸ nd.bs)
    refine ⟨y, ⟨hB, d.sl, e.sl, e3 ▸ nd.i, e2 ▸ nd.t, e1 ▸ nd.bs, l4 ▸ nd.l, l5 ▸ nd.f, fun p hp => ?_, l4 ▸ nd.lw, l5 ▸ nd.fw⟩, fun z hz => ?_⟩
    · have : p.1 ∈ x.f.map (·.1) := by rw [← n5]; exact List.mem_map_of_mem hp
      obtain ⟨q, hq, e⟩ := List.mem_map.1 this
      rw [← e]; exact nd.n q hq
    · have : bare z ∈ x.kids.map bare := by rw [← hk]; exact List.mem_map_of_mem hz
      obtain ⟨q, hq, e⟩ := List.mem_map.1 this
      exact ih q hq (h.kids z hz) e.symm (hg.kids q hq)
/-- The copies of a list that came in are one that came in. -/
theorem lent_in {lo : Nat} {w w1 : World} {X V : Value} {l ys : List (Tr Mm)} {g : Nat} (h : LRow lo w1 27 7 V ys.length (ys.flatMap cells) markV g) (hy : ∀ y ∈ ys, LT lo w1 y) (hb : ys.map bare = l.map bare) (hx : In w X l) : In w1 V ys := by
  have hl : ys.length = l.length := by have := congrArg List.length hb; simpa using this
  refine ⟨h.sl, fun y hy2 => ?_, hl ▸ hx.n, hl ▸ hx.nw⟩
  have : bare y ∈ l.map bare := by rw [← hb]; exact List.mem_map_of_mem hy2
  obtain ⟨q, hq, e⟩ := List.mem_map.1 this
  exact (hy y hy2).good e.symm (hx.good q hq)
end Tr
end Go.Proofs.YtijcleiekafoiaaGreatDoor

/- LentValue, LentValues, LentField, LentFields: copies, a mark behind each list. Printed by mklentv.py. -/
namespace Go.Proofs.YtijcleiekafoiaaGreatDoor
open Go.RowKit
open Tr

theorem lent_agg {y : Tr Mm} {gB gL gF : Nat} (a : y.B = .slice (some ⟨gB, 0, none⟩) y.bs.length (y.bs.length + 2)) (b : y.L = .slice (some ⟨gL, 0, none⟩) y.l.length (y.l.length + 1)) (c : y.F = .slice (some ⟨gF, 0, none⟩) y.f.length (y.f.length + 1)) : y.agg = .agg #[.int .u8 y.k.toNat, .bool y.b, .int .i64 y.i, .string ⟨y.t.toArray⟩, .slice (some ⟨gB, 0, none⟩) y.bs.length (y.bs.length + 2), .slice (some ⟨gL, 0, none⟩) y.l.length (y.l.length + 1), .slice (some ⟨gF, 0, none⟩) y.f.length (y.f.length + 1)] := by
  unfold Tr.agg; rw [a, b, c]
theorem lent_cells {y : Tr Mm} {gB gL gF : Nat} (a : y.B = .slice (some ⟨gB, 0, none⟩) y.bs.length (y.bs.length + 2)) (b : y.L = .slice (some ⟨gL, 0, none⟩) y.l.length (y.l.length + 1)) (c : y.F = .slice (some ⟨gF, 0, none⟩) y.f.length (y.f.length + 1)) : y.cells = [.int .u8 y.k.toNat, .bool y.b, .int .i64 y.i, .string ⟨y.t.toArray⟩, .slice (some ⟨gB, 0, none⟩) y.bs.length (y.bs.length + 2), .slice (some ⟨gL, 0, none⟩) y.l.length (y.l.length + 1), .slice (some ⟨gF, 0, none⟩) y.f.length (y.f.length + 1)] := by
  unfold Tr.cells; rw [a, b, c]
theorem lent_fagg {n : List UInt8} {y : Tr Mm} {gB gL gF : Nat} (a : y.B = .slice (some ⟨gB, 0, none⟩) y.bs.length (y.bs.length + 2)) (b : y.L = .slice (some ⟨gL, 0, none⟩) y.l.length (y.l.length + 1)) (c : y.F = .slice (some ⟨gF, 0, none⟩) y.f.length (y.f.length + 1)) : fagg (n, y) = .agg #[.string ⟨n.toArray⟩, .int .u8 y.k.toNat, .bool y.b, .int .i64 y.i, .string ⟨y.t.toArray⟩, .slice (some ⟨gB, 0, none⟩) y.bs.length (y.bs.length + 2), .slice (some ⟨gL, 0, none⟩) y.l.length (y.l.length + 1), .slice (some ⟨gF, 0, none⟩) y.f.length (y.f.length + 1)] := by
  unfold Tr.fagg; simp only; rw [a, b, c]
theorem built8 (w : World) (z a b c d e f h : Value) (T : TypeId) : Sl (w.alloc (.cells #[z, a, b, c, d, e, f, h] T)) 8 (.slice (some ⟨w.heap.size, 0, none⟩) 1 1) 1 [z, a, b, c, d, e, f, h] := by
  refine ⟨rfl, .inr ⟨w.heap.size, 0, 1, rfl, by omega, by simp [maxLen], fun j u hu => ?_⟩⟩
  rw [cell_of_row _ _ _ _ _ (0, 0) (heap_alloc_new w _)]
  simpa using hu
theorem take_snoc_len {α β γ : Type} {l : List α} {j : Nat} (hj : j < l.length) {ys : List β} {f : β → γ} {h : α → γ} {y : β} (hb : ys.map f = (l.take j).map h) (hy : f y = h l[j]) : (ys ++ [y]).map f = (l.take (j + 1)).map h := by
  rw [List.map_append, hb, List.take_succ_eq_append_getElem hj, List.map_append]
  simp [hy]

/-- What the lists need of LentValue. -/
def LentOk (x : Tr Mm) : Prop := ∀ w : World, Tr.Good w x → Calls Tryz.prog 6 #[x.agg] w fun e w' => ∃ y, e = .returned y.agg ∧ bare y = bare x ∧ LT w.heap.size w' y ∧ Fr no w w'
/-- And of LentField. -/
def LentFOk (p : List UInt8 × Tr Mm) : Prop := ∀ w : World, Tr.Good w p.2 → Calls Tryz.prog 68 #[fagg p] w fun e w' => ∃ q, e = .returned (fagg q) ∧ (q.1, bare q.2) = (p.1, bare p.2) ∧ LT w.heap.size w' q.2 ∧ Fr no w w'

set_option maxRecDepth 100000 in
set_option maxHeartbeats 4000000 in
theorem lentvs_of (l : List (Tr Mm)) (ih : ∀ x ∈ l, LentOk x) (w : World) (X : Value) (hx : In w X l) :
    Calls Tryz.prog 24 #[X] w fun e w' => ∃ (V : Value) (g : Nat) (ys : List (Tr Mm)), e = .returned V ∧ LRow w.heap.size w' 27 7 V ys.length (ys.flatMap cells) markV g ∧ ys.map bare = l.map bare ∧ (∀ y ∈ ys, LT w.heap.size w' y) ∧ Fr no w w' := by
  obtain ⟨A, c, rfl, hc1, hc2⟩ := hx.sl.form
  have hnl : l.length ≤ 140737488351232 := hx.n
  have hnw : l.length * 104 ≤ 140737488351232 := hx.nw
  have HX := Lib.hid hx; have IH := Lib.hid ih
  clear hx ih hc2
  obtain ⟨inf, hi, hz0, hz1, hz2⟩ := info_parts tbV.info
  obtain ⟨wm, hmk, hown, hgrow⟩ := run_make_own (P := Tryz.prog) w 0 24 27 inf (.agg #[.int .u8 0, .bool false, .int .i64 0, .string ⟨#[]⟩, .slice none 0 0, .slice none 0 0, .slice none 0 0]) 7 tbV.und hi hz0 hz1 .i64 .i64 (l.length + 1) (by rw [hz2]; omega) (by simp only [maxLen]; omega) (Nat.zero_le _)
  rw [show ((l.length + 1 : Nat) : Int) = (l.length : Int) + 1 from by omega] at hmk
  have hfm : Fr no w wm := (Fr.of_grown hgrow).mono (fun k _ h => by cases h)
  have hgl : w.heap.size < wm.heap.size := (hown.lt _ rfl).2
  have HO := Lib.hid hown; have HFM := Lib.hid hfm; have HG := Lib.hid hgl; have HW := Lib.hid hnw
  clear hown hfm hgrow hi hz0 hz1 hz2 hgl hnw
  go_enter Tryz.func24, Tryz.ntmps24
  go_wp2
  clear hmk
  go_loopw [3, 4] (fun xv iv wr => ∃ ys : List (Tr Mm), ys.length ≤ l.length ∧ xv = .slice (some ⟨w.heap.size, 0, none⟩) ys.length (l.length + 1) ∧ iv = .int .i64 (ys.length : Int) ∧ wr.ownsRow 0 27 7 (.slice (some ⟨w.heap.size, 0, none⟩) ys.length (l.length + 1)) ys.length (ys.flatMap cells) ∧ ys.map bare = (l.take ys.length).map bare ∧ (∀ y ∈ ys, LT wm.heap.size wr y) ∧ Fr no w wr ∧ wm.heap.size ≤ wr.heap.size) (fun _ iv _ => l.length - (intOf iv).toNat)
  case atStart => exact ⟨[], Nat.zero_le _, rfl, rfl, HO.out, rfl, (fun _ h => nomatch h), HFM.out, Nat.le_refl _⟩
  case round =>
    obtain ⟨ys, hj, rfl, rfl, hro, hbs, hys, hfr, hsz⟩ := hrel
    have HRO := Lib.hid hro; have HBS := Lib.hid hbs; have HYS := Lib.hid hys; have FR := Lib.hid hfr; have HSZ := Lib.hid hsz
    clear hro hbs hys hfr hsz
    by_cases hlt : ys.length < l.length
    · have hX := HX.out.kept0 FR.out
      obtain ⟨b, o, KB, kb, KL, kl, KF, kf, rfl, hfj, q0, q1, q2, q3, q4, q5, q6, hgl⟩ := In.get hX ys.length hlt
      have hcall := fun W (f : Fr no wr W) => IH.out l[ys.length] (List.getElem_mem _) W ((hX.good _ (List.getElem_mem _)).kept0 f)
      rw [hfj.agg] at hcall
      have HC := Lib.hid hcall
      clear hcall hfj hX
      go_wp2_with fail
      refine (HC.out _ (by (repeat first | exact Fr.refl _ _ | exact Fr.drewN _ _ _ | apply Fr.drew | apply Fr.alloc | apply Fr.setAt | apply Fr.moreN))).mono ?_
      rintro e w5 ⟨y, rfl, hb, hlt, f5⟩
      obtain ⟨gB, gL, gF, a, b1, c1, d, e5⟩ := hlt.opened
      rw [lent_agg a d.v e5.v]
      have hfl : (ys ++ [y]).flatMap cells = ys.flatMap cells ++ [.int .u8 y.k.toNat, .bool y.b, .int .i64 y.i, .string ⟨y.t.toArray⟩, .slice (some ⟨gB, 0, none⟩) y.bs.length (y.bs.length + 2), .slice (some ⟨gL, 0, none⟩) y.l.length (y.l.length + 1), .slice (some ⟨gF, 0, none⟩) y.f.length (y.f.length + 1)] := by rw [List.flatMap_append, List.flatMap_singleton, lent_cells a d.v e5.v]
      have F50 := Lib.hid ((by (repeat first | exact Fr.refl _ _ | exact Fr.drewN _ _ _ | apply Fr.drew | apply Fr.alloc | apply Fr.setAt | apply Fr.moreN) : Fr no wr _).trans f5 (fun _ _ h => h)); have HB := Lib.hid hb
      have hlt5 := hlt.lower (lo' := wm.heap.size) HSZ.out
      have HLT := Lib.hid hlt5; have HFL := Lib.hid hfl
      clear hlt f5 hb hlt5 hfl a b1 c1 d e5 q0 q1 q2 q3 q4 q5 q6 hgl HC
      rename_i hlt
      go_wp2_with (at_builtin; refine wpList_apr rfl (.tmp 16) (.tmp 22) 24 rfl tbV (own_kept0 HRO.out (F50.out.trans (by (repeat first | exact Fr.refl _ _ | exact Fr.drewN _ _ _ | apply Fr.drew | apply Fr.alloc | apply Fr.setAt | apply Fr.moreN)) (fun _ _ h => h))) (built7 w5 (.int .u8 y.k.toNat) (.bool y.b) (.int .i64 y.i) (.string ⟨y.t.toArray⟩) (.slice (some ⟨gB, 0, none⟩) y.bs.length (y.bs.length + 2)) (.slice (some ⟨gL, 0, none⟩) y.l.length (y.l.length + 1)) (.slice (some ⟨gF, 0, none⟩) y.f.length (y.f.length + 1)) 27) rfl rfl (by intro u hu; simp only [List.mem_cons, List.not_mem_nil, or_false] at hu; rcases hu with rfl | rfl | rfl | rfl | rfl | rfl | rfl <;> rfl) (by omega) ?goyv)
      case goyv =>
        intro N w7 hN ho7 hf7
        subst hN
        rw [← HFL.out] at ho7
        have f57 : Fr (fun k => k = w.heap.size) w5 w7 := ((by (repeat first | exact Fr.refl _ _ | exact Fr.drewN _ _ _ | apply Fr.drew | apply Fr.alloc | apply Fr.setAt | apply Fr.moreN) : Fr no w5 _).mono (fun _ _ h => h.elim)).trans hf7 (fun _ _ h => h)
        have hg := HG.out
        have hys7 : ∀ z ∈ ys ++ [y], LT wm.heap.size w7 z := fun z hz => by
          rcases List.mem_append.1 hz with hz | hz
          · exact ((HYS.out z hz).kept0 F50.out).kept f57 (fun k hk => by omega)
          · simp only [List.mem_singleton] at hz
            subst hz
            exact HLT.out.kept f57 (fun k hk => by omega)
        have hfr7 : Fr no w w7 := (FR.out.trans F50.out (fun _ _ h => h)).trans f57 (fun k hk h => by omega)
        have hb7 := take_snoc_len (y := y) (f := bare) (h := bare) hlt HBS.out HB.out
        have hs7 : wm.heap.size ≤ w7.heap.size := Nat.le_trans HSZ.out (Nat.le_trans F50.out.size f57.size)
        have HO7 := Lib.hid ho7; have HY7 := Lib.hid hys7; have F7 := Lib.hid hfr7; have HB7 := Lib.hid hb7; have HS7 := Lib.hid hs7
        clear ho7 hf7 f57 hys7 hfr7 hb7 hs7 hg
        go_wp2
        go_roundw
        case rel => exact ⟨ys ++ [y], by rw [List.length_append]; exact hlt, by rw [List.length_append]; rfl, by first | (rw [List.length_append]; rfl) | (rw [List.length_append]; go_num), by rw [List.length_append]; exact HO7.out, by rw [List.length_append]; exact HB7.out, HY7.out, F7.out, HS7.out⟩
        case measure => simp [intOf]; omega
    · have hle : ys.length = l.length := by omega
      have HLE := Lib.hid hle
      clear hle hj
      go_wp2_with (at_builtin; refine wpList_apr rfl (.tmp 24) (.tmp 26) 24 rfl tbV (own_kept0 HRO.out (by (repeat first | exact Fr.refl _ _ | exact Fr.drewN _ _ _ | apply Fr.drew | apply Fr.alloc | apply Fr.setAt | apply Fr.moreN))) (built7 wr (.int .u8 0) (.bool false) (.int .i64 (-777)) (.string ⟨#[]⟩) (.slice none 0 0) (.slice none 0 0) (.slice none 0 0) 27) rfl rfl (by intro u hu; simp only [List.mem_cons, List.not_mem_nil, or_false] at hu; rcases hu with rfl | rfl | rfl | rfl | rfl | rfl | rfl <;> rfl) (by have := HLE.out; omega) ?enyv)
      case enyv =>
        intro N w7 hN ho7 hf7
        subst hN
        have f57 : Fr (fun k => k = w.heap.size) wr w7 := ((by (repeat first | exact Fr.refl _ _ | exact Fr.drewN _ _ _ | apply Fr.drew | apply Fr.alloc | apply Fr.setAt | apply Fr.moreN) : Fr no wr _).mono (fun _ _ h => h.elim)).trans hf7 (fun _ _ h => h)
        have hg := HG.out
        have hys7 : ∀ z ∈ ys, LT wm.heap.size w7 z := fun z hz => (HYS.out z hz).kept f57 (fun k hk => by omega)
        have hfr7 : Fr no w w7 := FR.out.trans f57 (fun k hk h => by omega)
        have HO7 := Lib.hid ho7; have HY7 := Lib.hid hys7; have F7 := Lib.hid hfr7
        clear ho7 hf7 f57 hys7 hfr7 hg
        have hle := HLE.out
        have hcl : l.length ≤ l.length + 1 := by omega
        clear hle
        go_wp2
        go_ret
        refine ⟨_, w.heap.size, ys, rfl, ⟨by rw [HLE.out]; rfl, Nat.le_refl _, ?_, ?_⟩, by rw [HBS.out, HLE.out, List.take_length], fun z hz => (HY7.out z hz).lower (Nat.le_of_lt HG.out), F7.out⟩
        · have h := HO7.out
          rw [← HLE.out] at h
          exact Ow.of_own h
        · have h := HRO.out.1
          exact h
set_option maxRecDepth 100000 in
set_option maxHeartbeats 4000000 in
theorem lentfs_of (l : List (List UInt8 × Tr Mm)) (ih : ∀ p ∈ l, LentFOk p) (w : World) (X : Value) (hx : InF w X l) :
    Calls Tryz.prog 25 #[X] w fun e w' => ∃ (V : Value) (g : Nat) (ys : List (List UInt8 × Tr Mm)), e = .returned V ∧ LRow w.heap.size w' 87 8 V ys.length (ys.flatMap fcells) markF g ∧ ys.map (fun p : List UInt8 × Tr Mm => (p.1, bare p.2)) = l.map (fun p : List UInt8 × Tr Mm => (p.1, bare p.2)) ∧ (∀ y ∈ ys, LT w.heap.size w' y.2) ∧ Fr no w w' := by
  obtain ⟨A, c, rfl, hc1, hc2⟩ := hx.sl.form
  have hnl : l.length ≤ 140737488351232 := hx.n
  have hnw : l.length * 120 ≤ 140737488351232 := hx.nw
  have HX := Lib.hid hx; have IH := Lib.hid ih
  clear hx ih hc2
  obtain ⟨inf, hi, hz0, hz1, hz2⟩ := info_parts tbF.info
  obtain ⟨wm, hmk, hown, hgrow⟩ := run_make_own (P := Tryz.prog) w 0 25 87 inf (.agg #[.string ⟨#[]⟩, .int .u8 0, .bool false, .int .i64 0, .string ⟨#[]⟩, .slice none 0 0, .slice none 0 0, .slice none 0 0]) 8 tbF.und hi hz0 hz1 .i64 .i64 (l.length + 1) (by rw [hz2]; omega) (by simp only [maxLen]; omega) (Nat.zero_le _)
  rw [show ((l.length + 1 : Nat) : Int) = (l.length : Int) + 1 from by omega] at hmk
  have hfm : Fr no w wm := (Fr.of_grown hgrow).mono (fun k _ h => by cases h)
  have hgl : w.heap.size < wm.heap.size := (hown.lt _ rfl).2
  have HO := Lib.hid hown; have HFM := Lib.hid hfm; have HG := Lib.hid hgl; have HW := Lib.hid hnw
  clear hown hfm hgrow hi hz0 hz1 hz2 hgl hnw
  go_enter Tryz.func25, Tryz.ntmps25
  go_wp2
  clear hmk
  go_loopw [3, 4] (fun xv iv wr => ∃ ys : List (List UInt8 × Tr Mm), ys.length ≤ l.length ∧ xv = .slice (some ⟨w.heap.size, 0, none⟩) ys.length (l.length + 1) ∧ iv = .int .i64 (ys.length : Int) ∧ wr.ownsRow 0 87 8 (.slice (some ⟨w.heap.size, 0, none⟩) ys.length (l.length + 1)) ys.length (ys.flatMap fcells) ∧ ys.map (fun p : List UInt8 × Tr Mm => (p.1, bare p.2)) = (l.take ys.length).map (fun p : List UInt8 × Tr Mm => (p.1, bare p.2)) ∧ (∀ y ∈ ys, LT wm.heap.size wr y.2) ∧ Fr no w wr ∧ wm.heap.size ≤ wr.heap.size) (fun _ iv _ => l.length - (intOf iv).toNat)
  case atStart => exact ⟨[], Nat.zero_le _, rfl, rfl, HO.out, rfl, (fun _ h => nomatch h), HFM.out, Nat.le_refl _⟩
  case round =>
    obtain ⟨ys, hj, rfl, rfl, hro, hbs, hys, hfr, hsz⟩ := hrel
    have HRO := Lib.hid hro; have HBS := Lib.hid hbs; have HYS := Lib.hid hys; have FR := Lib.hid hfr; have HSZ := Lib.hid hsz
    clear hro hbs hys hfr hsz
    by_cases hlt : ys.length < l.length
    · have hX := HX.out.kept0 FR.out
      obtain ⟨b, o, KB, kb, KL, kl, KF, kf, rfl, hfj, q0, q1, q2, q3, q4, q5, q6, q7, hgl⟩ := InF.get hX ys.length hlt
      have hcall := fun W (f : Fr no wr W) => IH.out l[ys.length] (List.getElem_mem _) W ((hX.good _ (List.getElem_mem _)).kept0 f)
      have hfg : fagg l[ys.length] = .agg #[.string ⟨l[ys.length].1.toArray⟩, .int .u8 l[ys.length].2.k.toNat, .bool l[ys.length].2.b, .int .i64 l[ys.length].2.i, .string ⟨l[ys.length].2.t.toArray⟩, .slice KB l[ys.length].2.bs.length kb, .slice KL l[ys.length].2.l.length kl, .slice KF l[ys.length].2.f.length kf] := by
        unfold fagg; rw [hfj.B, hfj.L, hfj.F]
      rw [hfg] at hcall
      clear hfg
      have HC := Lib.hid hcall
      clear hcall hfj hX
      go_wp2_with fail
      refine (HC.out _ (by (repeat first | exact Fr.refl _ _ | exact Fr.drewN _ _ _ | apply Fr.drew | apply Fr.alloc | apply Fr.setAt | apply Fr.moreN))).mono ?_
      rintro e w5 ⟨⟨n, y⟩, rfl, hb, hlt, f5⟩
      simp only at hb hlt
      obtain ⟨gB, gL, gF, a, b1, c1, d, e5⟩ := hlt.opened
      rw [lent_fagg a d.v e5.v]
      have hfl : (ys ++ [(n, y)]).flatMap fcells = ys.flatMap fcells ++ [.string ⟨n.toArray⟩, .int .u8 y.k.toNat, .bool y.b, .int .i64 y.i, .string ⟨y.t.toArray⟩, .slice (some ⟨gB, 0, none⟩) y.bs.length (y.bs.length + 2), .slice (some ⟨gL, 0, none⟩) y.l.length (y.l.length + 1), .slice (some ⟨gF, 0, none⟩) y.f.length (y.f.length + 1)] := by rw [List.flatMap_append, List.flatMap_singleton]; unfold fcells; simp only; rw [lent_cells a d.v e5.v]
      have F50 := Lib.hid ((by (repeat first | exact Fr.refl _ _ | exact Fr.drewN _ _ _ | apply Fr.drew | apply Fr.alloc | apply Fr.setAt | apply Fr.moreN) : Fr no wr _).trans f5 (fun _ _ h => h)); have HB := Lib.hid hb
      have hlt5 := hlt.lower (lo' := wm.heap.size) HSZ.out
      have HLT := Lib.hid hlt5; have HFL := Lib.hid hfl
      clear hlt f5 hb hlt5 hfl a b1 c1 d e5 q0 q1 q2 q3 q4 q5 q6 q7 hgl HC
      rename_i hlt
      go_wp2_with (at_builtin; refine wpList_apr rfl (.tmp 16) (.tmp 22) 25 rfl tbF (own_kept0 HRO.out (F50.out.trans (by (repeat first | exact Fr.refl _ _ | exact Fr.drewN _ _ _ | apply Fr.drew | apply Fr.alloc | apply Fr.setAt | apply Fr.moreN)) (fun _ _ h => h))) (built8 w5 (.string ⟨n.toArray⟩) (.int .u8 y.k.toNat) (.bool y.b) (.int .i64 y.i) (.string ⟨y.t.toArray⟩) (.slice (some ⟨gB, 0, none⟩) y.bs.length (y.bs.length + 2)) (.slice (some ⟨gL, 0, none⟩) y.l.length (y.l.length + 1)) (.slice (some ⟨gF, 0, none⟩) y.f.length (y.f.length + 1)) 87) rfl rfl (by intro u hu; simp only [List.mem_cons, List.not_mem_nil, or_false] at hu; rcases hu with rfl | rfl | rfl | rfl | rfl | rfl | rfl | rfl <;> rfl) (by omega) ?goyf)
      case goyf =>
        intro N w7 hN ho7 hf7
        subst hN
        rw [← HFL.out] at ho7
        have f57 : Fr (fun k => k = w.heap.size) w5 w7 := ((by (repeat first | exact Fr.refl _ _ | exact Fr.drewN _ _ _ | apply Fr.drew | apply Fr.alloc | apply Fr.setAt | apply Fr.moreN) : Fr no w5 _).mono (fun _ _ h => h.elim)).trans hf7 (fun _ _ h => h)
        have hg := HG.out
        have hys7 : ∀ z ∈ ys ++ [(n, y)], LT wm.heap.size w7 z.2 := fun z hz => by
          rcases List.mem_append.1 hz with hz | hz
          · exact ((HYS.out z hz).kept0 F50.out).kept f57 (fun k hk => by omega)
          · simp only [List.mem_singleton] at hz
            subst hz
            exact HLT.out.kept f57 (fun k hk => by omega)
        have hfr7 : Fr no w w7 := (FR.out.trans F50.out (fun _ _ h => h)).trans f57 (fun k hk h => by omega)
        have hb7 := take_snoc_len (y := (n, y)) (f := (fun p : List UInt8 × Tr Mm => (p.1, bare p.2))) (h := (fun p : List UInt8 × Tr Mm => (p.1, bare p.2))) hlt HBS.out HB.out
        have hs7 : wm.heap.size ≤ w7.heap.size := Nat.le_trans HSZ.out (Nat.le_trans F50.out.size f57.size)
        have HO7 := Lib.hid ho7; have HY7 := Lib.hid hys7; have F7 := Lib.hid hfr7; have HB7 := Lib.hid hb7; have HS7 := Lib.hid hs7
        clear ho7 hf7 f57 hys7 hfr7 hb7 hs7 hg
        go_wp2
        go_roundw
        case rel => exact ⟨ys ++ [(n, y)], by rw [List.length_append]; exact hlt, by rw [List.length_append]; rfl, by first | (rw [List.length_append]; rfl) | (rw [List.length_append]; go_num), by rw [List.length_append]; exact HO7.out, by rw [List.length_append]; exact HB7.out, HY7.out, F7.out, HS7.out⟩
        case measure => simp [intOf]; omega
    · have hle : ys.length = l.length := by omega
      have HLE := Lib.hid hle
      clear hle hj
      go_wp2_with (at_builtin; refine wpList_apr rfl (.tmp 24) (.tmp 26) 25 rfl tbF (own_kept0 HRO.out (by (repeat first | exact Fr.refl _ _ | exact Fr.drewN _ _ _ | apply Fr.drew | apply Fr.alloc | apply Fr.setAt | apply Fr.moreN))) (built8 wr (.string ⟨#[116, 104, 101, 32, 111, 119, 110, 101, 114, 39, 115]⟩) (.int .u8 0) (.bool false) (.int .i64 0) (.string ⟨#[]⟩) (.slice none 0 0) (.slice none 0 0) (.slice none 0 0) 87) rfl rfl (by intro u hu; simp only [List.mem_cons, List.not_mem_nil, or_false] at hu; rcases hu with rfl | rfl | rfl | rfl | rfl | rfl | rfl | rfl <;> rfl) (by have := HLE.out; omega) ?enyf)
      case enyf =>
        intro N w7 hN ho7 hf7
        subst hN
        have f57 : Fr (fun k => k = w.heap.size) wr w7 := ((by (repeat first | exact Fr.refl _ _ | exact Fr.drewN _ _ _ | apply Fr.drew | apply Fr.alloc | apply Fr.setAt | apply Fr.moreN) : Fr no wr _).mono (fun _ _ h => h.elim)).trans hf7 (fun _ _ h => h)
        have hg := HG.out
        have hys7 : ∀ z ∈ ys, LT wm.heap.size w7 z.2 := fun z hz => (HYS.out z hz).kept f57 (fun k hk => by omega)
        have hfr7 : Fr no w w7 := FR.out.trans f57 (fun k hk h => by omega)
        have HO7 := Lib.hid ho7; have HY7 := Lib.hid hys7; have F7 := Lib.hid hfr7
        clear ho7 hf7 f57 hys7 hfr7 hg
        have hle := HLE.out
        have hcl : l.length ≤ l.length + 1 := by omega
        clear hle
        go_wp2
        go_ret
        refine ⟨_, w.heap.size, ys, rfl, ⟨by rw [HLE.out]; rfl, Nat.le_refl _, ?_, ?_⟩, by rw [HBS.out, HLE.out, List.take_length], fun z hz => (HY7.out z hz).lower (Nat.le_of_lt HG.out), F7.out⟩
        · have h := HO7.out
          rw [← HLE.out] at h
          exact Ow.of_own h
        · have h := HRO.out.1
          exact h

def set8 (w : World) (g : Nat) (v0 v1 v2 v3 v4 v5 v6 v7 : Value) : World := (((((((w.setCell ⟨g, 0, none⟩ v0).setCell ⟨g, 1, none⟩ v1).setCell ⟨g, 2, none⟩ v2).setCell ⟨g, 3, none⟩ v3).setCell ⟨g, 4, none⟩ v4).setCell ⟨g, 5, none⟩ v5).setCell ⟨g, 6, none⟩ v6).setCell ⟨g, 7, none⟩ v7
set_option maxHeartbeats 8000000 in
theorem set8_row {w : World} {g : Nat} {v0 v1 v2 v3 v4 v5 v6 v7 u0 u1 u2 u3 u4 u5 u6 u7 : Value} {T : TypeId} (hr : w.heap[g]? = some (.cells #[u0, u1, u2, u3, u4, u5, u6, u7] T (0, 0))) : (set8 w g v0 v1 v2 v3 v4 v5 v6 v7).heap[g]? = some (.cells #[v0, v1, v2, v3, v4, v5, v6, v7] T (0, 0)) :=
  hp_same (hp_same (hp_same (hp_same (hp_same (hp_same (hp_same (hp_same hr _ _) _ _) _ _) _ _) _ _) _ _) _ _) _ _
set_option maxHeartbeats 8000000 in
theorem set8_fr (w : World) (g : Nat) (v0 v1 v2 v3 v4 v5 v6 v7 : Value) : Fr (fun k => k = g) w (set8 w g v0 v1 v2 v3 v4 v5 v6 v7) := by
  unfold set8
  exact (((((((Fr.setCell (Fr.refl (fun k => k = g) w) _ _ (fun _ => rfl)).setCell _ _ (fun _ => rfl)).setCell _ _ (fun _ => rfl)).setCell _ _ (fun _ => rfl)).setCell _ _ (fun _ => rfl)).setCell _ _ (fun _ => rfl)).setCell _ _ (fun _ => rfl)).setCell _ _ (fun _ => rfl)

set_option maxRecDepth 100000 in
set_option maxHeartbeats 4000000 in
theorem lentf_of (p : List UInt8 × Tr Mm) (ih : LentOk p.2) : LentFOk p := by
  obtain ⟨n, x⟩ := p
  intro w hx
  obtain ⟨BA, bc, LA, lc, FA, fc, hf⟩ := hx.node.forms
  have hcall := fun W (f : Fr no w W) => ih W (hx.kept0 f)
  simp only at hf hcall
  rw [hf.agg] at hcall
  have hfg : fagg (n, x) = .agg #[.string ⟨n.toArray⟩, .int .u8 x.k.toNat, .bool x.b, .int .i64 x.i, .string ⟨x.t.toArray⟩, .slice BA x.bs.length bc, .slice LA x.l.length lc, .slice FA x.f.length fc] := by unfold fagg; simp only; rw [hf.B, hf.L, hf.F]
  rw [hfg]
  obtain ⟨hA, hB⟩ := two_allocs w (.cells #[.string ⟨n.toArray⟩, .int .u8 x.k.toNat, .bool x.b, .int .i64 x.i, .string ⟨x.t.toArray⟩, .slice BA x.bs.length bc, .slice LA x.l.length lc, .slice FA x.f.length fc] 87) (.cells #[.string ⟨#[]⟩, .int .u8 0, .bool false, .int .i64 0, .string ⟨#[]⟩, .slice none 0 0, .slice none 0 0, .slice none 0 0] 87)
  have HC := Lib.hid hcall; have HB := Lib.hid hB
  clear hcall hfg hf hx ih hA hB
  go_enter Tryz.func68, Tryz.ntmps68
  go_wp2_with fail
  refine wp_region_ord (List.range 7) (fun i => [Kd.p, Kd.l, Kd.p, Kd.l, Kd.g, Kd.e, Kd.e].getD i .e) (by kernel_rfl) (by kernel_rfl) ?_
  iterate 4
    first | refine wpX_pu rfl rfl rfl (by first | exact pu_move rfl | exact pu_assign rfl | exact pu_nilCheck rfl rfl | exact pu_binInt rfl rfl rfl | exact pu_conv rfl rfl (by kernel_rfl) | exact pu_fld rfl (by kernel_rfl) | exact pu_ix rfl rfl rfl (by kernel_rfl) | exact pu_unOp rfl | exact pu_binStr rfl rfl rfl | exact pu_len rfl rfl | exact pu_lens rfl rfl | exact pu_pick rfl | exact pu_slice rfl rfl) (fun K hK => ?_) | refine wpX_rd rfl rfl rfl (rd_load rfl) (fun K hK => ?_) | refine wpX_gr rfl rfl rfl (by first | exact gr_buildSlice rfl | exact gr_box rfl | exact gr_alloc rfl) (fun K hK => ?_) | refine wpX_ex rfl rfl rfl (fun K hK => ?_)
    try go_wp2
  refine wpX_ca rfl rfl rfl (fun K hK => ?_)
  go_wp2_with fail
  refine (HC.out _ (by (repeat first | exact Fr.refl _ _ | exact Fr.drewN _ _ _ | apply Fr.drew | apply Fr.alloc | apply Fr.setAt | apply Fr.moreN))).mono ?_
  rintro e w5 ⟨y, rfl, hb, hlt, f5⟩
  obtain ⟨gB, gL, gF, a, b1, c1, d, e5⟩ := hlt.opened
  rw [lent_agg a d.v e5.v]
  have hrow := ((by (repeat first | exact Fr.refl _ _ | exact Fr.drewN _ _ _ | apply Fr.drew | apply Fr.alloc | apply Fr.setAt | apply Fr.moreN) : Fr no ((w.alloc (.cells #[.string ⟨n.toArray⟩, .int .u8 x.k.toNat, .bool x.b, .int .i64 x.i, .string ⟨x.t.toArray⟩, .slice BA x.bs.length bc, .slice LA x.l.length lc, .slice FA x.f.length fc] 87)).alloc (.cells #[.string ⟨#[]⟩, .int .u8 0, .bool false, .int .i64 0, .string ⟨#[]⟩, .slice none 0 0, .slice none 0 0, .slice none 0 0] 87)) _).trans f5 (fun _ _ h => h)).heap HB.out (fun h => h)
  have gz : ∀ q, w5.frozen? ⟨w.heap.size + 1, q, none⟩ = false := fun q => by simp [World.frozen?, hrow]
  have gl := (Array.getElem?_eq_some_iff.1 hrow).1
  have rc : ∀ i, w5.cell? ⟨w.heap.size + 1, i, none⟩ = _ := fun i => cell_of_row w5 _ i _ _ (0, 0) hrow
  have r0 := rc 0; have r1 := rc 1; have r2 := rc 2; have r3 := rc 3; have r4 := rc 4; have r5 := rc 5; have r6 := rc 6; have r7 := rc 7
  simp only [List.getElem?_toArray, List.getElem?_cons_succ, List.getElem?_cons_zero] at r0 r1 r2 r3 r4 r5 r6 r7
  clear rc
  have hlo : ((w.alloc (.cells #[.string ⟨n.toArray⟩, .int .u8 x.k.toNat, .bool x.b, .int .i64 x.i, .string ⟨x.t.toArray⟩, .slice BA x.bs.length bc, .slice LA x.l.length lc, .slice FA x.f.length fc] 87)).alloc (.cells #[.string ⟨#[]⟩, .int .u8 0, .bool false, .int .i64 0, .string ⟨#[]⟩, .slice none 0 0, .slice none 0 0, .slice none 0 0] 87)).heap.size = w.heap.size + 2 := by simp
  have hlt2 : LT (w.heap.size + 2) w5 y := hlt.lower (by rw [← hlo]; exact Fr.size (by (repeat first | exact Fr.refl _ _ | exact Fr.drewN _ _ _ | apply Fr.drew | apply Fr.alloc | apply Fr.setAt | apply Fr.moreN) : Fr no ((w.alloc (.cells #[.string ⟨n.toArray⟩, .int .u8 x.k.toNat, .bool x.b, .int .i64 x.i, .string ⟨x.t.toArray⟩, .slice BA x.bs.length bc, .slice LA x.l.length lc, .slice FA x.f.length fc] 87)).alloc (.cells #[.string ⟨#[]⟩, .int .u8 0, .bool false, .int .i64 0, .string ⟨#[]⟩, .slice none 0 0, .slice none 0 0, .slice none 0 0] 87)) _))
  have F50 := Lib.hid f5; have F5 := Lib.hid ((by (repeat first | exact Fr.refl _ _ | exact Fr.drewN _ _ _ | apply Fr.drew | apply Fr.alloc | apply Fr.setAt | apply Fr.moreN) : Fr no w _).trans f5 (fun _ _ h => h)); have HBB := Lib.hid hb; have HLT := Lib.hid hlt2; have HROW := Lib.hid hrow; have HFA := Lib.hid (lent_fagg (n := n) a d.v e5.v)
  clear f5 hb hlt hlt2 hlo hrow a b1 c1 d e5
  go_wp2
  obtain ⟨⟨ea, eb⟩, hext⟩ := F50.out.ext
  refine ⟨⟨ea, eb, hext⟩, hK _ _ ?_⟩
  clear hK K hext ea eb
  refine wpX_ex rfl rfl rfl (fun K hK => ?_)
  go_simp
  refine hK _ _ ?_
  clear hK K
  refine wpX_ex rfl rfl rfl (fun K hK => ?_)
  go_simp
  refine hK _ _ ?_
  clear hK K
  refine wpX_done ?_
  go_wp2
  have hset := set8_row (v0 := .string ⟨n.toArray⟩) (v1 := .int .u8 y.k.toNat) (v2 := .bool y.b) (v3 := .int .i64 y.i) (v4 := .string ⟨y.t.toArray⟩) (v5 := .slice (some ⟨gB, 0, none⟩) y.bs.length (y.bs.length + 2)) (v6 := .slice (some ⟨gL, 0, none⟩) y.l.length (y.l.length + 1)) (v7 := .slice (some ⟨gF, 0, none⟩) y.f.length (y.f.length + 1)) HROW.out
  have hsf := set8_fr w5 (w.heap.size + 1) (.string ⟨n.toArray⟩) (.int .u8 y.k.toNat) (.bool y.b) (.int .i64 y.i) (.string ⟨y.t.toArray⟩) (.slice (some ⟨gB, 0, none⟩) y.bs.length (y.bs.length + 2)) (.slice (some ⟨gL, 0, none⟩) y.l.length (y.l.length + 1)) (.slice (some ⟨gF, 0, none⟩) y.f.length (y.f.length + 1))
  unfold set8 at hset hsf
  refine bodyPost_ret (results_cell_row (P := Tryz.prog) rfl _ _ (w.heap.size + 1) 87 _ (0, 0) _ rfl hset Tryz.underlying87 rfl (by kernel_rfl)) rfl ?_
  exact ⟨(n, y), by rw [HFA.out], by rw [HBB.out], (HLT.out.kept hsf (fun k hk h => by have h : k = w.heap.size + 1 := h; omega)).lower (by omega), F5.out.trans hsf (fun k hk h => by have h : k = w.heap.size + 1 := h; omega)⟩

set_option maxRecDepth 100000 in
set_option maxHeartbeats 8000000 in
theorem lentv_any (x : Tr Mm) : LentOk x := by
  induction x using Tr.ind with
  | h x ih =>
    intro w hx
    obtain ⟨BA, bc, LA, lc, FA, fc, hf⟩ := hx.node.forms
    have hnb : x.bs.length ≤ 140737488351232 := hx.node.bs
    have hb := fun W (f : Fr no w W) => lent_any W _ x.bs (hx.kept0 f).node.B hnb
    have hl := fun W (f : Fr no w W) => lentvs_of x.l (fun y hy => ih y (List.mem_append_left _ hy)) W _ (hx.kept0 f).inL
    have hff := fun W (f : Fr no w W) => lentfs_of x.f (fun p hp => lentf_of p (ih p.2 (List.mem_append_right _ (List.mem_map_of_mem hp)))) W _ (hx.kept0 f).inF
    rw [hf.B] at hb; rw [hf.L] at hl; rw [hf.F] at hff
    rw [hf.agg]
    obtain ⟨hA, hB⟩ := two_allocs w (.cells #[.int .u8 x.k.toNat, .bool x.b, .int .i64 x.i, .string ⟨x.t.toArray⟩, .slice BA x.bs.length bc, .slice LA x.l.length lc, .slice FA x.f.length fc] 27) (.cells #[.int .u8 0, .bool false, .int .i64 0, .string ⟨#[]⟩, .slice none 0 0, .slice none 0 0, .slice none 0 0] 27)
    have HCB := Lib.hid hb; have HCL := Lib.hid hl; have HCF := Lib.hid hff; have HB := Lib.hid hB
    clear hb hl hff hA hB hf ih hx
    go_enter Tryz.func6, Tryz.ntmps6
    go_wp2_with fail
    refine wp_region_ord [0, 1, 2, 3, 4, 5, 6, 7, 8, 9, 11, 12, 14, 15, 10, 13, 16, 17, 18] (fun i => [Kd.p, Kd.l, Kd.p, Kd.l, Kd.p, Kd.l, Kd.p, Kd.l, Kd.p, Kd.l, Kd.g, Kd.p, Kd.l, Kd.g, Kd.p, Kd.l, Kd.g, Kd.e, Kd.e].getD i .e) (by kernel_rfl) (by kernel_rfl) ?_
    iterate 14
      first | refine wpX_pu rfl rfl rfl (by first | exact pu_move rfl | exact pu_assign rfl | exact pu_nilCheck rfl rfl | exact pu_binInt rfl rfl rfl | exact pu_conv rfl rfl (by kernel_rfl) | exact pu_fld rfl (by kernel_rfl) | exact pu_ix rfl rfl rfl (by kernel_rfl) | exact pu_unOp rfl | exact pu_binStr rfl rfl rfl | exact pu_len rfl rfl | exact pu_lens rfl rfl | exact pu_pick rfl | exact pu_slice rfl rfl) (fun K hK => ?_) | refine wpX_rd rfl rfl rfl (rd_load rfl) (fun K hK => ?_) | refine wpX_gr rfl rfl rfl (by first | exact gr_buildSlice rfl | exact gr_box rfl | exact gr_alloc rfl) (fun K hK => ?_) | refine wpX_ex rfl rfl rfl (fun K hK => ?_)
      try go_wp2
    refine wpX_ca rfl rfl rfl (fun K hK => ?_)
    go_wp2_with fail
    refine (HCB.out _ (by (repeat first | exact Fr.refl _ _ | exact Fr.drewN _ _ _ | apply Fr.drew | apply Fr.alloc | apply Fr.setAt | apply Fr.moreN))).mono ?_
    rintro e w1 ⟨gB, rfl, hgB, hLB, f1⟩
    have hsz : ((w.alloc (.cells #[.int .u8 x.k.toNat, .bool x.b, .int .i64 x.i, .string ⟨x.t.toArray⟩, .slice BA x.bs.length bc, .slice LA x.l.length lc, .slice FA x.f.length fc] 27)).alloc (.cells #[.int .u8 0, .bool false, .int .i64 0, .string ⟨#[]⟩, .slice none 0 0, .slice none 0 0, .slice none 0 0] 27)).heap.size = w.heap.size + 2 := by simp
    have hgB2 : w.heap.size + 2 ≤ gB := by rw [← hsz]; exact Nat.le_trans (Fr.size (by (repeat first | exact Fr.refl _ _ | exact Fr.drewN _ _ _ | apply Fr.drew | apply Fr.alloc | apply Fr.setAt | apply Fr.moreN) : Fr no ((w.alloc (.cells #[.int .u8 x.k.toNat, .bool x.b, .int .i64 x.i, .string ⟨x.t.toArray⟩, .slice BA x.bs.length bc, .slice LA x.l.length lc, .slice FA x.f.length fc] 27)).alloc (.cells #[.int .u8 0, .bool false, .int .i64 0, .string ⟨#[]⟩, .slice none 0 0, .slice none 0 0, .slice none 0 0] 27)) _)) hgB
    have F10 := Lib.hid f1; have F1 := Lib.hid ((by (repeat first | exact Fr.refl _ _ | exact Fr.drewN _ _ _ | apply Fr.drew | apply Fr.alloc | apply Fr.setAt | apply Fr.moreN) : Fr no ((w.alloc (.cells #[.int .u8 x.k.toNat, .bool x.b, .int .i64 x.i, .string ⟨x.t.toArray⟩, .slice BA x.bs.length bc, .slice LA x.l.length lc, .slice FA x.f.length fc] 27)).alloc (.cells #[.int .u8 0, .bool false, .int .i64 0, .string ⟨#[]⟩, .slice none 0 0, .slice none 0 0, .slice none 0 0] 27)) _).trans f1 (fun _ _ h => h)); have HGB := Lib.hid hgB2; have HLB := Lib.hid hLB; have HSZ := Lib.hid hsz
    clear hgB hgB2 hLB f1 hsz
    go_wp2
    obtain ⟨⟨ea, eb⟩, hext⟩ := F10.out.ext
    refine ⟨⟨ea, eb, hext⟩, hK _ _ ?_⟩
    clear hK K hext ea eb
    refine wpX_ca rfl rfl rfl (fun K hK => ?_)
    go_wp2_with fail
    refine (HCL.out _ ((by (repeat first | exact Fr.refl _ _ | exact Fr.drewN _ _ _ | apply Fr.drew | apply Fr.alloc | apply Fr.setAt | apply Fr.moreN) : Fr no w ((w.alloc (.cells #[.int .u8 x.k.toNat, .bool x.b, .int .i64 x.i, .string ⟨x.t.toArray⟩, .slice BA x.bs.length bc, .slice LA x.l.length lc, .slice FA x.f.length fc] 27)).alloc (.cells #[.int .u8 0, .bool false, .int .i64 0, .string ⟨#[]⟩, .slice none 0 0, .slice none 0 0, .slice none 0 0] 27))).trans F1.out (fun _ _ h => h))).mono ?_
    rintro e w2 ⟨VL, gL, yl, rfl, hRL, hyl, hTL, f2⟩
    obtain rfl := hRL.v
    have hl1 : w.heap.size + 2 ≤ w1.heap.size := by rw [← HSZ.out]; exact F1.out.size
    have F20 := Lib.hid f2; have F12 := Lib.hid f2; have F2 := Lib.hid (F1.out.trans f2 (fun _ _ h => h)); have HRL := Lib.hid hRL; have HYL := Lib.hid hyl; have HTL := Lib.hid hTL; have HL1 := Lib.hid hl1
    clear hRL hyl hTL f2 hl1
    go_wp2
    obtain ⟨⟨ea, eb⟩, hext⟩ := F20.out.ext
    refine ⟨⟨ea, eb, hext⟩, hK _ _ ?_⟩
    clear hK K hext ea eb
    refine wpX_ca rfl rfl rfl (fun K hK => ?_)
    go_wp2_with fail
    refine (HCF.out _ ((by (repeat first | exact Fr.refl _ _ | exact Fr.drewN _ _ _ | apply Fr.drew | apply Fr.alloc | apply Fr.setAt | apply Fr.moreN) : Fr no w ((w.alloc (.cells #[.int .u8 x.k.toNat, .bool x.b, .int .i64 x.i, .string ⟨x.t.toArray⟩, .slice BA x.bs.length bc, .slice LA x.l.length lc, .slice FA x.f.length fc] 27)).alloc (.cells #[.int .u8 0, .bool false, .int .i64 0, .string ⟨#[]⟩, .slice none 0 0, .slice none 0 0, .slice none 0 0] 27))).trans F2.out (fun _ _ h => h))).mono ?_
    rintro e w3 ⟨VF, gF, yf, rfl, hRF, hyf, hTF, f3⟩
    obtain rfl := hRF.v
    have hl2 : w.heap.size + 2 ≤ w2.heap.size := by rw [← HSZ.out]; exact F2.out.size
    have F30 := Lib.hid f3; have F23 := Lib.hid f3; have F3 := Lib.hid (F2.out.trans f3 (fun _ _ h => h)); have HRF := Lib.hid hRF; have HYF := Lib.hid hyf; have HTF := Lib.hid hTF; have HL2 := Lib.hid hl2
    clear hRF hyf hTF f3 hl2
    go_wp2
    obtain ⟨⟨ea, eb⟩, hext⟩ := F30.out.ext
    refine ⟨⟨ea, eb, hext⟩, hK _ _ ?_⟩
    clear hK K hext ea eb
    have hrow := F3.out.heap HB.out (fun h => h)
    have gz : ∀ q, w3.frozen? ⟨w.heap.size + 1, q, none⟩ = false := fun q => by simp [World.frozen?, hrow]
    have gl := (Array.getElem?_eq_some_iff.1 hrow).1
    have rc : ∀ i, w3.cell? ⟨w.heap.size + 1, i, none⟩ = _ := fun i => cell_of_row w3 _ i _ _ (0, 0) hrow
    have r0 := rc 0; have r1 := rc 1; have r2 := rc 2; have r3 := rc 3; have r4 := rc 4; have r5 := rc 5; have r6 := rc 6
    simp only [List.getElem?_toArray, List.getElem?_cons_succ, List.getElem?_cons_zero] at r0 r1 r2 r3 r4 r5 r6
    clear rc
    have HROW := Lib.hid hrow
    clear hrow
    refine wpX_ex rfl rfl rfl (fun K hK => ?_)
    go_simp
    refine hK _ _ ?_
    clear hK K
    refine wpX_ex rfl rfl rfl (fun K hK => ?_)
    go_simp
    refine hK _ _ ?_
    clear hK K
    refine wpX_done ?_
    go_wp2
    have hset := set7_row (a := .int .u8 x.k.toNat) (b := .bool x.b) (c := .int .i64 x.i) (d := .string ⟨x.t.toArray⟩) (e := .slice (some ⟨gB, 0, none⟩) x.bs.length (x.bs.length + 2)) (f := .slice (some ⟨gL, 0, none⟩) yl.length (yl.length + 1)) (h := .slice (some ⟨gF, 0, none⟩) yf.length (yf.length + 1)) HROW.out
    have hsf := set7_fr w3 (w.heap.size + 1) (.int .u8 x.k.toNat) (.bool x.b) (.int .i64 x.i) (.string ⟨x.t.toArray⟩) (.slice (some ⟨gB, 0, none⟩) x.bs.length (x.bs.length + 2)) (.slice (some ⟨gL, 0, none⟩) yl.length (yl.length + 1)) (.slice (some ⟨gF, 0, none⟩) yf.length (yf.length + 1))
    unfold set7 at hset hsf
    refine bodyPost_ret (results_cell_row (P := Tryz.prog) rfl _ _ (w.heap.size + 1) 27 _ (0, 0) _ rfl hset Tryz.underlying27 rfl (by kernel_rfl)) rfl ?_
    have hno : ∀ k, w.heap.size + 2 ≤ k → ¬ k = w.heap.size + 1 := fun k hk h => by omega
    refine ⟨.mk x.k x.b x.i x.t x.bs (.slice (some ⟨gB, 0, none⟩) x.bs.length (x.bs.length + 2), .slice (some ⟨gL, 0, none⟩) yl.length (yl.length + 1), .slice (some ⟨gF, 0, none⟩) yf.length (yf.length + 1)) yl yf, rfl, ?_, ?_, ((by (repeat first | exact Fr.refl _ _ | exact Fr.drewN _ _ _ | apply Fr.drew | apply Fr.alloc | apply Fr.setAt | apply Fr.moreN) : Fr no w ((w.alloc (.cells #[.int .u8 x.k.toNat, .bool x.b, .int .i64 x.i, .string ⟨x.t.toArray⟩, .slice BA x.bs.length bc, .slice LA x.l.length lc, .slice FA x.f.length fc] 27)).alloc (.cells #[.int .u8 0, .bool false, .int .i64 0, .string ⟨#[]⟩, .slice none 0 0, .slice none 0 0, .slice none 0 0] 27))).trans F3.out (fun _ _ h => h)).trans hsf (fun k hk h => by have h : k = w.heap.size + 1 := h; omega)⟩
    · exact (bare_same _ _).2 ⟨rfl, rfl, rfl, rfl, rfl, HYL.out, HYF.out⟩
    · have h1 : Lent _ gB x.bs := (((HLB.out.kept F12.out (fun h => h)).kept F23.out (fun h => h))).kept hsf (fun h => hno gB HGB.out h)
      exact LT.lower ⟨_, gB, gL, gF, rfl, HGB.out, h1, (((HRL.out.lower HL1.out).kept F23.out (fun _ _ h => h)).kept hsf hno), ((HRF.out.lower HL2.out).kept hsf hno), fun y hy => by
        rcases List.mem_append.1 hy with hy | hy
        · exact (((HTL.out y hy).lower HL1.out).kept0 F23.out).kept hsf hno
        · obtain ⟨p, hp, rfl⟩ := List.mem_map.1 hy
          exact ((HTF.out p hp).lower HL2.out).kept hsf hno⟩ (by omega)
end Go.Proofs.YtijcleiekafoiaaGreatDoor
