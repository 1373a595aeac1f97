/- law16: the first pair behind a place; what a buffer asks. -/
import Derived.Test.YtdnohhlgaaihmaaBuf7
namespace Go.Proofs.Ytdnohhlgaaihmaa
open Go.RowKit

/-- Two cells of a block set. -/
def set2 (w : World) (g : Nat) (a b : Value) : World := (w.setCell ⟨g, 0, none⟩ a).setCell ⟨g, 1, none⟩ b
theorem set2_fr (w : World) (g : Nat) (a b : Value) : Fr (fun k => k = g) w (set2 w g a b) :=
  Fr.setCell (Fr.setCell (Fr.refl (fun k => k = g) w) ⟨g, 0, none⟩ a (fun _ => rfl)) ⟨g, 1, none⟩ b (fun _ => rfl)
theorem set2_row {w : World} {g : Nat} {a b x y : Value} {T : TypeId} (h : w.heap[g]? = some (.cells #[x, y] T (0, 0))) : (set2 w g a b).heap[g]? = some (.cells #[a, b] T (0, 0)) :=
  hp_same (hp_same h 0 a) 1 b

theorem results_cell_row3 {P : Program} {fn : Func} {p u v : Tmp} {ty : TypeId} (h : fn.results = #[.cell p ty, .tmp u, .tmp v]) (tmps : Array Value) (w : World) (g : Nat) (t : TypeId) (cs : Array Value) (fr : Nat × Nat) (d : TypeDesc)
    (hp : tmps.getD p undef = .pointer (some ⟨g, 0, none⟩)) (hg : w.heap[g]? = some (.cells cs t fr))
    (hu : P.underlying ty = some d) (hd : (match d with | .struct _ | .array _ _ => true | _ => false) = true) (hi : (P.info? ty).map (·.size) = some cs.size) :
    (results fn tmps).run P w = .ok (.tuple #[.agg cs, tmps.getD u undef, tmps.getD v undef]) w := by
  have hp' : tmps[p]?.getD undef = .pointer (some ⟨g, 0, none⟩) := by simpa using hp
  simp [results, h, hp', asAddr, Result.andThen, run_loadVar_row w g t ty cs fr d hg hu hd hi]

/-- A pair, or none. -/
def pairE : Option PrV → Value
  | some y => .tuple #[.agg #[y.K, y.V], .bool true]
  | none => .tuple #[.agg #[.slice none 0 0, .slice none 0 0], .bool false]

theorem find_first {α : Type} (p : α → Bool) (l : List α) (j : Nat) (hj : j < l.length) (h : p l[j] = true) (hno : ∀ m (h : m < l.length), m < j → p l[m] = false) : l.find? p = some l[j] := by
  induction l generalizing j with
  | nil => simp at hj
  | cons a l ih =>
    cases j with
    | zero => simp only [List.getElem_cons_zero] at h ⊢; rw [List.find?_cons_of_pos h]
    | succ j =>
      have h0 := hno 0 (by simp) (by omega)
      simp only [List.getElem_cons_zero] at h0
      rw [List.find?_cons_of_neg (by simp [h0])]
      exact ih j (by simpa using hj) h (fun m hm h2 => hno (m + 1) (Nat.succ_lt_succ hm) (by omega))
theorem find_last {α : Type} (p : α → Bool) (l : List α) (j : Nat) (hj : j < l.length) (h : p l[j] = true) (hno : ∀ m (h : m < l.length), j < m → p l[m] = false) : l.reverse.find? p = some l[j] := by
  have e := find_first p l.reverse (l.length - 1 - j) (by simp; omega) (by rw [List.getElem_reverse]; simp only [show l.length - 1 - (l.length - 1 - j) = j by omega]; exact h) (fun m hm h2 => by
    rw [List.getElem_reverse]
    exact hno _ (by simp at hm; omega) (by simp at hm; omega))
  rw [e, List.getElem_reverse]
  simp only [show l.length - 1 - (l.length - 1 - j) = j by omega]

set_option maxRecDepth 100000 in
set_option maxHeartbeats 4000000 in
theorem after_any (w : World) (X F : Value) (l : List PrV) (f : List UInt8) (b : Bool) (hx : Pairs w X l) (hF : Sl w 1 F f.length (bvs f)) :
    Calls Try.prog 63 #[X, F, .bool b] w fun e w' => e = .returned (pairE ((l.find? fun y => abv y.k f b))) ∧ Fr no w w' := by
  obtain ⟨A, c, rfl, hc1, _⟩ := hx.sl.form
  have hn := hx.n
  have HX := Lib.hid hx; have HF := Lib.hid hF; clear hx hF
  go_enter Try.func63, Try.ntmps63
  go_wp2_with fail
  have hN := heap_alloc_new w (.cells #[.slice none 0 0, .slice none 0 0] 40)
  have hf := (Fr.refl no w).alloc (.cells #[.slice none 0 0, .slice none 0 0] 40)
  generalize hg : w.heap.size = g at hN ⊢
  generalize w.alloc (.cells #[.slice none 0 0, .slice none 0 0] 40) = w1 at hN hf ⊢
  have hg2 := Nat.le_of_eq hg
  have HG := Lib.hid hg2; have HN := Lib.hid hN; have F1 := Lib.hid hf; clear hN hf hg hg2
  go_loopw [8] (fun i wr => ∃ j : Nat, j ≤ l.length ∧ i = .int .i64 j ∧ Fr no w wr ∧ wr.heap[g]? = some (.cells #[.slice none 0 0, .slice none 0 0] 40 (0, 0)) ∧ ∀ m (h : m < l.length), m < j → abv l[m].k f b = false) (fun i _ => l.length - (intOf i).toNat)
  case atStart => exact ⟨0, Nat.zero_le _, rfl, F1.out, HN.out, fun m h h0 => by omega⟩
  case round =>
    obtain ⟨j, hj, rfl, hf, hr, hno⟩ := hrel
    have HFr := Lib.hid hf; have HR := Lib.hid hr; have HNO := Lib.hid hno; clear hf hr hno
    by_cases hlt : j < l.length
    · cases hcc : abv l[j].k f b with
      | true =>
        have HC := Lib.hid hcc
        obtain ⟨bb, o, KA, kc, VA, vc, rfl, _, q0, q1, hgo, hkk, hvv⟩ := (HX.out.kept0 HFr.out).at j hlt
        have HGO := Lib.hid hgo; have HKV := Lib.hid (And.intro hkk hvv); clear hgo hkk hvv
        have he : (l.find? fun y => abv y.k f b) = some l[j] := find_first (fun y => abv y.k f b) l j hlt hcc HNO.out
        have HE := Lib.hid he; clear he
        obtain ⟨c0, c1, hz, hlt2⟩ := two_cells HR.out
        go_wp2_with fail
        refine (above_any wr _ F l[j].k f b HGO.out.K (HF.out.kept0 HFr.out)).mono ?_
        rintro e w2 ⟨rfl, rfl⟩
        rw [HC.out]
        go_wp2
        have hg3 := set2_row (a := .slice KA l[j].k.length kc) (b := .slice VA l[j].v.length vc) HR.out
        have fs := set2_fr w2 g (.slice KA l[j].k.length kc) (.slice VA l[j].v.length vc)
        rw [show (w2.setCell ⟨g, 0, none⟩ (.slice KA l[j].k.length kc)).setCell ⟨g, 1, none⟩ (.slice VA l[j].v.length vc) = set2 w2 g (.slice KA l[j].k.length kc) (.slice VA l[j].v.length vc) from rfl]
        generalize set2 w2 g (.slice KA l[j].k.length kc) (.slice VA l[j].v.length vc) = w3 at hg3 fs ⊢
        refine bodyPost_ret (results_cell_row2 rfl _ _ g _ #[.slice KA l[j].k.length kc, .slice VA l[j].v.length vc] (0, 0) _ rfl hg3 Try.underlying40 rfl (by kernel_rfl)) rfl ?_
        refine ⟨by rw [HE.out]; simp only [pairE, HKV.out.1, HKV.out.2]; rfl, HFr.out.trans fs (fun k hk e => by have := HG.out; omega)⟩
      | false =>
        have HC := Lib.hid hcc; clear hcc
        obtain ⟨bb, o, KA, kc, VA, vc, rfl, _, q0, q1, hgo, hkk, hvv⟩ := (HX.out.kept0 HFr.out).at j hlt
        have HGO := Lib.hid hgo; have HKV := Lib.hid (And.intro hkk hvv); clear hgo hkk hvv
        go_wp2_with fail
        refine (above_any wr _ F l[j].k f b HGO.out.K (HF.out.kept0 HFr.out)).mono ?_
        rintro e w2 ⟨rfl, rfl⟩
        rw [HC.out]
        go_wp2
        go_roundw
        case rel => exact ⟨j + 1, by omega, by first | rfl | go_num, HFr.out, HR.out, fun m h hm => by rcases Nat.lt_succ_iff_lt_or_eq.1 hm with h2 | rfl; exact HNO.out m h h2; exact HC.out⟩
        case measure => simp [intOf]; omega
    · obtain rfl : j = l.length := by omega
      have he : (l.find? fun y => abv y.k f b) = none := List.find?_eq_none.2 (fun y hy => by obtain ⟨m, hm, rfl⟩ := List.getElem_of_mem hy; simp [HNO.out m hm (by omega)])
      have HE := Lib.hid he; clear he
      obtain ⟨c0, c1, hz, hlt2⟩ := two_cells HR.out
      go_wp2
      have hg3 := set2_row (a := .slice none 0 0) (b := .slice none 0 0) HR.out
      have fs := set2_fr wr g (.slice none 0 0) (.slice none 0 0)
      rw [show (wr.setCell ⟨g, 0, none⟩ (.slice none 0 0)).setCell ⟨g, 1, none⟩ (.slice none 0 0) = set2 wr g (.slice none 0 0) (.slice none 0 0) from rfl]
      generalize set2 wr g (.slice none 0 0) (.slice none 0 0) = w3 at hg3 fs ⊢
      refine bodyPost_ret (results_cell_row2 rfl _ _ g _ #[.slice none 0 0, .slice none 0 0] (0, 0) _ rfl hg3 Try.underlying40 rfl (by kernel_rfl)) rfl ?_
      exact ⟨by rw [HE.out]; rfl, HFr.out.trans fs (fun k hk e => by have := HG.out; omega)⟩

set_option maxRecDepth 100000 in
set_option maxHeartbeats 4000000 in
theorem before_any (w : World) (X F : Value) (l : List PrV) (f : List UInt8) (b : Bool) (hx : Pairs w X l) (hF : Sl w 1 F f.length (bvs f)) :
    Calls Try.prog 67 #[X, F, .bool b] w fun e w' => e = .returned (pairE ((l.reverse.find? fun y => bel y.k f b))) ∧ Fr no w w' := by
  obtain ⟨A, c, rfl, hc1, _⟩ := hx.sl.form
  have hn := hx.n
  have HX := Lib.hid hx; have HF := Lib.hid hF; clear hx hF
  go_enter Try.func67, Try.ntmps67
  go_wp2_with fail
  have hN := heap_alloc_new w (.cells #[.slice none 0 0, .slice none 0 0] 40)
  have hf := (Fr.refl no w).alloc (.cells #[.slice none 0 0, .slice none 0 0] 40)
  generalize hg : w.heap.size = g at hN ⊢
  generalize w.alloc (.cells #[.slice none 0 0, .slice none 0 0] 40) = w1 at hN hf ⊢
  have hg2 := Nat.le_of_eq hg
  have HG := Lib.hid hg2; have HN := Lib.hid hN; have F1 := Lib.hid hf; clear hN hf hg hg2
  go_loopw [8] (fun i wr => ∃ j : Nat, j ≤ l.length ∧ i = .int .i64 ((j : Int) - 1) ∧ Fr no w wr ∧ wr.heap[g]? = some (.cells #[.slice none 0 0, .slice none 0 0] 40 (0, 0)) ∧ ∀ m (h : m < l.length), j ≤ m → bel l[m].k f b = false) (fun i _ => (intOf i + 1).toNat)
  case atStart => exact ⟨l.length, Nat.le_refl _, rfl, F1.out, HN.out, fun m h h0 => by omega⟩
  case round =>
    obtain ⟨j, hj, rfl, hf, hr, hno⟩ := hrel
    have HFr := Lib.hid hf; have HR := Lib.hid hr; have HNO := Lib.hid hno; clear hf hr hno
    rcases j with _ | j
    · have e1 : ((0 : Nat) : Int) - 1 = -1 := rfl
      rw [e1]; clear e1
      have he : (l.reverse.find? fun y => bel y.k f b) = none := List.find?_eq_none.2 (fun y hy => by obtain ⟨m, hm, rfl⟩ := List.getElem_of_mem (List.mem_reverse.1 hy); simp [HNO.out m hm (by omega)])
      have HE := Lib.hid he; clear he
      obtain ⟨c0, c1, hz, hlt2⟩ := two_cells HR.out
      go_wp2
      have hg3 := set2_row (a := .slice none 0 0) (b := .slice none 0 0) HR.out
      have fs := set2_fr wr g (.slice none 0 0) (.slice none 0 0)
      rw [show (wr.setCell ⟨g, 0, none⟩ (.slice none 0 0)).setCell ⟨g, 1, none⟩ (.slice none 0 0) = set2 wr g (.slice none 0 0) (.slice none 0 0) from rfl]
      generalize set2 wr g (.slice none 0 0) (.slice none 0 0) = w3 at hg3 fs ⊢
      refine bodyPost_ret (results_cell_row2 rfl _ _ g _ #[.slice none 0 0, .slice none 0 0] (0, 0) _ rfl hg3 Try.underlying40 rfl (by kernel_rfl)) rfl ?_
      exact ⟨by rw [HE.out]; rfl, HFr.out.trans fs (fun k hk e => by have := HG.out; omega)⟩
    · have e1 : ((j + 1 : Nat) : Int) - 1 = (j : Int) := by omega
      rw [e1]; clear e1
      have hlt : j < l.length := by omega
      cases hcc : bel l[j].k f b with
      | true =>
        have HC := Lib.hid hcc
        obtain ⟨bb, o, KA, kc, VA, vc, rfl, _, q0, q1, hgo, hkk, hvv⟩ := (HX.out.kept0 HFr.out).at j hlt
        have HGO := Lib.hid hgo; have HKV := Lib.hid (And.intro hkk hvv); clear hgo hkk hvv
        have he : (l.reverse.find? fun y => bel y.k f b) = some l[j] := find_last (fun y => bel y.k f b) l j hlt hcc (fun m h hm => HNO.out m h (by omega))
        have HE := Lib.hid he; clear he
        obtain ⟨c0, c1, hz, hlt2⟩ := two_cells HR.out
        go_wp2_with fail
        refine (below_any wr _ F l[j].k f b HGO.out.K (HF.out.kept0 HFr.out)).mono ?_
        rintro e w2 ⟨rfl, rfl⟩
        rw [HC.out]
        go_wp2
        have hg3 := set2_row (a := .slice KA l[j].k.length kc) (b := .slice VA l[j].v.length vc) HR.out
        have fs := set2_fr w2 g (.slice KA l[j].k.length kc) (.slice VA l[j].v.length vc)
        rw [show (w2.setCell ⟨g, 0, none⟩ (.slice KA l[j].k.length kc)).setCell ⟨g, 1, none⟩ (.slice VA l[j].v.length vc) = set2 w2 g (.slice KA l[j].k.length kc) (.slice VA l[j].v.length vc) from rfl]
        generalize set2 w2 g (.slice KA l[j].k.length kc) (.slice VA l[j].v.length vc) = w3 at hg3 fs ⊢
        refine bodyPost_ret (results_cell_row2 rfl _ _ g _ #[.slice KA l[j].k.length kc, .slice VA l[j].v.length vc] (0, 0) _ rfl hg3 Try.underlying40 rfl (by kernel_rfl)) rfl ?_
        refine ⟨by rw [HE.out]; simp only [pairE, HKV.out.1, HKV.out.2]; rfl, HFr.out.trans fs (fun k hk e => by have := HG.out; omega)⟩
      | false =>
        have HC := Lib.hid hcc; clear hcc
        obtain ⟨bb, o, KA, kc, VA, vc, rfl, _, q0, q1, hgo, hkk, hvv⟩ := (HX.out.kept0 HFr.out).at j hlt
        have HGO := Lib.hid hgo; have HKV := Lib.hid (And.intro hkk hvv); clear hgo hkk hvv
        go_wp2_with fail
        refine (below_any wr _ F l[j].k f b HGO.out.K (HF.out.kept0 HFr.out)).mono ?_
        rintro e w2 ⟨rfl, rfl⟩
        rw [HC.out]
        go_wp2
        go_roundw
        case rel => exact ⟨j, by omega, by first | rfl | go_num, HFr.out, HR.out, fun m h hm => by rcases Nat.eq_or_lt_of_le hm with h2 | h2; (subst h2; exact HC.out); exact HNO.out m h (by omega)⟩
        case measure => simp [intOf]
end Go.Proofs.Ytdnohhlgaaihmaa
