import Derived.Test.YtdnohhlgaaihmaaMd17
import Derived.Test.YtdnohhlgaaihmaaMd21
import Derived.Test.YtdnohhlgaaihmaaMd09

/- package buffer and the document's: what is said of a key, and behind and ahead of a place. (printed by mkasks.py) -/
namespace Go.Proofs.Ytdnohhlgaaihmaa
open Go.RowKit

def nextR (l : List SpV) (f : List UInt8) (i : Bool) : Option SpV := l[nextI l f i]?
def prevR (l : List SpV) (f : List UInt8) (i : Bool) : Option SpV := if prevI l f i < 0 then none else l[(prevI l f i).toNat]?

/-- A change that is handed out, in memory of its own. -/
def ChgOut (w w' : World) (r : Option SpV) (e : Ending) : Prop :=
  (r = none ∧ e = .returned (.tuple #[.agg #[.slice none 0 0, .slice none 0 0, .bool false], .bool false]) ∧ Fr no w w') ∨
  ∃ y, r = some y ∧ ∃ F T, e = .returned (.tuple #[.agg #[F, T, .bool y.o], .bool true]) ∧ Cpd w w' y F T

set_option maxRecDepth 100000 in
set_option maxHeartbeats 4000000 in
theorem bnextC_any (w : World) (p : Nat) (lv uv K : Value) (l : List SpV) (us : List Und) (f : List UInt8) (i : Bool) (hb : Bf w p lv l uv us) (hK : Sl w 1 K f.length (bvs f)) (hl : l.length ≤ 100000) :
    Calls Try.prog 73 #[.pointer (some ⟨p, 0, none⟩), K, .bool i] w fun e w' => ChgOut w w' (nextR l f i) e := by
  obtain ⟨A, c, rfl, _, _⟩ := hb.row.form
  have HB := Lib.hid hb; have HK := Lib.hid hK; clear hb hK
  go_enter Try.func73, Try.ntmps73
  go_wp2_with fail
  have hN := heap_alloc_new w (.cells #[.slice none 0 0, .slice none 0 0, .bool false] 36)
  have hf := (Fr.refl no w).alloc (.cells #[.slice none 0 0, .slice none 0 0, .bool false] 36)
  generalize hg : w.heap.size = g at hN ⊢
  generalize w.alloc (.cells #[.slice none 0 0, .slice none 0 0, .bool false] 36) = w1 at hN hf ⊢
  have hg2 := Nat.le_of_eq hg
  have HG := Lib.hid hg2; have HN := Lib.hid hN; have F1 := Lib.hid hf; clear hN hf hg hg2
  refine (bnexti_any w1 p _ _ K l us f i (HB.out.kept0 F1.out) (HK.out.kept0 F1.out) (by omega)).mono ?_
  rintro e w2 ⟨rfl, f2⟩
  have F2 := Lib.hid (F1.out.trans f2 (fun _ _ h => h)); have HN := Lib.hid (f2.heap HN.out (fun h => h)); have HGL := Lib.hid (Array.getElem?_eq_some_iff.1 HN.out).1; clear f2
  have hjl := nextI_le l f i
  obtain ⟨j, hj⟩ : ∃ j, nextI l f i = j := ⟨_, rfl⟩
  rw [hj] at hjl ⊢
  have HJ := Lib.hid hj; clear hj
  by_cases hlt : j = l.length
  · subst hlt
    have hr : nextR l f i = none := by unfold nextR; rw [HJ.out]; exact List.getElem?_eq_none (Nat.le_refl _)
    have HR := Lib.hid hr; clear hr
    obtain ⟨b0, b1, bz, blt⟩ := two_cells (HB.out.kept0 F2.out).at_
    obtain ⟨c0, c1, c2, hz, hlt3⟩ := three_cells HN.out
    go_wp2
    have hg3 := set3_row (a := .slice none 0 0) (b := .slice none 0 0) (c := .bool false) HN.out
    have fs := set3_fr w2 g (.slice none 0 0) (.slice none 0 0) (.bool false)
    rw [show ((w2.setCell ⟨g, 0, none⟩ (.slice none 0 0)).setCell ⟨g, 1, none⟩ (.slice none 0 0)).setCell ⟨g, 2, none⟩ (.bool false) = set3 w2 g (.slice none 0 0) (.slice none 0 0) (.bool false) from rfl]
    generalize set3 w2 g (.slice none 0 0) (.slice none 0 0) (.bool false) = w3 at hg3 fs ⊢
    refine bodyPost_ret (results_cell_row2 rfl _ _ g _ #[.slice none 0 0, .slice none 0 0, .bool false] (0, 0) _ rfl hg3 Try.underlying36 rfl (by kernel_rfl)) rfl ?_
    exact .inl ⟨HR.out, rfl, F2.out.trans fs (fun k hk e => by have := HG.out; omega)⟩
  · have hil : j < l.length := by omega
    have hr : nextR l f i = some l[j] := by unfold nextR; rw [HJ.out]; exact List.getElem?_eq_getElem hil
    have e0 : ((j : Int) == (l.length : Int)) = false := by simp; omega
    have HR := Lib.hid hr; clear hr hlt
    have hb2 := HB.out.kept0 F2.out
    obtain ⟨gg, og, hA, q0, q1, q2⟩ := Spans.at hb2.row.sl j hil
    obtain ⟨WF, wf, hWF, _, _⟩ := (hb2.good l[j] (List.getElem_mem _)).F.form
    obtain ⟨WT, wt, hWT, _, _⟩ := (hb2.good l[j] (List.getElem_mem _)).T.form
    have hgo := hb2.good l[j] (List.getElem_mem _)
    have hgo2 : SpV.Good w2 ⟨.slice WF l[j].f.length wf, .slice WT l[j].t.length wt, l[j].f, l[j].t, l[j].o⟩ := ⟨hWF ▸ hgo.F, hWT ▸ hgo.T, hgo.lf, hgo.lt⟩
    rw [hWF] at q0; rw [hWT] at q1
    subst hA
    obtain ⟨b0, b1, bz, blt⟩ := two_cells hb2.at_
    have HGO := Lib.hid hgo2; clear hgo hgo2 hWF hWT hb2
    go_wp2_with fail
    refine (copied_any w2 _ HGO.out).mono ?_
    rintro e w3 ⟨F, T, rfl, hc⟩
    have HC := Lib.hid hc; have HN := Lib.hid (hc.fr.heap HN.out (fun h => h)); clear hc q0 q1 q2 b0 b1 bz blt
    obtain ⟨F0, hF0⟩ := HC.out.fF; obtain ⟨T0, hT0⟩ := HC.out.fT
    subst hF0; subst hT0
    obtain ⟨c0, c1, c2, hz, hlt⟩ := three_cells HN.out
    go_wp2
    have hg3 := set3_row (a := .slice F0 l[j].f.length l[j].f.length) (b := .slice T0 l[j].t.length l[j].t.length) (c := .bool l[j].o) HN.out
    have fs := set3_fr w3 g (.slice F0 l[j].f.length l[j].f.length) (.slice T0 l[j].t.length l[j].t.length) (.bool l[j].o)
    rw [show ((w3.setCell ⟨g, 0, none⟩ (.slice F0 l[j].f.length l[j].f.length)).setCell ⟨g, 1, none⟩ (.slice T0 l[j].t.length l[j].t.length)).setCell ⟨g, 2, none⟩ (.bool l[j].o) = set3 w3 g (.slice F0 l[j].f.length l[j].f.length) (.slice T0 l[j].t.length l[j].t.length) (.bool l[j].o) from rfl]
    generalize set3 w3 g (.slice F0 l[j].f.length l[j].f.length) (.slice T0 l[j].t.length l[j].t.length) (.bool l[j].o) = w4 at hg3 fs ⊢
    refine bodyPost_ret (results_cell_row2 rfl _ _ g _ #[.slice F0 l[j].f.length l[j].f.length, .slice T0 l[j].t.length l[j].t.length, .bool l[j].o] (0, 0) _ rfl hg3 Try.underlying36 rfl (by kernel_rfl)) rfl ?_
    have hh := HC.out
    have s2 := F2.out.size; have s3 := hh.fr.size
    have hgl : g < w2.heap.size := HGL.out
    refine .inr ⟨_, HR.out, _, _, rfl, hh.oF.kept fs (fun k hk e => ?_), hh.oT.kept fs (fun k hk e => ?_), fun k hk => ?_, fun k hk => ?_, hh.ne, hh.fF, hh.fT, (F2.out.trans hh.fr (fun _ _ h => h)).trans fs (fun k hk e => by have := HG.out; omega)⟩
    · have := hh.nF k hk; omega
    · have := hh.nT k hk; omega
    · have := hh.nF k hk; omega
    · have := hh.nT k hk; omega

set_option maxRecDepth 100000 in
set_option maxHeartbeats 4000000 in
theorem bprevC_any (w : World) (p : Nat) (lv uv K : Value) (l : List SpV) (us : List Und) (f : List UInt8) (i : Bool) (hb : Bf w p lv l uv us) (hK : Sl w 1 K f.length (bvs f)) (hl : l.length ≤ 100000) :
    Calls Try.prog 75 #[.pointer (some ⟨p, 0, none⟩), K, .bool i] w fun e w' => ChgOut w w' (prevR l f i) e := by
  obtain ⟨A, c, rfl, _, _⟩ := hb.row.form
  have HB := Lib.hid hb; have HK := Lib.hid hK; clear hb hK
  go_enter Try.func75, Try.ntmps75
  go_wp2_with fail
  have hN := heap_alloc_new w (.cells #[.slice none 0 0, .slice none 0 0, .bool false] 36)
  have hf := (Fr.refl no w).alloc (.cells #[.slice none 0 0, .slice none 0 0, .bool false] 36)
  generalize hg : w.heap.size = g at hN ⊢
  generalize w.alloc (.cells #[.slice none 0 0, .slice none 0 0, .bool false] 36) = w1 at hN hf ⊢
  have hg2 := Nat.le_of_eq hg
  have HG := Lib.hid hg2; have HN := Lib.hid hN; have F1 := Lib.hid hf; clear hN hf hg hg2
  refine (bprevi_any w1 p _ _ K l us f i (HB.out.kept0 F1.out) (HK.out.kept0 F1.out) (by omega)).mono ?_
  rintro e w2 ⟨rfl, f2⟩
  have F2 := Lib.hid (F1.out.trans f2 (fun _ _ h => h)); have HN := Lib.hid (f2.heap HN.out (fun h => h)); have HGL := Lib.hid (Array.getElem?_eq_some_iff.1 HN.out).1; clear f2
  have hjl := prevI_le l f i
  obtain ⟨z, hz⟩ : ∃ z, prevI l f i = z := ⟨_, rfl⟩
  rw [hz] at hjl ⊢
  have HJ := Lib.hid hz; clear hz
  by_cases hlt : z < 0
  · have hr : prevR l f i = none := by unfold prevR; rw [HJ.out]; exact if_pos hlt
    have d0 : decide (z < 0) = true := decide_eq_true hlt
    obtain ⟨a0, a1⟩ := hjl
    have HR := Lib.hid hr; clear hr
    obtain ⟨b0, b1, bz, blt⟩ := two_cells (HB.out.kept0 F2.out).at_
    obtain ⟨c0, c1, c2, hz, hlt3⟩ := three_cells HN.out
    go_wp2
    have hg3 := set3_row (a := .slice none 0 0) (b := .slice none 0 0) (c := .bool false) HN.out
    have fs := set3_fr w2 g (.slice none 0 0) (.slice none 0 0) (.bool false)
    rw [show ((w2.setCell ⟨g, 0, none⟩ (.slice none 0 0)).setCell ⟨g, 1, none⟩ (.slice none 0 0)).setCell ⟨g, 2, none⟩ (.bool false) = set3 w2 g (.slice none 0 0) (.slice none 0 0) (.bool false) from rfl]
    generalize set3 w2 g (.slice none 0 0) (.slice none 0 0) (.bool false) = w3 at hg3 fs ⊢
    refine bodyPost_ret (results_cell_row2 rfl _ _ g _ #[.slice none 0 0, .slice none 0 0, .bool false] (0, 0) _ rfl hg3 Try.underlying36 rfl (by kernel_rfl)) rfl ?_
    exact .inl ⟨HR.out, rfl, F2.out.trans fs (fun k hk e => by have := HG.out; omega)⟩
  · obtain ⟨j, rfl⟩ := Int.eq_ofNat_of_zero_le (show 0 ≤ z by omega)
    have hil : j < l.length := by omega
    have hr : prevR l f i = some l[j] := by unfold prevR; rw [HJ.out, if_neg hlt, Int.toNat_natCast]; exact List.getElem?_eq_getElem hil
    have e0 : decide ((j : Int) < 0) = false := decide_eq_false hlt
    clear hjl
    have HR := Lib.hid hr; clear hr hlt
    have hb2 := HB.out.kept0 F2.out
    obtain ⟨gg, og, hA, q0, q1, q2⟩ := Spans.at hb2.row.sl j hil
    obtain ⟨WF, wf, hWF, _, _⟩ := (hb2.good l[j] (List.getElem_mem _)).F.form
    obtain ⟨WT, wt, hWT, _, _⟩ := (hb2.good l[j] (List.getElem_mem _)).T.form
    have hgo := hb2.good l[j] (List.getElem_mem _)
    have hgo2 : SpV.Good w2 ⟨.slice WF l[j].f.length wf, .slice WT l[j].t.length wt, l[j].f, l[j].t, l[j].o⟩ := ⟨hWF ▸ hgo.F, hWT ▸ hgo.T, hgo.lf, hgo.lt⟩
    rw [hWF] at q0; rw [hWT] at q1
    subst hA
    obtain ⟨b0, b1, bz, blt⟩ := two_cells hb2.at_
    have HGO := Lib.hid hgo2; clear hgo hgo2 hWF hWT hb2
    go_wp2_with fail
    refine (copied_any w2 _ HGO.out).mono ?_
    rintro e w3 ⟨F, T, rfl, hc⟩
    have HC := Lib.hid hc; have HN := Lib.hid (hc.fr.heap HN.out (fun h => h)); clear hc q0 q1 q2 b0 b1 bz blt
    obtain ⟨F0, hF0⟩ := HC.out.fF; obtain ⟨T0, hT0⟩ := HC.out.fT
    subst hF0; subst hT0
    obtain ⟨c0, c1, c2, hz, hlt⟩ := three_cells HN.out
    go_wp2
    have hg3 := set3_row (a := .slice F0 l[j].f.length l[j].f.length) (b := .slice T0 l[j].t.length l[j].t.length) (c := .bool l[j].o) HN.out
    have fs := set3_fr w3 g (.slice F0 l[j].f.length l[j].f.length) (.slice T0 l[j].t.length l[j].t.length) (.bool l[j].o)
    rw [show ((w3.setCell ⟨g, 0, none⟩ (.slice F0 l[j].f.length l[j].f.length)).setCell ⟨g, 1, none⟩ (.slice T0 l[j].t.length l[j].t.length)).setCell ⟨g, 2, none⟩ (.bool l[j].o) = set3 w3 g (.slice F0 l[j].f.length l[j].f.length) (.slice T0 l[j].t.length l[j].t.length) (.bool l[j].o) from rfl]
    generalize set3 w3 g (.slice F0 l[j].f.length l[j].f.length) (.slice T0 l[j].t.length l[j].t.length) (.bool l[j].o) = w4 at hg3 fs ⊢
    refine bodyPost_ret (results_cell_row2 rfl _ _ g _ #[.slice F0 l[j].f.length l[j].f.length, .slice T0 l[j].t.length l[j].t.length, .bool l[j].o] (0, 0) _ rfl hg3 Try.underlying36 rfl (by kernel_rfl)) rfl ?_
    have hh := HC.out
    have s2 := F2.out.size; have s3 := hh.fr.size
    have hgl : g < w2.heap.size := HGL.out
    refine .inr ⟨_, HR.out, _, _, rfl, hh.oF.kept fs (fun k hk e => ?_), hh.oT.kept fs (fun k hk e => ?_), fun k hk => ?_, fun k hk => ?_, hh.ne, hh.fF, hh.fT, (F2.out.trans hh.fr (fun _ _ h => h)).trans fs (fun k hk e => by have := HG.out; omega)⟩
    · have := hh.nF k hk; omega
    · have := hh.nT k hk; omega
    · have := hh.nF k hk; omega
    · have := hh.nT k hk; omega

set_option maxRecDepth 100000 in
set_option maxHeartbeats 4000000 in
theorem rnextC_any (w : World) (p : Nat) (sv K : Value) (L : List SpV) (f : List UInt8) (b : Bool) (hs : Rf w p sv L) (hK : Sl w 1 K f.length (bvs f)) (hl : L.length ≤ 100000) :
    Calls Try.prog 74 #[.pointer (some ⟨p, 0, none⟩), K, .bool b] w fun e w' => e = .returned (chgE ((chgL L).find? fun y => abv y.f f b)) ∧ Fr no w w' := by
  have HS := Lib.hid hs; have HF := Lib.hid hK; clear hs hK
  go_enter Try.func74, Try.ntmps74
  go_wp2_with fail
  have hN := heap_alloc_new w (.cells #[.slice none 0 0, .slice none 0 0, .bool false] 36)
  have hf := (Fr.refl no w).alloc (.cells #[.slice none 0 0, .slice none 0 0, .bool false] 36)
  generalize hg : w.heap.size = g at hN ⊢
  generalize w.alloc (.cells #[.slice none 0 0, .slice none 0 0, .bool false] 36) = w1 at hN hf ⊢
  have hg2 := Nat.le_of_eq hg
  have HG := Lib.hid hg2; have HN := Lib.hid hN; have F1 := Lib.hid hf; clear hN hf hg hg2
  refine (rchanges_any w1 p sv L (HS.out.kept0 F1.out) hl).mono ?_
  rintro e w2 ⟨ov, rfl, h1, h2, f2⟩
  have hgd : ∀ x ∈ chgL L, x.Good w2 := fun x hx => ((HS.out.good x (mem_chg L x hx)).kept0 F1.out).kept0 f2
  have hcl := chg_len L
  have F2 := Lib.hid (F1.out.trans f2 (fun _ _ h => h)); have HN := Lib.hid (f2.heap HN.out (fun h => h)); clear f2 h2
  generalize hcq : chgL L = l at h1 hgd hcl
  have HCQ := Lib.hid hcq; clear hcq
  obtain ⟨A, c, rfl, hc1, _⟩ := h1.form
  have hn : l.length ≤ 100000 := by omega
  have HX := Lib.hid h1; have HGD := Lib.hid hgd; clear h1 hgd hcl
  go_wp2
  go_loopw [9] (fun i wr => ∃ j : Nat, j ≤ l.length ∧ i = .int .i64 j ∧ Fr no w2 wr ∧ wr.heap[g]? = some (.cells #[.slice none 0 0, .slice none 0 0, .bool false] 36 (0, 0)) ∧ ∀ m (h : m < l.length), m < j → abv l[m].f f b = false) (fun i _ => l.length - (intOf i).toNat)
  case atStart => exact ⟨0, Nat.zero_le _, rfl, Fr.refl _ _, HN.out, fun m h h0 => by omega⟩
  case round =>
    obtain ⟨j, hj, rfl, hf, hr, hno⟩ := hrel
    have HFr := Lib.hid hf; have HR := Lib.hid hr; have HNO := Lib.hid hno; clear hf hr hno
    by_cases hlt : j < l.length
    · cases hcc : abv l[j].f f b with
      | true =>
        have HC := Lib.hid hcc
        obtain ⟨bb, o, hA, q0, q1, q2⟩ := Spans.at (HX.out.kept0 HFr.out).sl j hlt
        obtain ⟨KA, kc, hkk, _, _⟩ := (HGD.out l[j] (List.getElem_mem _)).F.form
        obtain ⟨VA, vc, hvv, _, _⟩ := (HGD.out l[j] (List.getElem_mem _)).T.form
        subst hA
        have hsl := ((HGD.out l[j] (List.getElem_mem _)).F).kept0 HFr.out
        rw [hkk] at q0 hsl; rw [hvv] at q1
        have HKV := Lib.hid (And.intro hkk hvv); have HSL := Lib.hid hsl; clear hkk hvv hsl
        have he : (l.find? fun y => abv y.f f b) = some l[j] := find_first (fun y => abv y.f f b) l j hlt hcc HNO.out
        clear hcc
        have HE := Lib.hid he; clear he
        obtain ⟨c0, c1, c2, hz, hlt2⟩ := three_cells HR.out
        go_wp2_with fail
        refine (above_any wr _ K l[j].f f b HSL.out ((HF.out.kept0 F2.out).kept0 HFr.out)).mono ?_
        rintro e w2' ⟨rfl, rfl⟩
        rw [HC.out]
        go_wp2
        have hg3 := set3_row (a := .slice KA l[j].f.length kc) (b := .slice VA l[j].t.length vc) (c := .bool l[j].o) HR.out
        have fs := set3_fr w2' g (.slice KA l[j].f.length kc) (.slice VA l[j].t.length vc) (.bool l[j].o)
        rw [show ((w2'.setCell ⟨g, 0, none⟩ (.slice KA l[j].f.length kc)).setCell ⟨g, 1, none⟩ (.slice VA l[j].t.length vc)).setCell ⟨g, 2, none⟩ (.bool l[j].o) = set3 w2' g (.slice KA l[j].f.length kc) (.slice VA l[j].t.length vc) (.bool l[j].o) from rfl]
        generalize set3 w2' g (.slice KA l[j].f.length kc) (.slice VA l[j].t.length vc) (.bool l[j].o) = w3 at hg3 fs ⊢
        refine bodyPost_ret (results_cell_row2 rfl _ _ g _ #[.slice KA l[j].f.length kc, .slice VA l[j].t.length vc, .bool l[j].o] (0, 0) _ rfl hg3 Try.underlying36 rfl (by kernel_rfl)) rfl ?_
        exact ⟨by rw [HCQ.out, HE.out]; simp only [chgE, HKV.out.1, HKV.out.2]; rfl, (F2.out.trans HFr.out (fun _ _ h => h)).trans fs (fun k hk e => by have := HG.out; omega)⟩
      | false =>
        have HC := Lib.hid hcc; clear hcc
        obtain ⟨bb, o, hA, q0, q1, q2⟩ := Spans.at (HX.out.kept0 HFr.out).sl j hlt
        obtain ⟨KA, kc, hkk, _, _⟩ := (HGD.out l[j] (List.getElem_mem _)).F.form
        obtain ⟨VA, vc, hvv, _, _⟩ := (HGD.out l[j] (List.getElem_mem _)).T.form
        subst hA
        have hsl := ((HGD.out l[j] (List.getElem_mem _)).F).kept0 HFr.out
        rw [hkk] at q0 hsl; rw [hvv] at q1
        have HKV := Lib.hid (And.intro hkk hvv); have HSL := Lib.hid hsl; clear hkk hvv hsl
        go_wp2_with fail
        refine (above_any wr _ K l[j].f f b HSL.out ((HF.out.kept0 F2.out).kept0 HFr.out)).mono ?_
        rintro e w2' ⟨rfl, rfl⟩
        rw [HC.out]
        go_wp2
        go_roundw
        case rel => exact ⟨j + 1, by omega, by first | rfl | go_num, HFr.out, HR.out, fun m h hm => by rcases Nat.lt_succ_iff_lt_or_eq.1 hm with h2 | rfl; exact HNO.out m h h2; exact HC.out⟩
        case measure => simp [intOf]; omega
    · obtain rfl : j = l.length := by omega
      have he : (l.find? fun y => abv y.f f b) = none := List.find?_eq_none.2 (fun y hy => by obtain ⟨m, hm, rfl⟩ := List.getElem_of_mem hy; simp [HNO.out m hm (by omega)])
      have HE := Lib.hid he; clear he
      obtain ⟨c0, c1, c2, hz, hlt2⟩ := three_cells HR.out
      go_wp2
      have hg3 := set3_row (a := .slice none 0 0) (b := .slice none 0 0) (c := .bool false) HR.out
      have fs := set3_fr wr g (.slice none 0 0) (.slice none 0 0) (.bool false)
      rw [show ((wr.setCell ⟨g, 0, none⟩ (.slice none 0 0)).setCell ⟨g, 1, none⟩ (.slice none 0 0)).setCell ⟨g, 2, none⟩ (.bool false) = set3 wr g (.slice none 0 0) (.slice none 0 0) (.bool false) from rfl]
      generalize set3 wr g (.slice none 0 0) (.slice none 0 0) (.bool false) = w3 at hg3 fs ⊢
      refine bodyPost_ret (results_cell_row2 rfl _ _ g _ #[.slice none 0 0, .slice none 0 0, .bool false] (0, 0) _ rfl hg3 Try.underlying36 rfl (by kernel_rfl)) rfl ?_
      exact ⟨by rw [HCQ.out, HE.out]; rfl, (F2.out.trans HFr.out (fun _ _ h => h)).trans fs (fun k hk e => by have := HG.out; omega)⟩

set_option maxRecDepth 100000 in
set_option maxHeartbeats 4000000 in
theorem rprevC_any (w : World) (p : Nat) (sv K : Value) (L : List SpV) (f : List UInt8) (b : Bool) (hs : Rf w p sv L) (hK : Sl w 1 K f.length (bvs f)) (hl : L.length ≤ 100000) :
    Calls Try.prog 76 #[.pointer (some ⟨p, 0, none⟩), K, .bool b] w fun e w' => e = .returned (chgE ((chgL L).reverse.find? fun y => bel y.f f b)) ∧ Fr no w w' := by
  have HS := Lib.hid hs; have HF := Lib.hid hK; clear hs hK
  go_enter Try.func76, Try.ntmps76
  go_wp2_with fail
  have hN := heap_alloc_new w (.cells #[.slice none 0 0, .slice none 0 0, .bool false] 36)
  have hf := (Fr.refl no w).alloc (.cells #[.slice none 0 0, .slice none 0 0, .bool false] 36)
  generalize hg : w.heap.size = g at hN ⊢
  generalize w.alloc (.cells #[.slice none 0 0, .slice none 0 0, .bool false] 36) = w1 at hN hf ⊢
  have hg2 := Nat.le_of_eq hg
  have HG := Lib.hid hg2; have HN := Lib.hid hN; have F1 := Lib.hid hf; clear hN hf hg hg2
  refine (rchanges_any w1 p sv L (HS.out.kept0 F1.out) hl).mono ?_
  rintro e w2 ⟨ov, rfl, h1, h2, f2⟩
  have hgd : ∀ x ∈ chgL L, x.Good w2 := fun x hx => ((HS.out.good x (mem_chg L x hx)).kept0 F1.out).kept0 f2
  have hcl := chg_len L
  have F2 := Lib.hid (F1.out.trans f2 (fun _ _ h => h)); have HN := Lib.hid (f2.heap HN.out (fun h => h)); clear f2 h2
  generalize hcq : chgL L = l at h1 hgd hcl
  have HCQ := Lib.hid hcq; clear hcq
  obtain ⟨A, c, rfl, hc1, _⟩ := h1.form
  have hn : l.length ≤ 100000 := by omega
  have HX := Lib.hid h1; have HGD := Lib.hid hgd; clear h1 hgd hcl
  go_wp2
  go_loopw [9] (fun i wr => ∃ j : Nat, j ≤ l.length ∧ i = .int .i64 ((j : Int) - 1) ∧ Fr no w2 wr ∧ wr.heap[g]? = some (.cells #[.slice none 0 0, .slice none 0 0, .bool false] 36 (0, 0)) ∧ ∀ m (h : m < l.length), j ≤ m → bel l[m].f f b = false) (fun i _ => (intOf i + 1).toNat)
  case atStart => exact ⟨l.length, Nat.le_refl _, rfl, Fr.refl _ _, HN.out, fun m h h0 => by omega⟩
  case round =>
    obtain ⟨j, hj, rfl, hf, hr, hno⟩ := hrel
    have HFr := Lib.hid hf; have HR := Lib.hid hr; have HNO := Lib.hid hno; clear hf hr hno
    rcases j with _ | j
    · have e1 : ((0 : Nat) : Int) - 1 = -1 := rfl
      rw [e1]; clear e1
      have he : (l.reverse.find? fun y => bel y.f f b) = none := List.find?_eq_none.2 (fun y hy => by obtain ⟨m, hm, rfl⟩ := List.getElem_of_mem (List.mem_reverse.1 hy); simp [HNO.out m hm (by omega)])
      have HE := Lib.hid he; clear he
      obtain ⟨c0, c1, c2, hz, hlt2⟩ := three_cells HR.out
      go_wp2
      have hg3 := set3_row (a := .slice none 0 0) (b := .slice none 0 0) (c := .bool false) HR.out
      have fs := set3_fr wr g (.slice none 0 0) (.slice none 0 0) (.bool false)
      rw [show ((wr.setCell ⟨g, 0, none⟩ (.slice none 0 0)).setCell ⟨g, 1, none⟩ (.slice none 0 0)).setCell ⟨g, 2, none⟩ (.bool false) = set3 wr g (.slice none 0 0) (.slice none 0 0) (.bool false) from rfl]
      generalize set3 wr g (.slice none 0 0) (.slice none 0 0) (.bool false) = w3 at hg3 fs ⊢
      refine bodyPost_ret (results_cell_row2 rfl _ _ g _ #[.slice none 0 0, .slice none 0 0, .bool false] (0, 0) _ rfl hg3 Try.underlying36 rfl (by kernel_rfl)) rfl ?_
      exact ⟨by rw [HCQ.out, HE.out]; rfl, (F2.out.trans HFr.out (fun _ _ h => h)).trans fs (fun k hk e => by have := HG.out; omega)⟩
    · have e1 : ((j + 1 : Nat) : Int) - 1 = (j : Int) := by omega
      rw [e1]; clear e1
      have hlt : j < l.length := by omega
      cases hcc : bel l[j].f f b with
      | true =>
        have HC := Lib.hid hcc
        obtain ⟨bb, o, hA, q0, q1, q2⟩ := Spans.at (HX.out.kept0 HFr.out).sl j hlt
        obtain ⟨KA, kc, hkk, _, _⟩ := (HGD.out l[j] (List.getElem_mem _)).F.form
        obtain ⟨VA, vc, hvv, _, _⟩ := (HGD.out l[j] (List.getElem_mem _)).T.form
        subst hA
        have hsl := ((HGD.out l[j] (List.getElem_mem _)).F).kept0 HFr.out
        rw [hkk] at q0 hsl; rw [hvv] at q1
        have HKV := Lib.hid (And.intro hkk hvv); have HSL := Lib.hid hsl; clear hkk hvv hsl
        have he : (l.reverse.find? fun y => bel y.f f b) = some l[j] := find_last (fun y => bel y.f f b) l j hlt hcc (fun m h hm => HNO.out m h (by omega))
        clear hcc
        have HE := Lib.hid he; clear he
        obtain ⟨c0, c1, c2, hz, hlt2⟩ := three_cells HR.out
        go_wp2_with fail
        refine (below_any wr _ K l[j].f f b HSL.out ((HF.out.kept0 F2.out).kept0 HFr.out)).mono ?_
        rintro e w2' ⟨rfl, rfl⟩
        rw [HC.out]
        go_wp2
        have hg3 := set3_row (a := .slice KA l[j].f.length kc) (b := .slice VA l[j].t.length vc) (c := .bool l[j].o) HR.out
        have fs := set3_fr w2' g (.slice KA l[j].f.length kc) (.slice VA l[j].t.length vc) (.bool l[j].o)
        rw [show ((w2'.setCell ⟨g, 0, none⟩ (.slice KA l[j].f.length kc)).setCell ⟨g, 1, none⟩ (.slice VA l[j].t.length vc)).setCell ⟨g, 2, none⟩ (.bool l[j].o) = set3 w2' g (.slice KA l[j].f.length kc) (.slice VA l[j].t.length vc) (.bool l[j].o) from rfl]
        generalize set3 w2' g (.slice KA l[j].f.length kc) (.slice VA l[j].t.length vc) (.bool l[j].o) = w3 at hg3 fs ⊢
        refine bodyPost_ret (results_cell_row2 rfl _ _ g _ #[.slice KA l[j].f.length kc, .slice VA l[j].t.length vc, .bool l[j].o] (0, 0) _ rfl hg3 Try.underlying36 rfl (by kernel_rfl)) rfl ?_
        exact ⟨by rw [HCQ.out, HE.out]; simp only [chgE, HKV.out.1, HKV.out.2]; rfl, (F2.out.trans HFr.out (fun _ _ h => h)).trans fs (fun k hk e => by have := HG.out; omega)⟩
      | false =>
        have HC := Lib.hid hcc; clear hcc
        obtain ⟨bb, o, hA, q0, q1, q2⟩ := Spans.at (HX.out.kept0 HFr.out).sl j hlt
        obtain ⟨KA, kc, hkk, _, _⟩ := (HGD.out l[j] (List.getElem_mem _)).F.form
        obtain ⟨VA, vc, hvv, _, _⟩ := (HGD.out l[j] (List.getElem_mem _)).T.form
        subst hA
        have hsl := ((HGD.out l[j] (List.getElem_mem _)).F).kept0 HFr.out
        rw [hkk] at q0 hsl; rw [hvv] at q1
        have HKV := Lib.hid (And.intro hkk hvv); have HSL := Lib.hid hsl; clear hkk hvv hsl
        go_wp2_with fail
        refine (below_any wr _ K l[j].f f b HSL.out ((HF.out.kept0 F2.out).kept0 HFr.out)).mono ?_
        rintro e w2' ⟨rfl, rfl⟩
        rw [HC.out]
        go_wp2
        go_roundw
        case rel => exact ⟨j, by omega, by first | rfl | go_num, HFr.out, HR.out, fun m h hm => by rcases Nat.eq_or_lt_of_le hm with h2 | h2; (subst h2; exact HC.out); exact HNO.out m h (by omega)⟩
        case measure => simp [intOf]

set_option maxRecDepth 100000 in
set_option maxHeartbeats 8000000 in
theorem rgetC_any (w : World) (p : Nat) (sv K : Value) (l : List SpV) (f : List UInt8) (hs : Rf w p sv l) (hK : Sl w 1 K f.length (bvs f)) (hl : l.length ≤ 100000) :
    Calls Try.prog 72 #[.pointer (some ⟨p, 0, none⟩), K] w fun e w' => e = .returned (chgE (l.reverse.find? fun y => decide (y.f = f))) ∧ Fr no w w' := by
  obtain ⟨A, c, rfl, hc1, _⟩ := hs.row.form
  obtain ⟨KB, kbc, rfl, _, _⟩ := hK.form
  have HS := Lib.hid hs; have HF := Lib.hid hK; clear hs hK
  obtain ⟨s0, sz0, sl0⟩ := one_cell HS.out.at_
  go_enter Try.func72, Try.ntmps72
  go_wp2_with fail
  have hN := heap_alloc_new w (.cells #[.slice none 0 0, .slice none 0 0, .bool false] 36)
  have hf := (Fr.refl no w).alloc (.cells #[.slice none 0 0, .slice none 0 0, .bool false] 36)
  generalize hg : w.heap.size = g at hN ⊢
  generalize w.alloc (.cells #[.slice none 0 0, .slice none 0 0, .bool false] 36) = w1 at hN hf ⊢
  have hg2 := Nat.le_of_eq hg
  have HG := Lib.hid hg2; have HN := Lib.hid hN; have F1 := Lib.hid hf; clear hN hf hg hg2
  obtain ⟨s1, sz1, sl1⟩ := one_cell (HS.out.kept0 F1.out).at_
  have HX := Lib.hid (HS.out.kept0 F1.out).row; have HGD := Lib.hid (HS.out.kept0 F1.out).good
  clear s0 sz0 sl0
  go_wp2
  go_loopw [6] (fun i wr => ∃ j : Nat, j ≤ l.length ∧ i = .int .i64 ((j : Int) - 1) ∧ Fr no w1 wr ∧ wr.heap[g]? = some (.cells #[.slice none 0 0, .slice none 0 0, .bool false] 36 (0, 0)) ∧ ∀ m (h : m < l.length), j ≤ m → decide (l[m].f = f) = false) (fun i _ => (intOf i + 1).toNat)
  case atStart => exact ⟨l.length, Nat.le_refl _, rfl, Fr.refl _ _, HN.out, fun m h h0 => by omega⟩
  case round =>
    obtain ⟨j, hj, rfl, hf, hr, hno⟩ := hrel
    have HFr := Lib.hid hf; have HR := Lib.hid hr; have HNO := Lib.hid hno; clear hf hr hno s1 sz1 sl1
    rcases j with _ | j
    · have e1 : ((0 : Nat) : Int) - 1 = -1 := rfl
      rw [e1]; clear e1
      have he : (l.reverse.find? fun y => decide (y.f = f)) = none := List.find?_eq_none.2 (fun y hy => by obtain ⟨m, hm, rfl⟩ := List.getElem_of_mem (List.mem_reverse.1 hy); have := HNO.out m hm (by omega); simp only [this]; simp)
      have HE := Lib.hid he; clear he
      obtain ⟨c0, c1, c2, hz, hlt2⟩ := three_cells HR.out
      go_wp2
      have hg3 := set3_row (a := .slice none 0 0) (b := .slice none 0 0) (c := .bool false) HR.out
      have fs := set3_fr wr g (.slice none 0 0) (.slice none 0 0) (.bool false)
      rw [show ((wr.setCell ⟨g, 0, none⟩ (.slice none 0 0)).setCell ⟨g, 1, none⟩ (.slice none 0 0)).setCell ⟨g, 2, none⟩ (.bool false) = set3 wr g (.slice none 0 0) (.slice none 0 0) (.bool false) from rfl]
      generalize set3 wr g (.slice none 0 0) (.slice none 0 0) (.bool false) = w3 at hg3 fs ⊢
      refine bodyPost_ret (results_cell_row2 rfl _ _ g _ #[.slice none 0 0, .slice none 0 0, .bool false] (0, 0) _ rfl hg3 Try.underlying36 rfl (by kernel_rfl)) rfl ?_
      exact ⟨by rw [HE.out]; rfl, (F1.out.trans HFr.out (fun _ _ h => h)).trans fs (fun k hk e => by have := HG.out; omega)⟩
    · have e1 : ((j + 1 : Nat) : Int) - 1 = (j : Int) := by omega
      rw [e1]; clear e1
      have hlt : j < l.length := by omega
      obtain ⟨s1, sz1, sl1⟩ := one_cell ((HS.out.kept0 F1.out).kept0 HFr.out).at_
      obtain ⟨bb, o, hA, q0, q1, q2⟩ := Spans.at (HX.out.kept0 HFr.out).sl j hlt
      obtain ⟨KA, kc, hkk, _, _⟩ := (HGD.out l[j] (List.getElem_mem _)).F.form
      obtain ⟨VA, vc, hvv, _, _⟩ := (HGD.out l[j] (List.getElem_mem _)).T.form
      subst hA
      have hsl := ((HGD.out l[j] (List.getElem_mem _)).F).kept0 HFr.out
      rw [hkk] at q0 hsl; rw [hvv] at q1
      have HKV := Lib.hid (And.intro hkk hvv); have HSL := Lib.hid hsl; clear hkk hvv hsl
      have hq := World.block_lt_of_cell? _ _ q0
      cases hcc : decide (l[j].f = f) with
      | true =>
        have he : (l.reverse.find? fun y => decide (y.f = f)) = some l[j] := find_last (fun y => decide (y.f = f)) l j hlt hcc (fun m h hm => HNO.out m h (by omega))
        have hcq : (l[j].f == f) = true := by simpa using hcc
        have HE := Lib.hid he; clear he hcc
        obtain ⟨c0, c1, c2, hz, hlt2⟩ := three_cells HR.out
        go_wp2_with fail
        refine wp_region_ord (List.range 12) (fun i => [Kd.p, Kd.p, Kd.p, Kd.l, Kd.p, Kd.p, Kd.p, Kd.l, Kd.l, Kd.p, Kd.l, Kd.p].getD i .e) (by kernel_rfl) (by kernel_rfl) ?_
        iterate 8
          first | refine wpX_pu rfl rfl rfl (by first | exact pu_move rfl | exact pu_assign rfl | exact pu_nilCheck rfl rfl | exact pu_binInt rfl rfl rfl | exact pu_conv rfl rfl (by kernel_rfl) | exact pu_fld rfl (by kernel_rfl) | exact pu_ix rfl rfl rfl (by kernel_rfl) | exact pu_unOp rfl | exact pu_binStr rfl rfl rfl | exact pu_len rfl rfl | exact pu_lens rfl rfl | exact pu_pick rfl | exact pu_slice rfl rfl) (fun K hK => ?_) | refine wpX_rd rfl rfl rfl (rd_load rfl) (fun K hK => ?_) | refine wpX_gr rfl rfl rfl (by first | exact gr_buildSlice rfl | exact gr_box rfl | exact gr_alloc rfl) (fun K hK => ?_) | refine wpX_ex rfl rfl rfl (fun K hK => ?_)
          try go_wp2
        refine wpX_lv (.string ⟨l[j].f.toArray⟩) rfl rfl rfl (fun e => ?_) ?_
        · have := str_ext (P := Try.prog) (src := 34) (dst := 9) (e := 5) (by kernel_rfl) (by kernel_rfl) (by kernel_rfl) (HSL.out.kept0 (Fr.drew (Fr.refl no wr))) e
          simp [execOp, this, Act.eval]
        go_simp
        iterate 1
          first | refine wpX_pu rfl rfl rfl (by first | exact pu_move rfl | exact pu_assign rfl | exact pu_nilCheck rfl rfl | exact pu_binInt rfl rfl rfl | exact pu_conv rfl rfl (by kernel_rfl) | exact pu_fld rfl (by kernel_rfl) | exact pu_ix rfl rfl rfl (by kernel_rfl) | exact pu_unOp rfl | exact pu_binStr rfl rfl rfl | exact pu_len rfl rfl | exact pu_lens rfl rfl | exact pu_pick rfl | exact pu_slice rfl rfl) (fun K hK => ?_) | refine wpX_rd rfl rfl rfl (rd_load rfl) (fun K hK => ?_) | refine wpX_gr rfl rfl rfl (by first | exact gr_buildSlice rfl | exact gr_box rfl | exact gr_alloc rfl) (fun K hK => ?_) | refine wpX_ex rfl rfl rfl (fun K hK => ?_)
          try go_wp2
        refine wpX_lv (.string ⟨f.toArray⟩) rfl rfl rfl (fun e => ?_) ?_
        · have := str_ext (P := Try.prog) (src := 34) (dst := 9) (e := 5) (by kernel_rfl) (by kernel_rfl) (by kernel_rfl) (((HF.out.kept0 F1.out).kept0 HFr.out).kept0 (Fr.drew (Fr.refl no wr))) e
          simp [execOp, this, Act.eval]
        go_simp
        iterate 1
          first | refine wpX_pu rfl rfl rfl (by first | exact pu_move rfl | exact pu_assign rfl | exact pu_nilCheck rfl rfl | exact pu_binInt rfl rfl rfl | exact pu_conv rfl rfl (by kernel_rfl) | exact pu_fld rfl (by kernel_rfl) | exact pu_ix rfl rfl rfl (by kernel_rfl) | exact pu_unOp rfl | exact pu_binStr rfl rfl rfl | exact pu_len rfl rfl | exact pu_lens rfl rfl | exact pu_pick rfl | exact pu_slice rfl rfl) (fun K hK => ?_) | refine wpX_rd rfl rfl rfl (rd_load rfl) (fun K hK => ?_) | refine wpX_gr rfl rfl rfl (by first | exact gr_buildSlice rfl | exact gr_box rfl | exact gr_alloc rfl) (fun K hK => ?_) | refine wpX_ex rfl rfl rfl (fun K hK => ?_)
          try go_wp2
        refine wpX_done ?_
        go_wp2
        have hg3 : (set3 wr g (.slice KA l[j].f.length kc) (.slice VA l[j].t.length vc) (.bool l[j].o)).drew.heap[g]? = _ := set3_row (a := .slice KA l[j].f.length kc) (b := .slice VA l[j].t.length vc) (c := .bool l[j].o) HR.out
        have fs := Fr.drew (set3_fr wr g (.slice KA l[j].f.length kc) (.slice VA l[j].t.length vc) (.bool l[j].o))
        rw [show (((wr.setCell ⟨g, 0, none⟩ (.slice KA l[j].f.length kc)).setCell ⟨g, 1, none⟩ (.slice VA l[j].t.length vc)).setCell ⟨g, 2, none⟩ (.bool l[j].o)).drew = (set3 wr g (.slice KA l[j].f.length kc) (.slice VA l[j].t.length vc) (.bool l[j].o)).drew from rfl]
        generalize (set3 wr g (.slice KA l[j].f.length kc) (.slice VA l[j].t.length vc) (.bool l[j].o)).drew = w3 at hg3 fs ⊢
        refine bodyPost_ret (results_cell_row2 rfl _ _ g _ #[.slice KA l[j].f.length kc, .slice VA l[j].t.length vc, .bool l[j].o] (0, 0) _ rfl hg3 Try.underlying36 rfl (by kernel_rfl)) rfl ?_
        exact ⟨by rw [HE.out]; simp only [chgE, HKV.out.1, HKV.out.2]; rfl, (F1.out.trans HFr.out (fun _ _ h => h)).trans fs (fun k hk e => by have := HG.out; omega)⟩
      | false =>
        have hcq : (l[j].f == f) = false := by simpa using hcc
        have HC := Lib.hid hcc; clear hcc
        go_wp2_with fail
        refine wp_region_ord (List.range 12) (fun i => [Kd.p, Kd.p, Kd.p, Kd.l, Kd.p, Kd.p, Kd.p, Kd.l, Kd.l, Kd.p, Kd.l, Kd.p].getD i .e) (by kernel_rfl) (by kernel_rfl) ?_
        iterate 8
          first | refine wpX_pu rfl rfl rfl (by first | exact pu_move rfl | exact pu_assign rfl | exact pu_nilCheck rfl rfl | exact pu_binInt rfl rfl rfl | exact pu_conv rfl rfl (by kernel_rfl) | exact pu_fld rfl (by kernel_rfl) | exact pu_ix rfl rfl rfl (by kernel_rfl) | exact pu_unOp rfl | exact pu_binStr rfl rfl rfl | exact pu_len rfl rfl | exact pu_lens rfl rfl | exact pu_pick rfl | exact pu_slice rfl rfl) (fun K hK => ?_) | refine wpX_rd rfl rfl rfl (rd_load rfl) (fun K hK => ?_) | refine wpX_gr rfl rfl rfl (by first | exact gr_buildSlice rfl | exact gr_box rfl | exact gr_alloc rfl) (fun K hK => ?_) | refine wpX_ex rfl rfl rfl (fun K hK => ?_)
          try go_wp2
        refine wpX_lv (.string ⟨l[j].f.toArray⟩) rfl rfl rfl (fun e => ?_) ?_
        · have := str_ext (P := Try.prog) (src := 34) (dst := 9) (e := 5) (by kernel_rfl) (by kernel_rfl) (by kernel_rfl) (HSL.out.kept0 (Fr.drew (Fr.refl no wr))) e
          simp [execOp, this, Act.eval]
        go_simp
        iterate 1
          first | refine wpX_pu rfl rfl rfl (by first | exact pu_move rfl | exact pu_assign rfl | exact pu_nilCheck rfl rfl | exact pu_binInt rfl rfl rfl | exact pu_conv rfl rfl (by kernel_rfl) | exact pu_fld rfl (by kernel_rfl) | exact pu_ix rfl rfl rfl (by kernel_rfl) | exact pu_unOp rfl | exact pu_binStr rfl rfl rfl | exact pu_len rfl rfl | exact pu_lens rfl rfl | exact pu_pick rfl | exact pu_slice rfl rfl) (fun K hK => ?_) | refine wpX_rd rfl rfl rfl (rd_load rfl) (fun K hK => ?_) | refine wpX_gr rfl rfl rfl (by first | exact gr_buildSlice rfl | exact gr_box rfl | exact gr_alloc rfl) (fun K hK => ?_) | refine wpX_ex rfl rfl rfl (fun K hK => ?_)
          try go_wp2
        refine wpX_lv (.string ⟨f.toArray⟩) rfl rfl rfl (fun e => ?_) ?_
        · have := str_ext (P := Try.prog) (src := 34) (dst := 9) (e := 5) (by kernel_rfl) (by kernel_rfl) (by kernel_rfl) (((HF.out.kept0 F1.out).kept0 HFr.out).kept0 (Fr.drew (Fr.refl no wr))) e
          simp [execOp, this, Act.eval]
        go_simp
        iterate 1
          first | refine wpX_pu rfl rfl rfl (by first | exact pu_move rfl | exact pu_assign rfl | exact pu_nilCheck rfl rfl | exact pu_binInt rfl rfl rfl | exact pu_conv rfl rfl (by kernel_rfl) | exact pu_fld rfl (by kernel_rfl) | exact pu_ix rfl rfl rfl (by kernel_rfl) | exact pu_unOp rfl | exact pu_binStr rfl rfl rfl | exact pu_len rfl rfl | exact pu_lens rfl rfl | exact pu_pick rfl | exact pu_slice rfl rfl) (fun K hK => ?_) | refine wpX_rd rfl rfl rfl (rd_load rfl) (fun K hK => ?_) | refine wpX_gr rfl rfl rfl (by first | exact gr_buildSlice rfl | exact gr_box rfl | exact gr_alloc rfl) (fun K hK => ?_) | refine wpX_ex rfl rfl rfl (fun K hK => ?_)
          try go_wp2
        refine wpX_done ?_
        go_wp2
        go_roundw
        case rel => exact ⟨j, by omega, by first | rfl | go_num, Fr.drew HFr.out, HR.out, fun m h hm => by rcases Nat.eq_or_lt_of_le hm with h2 | h2; (subst h2; exact HC.out); exact HNO.out m h (by omega)⟩
        case measure => simp [intOf]
end Go.Proofs.Ytdnohhlgaaihmaa
