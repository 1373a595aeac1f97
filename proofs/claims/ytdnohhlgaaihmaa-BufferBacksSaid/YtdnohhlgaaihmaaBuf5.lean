/- package buffer: Put, Delete, Get. -/
import Derived.Test.YtdnohhlgaaihmaaBuf4
namespace Go.Proofs.Ytdnohhlgaaihmaa
open Go.RowKit

theorem results_cell_row2 {P : Program} {fn : Func} {p u : Tmp} {ty : TypeId} (h : fn.results = #[.cell p ty, .tmp u]) (tmps : Array Value) (w : World) (g : Nat) (t : TypeId) (cs : Array Value) (fr : Nat × Nat) (d : TypeDesc)
    (hp : tmps.getD p undef = .pointer (some ⟨g, 0, none⟩)) (hg : w.heap[g]? = some (.cells cs t fr))
    (hu : P.underlying ty = some d) (hd : (match d with | .struct _ | .array _ _ => true | _ => false) = true) (hi : (P.info? ty).map (·.size) = some cs.size) :
    (results fn tmps).run P w = .ok (.tuple #[.agg cs, tmps.getD u undef]) w := by
  rw [results_cell_tmp h, hp]
  simp [asAddr, run_loadVar_row w g t ty cs fr d hg hu hd hi, Result.andThen]

set_option maxRecDepth 100000 in
set_option maxHeartbeats 400000 in
theorem bput_any (w : World) (p : Nat) (lv uv K V : Value) (l : List SpV) (us : List Und) (kb vb : List UInt8) (hb : Bf w p lv l uv us) (hK : Sl w 1 K kb.length (bvs kb)) (hV : Sl w 1 V vb.length (bvs vb)) (lk : kb.length ≤ 140737488351232) (lv' : vb.length ≤ 140737488351232) (hl : l.length ≤ 100000) (hu : us.length ≤ 100000) :
    Calls Try.prog 30 #[.pointer (some ⟨p, 0, none⟩), K, V] w fun e w' => Said w w' p lv uv l us ⟨K, V, kb, vb, false⟩ e := by
  obtain ⟨A, c, rfl, _, _⟩ := hK.form
  obtain ⟨B, d, rfl, _, _⟩ := hV.form
  have HB := Lib.hid hb; have HK := Lib.hid hK; have HV := Lib.hid hV; clear hb hK hV
  go_enter Try.func30, Try.ntmps30
  go_wp2_with fail
  refine (say_any w p _ _ l us ⟨.slice A kb.length c, .slice B vb.length d, kb, vb, false⟩ HB.out ⟨HK.out, HV.out, lk, lv'⟩ hl hu).mono ?_
  rintro e w1 h
  have H := Lib.hid h; clear h
  obtain rfl := H.out.1
  go_wp2
  refine bodyPost_end (results_none rfl _ _ _) rfl ?_
  exact H.out

set_option maxRecDepth 100000 in
set_option maxHeartbeats 400000 in
theorem bdel_any (w : World) (p : Nat) (lv uv K : Value) (l : List SpV) (us : List Und) (kb : List UInt8) (hb : Bf w p lv l uv us) (hK : Sl w 1 K kb.length (bvs kb)) (lk : kb.length ≤ 140737488351232) (hl : l.length ≤ 100000) (hu : us.length ≤ 100000) :
    Calls Try.prog 31 #[.pointer (some ⟨p, 0, none⟩), K] w fun e w' => Said w w' p lv uv l us ⟨K, .slice none 0 0, kb, [], true⟩ e := by
  obtain ⟨A, c, rfl, _, _⟩ := hK.form
  have HB := Lib.hid hb; have HK := Lib.hid hK; clear hb hK
  go_enter Try.func31, Try.ntmps31
  go_wp2_with fail
  refine (say_any w p _ _ l us ⟨.slice A kb.length c, .slice none 0 0, kb, [], true⟩ HB.out ⟨HK.out, ⟨rfl, .inl ⟨none, rfl, rfl⟩⟩, lk, by simp⟩ hl hu).mono ?_
  rintro e w1 h
  have H := Lib.hid h; clear h
  obtain rfl := H.out.1
  go_wp2
  refine bodyPost_end (results_none rfl _ _ _) rfl ?_
  exact H.out

/-- What Get hands out. -/
def Gotten (w w' : World) (l : List SpV) (k : List UInt8) (e : Ending) : Prop :=
  (saidK l k = false ∧ e = .returned (.tuple #[.agg #[.slice none 0 0, .slice none 0 0, .bool false], .bool false]) ∧ Fr no w w') ∨
  ∃ (h : posK l k < l.length), saidK l k = true ∧ ∃ F T, e = .returned (.tuple #[.agg #[F, T, .bool l[posK l k].o], .bool true]) ∧ Cpd w w' l[posK l k] F T

set_option maxRecDepth 100000 in
set_option maxHeartbeats 4000000 in
theorem bget_any (w : World) (p : Nat) (lv uv K : Value) (l : List SpV) (us : List Und) (k : List UInt8) (hb : Bf w p lv l uv us) (hK : Sl w 1 K k.length (bvs k)) (hl : l.length ≤ 100000) :
    Calls Try.prog 26 #[.pointer (some ⟨p, 0, none⟩), K] w fun e w' => Gotten w w' l k e := by
  obtain ⟨A, c, rfl, _, _⟩ := hb.row.form
  have HB := Lib.hid hb; have HK := Lib.hid hK; clear hb hK
  go_enter Try.func26, Try.ntmps26
  go_wp2_with fail
  have hN := heap_alloc_new w (.cells #[.slice none 0 0, .slice none 0 0, .bool false] 36)
  have hf := (Fr.refl no w).alloc (.cells #[.slice none 0 0, .slice none 0 0, .bool false] 36)
  generalize hg : w.heap.size = g at hN ⊢
  generalize w.alloc (.cells #[.slice none 0 0, .slice none 0 0, .bool false] 36) = w1 at hN hf ⊢
  have hg2 := Nat.le_of_eq hg
  have HG := Lib.hid hg2; have HN := Lib.hid hN; have F1 := Lib.hid hf; clear hN hf hg hg2
  refine (at_any w1 p _ _ K l us k (HB.out.kept0 F1.out) (HK.out.kept0 F1.out) (by omega)).mono ?_
  rintro e w2 ⟨rfl, f2⟩
  have F2 := Lib.hid (F1.out.trans f2 (fun _ _ h => h)); have HN := Lib.hid (f2.heap HN.out (fun h => h)); have HGL := Lib.hid (Array.getElem?_eq_some_iff.1 HN.out).1; clear f2
  cases hs : saidK l k with
  | false =>
    have HS := Lib.hid hs; clear hs
    obtain ⟨c0, c1, c2, hz, hlt⟩ := three_cells HN.out
    go_wp2
    have hg3 := set3_row (a := .slice none 0 0) (b := .slice none 0 0) (c := .bool false) HN.out
    have fs := set3_fr w2 g (.slice none 0 0) (.slice none 0 0) (.bool false)
    rw [show ((w2.setCell ⟨g, 0, none⟩ (.slice none 0 0)).setCell ⟨g, 1, none⟩ (.slice none 0 0)).setCell ⟨g, 2, none⟩ (.bool false) = set3 w2 g (.slice none 0 0) (.slice none 0 0) (.bool false) from rfl]
    generalize set3 w2 g (.slice none 0 0) (.slice none 0 0) (.bool false) = w3 at hg3 fs ⊢
    refine bodyPost_ret (results_cell_row2 rfl _ _ g _ #[.slice none 0 0, .slice none 0 0, .bool false] (0, 0) _ rfl hg3 Try.underlying36 rfl (by kernel_rfl)) rfl ?_
    exact .inl ⟨HS.out, rfl, F2.out.trans fs (fun k hk e => by have := HG.out; omega)⟩
  | true =>
    obtain ⟨hil, hke⟩ := said_at hs
    have HS := Lib.hid hs; clear hs hke
    generalize hi : posK l k = i at hil ⊢
    have HI := Lib.hid hi; clear hi
    have hb2 := HB.out.kept0 F2.out
    obtain ⟨gg, og, hA, q0, q1, q2⟩ := Spans.at hb2.row.sl i hil
    obtain ⟨WF, wf, hWF, _, _⟩ := (hb2.good l[i] (List.getElem_mem _)).F.form
    obtain ⟨WT, wt, hWT, _, _⟩ := (hb2.good l[i] (List.getElem_mem _)).T.form
    have hgo := hb2.good l[i] (List.getElem_mem _)
    have hgo2 : SpV.Good w2 ⟨.slice WF l[i].f.length wf, .slice WT l[i].t.length wt, l[i].f, l[i].t, l[i].o⟩ := ⟨hWF ▸ hgo.F, hWT ▸ hgo.T, hgo.lf, hgo.lt⟩
    rw [hWF] at q0; rw [hWT] at q1
    subst hA
    obtain ⟨b0, b1, bz, blt⟩ := two_cells hb2.at_
    have HGO := Lib.hid hgo2; clear hgo hgo2 hWF hWT hb2
    go_wp2_with fail
    refine (copied_any w2 _ HGO.out).mono ?_
    rintro e w3 ⟨F, T, rfl, hc⟩
    have HC := Lib.hid hc; have HN := Lib.hid (hc.fr.heap HN.out (fun h => h)); clear hc q0 q1 q2 b0 b1 bz blt
    obtain ⟨F0, hF0⟩ := HC.out.fF; obtain ⟨T0, hT0⟩ := HC.out.fT
    subst hF0; subst hT0
    obtain ⟨c0, c1, c2, hz, hlt⟩ := three_cells HN.out
    go_wp2
    have hg3 := set3_row (a := .slice F0 l[i].f.length l[i].f.length) (b := .slice T0 l[i].t.length l[i].t.length) (c := .bool l[i].o) HN.out
    have fs := set3_fr w3 g (.slice F0 l[i].f.length l[i].f.length) (.slice T0 l[i].t.length l[i].t.length) (.bool l[i].o)
    rw [show ((w3.setCell ⟨g, 0, none⟩ (.slice F0 l[i].f.length l[i].f.length)).setCell ⟨g, 1, none⟩ (.slice T0 l[i].t.length l[i].t.length)).setCell ⟨g, 2, none⟩ (.bool l[i].o) = set3 w3 g (.slice F0 l[i].f.length l[i].f.length) (.slice T0 l[i].t.length l[i].t.length) (.bool l[i].o) from rfl]
    generalize set3 w3 g (.slice F0 l[i].f.length l[i].f.length) (.slice T0 l[i].t.length l[i].t.length) (.bool l[i].o) = w4 at hg3 fs ⊢
    refine bodyPost_ret (results_cell_row2 rfl _ _ g _ #[.slice F0 l[i].f.length l[i].f.length, .slice T0 l[i].t.length l[i].t.length, .bool l[i].o] (0, 0) _ rfl hg3 Try.underlying36 rfl (by kernel_rfl)) rfl ?_
    have hh := HC.out
    have s2 := F2.out.size; have s3 := hh.fr.size
    have hgl : g < w2.heap.size := HGL.out
    have hi := HI.out; subst hi
    refine .inr ⟨hil, HS.out, _, _, rfl, hh.oF.kept fs (fun k hk e => ?_), hh.oT.kept fs (fun k hk e => ?_), fun k hk => ?_, fun k hk => ?_, hh.ne, hh.fF, hh.fT, (F2.out.trans hh.fr (fun _ _ h => h)).trans fs (fun k hk e => by have := HG.out; omega)⟩
    · have := hh.nF k hk; omega
    · have := hh.nT k hk; omega
    · have := hh.nF k hk; omega
    · have := hh.nT k hk; omega
end Go.Proofs.Ytdnohhlgaaihmaa
