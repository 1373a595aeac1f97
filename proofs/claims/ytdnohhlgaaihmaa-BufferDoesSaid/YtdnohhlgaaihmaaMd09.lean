import Derived.Test.YtdnohhlgaaihmaaMd08
import Derived.Test.YtdnohhlgaaihmaaProg
import Derived.Test.YtdnohhlgaaihmaaMd03
import Derived.KernelRfl
import Derived.Lib.Hide
import Derived.Deep.QuietTactic
import Derived.BigQuiet

/- package buffer: Put, Delete, Get. -/
namespace Go.Proofs.Ytdnohhlgaaihmaa
open Go.RowKit

theorem results_cell_row2 {P : Program} {fn : Func} {p u : Tmp} {ty : TypeId} (h : fn.results = #[.cell p ty, .tmp u]) (tmps : Array Value) (w : World) (g : Nat) (t : TypeId) (cs : Array Value) (fr : Nat × Nat) (d : TypeDesc)
    (hp : tmps.getD p undef = .pointer (some ⟨g, 0, none⟩)) (hg : w.heap[g]? = some (.cells cs t fr))
    (hu : P.underlying ty = some d) (hd : (match d with | .struct _ | .array _ _ => true | _ => false) = true) (hi : (P.info? ty).map (·.size) = some cs.size) :
    (results fn tmps).run P w = .ok (.tuple #[.agg cs, tmps.getD u undef]) w := by
  rw [results_cell_tmp h, hp]
  simp [asAddr, run_loadVar_row w g t ty cs fr d hg hu hd hi, Result.andThen]

set_option maxRecDepth 100000 in
set_option maxHeartbeats 400000 in
theorem bput_any (w : World) (p : Nat) (lv uv K V : Value) (l : List SpV) (us : List Und) (kb vb : List UInt8) (hb : Bf w p lv l uv us) (hK : Sl w 1 K kb.length (bvs kb)) (hV : Sl w 1 V vb.length (bvs vb)) (lk : kb.length ≤ 140737488351232) (lv' : vb.length ≤ 140737488351232) (hl : l.length ≤ 100000) (hu : us.length ≤ 100000) :
    Calls Try.prog 30 #[.pointer (some ⟨p, 0, none⟩), K, V] w fun e w' => Said w w' p lv uv l us ⟨K, V, kb, vb, false⟩ e := by
  obtain ⟨A, c, rfl, _, _⟩ := hK.form
  obtain ⟨B, d, rfl, _, _⟩ := hV.form
  have HB := Lib.hid hb; have HK := Lib.hid hK; have HV := Lib.hid hV; clear hb hK hV
  go_enter Try.func30, Try.ntmps30
  go_wp2_with fail
  refine (say_any w p _ _ l us ⟨.slice A kb.length c, .slice B vb.length d, kb, vb, false⟩ HB.out ⟨HK.out, HV.out, lk, lv'⟩ hl hu).mono ?_
  rintro e w1 h
  have H := Lib.hid h; clear h
  obtain rfl := H.out.1
  go_wp2
  refine bodyPost_end (results_none rfl _ _ _) rfl ?_
  exact H.out

set_option maxRecDepth 100000 in
set_option maxHeartbeats 400000 in
theorem bdel_any (w : World) (p : Nat) (lv uv K : Value) (l : List SpV) (us : List Und) (kb : List UInt8) (hb : Bf w p lv l uv us) (hK : Sl w 1 K kb.length (bvs kb)) (lk : kb.length ≤ 140737488351232) (hl : l.length ≤ 100000) (hu : us.length ≤ 100000) :
    Calls Try.prog 31 #[.pointer (some ⟨p, 0, none⟩), K] w fun e w' => Said w w' p lv uv l us ⟨K, .slice none 0 0, kb, [], true⟩ e := by
  obtain ⟨A, c, rfl, _, _⟩ := hK.form
  have HB := Lib.hid hb; have HK := Lib.hid hK; clear hb hK
  go_enter Try.func31, Try.ntmps31
  go_wp2_with fail
  refine (say_any w p _ _ l us ⟨.slice A kb.length c, .slice none 0 0, kb, [], true⟩ HB.out ⟨HK.out, ⟨rfl, .inl ⟨none, rfl, rfl⟩⟩, lk, by simp⟩ hl hu).mono ?_
  rintro e w1 h
  have H := Lib.hid h; clear h
  obtain rfl := H.out.1
  go_wp2
  refine bodyPost_end (results_none rfl _ _ _) rfl ?_
  exact H.out

/-- What Get hands out. -/
def Gotten (w w' : World) (l : List SpV) (k : List UInt8) (e : Ending) : Prop :=
  (saidK l k = false ∧ e = .returned (.tuple #[.agg #[.slice none 0 0, .slice none 0 0, .bool false], .bool false]) ∧ Fr no w w') ∨
  ∃ (h : posK l k < l.length), saidK l k = true ∧ ∃ F T, e = .returned (.tuple #[.agg #[F, T, .bool l[posK l k].o], .bool true]) ∧ Cpd w w' l[posK l k] F T

set_option maxRecDepth 100000 in
set_option maxHeartbeats 4000000 in
theorem bget_any (w : World) (p : Nat) (lv uv K : Value) (l : List SpV) (us : List Und) (k : List UInt8) (hb : Bf w p lv l uv us) (hK : Sl w 1 K k.length (bvs k)) (hl : l.length ≤ 100000) :
    Calls Try.prog 26 #[.pointer (some ⟨p, 0, none⟩), K] w fun e w' => Gotten w w' l k e := by
  obtain ⟨A, c, rfl, _, _⟩ := hb.row.form
  have HB := Lib.hid hb; have HK := Lib.hid hK; clear hb hK
  go_enter Try.func26, Try.ntmps26
  go_wp2_with fail
  have hN := heap_alloc_new w (.cells #[.slice none 0 0, .slice none 0 0, .bool false] 36)
  have hf := (Fr.refl no w).alloc (.cells #[.slice none 0 0, .slice none 0 0, .bool false] 36)
  generalize hg : w.heap.size = g at hN ⊢
  generalize w.alloc (.cells #[.slice none 0 0, .slice none 0 0, .bool false] 36) = w1 at hN hf ⊢
  have hg2 := Nat.le_of_eq hg
  have HG := Lib.hid hg2; have HN := Lib.hid hN; have F1 := Lib.hid hf; clear hN hf hg hg2
  refine (at_any w1 p _ _ K l us k (HB.out.kept0 F1.out) (HK.out.kept0 F1.out) (by omega)).mono ?_
  rintro e w2 ⟨rfl, f2⟩
  have F2 := Lib.hid (F1.out.trans f2 (fun _ _ h => h)); have HN := Lib.hid (f2.heap HN.out (fun h => h)); have HGL := Lib.hid (Array.getElem?_eq_some_iff.1 HN.out).1; clear f2
  cases hs : saidK l k with
  | false =>
    have HS := Lib.hid hs; clear hs
    obtain ⟨c0, c1, c2, hz, hlt⟩ := three_cells HN.out
    go_wp2
    have hg3 := set3_row (a := .slice none 0 0) (b := .slice none 0 0) (c := .bool false) HN.out
    have fs := set3_fr w2 g (.slice none 0 0) (.slice none 0 0) (.bool false)
    rw [show ((w2.setCell ⟨g, 0, none⟩ (.slice none 0 0)).setCell ⟨g, 1, none⟩ (.slice none 0 0)).setCell ⟨g, 2, none⟩ (.bool false) = set3 w2 g (.slice none 0 0) (.slice none 0 0) (.bool false) from rfl]
    generalize set3 w2 g (.slice none 0 0) (.slice none 0 0) (.bool false) = w3 at hg3 fs ⊢
    refine bodyPost_ret (results_cell_row2 rfl _ _ g _ #[.slice none 0 0, .slice none 0 0, .bool false] (0, 0) _ rfl hg3 Try.underlying36 rfl (by kernel_rfl)) rfl ?_
    exact .inl ⟨HS.out, rfl, F2.out.trans fs (fun k hk e => by have := HG.out; omega)⟩
  | true =>
    obtain ⟨hil, hke⟩ := said_at hs
    have HS := Lib.hid hs; clear hs hke
    generalize hi : posK l k = i at hil ⊢
    have HI := Lib.hid hi; clear hi
    have hb2 := HB.out.kept0 F2.out
    obtain ⟨gg, og, hA, q0, q1, q2⟩ := Spans.at hb2.row.sl i hil
    obtain ⟨WF, wf, hWF, _, _⟩ := (hb2.good l[i] (List.getElem_mem _)).F.form
    obtain ⟨WT, wt, hWT, _, _⟩ := (hb2.good l[i] (List.getElem_mem _)).T.form
    have hgo := hb2.good l[i] (List.getElem_mem _)
    have hgo2 : SpV.Good w2 ⟨.slice WF l[i].f.length wf, .slice WT l[i].t.length wt, l[i].f, l[i].t, l[i].o⟩ := ⟨hWF ▸ hgo.F, hWT ▸ hgo.T, hgo.lf, hgo.lt⟩
    rw [hWF] at q0; rw [hWT] at q1
    subst hA
    obtain ⟨b0, b1, bz, blt⟩ := two_cells hb2.at_
    have HGO := Lib.hid hgo2; clear hgo hgo2 hWF hWT hb2
    go_wp2_with fail
    refine (copied_any w2 _ HGO.out).mono ?_
    rintro e w3 ⟨F, T, rfl, hc⟩
    have HC := Lib.hid hc; have HN := Lib.hid (hc.fr.heap HN.out (fun h => h)); clear hc q0 q1 q2 b0 b1 bz blt
    obtain ⟨F0, hF0⟩ := HC.out.fF; obtain ⟨T0, hT0⟩ := HC.out.fT
    subst hF0; subst hT0
    obtain ⟨c0, c1, c2, hz, hlt⟩ := three_cells HN.out
    go_wp2
    have hg3 := set3_row (a := .slice F0 l[i].f.length l[i].f.length) (b := .slice T0 l[i].t.length l[i].t.length) (c := .bool l[i].o) HN.out
    have fs := set3_fr w3 g (.slice F0 l[i].f.length l[i].f.length) (.slice T0 l[i].t.length l[i].t.length) (.bool l[i].o)
    rw [show ((w3.setCell ⟨g, 0, none⟩ (.slice F0 l[i].f.length l[i].f.length)).setCell ⟨g, 1, none⟩ (.slice T0 l[i].t.length l[i].t.length)).setCell ⟨g, 2, none⟩ (.bool l[i].o) = set3 w3 g (.slice F0 l[i].f.length l[i].f.length) (.slice T0 l[i].t.length l[i].t.length) (.bool l[i].o) from rfl]
    generalize set3 w3 g (.slice F0 l[i].f.length l[i].f.length) (.slice T0 l[i].t.length l[i].t.length) (.bool l[i].o) = w4 at hg3 fs ⊢
    refine bodyPost_ret (results_cell_row2 rfl _ _ g _ #[.slice F0 l[i].f.length l[i].f.length, .slice T0 l[i].t.length l[i].t.length, .bool l[i].o] (0, 0) _ rfl hg3 Try.underlying36 rfl (by kernel_rfl)) rfl ?_
    have hh := HC.out
    have s2 := F2.out.size; have s3 := hh.fr.size
    have hgl : g < w2.heap.size := HGL.out
    have hi := HI.out; subst hi
    refine .inr ⟨hil, HS.out, _, _, rfl, hh.oF.kept fs (fun k hk e => ?_), hh.oT.kept fs (fun k hk e => ?_), fun k hk => ?_, fun k hk => ?_, hh.ne, hh.fF, hh.fT, (F2.out.trans hh.fr (fun _ _ h => h)).trans fs (fun k hk e => by have := HG.out; omega)⟩
    · have := hh.nF k hk; omega
    · have := hh.nT k hk; omega
    · have := hh.nF k hk; omega
    · have := hh.nT k hk; omega
end Go.Proofs.Ytdnohhlgaaihmaa

/- package buffer: Changes. -/
namespace Go.Proofs.Ytdnohhlgaaihmaa
open Go.RowKit

/-- Changes that are told, in memory of their own. -/
structure TolC (w0 w : World) (ov : Value) (os : List SpV) : Prop where
  row : Ow w 36 3 ov os.length (os.flatMap SpV.cells)
  own : ∀ x ∈ os, Ow w 5 1 x.F x.f.length (bvs x.f) ∧ Ow w 5 1 x.T x.t.length (bvs x.t)
  form : ∀ x ∈ os, (∃ A, x.F = .slice A x.f.length x.f.length) ∧ ∃ A, x.T = .slice A x.t.length x.t.length
  new : ∀ k, (ov.ownBlock = some k ∨ ∃ x ∈ os, BlC x k) → w0.heap.size ≤ k
  ne : ∀ x ∈ os, ∀ k, BlC x k → ov.ownBlock ≠ some k
  ft : ∀ x ∈ os, ∀ k, x.F.ownBlock = some k → x.T.ownBlock ≠ some k
  pw : os.Pairwise fun x y => ∀ k, BlC x k → ¬ BlC y k

theorem TolC.lt {w0 w : World} {ov : Value} {os : List SpV} (h : TolC w0 w ov os) {x : SpV} (hx : x ∈ os) {k : Nat} (hk : BlC x k) : k < w.heap.size := by
  rcases hk with hk | hk
  · exact (h.own x hx).1.lt k hk
  · exact (h.own x hx).2.lt k hk

theorem TolC.kept {w0 w w1 : World} {ov : Value} {os : List SpV} {S : Nat → Prop} (h : TolC w0 w ov os) (f : Fr S w w1) (hS : ∀ k, S k → k < w0.heap.size) : TolC w0 w1 ov os :=
  have d : ∀ k, (ov.ownBlock = some k ∨ ∃ x ∈ os, BlC x k) → ¬ S k := fun k hk e => by have := h.new k hk; have := hS k e; omega
  ⟨h.row.kept f (fun k hk => d k (.inl hk)), fun x hx => ⟨(h.own x hx).1.kept f (fun k hk => d k (.inr ⟨x, hx, .inl hk⟩)), (h.own x hx).2.kept f (fun k hk => d k (.inr ⟨x, hx, .inr hk⟩))⟩, h.form, h.new, h.ne, h.ft, h.pw⟩
theorem TolC.kept0 {w0 w w1 : World} {ov : Value} {os : List SpV} (h : TolC w0 w ov os) (f : Fr no w w1) : TolC w0 w1 ov os := h.kept f (fun _ h => h.elim)

/-- One more. -/
theorem TolC.push {w0 wr w2 w3 : World} {ov ov' : Value} {os : List SpV} {x : SpV} (h : TolC w0 wr ov os) (h0 : w0.heap.size ≤ wr.heap.size) (f1 : Fr no wr w2)
    (hF : Ow w2 5 1 x.F x.f.length (bvs x.f)) (hT : Ow w2 5 1 x.T x.t.length (bvs x.t)) (fF : ∃ A, x.F = .slice A x.f.length x.f.length) (fT : ∃ A, x.T = .slice A x.t.length x.t.length)
    (hn : ∀ k, BlC x k → wr.heap.size ≤ k) (hft : ∀ k, x.F.ownBlock = some k → x.T.ownBlock ≠ some k)
    (ho : Ow w3 36 3 ov' (os.length + 1) (os.flatMap SpV.cells ++ x.cells)) (f2 : Fr (fun k => ov.ownBlock = some k) w2 w3) (mv : Moved w2 w3 ov ov') : TolC w0 w3 ov' (os ++ [x]) := by
  have hs1 := f1.size
  have hx2 : ∀ k, BlC x k → k < w2.heap.size := fun k hk => hk.elim (hF.lt k) (hT.lt k)
  have hov : ∀ k, ov.ownBlock = some k → k < wr.heap.size := h.row.lt
  have hxo : ∀ k, BlC x k → ov.ownBlock ≠ some k := fun k hk e => by have := hn k hk; have := hov k e; omega
  have mem : ∀ {y : SpV}, y ∈ os ++ [x] → y ∈ os ∨ y = x := fun hy => by simpa using hy
  refine ⟨?_, fun y hy => ?_, fun y hy => ?_, fun k hk => ?_, fun y hy k hk => ?_, fun y hy => ?_, ?_⟩
  · rw [List.flatMap_append]; simpa using ho
  · rcases mem hy with hy | rfl
    · obtain ⟨a, b⟩ := h.own y hy
      exact ⟨(a.kept0 f1).kept f2 (fun k hk => h.ne y hy k (.inl hk)), (b.kept0 f1).kept f2 (fun k hk => h.ne y hy k (.inr hk))⟩
    · exact ⟨hF.kept f2 (fun k hk => hxo k (.inl hk)), hT.kept f2 (fun k hk => hxo k (.inr hk))⟩
  · rcases mem hy with hy | rfl
    · exact h.form y hy
    · exact ⟨fF, fT⟩
  · rcases hk with hk | ⟨y, hy, hk⟩
    · rcases mv with e | e
      · exact h.new k (.inl (e ▸ hk))
      · have := (e k hk).1; omega
    · rcases mem hy with hy | rfl
      · exact h.new k (.inr ⟨y, hy, hk⟩)
      · have := hn k hk; omega
  · rcases mem hy with hy | rfl
    · exact mv.not (by have := h.lt hy hk; omega) (h.ne y hy k hk)
    · exact mv.not (hx2 k hk) (hxo k hk)
  · rcases mem hy with hy | rfl
    · exact h.ft y hy
    · exact hft
  · rw [List.pairwise_append]
    refine ⟨h.pw, List.pairwise_singleton _ _, fun y hy z hz k hk hz2 => ?_⟩
    cases List.mem_singleton.1 hz
    have := h.lt hy hk; have := hn k hz2; omega

theorem one_chg {w : World} {vb : Nat} {us : List Value} (hv : Has w vb 36 us) (hu : us.length = 3) : Sl w 3 (.slice (some ⟨vb, 0, none⟩) 1 1) 1 us := by
  have h := hv.sl 3 0 1 1 (by omega) (Nat.le_refl _) (by simp [maxLen])
  rwa [List.drop_zero, List.take_of_length_le (by omega)] at h

set_option maxRecDepth 100000 in
set_option maxHeartbeats 400000 in
theorem cclip_any (w : World) (A : Option Addr) (n c : Nat) (hc : n ≤ c) :
    Calls Try.prog 56 #[.slice A n c] w fun e w' => e = .returned (.slice A n n) ∧ w' = w := by
  by_cases hn : n = 0
  · subst hn
    go_enter Try.func56, Try.ntmps56
    go_wp2
    go_ret
    exact ⟨rfl, rfl⟩
  · go_enter Try.func56, Try.ntmps56
    go_wp2
    go_ret
    refine ⟨?_, rfl⟩
    cases A <;> simp

theorem TolC.clip {w0 w : World} {A : Option Addr} {c : Nat} {os : List SpV} (h : TolC w0 w (.slice A os.length c) os) : TolC w0 w (.slice A os.length os.length) os := by
  have e : (Value.slice A os.length os.length).ownBlock = (Value.slice A os.length c).ownBlock := by cases A <;> rfl
  exact ⟨h.row.clip, h.own, h.form, by rw [e]; exact h.new, by rw [e]; exact h.ne, h.ft, h.pw⟩

theorem TolC.nil (w0 w : World) : TolC w0 w (.slice none 0 0) [] :=
  ⟨⟨rfl, .inl ⟨rfl, rfl⟩⟩, (fun _ h => nomatch h), (fun _ h => nomatch h), (fun k hk => hk.elim (fun h => by simp [Value.ownBlock] at h) (fun ⟨_, h, _⟩ => nomatch h)), (fun _ h => nomatch h), (fun _ h => nomatch h), List.Pairwise.nil⟩

set_option maxRecDepth 100000 in
set_option maxHeartbeats 4000000 in
theorem changes_any (w : World) (p : Nat) (lv uv : Value) (l : List SpV) (us : List Und) (hs : Bf w p lv l uv us) (hl : l.length ≤ 100000) :
    Calls Try.prog 16 #[.pointer (some ⟨p, 0, none⟩)] w fun e w' => ∃ A os, e = .returned (.slice A os.length os.length) ∧ TolC w w' (.slice A os.length os.length) os ∧ os.map (fun x => (x.f, x.t, x.o)) = l.map (fun x => (x.f, x.t, x.o)) ∧ Fr no w w' := by
  obtain ⟨A, c, rfl, hnc, hcm⟩ := hs.row.form
  obtain ⟨e0, e1, e2, _⟩ := two_cells hs.at_
  have HS := Lib.hid hs; clear hs
  go_enter Try.func16, Try.ntmps16
  go_wp2
  clear e0 e1 e2
  go_loopw [3, 11] (fun s i wr => ∃ os : List SpV, os.length ≤ l.length ∧ i = .int .i64 (os.length : Nat) ∧ TolC w wr s os ∧ os.map (fun x => (x.f, x.t, x.o)) = (l.take os.length).map (fun x => (x.f, x.t, x.o)) ∧ Fr no w wr) (fun _ i _ => l.length - (intOf i).toNat)
  case atStart => exact ⟨[], Nat.zero_le _, rfl, TolC.nil _ _, rfl, Fr.refl _ _⟩
  case round =>
    obtain ⟨os, hj, rfl, htold, hpr, hf⟩ := hrel
    obtain ⟨oA, oc, rfl, hoc, hocm⟩ := htold.row.form
    obtain ⟨j, hjj⟩ : ∃ j, j = os.length := ⟨_, rfl⟩
    have HF := Lib.hid hf; have HT := Lib.hid htold; have HPR := Lib.hid hpr; clear hf htold hpr
    rw [← hjj] at hj hoc ⊢
    have HJ := Lib.hid hjj; clear hjj
    by_cases hlt : j < l.length
    · have hs1 := HS.out.kept0 HF.out
      obtain ⟨b, o, hA, q0, q1, q2⟩ := Spans.at hs1.row.sl j hlt
      have hgo := hs1.good l[j] (List.getElem_mem _)
      obtain ⟨yA, yc, hyA, _, _⟩ := hgo.F.form
      obtain ⟨yB, yd, hyB, _, _⟩ := hgo.T.form
      have hq := World.block_lt_of_cell? wr _ q0
      have hgo2 : SpV.Good wr ⟨.slice yA l[j].f.length yc, .slice yB l[j].t.length yd, l[j].f, l[j].t, l[j].o⟩ := ⟨hyA ▸ hgo.F, hyB ▸ hgo.T, hgo.lf, hgo.lt⟩
      have HGO := Lib.hid hgo2
      rw [hyA] at q0; rw [hyB] at q1
      subst hA
      clear hyA hyB hgo hgo2 hs1
      go_wp2_with fail
      have hal := (Fr.refl no wr).alloc (.cells #[.slice yA l[j].f.length yc, .slice yB l[j].t.length yd, .bool l[j].o] 36)
      refine (copied_any _ _ (HGO.out.kept0 hal)).mono ?_
      rintro e w1 ⟨F, T, rfl, hc⟩
      obtain ⟨F0, hF0⟩ := hc.fF; obtain ⟨T0, hT0⟩ := hc.fT
      simp only at hF0 hT0
      subst hF0; subst hT0
      have hfa : Fr no wr w1 := hal.trans hc.fr (fun _ _ h => h)
      have hfb : Fr no wr (w1.alloc (.cells #[.slice F0 l[j].f.length l[j].f.length, .slice T0 l[j].t.length l[j].t.length, .bool l[j].o] 36)) := hfa.alloc _
      have hx := one_chg (w := w1.alloc (.cells #[.slice F0 l[j].f.length l[j].f.length, .slice T0 l[j].t.length l[j].t.length, .bool l[j].o] 36)) (heap_alloc_new w1 _ : Has _ w1.heap.size 36 [.slice F0 l[j].f.length l[j].f.length, .slice T0 l[j].t.length l[j].t.length, .bool l[j].o]) rfl
      have hrow : Ow wr 36 3 (.slice oA j oc) j (os.flatMap SpV.cells) := by have := HT.out.row; rw [← HJ.out] at this; exact this
      have HC := Lib.hid hc; have HFB := Lib.hid hfb; have HXX := Lib.hid hx; have HROW := Lib.hid hrow; clear hc hfb hx hrow q0 q1 q2 hq hal hfa
      go_wp2_with (at_builtin; refine wpList_apo rfl (.tmp 15) (.tmp 18) 30 rfl tbChange (HROW.out.kept0 HFB.out) HXX.out rfl rfl ?b0 ?b1 ?b2 ?go)
      case b0 => intro u hu; simp only [List.mem_cons, List.not_mem_nil, or_false] at hu; rcases hu with rfl | rfl | rfl <;> rfl
      case b1 => have := HJ.out; simp only [maxLen]; omega
      case b2 => have := HJ.out; omega
      case go =>
        intro B N d w3 hN ho _ hf2 hst
        subst hN
        have hal := (Fr.refl no w1).alloc (.cells #[.slice F0 l[j].f.length l[j].f.length, .slice T0 l[j].t.length l[j].t.length, .bool l[j].o] 36)
        have hjl : os.length = j := HJ.out.symm
        have ht0 : TolC w wr (.slice oA j oc) os := by have := HT.out; rw [hjl] at this; exact this
        have hss := HFB.out.size
        have hcc := HC.out
        have hwr : wr.heap.size ≤ (wr.alloc (.cells #[.slice yA l[j].f.length yc, .slice yB l[j].t.length yd, .bool l[j].o] 36)).heap.size := by rw [World.size_alloc]; omega
        have ht := ht0.push (x := ⟨.slice F0 l[j].f.length l[j].f.length, .slice T0 l[j].t.length l[j].t.length, l[j].f, l[j].t, l[j].o⟩) HF.out.size HFB.out (hcc.oF.kept0 hal) (hcc.oT.kept0 hal) ⟨F0, rfl⟩ ⟨T0, rfl⟩
          (fun k hk => hk.elim (fun h => by have := hcc.nF k h; omega) (fun h => by have := hcc.nT k h; omega))
          (fun k h1 h2 => hcc.ne k h1 h2) (by rw [hjl]; exact ho) hf2 (stays_moved hst)
        have hfc : Fr no w w3 := (HF.out.trans HFB.out (fun _ _ h => h)).trans hf2 (fun k hk h => by have := ht0.new k (.inl h); omega)
        have HT3 := Lib.hid ht; have HFC := Lib.hid hfc
        clear ht hfc hal ho hf2 hst ht0 hjl hss hcc hwr
        go_wp2
        go_roundw
        case rel =>
          refine ⟨os ++ [⟨.slice F0 l[j].f.length l[j].f.length, .slice T0 l[j].t.length l[j].t.length, l[j].f, l[j].t, l[j].o⟩], ?_, ?_, HT3.out, ?_, HFC.out⟩
          · simp; have := HJ.out; omega
          · simp [HJ.out]
          · have hpr := HPR.out
            rw [← HJ.out] at hpr
            rw [List.map_append, hpr, List.length_append, ← HJ.out, List.length_singleton, List.take_succ_eq_append_getElem hlt, List.map_append]
            rfl
        case measure => simp [intOf]; omega
    · go_wp2_with fail
      refine (cclip_any _ oA j oc hoc).mono ?_
      rintro e w1 ⟨rfl, rfl⟩
      go_wp2
      go_ret
      have hjl : os.length = j := HJ.out.symm
      refine ⟨oA, os, by rw [hjl]; rfl, HT.out.clip, ?_, HF.out⟩
      rw [HPR.out, List.take_of_length_le (by omega)]
end Go.Proofs.Ytdnohhlgaaihmaa

/- Two byte lists, compared. -/
namespace Go.Proofs.Ytdnohhlgaaihmaa
open Go.RowKit

set_option maxRecDepth 100000 in
set_option maxHeartbeats 400000 in
theorem same_any (w : World) (x y : Value) (l k : List UInt8) (hx : Sl w 1 x l.length (bvs l)) (hy : Sl w 1 y k.length (bvs k)) (hl : l.length ≤ 140737488351232) (hk : k.length ≤ 140737488351232) :
    Calls Try.prog 27 #[x, y] w fun e w' => e = .returned (.bool (decide (l = k))) ∧ ∃ n, w' = w.drewN n := by
  obtain ⟨A, c, rfl, hc1, hc2⟩ := hx.form
  obtain ⟨B, d, rfl, hd1, hd2⟩ := hy.form
  have HX := Lib.hid hx; have HY := Lib.hid hy; clear hx hy
  by_cases hlen : l.length = k.length
  · have hb : ((l.length : Int) != (k.length : Int)) = false := by simp [hlen]
    have HLEN := Lib.hid hlen; clear hlen
    go_enter Try.func27, Try.ntmps27
    go_wp2
    go_loopw [5] (fun i wr => ∃ j n : Nat, j ≤ l.length ∧ i = .int .i64 j ∧ wr = w.drewN n ∧ l.take j = k.take j) (fun i _ => l.length - (intOf i).toNat)
    case atStart => exact ⟨0, 0, Nat.zero_le _, rfl, rfl, rfl⟩
    case round =>
      obtain ⟨j, n, hj, rfl, rfl, ht⟩ := hrel
      have HT := Lib.hid ht; clear ht
      by_cases hlt : j < l.length
      · have hlt2 : j < k.length := by have := HLEN.out; omega
        obtain ⟨b, o, rfl, h1⟩ := HX.out.byte j hlt
        obtain ⟨b2, o2, rfl, h2⟩ := HY.out.byte j hlt2
        have e1 : l.take (j + 1) = l.take j ++ [l[j]] := by rw [List.take_succ_eq_append_getElem hlt]
        have e2 : k.take (j + 1) = k.take j ++ [k[j]] := by rw [List.take_succ_eq_append_getElem hlt2]
        by_cases he : l[j] = k[j]
        · have e3 : l.take (j + 1) = k.take (j + 1) := by rw [e1, e2, HT.out, he]
          rw [← he] at h2
          have hb2 : ((l[j].toNat : Int) != (l[j].toNat : Int)) = false := by simp
          have HE := Lib.hid e3; clear e1 e2 e3 he
          go_wp2
          go_quiet (fail)
          go_wp2
          go_roundw
          case rel => exact ⟨j + 1, _, by omega, by go_num, rfl, HE.out⟩
          case measure => simp [intOf]; omega
        · have hb2 : ((l[j].toNat : Int) != (k[j].toNat : Int)) = true := by
            rw [bne_iff_ne]; intro h; exact he (UInt8.toNat_inj.1 (by omega))
          have hne : decide (l = k) = false := by
            rw [decide_eq_false_iff_not]; intro h; subst h; exact he rfl
          have HE := Lib.hid he; have HN := Lib.hid hne; clear e1 e2 he hne
          go_wp2
          go_quiet (fail)
          go_wp2
          go_ret
          exact ⟨by rw [HN.out]; rfl, _, World.drewN_drewN _ _ _⟩
      · go_wp2
        go_ret
        have e : l = k := by
          have h := HT.out
          rw [List.take_of_length_le (by omega), List.take_of_length_le (by have := HLEN.out; omega)] at h
          exact h
        exact ⟨by simp [e], n, rfl⟩
  · have hb : ((l.length : Int) != (k.length : Int)) = true := by rw [bne_iff_ne]; omega
    have hne : decide (l = k) = false := by
      rw [decide_eq_false_iff_not]; intro h; subst h; exact hlen rfl
    have HN := Lib.hid hne; clear hlen hne
    go_enter Try.func27, Try.ntmps27
    go_wp2
    go_ret
    exact ⟨by rw [HN.out]; rfl, 0, rfl⟩
end Go.Proofs.Ytdnohhlgaaihmaa
