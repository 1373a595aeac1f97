/- package buffer: Changes. -/
import Derived.Test.YtdnohhlgaaihmaaBuf5
namespace Go.Proofs.Ytdnohhlgaaihmaa
open Go.RowKit

/-- Changes that are told, in memory of their own. -/
structure TolC (w0 w : World) (ov : Value) (os : List SpV) : Prop where
  row : Ow w 36 3 ov os.length (os.flatMap SpV.cells)
  own : ∀ x ∈ os, Ow w 5 1 x.F x.f.length (bvs x.f) ∧ Ow w 5 1 x.T x.t.length (bvs x.t)
  form : ∀ x ∈ os, (∃ A, x.F = .slice A x.f.length x.f.length) ∧ ∃ A, x.T = .slice A x.t.length x.t.length
  new : ∀ k, (ov.ownBlock = some k ∨ ∃ x ∈ os, BlC x k) → w0.heap.size ≤ k
  ne : ∀ x ∈ os, ∀ k, BlC x k → ov.ownBlock ≠ some k
  ft : ∀ x ∈ os, ∀ k, x.F.ownBlock = some k → x.T.ownBlock ≠ some k
  pw : os.Pairwise fun x y => ∀ k, BlC x k → ¬ BlC y k

theorem TolC.lt {w0 w : World} {ov : Value} {os : List SpV} (h : TolC w0 w ov os) {x : SpV} (hx : x ∈ os) {k : Nat} (hk : BlC x k) : k < w.heap.size := by
  rcases hk with hk | hk
  · exact (h.own x hx).1.lt k hk
  · exact (h.own x hx).2.lt k hk

theorem TolC.kept {w0 w w1 : World} {ov : Value} {os : List SpV} {S : Nat → Prop} (h : TolC w0 w ov os) (f : Fr S w w1) (hS : ∀ k, S k → k < w0.heap.size) : TolC w0 w1 ov os :=
  have d : ∀ k, (ov.ownBlock = some k ∨ ∃ x ∈ os, BlC x k) → ¬ S k := fun k hk e => by have := h.new k hk; have := hS k e; omega
  ⟨h.row.kept f (fun k hk => d k (.inl hk)), fun x hx => ⟨(h.own x hx).1.kept f (fun k hk => d k (.inr ⟨x, hx, .inl hk⟩)), (h.own x hx).2.kept f (fun k hk => d k (.inr ⟨x, hx, .inr hk⟩))⟩, h.form, h.new, h.ne, h.ft, h.pw⟩
theorem TolC.kept0 {w0 w w1 : World} {ov : Value} {os : List SpV} (h : TolC w0 w ov os) (f : Fr no w w1) : TolC w0 w1 ov os := h.kept f (fun _ h => h.elim)

/-- One more. -/
theorem TolC.push {w0 wr w2 w3 : World} {ov ov' : Value} {os : List SpV} {x : SpV} (h : TolC w0 wr ov os) (h0 : w0.heap.size ≤ wr.heap.size) (f1 : Fr no wr w2)
    (hF : Ow w2 5 1 x.F x.f.length (bvs x.f)) (hT : Ow w2 5 1 x.T x.t.length (bvs x.t)) (fF : ∃ A, x.F = .slice A x.f.length x.f.length) (fT : ∃ A, x.T = .slice A x.t.length x.t.length)
    (hn : ∀ k, BlC x k → wr.heap.size ≤ k) (hft : ∀ k, x.F.ownBlock = some k → x.T.ownBlock ≠ some k)
    (ho : Ow w3 36 3 ov' (os.length + 1) (os.flatMap SpV.cells ++ x.cells)) (f2 : Fr (fun k => ov.ownBlock = some k) w2 w3) (mv : Moved w2 w3 ov ov') : TolC w0 w3 ov' (os ++ [x]) := by
  have hs1 := f1.size
  have hx2 : ∀ k, BlC x k → k < w2.heap.size := fun k hk => hk.elim (hF.lt k) (hT.lt k)
  have hov : ∀ k, ov.ownBlock = some k → k < wr.heap.size := h.row.lt
  have hxo : ∀ k, BlC x k → ov.ownBlock ≠ some k := fun k hk e => by have := hn k hk; have := hov k e; omega
  have mem : ∀ {y : SpV}, y ∈ os ++ [x] → y ∈ os ∨ y = x := fun hy => by simpa using hy
  refine ⟨?_, fun y hy => ?_, fun y hy => ?_, fun k hk => ?_, fun y hy k hk => ?_, fun y hy => ?_, ?_⟩
  · rw [List.flatMap_append]; simpa using ho
  · rcases mem hy with hy | rfl
    · obtain ⟨a, b⟩ := h.own y hy
      exact ⟨(a.kept0 f1).kept f2 (fun k hk => h.ne y hy k (.inl hk)), (b.kept0 f1).kept f2 (fun k hk => h.ne y hy k (.inr hk))⟩
    · exact ⟨hF.kept f2 (fun k hk => hxo k (.inl hk)), hT.kept f2 (fun k hk => hxo k (.inr hk))⟩
  · rcases mem hy with hy | rfl
    · exact h.form y hy
    · exact ⟨fF, fT⟩
  · rcases hk with hk | ⟨y, hy, hk⟩
    · rcases mv with e | e
      · exact h.new k (.inl (e ▸ hk))
      · have := (e k hk).1; omega
    · rcases mem hy with hy | rfl
      · exact h.new k (.inr ⟨y, hy, hk⟩)
      · have := hn k hk; omega
  · rcases mem hy with hy | rfl
    · exact mv.not (by have := h.lt hy hk; omega) (h.ne y hy k hk)
    · exact mv.not (hx2 k hk) (hxo k hk)
  · rcases mem hy with hy | rfl
    · exact h.ft y hy
    · exact hft
  · rw [List.pairwise_append]
    refine ⟨h.pw, List.pairwise_singleton _ _, fun y hy z hz k hk hz2 => ?_⟩
    cases List.mem_singleton.1 hz
    have := h.lt hy hk; have := hn k hz2; omega

theorem one_chg {w : World} {vb : Nat} {us : List Value} (hv : Has w vb 36 us) (hu : us.length = 3) : Sl w 3 (.slice (some ⟨vb, 0, none⟩) 1 1) 1 us := by
  have h := hv.sl 3 0 1 1 (by omega) (Nat.le_refl _) (by simp [maxLen])
  rwa [List.drop_zero, List.take_of_length_le (by omega)] at h

set_option maxRecDepth 100000 in
set_option maxHeartbeats 400000 in
theorem cclip_any (w : World) (A : Option Addr) (n c : Nat) (hc : n ≤ c) :
    Calls Try.prog 56 #[.slice A n c] w fun e w' => e = .returned (.slice A n n) ∧ w' = w := by
  by_cases hn : n = 0
  · subst hn
    go_enter Try.func56, Try.ntmps56
    go_wp2
    go_ret
    exact ⟨rfl, rfl⟩
  · go_enter Try.func56, Try.ntmps56
    go_wp2
    go_ret
    refine ⟨?_, rfl⟩
    cases A <;> simp

theorem TolC.clip {w0 w : World} {A : Option Addr} {c : Nat} {os : List SpV} (h : TolC w0 w (.slice A os.length c) os) : TolC w0 w (.slice A os.length os.length) os := by
  have e : (Value.slice A os.length os.length).ownBlock = (Value.slice A os.length c).ownBlock := by cases A <;> rfl
  exact ⟨h.row.clip, h.own, h.form, by rw [e]; exact h.new, by rw [e]; exact h.ne, h.ft, h.pw⟩

theorem TolC.nil (w0 w : World) : TolC w0 w (.slice none 0 0) [] :=
  ⟨⟨rfl, .inl ⟨rfl, rfl⟩⟩, (fun _ h => nomatch h), (fun _ h => nomatch h), (fun k hk => hk.elim (fun h => by simp [Value.ownBlock] at h) (fun ⟨_, h, _⟩ => nomatch h)), (fun _ h => nomatch h), (fun _ h => nomatch h), List.Pairwise.nil⟩

set_option maxRecDepth 100000 in
set_option maxHeartbeats 4000000 in
theorem changes_any (w : World) (p : Nat) (lv uv : Value) (l : List SpV) (us : List Und) (hs : Bf w p lv l uv us) (hl : l.length ≤ 100000) :
    Calls Try.prog 16 #[.pointer (some ⟨p, 0, none⟩)] w fun e w' => ∃ A os, e = .returned (.slice A os.length os.length) ∧ TolC w w' (.slice A os.length os.length) os ∧ os.map (fun x => (x.f, x.t, x.o)) = l.map (fun x => (x.f, x.t, x.o)) ∧ Fr no w w' := by
  obtain ⟨A, c, rfl, hnc, hcm⟩ := hs.row.form
  obtain ⟨e0, e1, e2, _⟩ := two_cells hs.at_
  have HS := Lib.hid hs; clear hs
  go_enter Try.func16, Try.ntmps16
  go_wp2
  clear e0 e1 e2
  go_loopw [3, 11] (fun s i wr => ∃ os : List SpV, os.length ≤ l.length ∧ i = .int .i64 (os.length : Nat) ∧ TolC w wr s os ∧ os.map (fun x => (x.f, x.t, x.o)) = (l.take os.length).map (fun x => (x.f, x.t, x.o)) ∧ Fr no w wr) (fun _ i _ => l.length - (intOf i).toNat)
  case atStart => exact ⟨[], Nat.zero_le _, rfl, TolC.nil _ _, rfl, Fr.refl _ _⟩
  case round =>
    obtain ⟨os, hj, rfl, htold, hpr, hf⟩ := hrel
    obtain ⟨oA, oc, rfl, hoc, hocm⟩ := htold.row.form
    obtain ⟨j, hjj⟩ : ∃ j, j = os.length := ⟨_, rfl⟩
    have HF := Lib.hid hf; have HT := Lib.hid htold; have HPR := Lib.hid hpr; clear hf htold hpr
    rw [← hjj] at hj hoc ⊢
    have HJ := Lib.hid hjj; clear hjj
    by_cases hlt : j < l.length
    · have hs1 := HS.out.kept0 HF.out
      obtain ⟨b, o, hA, q0, q1, q2⟩ := Spans.at hs1.row.sl j hlt
      have hgo := hs1.good l[j] (List.getElem_mem _)
      obtain ⟨yA, yc, hyA, _, _⟩ := hgo.F.form
      obtain ⟨yB, yd, hyB, _, _⟩ := hgo.T.form
      have hq := World.block_lt_of_cell? wr _ q0
      have hgo2 : SpV.Good wr ⟨.slice yA l[j].f.length yc, .slice yB l[j].t.length yd, l[j].f, l[j].t, l[j].o⟩ := ⟨hyA ▸ hgo.F, hyB ▸ hgo.T, hgo.lf, hgo.lt⟩
      have HGO := Lib.hid hgo2
      rw [hyA] at q0; rw [hyB] at q1
      subst hA
      clear hyA hyB hgo hgo2 hs1
      go_wp2_with fail
      have hal := (Fr.refl no wr).alloc (.cells #[.slice yA l[j].f.length yc, .slice yB l[j].t.length yd, .bool l[j].o] 36)
      refine (copied_any _ _ (HGO.out.kept0 hal)).mono ?_
      rintro e w1 ⟨F, T, rfl, hc⟩
      obtain ⟨F0, hF0⟩ := hc.fF; obtain ⟨T0, hT0⟩ := hc.fT
      simp only at hF0 hT0
      subst hF0; subst hT0
      have hfa : Fr no wr w1 := hal.trans hc.fr (fun _ _ h => h)
      have hfb : Fr no wr (w1.alloc (.cells #[.slice F0 l[j].f.length l[j].f.length, .slice T0 l[j].t.length l[j].t.length, .bool l[j].o] 36)) := hfa.alloc _
      have hx := one_chg (w := w1.alloc (.cells #[.slice F0 l[j].f.length l[j].f.length, .slice T0 l[j].t.length l[j].t.length, .bool l[j].o] 36)) (heap_alloc_new w1 _ : Has _ w1.heap.size 36 [.slice F0 l[j].f.length l[j].f.length, .slice T0 l[j].t.length l[j].t.length, .bool l[j].o]) rfl
      have hrow : Ow wr 36 3 (.slice oA j oc) j (os.flatMap SpV.cells) := by have := HT.out.row; rw [← HJ.out] at this; exact this
      have HC := Lib.hid hc; have HFB := Lib.hid hfb; have HXX := Lib.hid hx; have HROW := Lib.hid hrow; clear hc hfb hx hrow q0 q1 q2 hq hal hfa
      go_wp2_with (at_builtin; refine wpList_apo rfl (.tmp 15) (.tmp 18) 30 rfl tbChange (HROW.out.kept0 HFB.out) HXX.out rfl rfl ?b0 ?b1 ?b2 ?go)
      case b0 => intro u hu; simp only [List.mem_cons, List.not_mem_nil, or_false] at hu; rcases hu with rfl | rfl | rfl <;> rfl
      case b1 => have := HJ.out; simp only [maxLen]; omega
      case b2 => have := HJ.out; omega
      case go =>
        intro B N d w3 hN ho _ hf2 hst
        subst hN
        have hal := (Fr.refl no w1).alloc (.cells #[.slice F0 l[j].f.length l[j].f.length, .slice T0 l[j].t.length l[j].t.length, .bool l[j].o] 36)
        have hjl : os.length = j := HJ.out.symm
        have ht0 : TolC w wr (.slice oA j oc) os := by have := HT.out; rw [hjl] at this; exact this
        have hss := HFB.out.size
        have hcc := HC.out
        have hwr : wr.heap.size ≤ (wr.alloc (.cells #[.slice yA l[j].f.length yc, .slice yB l[j].t.length yd, .bool l[j].o] 36)).heap.size := by rw [World.size_alloc]; omega
        have ht := ht0.push (x := ⟨.slice F0 l[j].f.length l[j].f.length, .slice T0 l[j].t.length l[j].t.length, l[j].f, l[j].t, l[j].o⟩) HF.out.size HFB.out (hcc.oF.kept0 hal) (hcc.oT.kept0 hal) ⟨F0, rfl⟩ ⟨T0, rfl⟩
          (fun k hk => hk.elim (fun h => by have := hcc.nF k h; omega) (fun h => by have := hcc.nT k h; omega))
          (fun k h1 h2 => hcc.ne k h1 h2) (by rw [hjl]; exact ho) hf2 (stays_moved hst)
        have hfc : Fr no w w3 := (HF.out.trans HFB.out (fun _ _ h => h)).trans hf2 (fun k hk h => by have := ht0.new k (.inl h); omega)
        have HT3 := Lib.hid ht; have HFC := Lib.hid hfc
        clear ht hfc hal ho hf2 hst ht0 hjl hss hcc hwr
        go_wp2
        go_roundw
        case rel =>
          refine ⟨os ++ [⟨.slice F0 l[j].f.length l[j].f.length, .slice T0 l[j].t.length l[j].t.length, l[j].f, l[j].t, l[j].o⟩], ?_, ?_, HT3.out, ?_, HFC.out⟩
          · simp; have := HJ.out; omega
          · simp [HJ.out]
          · have hpr := HPR.out
            rw [← HJ.out] at hpr
            rw [List.map_append, hpr, List.length_append, ← HJ.out, List.length_singleton, List.take_succ_eq_append_getElem hlt, List.map_append]
            rfl
        case measure => simp [intOf]; omega
    · go_wp2_with fail
      refine (cclip_any _ oA j oc hoc).mono ?_
      rintro e w1 ⟨rfl, rfl⟩
      go_wp2
      go_ret
      have hjl : os.length = j := HJ.out.symm
      refine ⟨oA, os, by rw [hjl]; rfl, HT.out.clip, ?_, HF.out⟩
      rw [HPR.out, List.take_of_length_le (by omega)]
end Go.Proofs.Ytdnohhlgaaihmaa
