import Derived.Test.YtdnohhlgaaihmaaMt10

/- reads.Set: All. -/
namespace Go.Proofs.Ytdnohhlgaaihmaa
open Go.RowKit

/-- A span's own blocks. -/
def Bl (x : SpV) (k : Nat) : Prop := x.F.ownBlock = some k ∨ x.T.ownBlock = some k

/-- Spans that are their owner's alone: the row, each span's bytes, all in blocks of their own. -/
structure Told (w0 w : World) (ov : Value) (os : List SpV) : Prop where
  row : Ow w 100 3 ov os.length (os.flatMap SpV.cells)
  own : ∀ x ∈ os, Ow w 5 1 x.F x.f.length (bvs x.f) ∧ Ow w 5 1 x.T x.t.length (bvs x.t)
  form : ∀ x ∈ os, (∃ A, x.F = .slice A x.f.length x.f.length) ∧ ∃ A, x.T = .slice A x.t.length x.t.length
  new : ∀ k, (ov.ownBlock = some k ∨ ∃ x ∈ os, Bl x k) → w0.heap.size ≤ k
  ne : ∀ x ∈ os, ∀ k, Bl x k → ov.ownBlock ≠ some k
  ft : ∀ x ∈ os, ∀ k, x.F.ownBlock = some k → x.T.ownBlock ≠ some k
  pw : os.Pairwise fun x y => ∀ k, Bl x k → ¬ Bl y k

theorem Told.lt {w0 w : World} {ov : Value} {os : List SpV} (h : Told w0 w ov os) {x : SpV} (hx : x ∈ os) {k : Nat} (hk : Bl x k) : k < w.heap.size := by
  rcases hk with hk | hk
  · exact (h.own x hx).1.lt k hk
  · exact (h.own x hx).2.lt k hk

theorem Told.kept {w0 w w1 : World} {ov : Value} {os : List SpV} {S : Nat → Prop} (h : Told w0 w ov os) (f : Fr S w w1) (hS : ∀ k, S k → k < w0.heap.size) : Told w0 w1 ov os :=
  have d : ∀ k, (ov.ownBlock = some k ∨ ∃ x ∈ os, Bl x k) → ¬ S k := fun k hk e => by have := h.new k hk; have := hS k e; omega
  ⟨h.row.kept f (fun k hk => d k (.inl hk)), fun x hx => ⟨(h.own x hx).1.kept f (fun k hk => d k (.inr ⟨x, hx, .inl hk⟩)), (h.own x hx).2.kept f (fun k hk => d k (.inr ⟨x, hx, .inr hk⟩))⟩, h.form, h.new, h.ne, h.ft, h.pw⟩
theorem Told.kept0 {w0 w w1 : World} {ov : Value} {os : List SpV} (h : Told w0 w ov os) (f : Fr no w w1) : Told w0 w1 ov os := h.kept f (fun _ h => h.elim)

/-- One more. -/
theorem Told.push {w0 wr w2 w3 : World} {ov ov' : Value} {os : List SpV} {x : SpV} (h : Told w0 wr ov os) (h0 : w0.heap.size ≤ wr.heap.size) (f1 : Fr no wr w2)
    (hF : Ow w2 5 1 x.F x.f.length (bvs x.f)) (hT : Ow w2 5 1 x.T x.t.length (bvs x.t)) (fF : ∃ A, x.F = .slice A x.f.length x.f.length) (fT : ∃ A, x.T = .slice A x.t.length x.t.length)
    (hn : ∀ k, Bl x k → wr.heap.size ≤ k) (hft : ∀ k, x.F.ownBlock = some k → x.T.ownBlock ≠ some k)
    (ho : Ow w3 100 3 ov' (os.length + 1) (os.flatMap SpV.cells ++ x.cells)) (f2 : Fr (fun k => ov.ownBlock = some k) w2 w3) (mv : Moved w2 w3 ov ov') : Told w0 w3 ov' (os ++ [x]) := by
  have hs1 := f1.size
  have hx2 : ∀ k, Bl x k → k < w2.heap.size := fun k hk => hk.elim (hF.lt k) (hT.lt k)
  have hov : ∀ k, ov.ownBlock = some k → k < wr.heap.size := h.row.lt
  have hxo : ∀ k, Bl x k → ov.ownBlock ≠ some k := fun k hk e => by have := hn k hk; have := hov k e; omega
  have mem : ∀ {y : SpV}, y ∈ os ++ [x] → y ∈ os ∨ y = x := fun hy => by simpa using hy
  refine ⟨?_, fun y hy => ?_, fun y hy => ?_, fun k hk => ?_, fun y hy k hk => ?_, fun y hy => ?_, ?_⟩
  · rw [List.flatMap_append]; simpa using ho
  · rcases mem hy with hy | rfl
    · obtain ⟨a, b⟩ := h.own y hy
      exact ⟨(a.kept0 f1).kept f2 (fun k hk => h.ne y hy k (.inl hk)), (b.kept0 f1).kept f2 (fun k hk => h.ne y hy k (.inr hk))⟩
    · exact ⟨hF.kept f2 (fun k hk => hxo k (.inl hk)), hT.kept f2 (fun k hk => hxo k (.inr hk))⟩
  · rcases mem hy with hy | rfl
    · exact h.form y hy
    · exact ⟨fF, fT⟩
  · rcases hk with hk | ⟨y, hy, hk⟩
    · rcases mv with e | e
      · exact h.new k (.inl (e ▸ hk))
      · have := (e k hk).1; omega
    · rcases mem hy with hy | rfl
      · exact h.new k (.inr ⟨y, hy, hk⟩)
      · have := hn k hk; omega
  · rcases mem hy with hy | rfl
    · exact mv.not (by have := h.lt hy hk; omega) (h.ne y hy k hk)
    · exact mv.not (hx2 k hk) (hxo k hk)
  · rcases mem hy with hy | rfl
    · exact h.ft y hy
    · exact hft
  · rw [List.pairwise_append]
    refine ⟨h.pw, List.pairwise_singleton _ _, fun y hy z hz k hk hz2 => ?_⟩
    cases List.mem_singleton.1 hz
    have := h.lt hy hk; have := hn k hz2; omega

theorem one_span {w : World} {vb : Nat} {us : List Value} (hv : Has w vb 100 us) (hu : us.length = 3) : Sl w 3 (.slice (some ⟨vb, 0, none⟩) 1 1) 1 us := by
  have h := hv.sl 3 0 1 1 (by omega) (Nat.le_refl _) (by simp [maxLen])
  rwa [List.drop_zero, List.take_of_length_le (by omega)] at h

set_option maxRecDepth 100000 in
set_option maxHeartbeats 400000 in
theorem sclip_any (w : World) (A : Option Addr) (n c : Nat) (hc : n ≤ c) :
    Calls Try.prog 116 #[.slice A n c] w fun e w' => e = .returned (.slice A n n) ∧ w' = w := by
  by_cases hn : n = 0
  · subst hn
    go_enter Try.func116, Try.ntmps116
    go_wp2
    go_ret
    exact ⟨rfl, rfl⟩
  · go_enter Try.func116, Try.ntmps116
    go_wp2
    go_ret
    refine ⟨?_, rfl⟩
    cases A <;> simp

theorem Told.clip {w0 w : World} {A : Option Addr} {c : Nat} {os : List SpV} (h : Told w0 w (.slice A os.length c) os) : Told w0 w (.slice A os.length os.length) os := by
  have e : (Value.slice A os.length os.length).ownBlock = (Value.slice A os.length c).ownBlock := by cases A <;> rfl
  exact ⟨h.row.clip, h.own, h.form, by rw [e]; exact h.new, by rw [e]; exact h.ne, h.ft, h.pw⟩

theorem Told.nil (w0 w : World) : Told w0 w (.slice none 0 0) [] :=
  ⟨⟨rfl, .inl ⟨rfl, rfl⟩⟩, (fun _ h => nomatch h), (fun _ h => nomatch h), (fun k hk => hk.elim (fun h => by simp [Value.ownBlock] at h) (fun ⟨_, h, _⟩ => nomatch h)), (fun _ h => nomatch h), (fun _ h => nomatch h), List.Pairwise.nil⟩

set_option maxRecDepth 100000 in
set_option maxHeartbeats 4000000 in
theorem all_any (w : World) (p : Nat) (sv : Value) (l : List SpV) (hs : Se w p sv l) (hl : l.length ≤ 100000) :
    Calls Try.prog 46 #[.pointer (some ⟨p, 0, none⟩)] w fun e w' => ∃ A os, e = .returned (.slice A os.length os.length) ∧ Told w w' (.slice A os.length os.length) os ∧ os.map SpV.pr = l.map SpV.pr ∧ Fr no w w' := by
  obtain ⟨A, c, rfl, hnc, hcm⟩ := hs.row.form
  obtain ⟨e0, e1, e2⟩ := one_cells hs.at_
  have HS := Lib.hid hs; clear hs
  go_enter Try.func46, Try.ntmps46
  go_wp2
  clear e0 e1
  go_loopw [3, 11] (fun s i wr => ∃ os : List SpV, os.length ≤ l.length ∧ i = .int .i64 (os.length : Nat) ∧ Told w wr s os ∧ os.map SpV.pr = (l.take os.length).map SpV.pr ∧ Fr no w wr) (fun _ i _ => l.length - (intOf i).toNat)
  case atStart => exact ⟨[], Nat.zero_le _, rfl, Told.nil _ _, rfl, Fr.refl _ _⟩
  case round =>
    obtain ⟨os, hj, rfl, htold, hpr, hf⟩ := hrel
    obtain ⟨oA, oc, rfl, hoc, hocm⟩ := htold.row.form
    obtain ⟨j, hjj⟩ : ∃ j, j = os.length := ⟨_, rfl⟩
    have HF := Lib.hid hf; have HT := Lib.hid htold; have HPR := Lib.hid hpr; clear hf htold hpr
    rw [← hjj] at hj hoc ⊢
    have HJ := Lib.hid hjj; clear hjj
    by_cases hlt : j < l.length
    · have HS1 := Lib.hid (HS.out.kept0 HF.out)
      obtain ⟨b, o, hA, q0, q1, q2⟩ := Spans.at HS1.out.row.sl j hlt
      obtain ⟨yA, yc, hyA, _, _⟩ := (HS1.out.good l[j] (List.getElem_mem _)).F.form
      obtain ⟨yB, yd, hyB, _, _⟩ := (HS1.out.good l[j] (List.getElem_mem _)).T.form
      have hq := World.block_lt_of_cell? wr _ q0
      have HYF := Lib.hid (HS1.out.good l[j] (List.getElem_mem _)).F
      have HYT := Lib.hid (HS1.out.good l[j] (List.getElem_mem _)).T
      have HL1 := Lib.hid (HS1.out.good l[j] (List.getElem_mem _)).lf
      have HL2 := Lib.hid (HS1.out.good l[j] (List.getElem_mem _)).lt
      rw [hyA] at q0 HYF; rw [hyB] at q1 HYT
      subst hA
      clear hyA hyB
      go_wp2_with fail
      refine wp_region_ord [0, 1, 2, 4, 5, 7, 8, 3, 6, 9, 10, 11, 12] (fun i => [Kd.p, Kd.p, Kd.l, Kd.g, Kd.p, Kd.l, Kd.g, Kd.p, Kd.l, Kd.e, Kd.e, Kd.e, Kd.e].getD i .e) (by kernel_rfl) (by kernel_rfl) ?_
      iterate 7
        first | refine wpX_pu rfl rfl rfl (by first | exact pu_move rfl | exact pu_assign rfl | exact pu_nilCheck rfl rfl | exact pu_binInt rfl rfl rfl | exact pu_conv rfl rfl (by kernel_rfl) | exact pu_fld rfl (by kernel_rfl) | exact pu_ix rfl rfl rfl (by kernel_rfl) | exact pu_unOp rfl | exact pu_binStr rfl rfl rfl | exact pu_len rfl rfl | exact pu_lens rfl rfl | exact pu_pick rfl | exact pu_slice rfl rfl) (fun K hK => ?_) | refine wpX_rd rfl rfl rfl (rd_load rfl) (fun K hK => ?_) | refine wpX_gr rfl rfl rfl (by first | exact gr_buildSlice rfl | exact gr_box rfl | exact gr_alloc rfl) (fun K hK => ?_) | refine wpX_ex rfl rfl rfl (fun K hK => ?_)
        try go_wp2
      refine wpX_ca rfl rfl rfl (fun K hK => ?_)
      go_wp2_with fail
      refine (rown_any _ _ l[j].f (HYF.out.kept0 (by (repeat first | exact Fr.refl _ _ | exact Fr.drewN _ _ _ | apply Fr.drew | apply Fr.alloc | apply Fr.setAt | apply Fr.moreN))) HL1.out).mono ?_
      rintro e w1 ⟨A1, rfl, h1, h2, h3⟩
      have H1 := Lib.hid h1; have H2 := Lib.hid h2; have H3 := Lib.hid h3; clear h1 h2 h3
      go_wp2
      obtain ⟨⟨xa, xb⟩, hext⟩ := H3.out.ext
      refine ⟨⟨xa, xb, hext⟩, hK _ _ ?_⟩
      clear hK K hext xa xb
      refine wpX_ca rfl rfl rfl (fun K hK => ?_)
      go_wp2_with fail
      refine (rown_any _ _ l[j].t ((HYT.out.kept0 (by (repeat first | exact Fr.refl _ _ | exact Fr.drewN _ _ _ | apply Fr.drew | apply Fr.alloc | apply Fr.setAt | apply Fr.moreN))).kept0 H3.out) HL2.out).mono ?_
      rintro e w2 ⟨A2, rfl, h1, h2, h3⟩
      have G1 := Lib.hid h1; have G2 := Lib.hid h2; have G3 := Lib.hid h3; clear h1 h2 h3
      go_wp2
      obtain ⟨⟨xa, xb⟩, hext⟩ := G3.out.ext
      refine ⟨⟨xa, xb, hext⟩, hK _ _ ?_⟩
      clear hK K hext xa xb q0 q1 q2
      iterate 2
        refine wpX_ex rfl rfl rfl (fun K hK => ?_)
        go_simp
        refine hK _ _ ?_
        clear hK K
      refine wpX_ex rfl rfl rfl (fun K hK => ?_)
      have hx := one_span (w := w2.alloc (.cells #[.slice A1 l[j].f.length l[j].f.length, .slice A2 l[j].t.length l[j].t.length, .bool l[j].o] 100)) (heap_alloc_new w2 _ : Has _ w2.heap.size 100 [.slice A1 l[j].f.length l[j].f.length, .slice A2 l[j].t.length l[j].t.length, .bool l[j].o]) rfl
      have hfa : Fr no wr w2 := (((Fr.refl no wr).alloc _).drew.trans H3.out (fun _ _ h => h)).trans G3.out (fun _ _ h => h)
      have hfb : Fr no wr (w2.alloc (.cells #[.slice A1 l[j].f.length l[j].f.length, .slice A2 l[j].t.length l[j].t.length, .bool l[j].o] 100)) := hfa.alloc _
      have hrow : Ow wr 100 3 (.slice oA j oc) j (os.flatMap SpV.cells) := by have := HT.out.row; rw [← HJ.out] at this; exact this
      refine wp_apo (.tmp 15) (.tmp 25) 90 rfl tbSpan (hrow.kept0 hfb) hx rfl rfl ?b0 ?b1 ?b2 ?go
      case b0 => intro u hu; simp only [List.mem_cons, List.not_mem_nil, or_false] at hu; rcases hu with rfl | rfl | rfl <;> rfl
      case b1 => have := HJ.out; simp only [maxLen]; omega
      case b2 => have := HJ.out; omega
      case go =>
        intro B N d w3 hN ho _ hf2 hst
        subst hN
        have hal := (Fr.refl no w2).alloc (.cells #[.slice A1 l[j].f.length l[j].f.length, .slice A2 l[j].t.length l[j].t.length, .bool l[j].o] 100)
        have hjl : os.length = j := HJ.out.symm
        have ht0 : Told w wr (.slice oA j oc) os := by have := HT.out; rw [hjl] at this; exact this
        have ht := ht0.push (x := ⟨.slice A1 l[j].f.length l[j].f.length, .slice A2 l[j].t.length l[j].t.length, l[j].f, l[j].t, l[j].o⟩) HF.out.size hfb ((H1.out.kept0 G3.out).kept0 hal) (G1.out.kept0 hal) ⟨A1, rfl⟩ ⟨A2, rfl⟩
          (fun k hk => hk.elim (fun h => by have := H2.out k h; simp at this; omega) (fun h => by have := G2.out k h; have := H3.out.size; simp at this; omega))
          (fun k h1 h2 => by have := H1.out.lt k h1; have := G2.out k h2; omega) (by rw [hjl]; exact ho) hf2 (stays_moved hst)
        have hfc : Fr no w w3 := (HF.out.trans hfb (fun _ _ h => h)).trans hf2 (fun k hk h => by have := ht0.new k (.inl h); omega)
        have HT3 := Lib.hid ht; have HFC := Lib.hid hfc
        clear ht hfc hal ho hf2 hst hx hfa hfb hrow ht0 hjl H1 H2 H3 G1 G2 G3
        go_simp
        refine hK _ _ ?_
        clear hK K
        refine wpX_ex rfl rfl rfl (fun K hK => ?_)
        go_simp
        refine hK _ _ ?_
        clear hK K
        refine wpX_done ?_
        go_wp2
        go_roundw
        case rel =>
          refine ⟨os ++ [⟨.slice A1 l[j].f.length l[j].f.length, .slice A2 l[j].t.length l[j].t.length, l[j].f, l[j].t, l[j].o⟩], ?_, ?_, HT3.out, ?_, HFC.out⟩
          · simp; have := HJ.out; omega
          · simp [HJ.out]
          · have hpr := HPR.out
            rw [← HJ.out] at hpr
            rw [List.map_append, hpr, List.length_append, ← HJ.out, List.length_singleton, List.take_succ_eq_append_getElem hlt, List.map_append]
            rfl
        case measure => simp [intOf]; omega
    · go_wp2_with fail
      refine (sclip_any _ oA j oc hoc).mono ?_
      rintro e w1 ⟨rfl, rfl⟩
      go_wp2
      go_ret
      have hjl : os.length = j := HJ.out.symm
      refine ⟨oA, os, by rw [hjl]; rfl, HT.out.clip, ?_, HF.out⟩
      rw [HPR.out, List.take_of_length_le (by omega)]
end Go.Proofs.Ytdnohhlgaaihmaa

/- codicilref17.Set: Key, Span. -/
namespace Go.Proofs.Ytdnohhlgaaihmaa
open Go.RowKit

theorem less_cb (l k : List UInt8) : Op.bytesLess l k = decide (cb l k < 0) := by
  unfold cb
  induction l generalizing k with
  | nil => cases k <;> simp [Op.bytesLess, Lib.compareBytes]
  | cons a l ih =>
    cases k with
    | nil => simp [Op.bytesLess, Lib.compareBytes]
    | cons b k =>
      simp only [Op.bytesLess, Lib.compareBytes, ih]
      by_cases h1 : a < b
      · simp [h1]
      · by_cases h2 : b < a
        · have h3 : a ≠ b := fun e => by subst e; exact h1 h2
          simp [h1, h2, h3]
        · have h3 : a = b := UInt8.le_antisymm (UInt8.not_lt.1 h2) (UInt8.not_lt.1 h1)
          subst h3
          simp [h1]
theorem leq_cb (l k : List UInt8) : (Op.bytesLess l k || l == k) = decide (cb l k ≤ 0) := by
  rw [less_cb]
  have := cb_range l k
  by_cases h : l = k
  · subst h; simp [cb_self]
  · have h2 : cb l k ≠ 0 := fun e => h (cb_eq e)
    have h3 : (l == k) = false := by simpa using h
    rw [h3, Bool.or_false, decide_eq_decide]
    omega

@[go_sem] theorem strs_leq (t : TypeId) (l k : List UInt8) : binOp .leq t (.string ⟨l.toArray⟩) (.string ⟨k.toArray⟩) = pure (.bool (decide (cb l k ≤ 0))) := by
  simp only [binOp, Op.stringOp, ByteArray.toList_mk, leq_cb]
@[go_sem] theorem strs_gtr (t : TypeId) (l k : List UInt8) : binOp .gtr t (.string ⟨l.toArray⟩) (.string ⟨k.toArray⟩) = pure (.bool !(decide (cb l k ≤ 0))) := by
  simp only [binOp, Op.stringOp, ByteArray.toList_mk, leq_cb]
@[go_sem] theorem strs_geq (t : TypeId) (l k : List UInt8) : binOp .geq t (.string ⟨l.toArray⟩) (.string ⟨k.toArray⟩) = pure (.bool !(decide (cb l k < 0))) := by
  simp only [binOp, Op.stringOp, ByteArray.toList_mk, less_cb]
@[go_sem] theorem strs_lss (t : TypeId) (l k : List UInt8) : binOp .lss t (.string ⟨l.toArray⟩) (.string ⟨k.toArray⟩) = pure (.bool (decide (cb l k < 0))) := by
  simp only [binOp, Op.stringOp, ByteArray.toList_mk, less_cb]

/-- The document's set. -/
structure Rf (w : World) (p : Nat) (sv : Value) (l : List SpV) : Prop where
  at_ : w.heap[p]? = some (.cells #[sv] 156 (0, 0))
  row : Ow w 100 3 sv l.length (l.flatMap SpV.cells)
  good : ∀ x ∈ l, x.Good w
  ne : sv.ownBlock ≠ some p
  apart : ∀ x ∈ l, ∀ k, x.F.ownBlock = some k ∨ x.T.ownBlock = some k → k ≠ p ∧ sv.ownBlock ≠ some k ∧ k < w.heap.size
theorem Rf.kept {w w1 : World} {p : Nat} {sv : Value} {l : List SpV} {S : Nat → Prop} (h : Rf w p sv l) (f : Fr S w w1) (hn : Dj (SeF p sv l) S) : Rf w1 p sv l :=
  ⟨f.heap h.at_ (hn p (.inl rfl)), h.row.kept f (fun k hk => hn k (.inr (.inl hk))), fun x hx => (h.good x hx).kept f (fun k hk => hn k (.inr (.inr ⟨x, hx, .inl hk⟩))) (fun k hk => hn k (.inr (.inr ⟨x, hx, .inr hk⟩))), h.ne, fun x hx k hk => by obtain ⟨h1, h2, h3⟩ := h.apart x hx k hk; exact ⟨h1, h2, Nat.lt_of_lt_of_le h3 f.size⟩⟩
theorem Rf.kept0 {w w1 : World} {p : Nat} {sv : Value} {l : List SpV} (h : Rf w p sv l) (f : Fr no w w1) : Rf w1 p sv l := h.kept f (fun _ _ h => h)

/-- What the document's Key and Span leave. -/
def Refd (w w' : World) (p : Nat) (sv : Value) (l : List SpV) (x : SpV) (e : Ending) : Prop :=
  e = .returned (.tuple #[]) ∧ ∃ sv' l' F T, Rf w' p sv' l' ∧ (l' = l ∧ x.o = false ∧ cb x.t x.f ≤ 0 ∨ (x.o = true ∨ 0 < cb x.t x.f) ∧ l' = l ++ [⟨F, T, x.f, if x.o then [] else x.t, x.o⟩]) ∧
    Fr (fun k => k = p ∨ sv.ownBlock = some k) w w' ∧ ∀ k, SeF p sv' l' k → SeF p sv l k ∨ (w.heap.size ≤ k ∧ k < w'.heap.size)

theorem ref_fin {w W w10 : World} {p : Nat} {rv : Value} {rl : List SpV} {x : SpV} {A' : Option Addr} {N c' : Nat} (hN : N = rl.length + 1) (hs : Rf w p rv rl) (f0 : Fr no w W) (hx : x.Good W)
    (hnew : ∀ k, Bl x k → w.heap.size ≤ k ∧ k < W.heap.size) (ho : Ow w10 100 3 (.slice A' N c') N (rl.flatMap SpV.cells ++ x.cells))
    (f : Fr (fun k => rv.ownBlock = some k) W w10) (mv : Moved W w10 rv (.slice A' N c')) :
    Rf (w10.setCell ⟨p, 0, none⟩ (.slice A' N c')) p (.slice A' N c') (rl ++ [x]) ∧ Fr (fun k => k = p ∨ rv.ownBlock = some k) w (w10.setCell ⟨p, 0, none⟩ (.slice A' N c')) ∧
      ∀ k, SeF p (.slice A' N c') (rl ++ [x]) k → SeF p rv rl k ∨ (w.heap.size ≤ k ∧ k < (w10.setCell ⟨p, 0, none⟩ (.slice A' N c')).heap.size) := by
  have hpl := (one_cells hs.at_).2.2
  have hsz0 := f0.size
  have hsz1 := f.size
  have hs2 := hs.kept0 f0
  have hp2 := (one_cells hs2.at_).2.2
  have hne : (Value.slice A' N c').ownBlock ≠ some p := mv.not hp2 hs.ne
  have hbl : ∀ y ∈ rl ++ [x], ∀ k, y.F.ownBlock = some k ∨ y.T.ownBlock = some k → k ≠ p ∧ rv.ownBlock ≠ some k ∧ k < W.heap.size ∧ (SeF p rv rl k ∨ w.heap.size ≤ k) := fun y hy k hk => by
    rcases List.mem_append.1 hy with hy | hy
    · obtain ⟨h1, h2, h3⟩ := hs.apart y hy k hk
      exact ⟨h1, h2, by omega, .inl (.inr (.inr ⟨y, hy, hk⟩))⟩
    · cases List.mem_singleton.1 hy
      obtain ⟨h1, h2⟩ := hnew k hk
      exact ⟨by omega, fun e => by have := hs.row.lt k e; omega, h2, .inr h1⟩
  have fs : Fr (fun k => k = p ∨ rv.ownBlock = some k) W (w10.setCell ⟨p, 0, none⟩ (.slice A' N c')) := (f.mono (fun _ _ h => .inr h)).setCell _ _ (fun _ => .inl rfl)
  refine ⟨⟨?_, ?_, fun y hy => ?_, hne, fun y hy k hk => ?_⟩, ?_, fun k hk => ?_⟩
  · rw [hp_same (f.heap hs2.at_ hs.ne)]; simp
  · rw [List.length_append, List.length_singleton, ← hN, List.flatMap_append, show [x].flatMap SpV.cells = x.cells by simp]
    exact ho.kept (S := At p) ((Fr.refl (At p) w10).setAt _ _) (fun k hk e => hne (by rw [hk]; exact congrArg some e))
  · have hg : y.Good W := by
      rcases List.mem_append.1 hy with hy | hy
      · exact hs2.good y hy
      · cases List.mem_singleton.1 hy; exact hx
    exact hg.kept fs (fun k hk e => by obtain ⟨h1, h2, _⟩ := hbl y hy k (.inl hk); rcases e with e | e; exact h1 e; exact h2 e) (fun k hk e => by obtain ⟨h1, h2, _⟩ := hbl y hy k (.inr hk); rcases e with e | e; exact h1 e; exact h2 e)
  · obtain ⟨h1, h2, h3, _⟩ := hbl y hy k hk
    exact ⟨h1, mv.not h3 h2, by simp [World.setCell]; omega⟩
  · exact fr_sooner f0 fs
  · rcases hk with hk | hk | ⟨y, hy, hk⟩
    · exact .inl (.inl hk)
    · rcases mv.blk k hk with h | h
      · exact .inl (.inr (.inl h))
      · right; simp [World.setCell]; omega
    · obtain ⟨_, _, h3, h4⟩ := hbl y hy k hk
      rcases h4 with h4 | h4
      · exact .inl h4
      · right; simp [World.setCell]; omega

theorem ow_nil (w : World) (e : TypeId) (sz : Nat) : Ow w e sz (.slice none 0 0) 0 [] := ⟨by simp, .inl ⟨rfl, rfl⟩⟩

/-- A row appended to nil is a new one. -/
theorem nil_new {w w1 : World} {A : Option Addr} {N c n : Nat} (h : Stays w w1 (.slice none 0 0) (.slice A N c) n N) : ∀ k, (Value.slice A N c).ownBlock = some k → w.heap.size ≤ k ∧ k < w1.heap.size := fun k hk => by
  rcases stays_moved h with e | e
  · rw [e] at hk; simp [Value.ownBlock] at hk
  · exact e k hk

theorem own_new {w w1 w2 : World} {A B : Option Addr} {N M c d n : Nat} (h : ∀ k, (Value.slice A N c).ownBlock = some k → w.heap.size ≤ k) (hs : w.heap.size ≤ w1.heap.size) (m : Stays w1 w2 (.slice A N c) (.slice B M d) n M) : ∀ k, (Value.slice B M d).ownBlock = some k → w.heap.size ≤ k := fun k hk => by
  rcases stays_moved m with e | e
  · exact h k (e ▸ hk)
  · have := (e k hk).1; omega

theorem fr_nil {w w1 : World} (f : Fr (fun k => (Value.slice none 0 0).ownBlock = some k) w w1) : Fr no w w1 := f.mono (fun k _ h => by simp [Value.ownBlock] at h)

set_option maxRecDepth 100000 in
set_option maxHeartbeats 4000000 in
theorem rkey_any (w : World) (p : Nat) (sv K : Value) (l : List SpV) (k : List UInt8) (hs : Rf w p sv l) (hK : Sl w 1 K k.length (bvs k)) (hk : k.length ≤ 100000000) (hl : l.length ≤ 100000) :
    Calls Try.prog 106 #[.pointer (some ⟨p, 0, none⟩), K] w fun e w' => Refd w w' p sv l ⟨K, K, k, k ++ [0], false⟩ e := by
  obtain ⟨A, c, rfl, _, _⟩ := hK.form
  obtain ⟨rA, rc, rfl, _, _⟩ := hs.row.form
  have HS := Lib.hid hs; have HK := Lib.hid hK; clear hs hK
  go_enter Try.func106, Try.ntmps106
  go_wp2_with (at_builtin; refine wpList_apo rfl (.tmp 6) (.tmp 7) 34 rfl tbB (ow_nil w _ 1) HK.out rfl rfl (bvs_one _) ?b1 ?b2 ?go)
  case b1 => simp [maxLen]; omega
  case b2 => omega
  case go =>
    intro B1 N1 d1 w1 hN ho _ hf hst
    obtain rfl : N1 = k.length := by omega
    have H1 := Lib.hid ho; have F1 := Lib.hid (fr_nil hf); have M1 := Lib.hid (nil_new hst); clear ho hf hst hN
    go_wp2_with (at_builtin; refine wpList_apo rfl (.tmp 9) (.tmp 10) 34 rfl tbB (ow_nil w1 _ 1) (HK.out.kept0 F1.out) rfl rfl (bvs_one _) ?c1 ?c2 ?go2)
    case c1 => simp [maxLen]; omega
    case c2 => omega
    case go2 =>
      intro B2 N2 d2 w2 hN ho _ hf hst
      obtain rfl : N2 = k.length := by omega
      have H2 := Lib.hid ho; have F2 := Lib.hid (fr_nil hf); have M2 := Lib.hid (nil_new hst); clear ho hf hst hN
      go_wp2_with (at_builtin; refine wpList_apo rfl (.tmp 12) (.tmp 13) 34 rfl tbB (H2.out.kept0 ((Fr.refl no w2).alloc _)) (Sl.fresh w2 [0] 5 (by rfl) (by simp [maxLen])) rfl rfl (bvs_one _) ?e1 ?e2 ?go3)
      case e1 => simp [maxLen]; omega
      case e2 => simp; omega
      case go3 =>
        intro B3 N3 d3 w3 hN ho _ hf hst
        have hN : N3 = k.length + 1 := by simpa using hN
        subst hN
        have H3 := Lib.hid ho; have M3 := Lib.hid (own_new (fun k hk => (M2.out k hk).1) (by have := F2.out.size; simp; omega) hst)
        have F3 := Lib.hid (show Fr no w1 w3 from (F2.out.trans ((Fr.refl no w2).alloc _) (fun _ _ h => h)).trans hf (fun k hk h => by have := (M2.out k h).1; omega))
        clear ho hf hst
        have HS3 := Lib.hid ((HS.out.kept0 F1.out).kept0 F3.out)
        obtain ⟨e0, e1, e2⟩ := one_cells HS3.out.at_
        have hfa := (Fr.refl no w3).alloc (.cells #[.slice B1 k.length d1, .slice B3 (k.length + 1) d3, .bool false] 100)
        have HX := Lib.hid (one_span (heap_alloc_new w3 _ : Has (w3.alloc (.cells #[.slice B1 k.length d1, .slice B3 (k.length + 1) d3, .bool false] 100)) w3.heap.size 100 [.slice B1 k.length d1, .slice B3 (k.length + 1) d3, .bool false]) rfl)
        have HFA := Lib.hid hfa; clear hfa
        go_wp2_with (at_builtin; refine wpList_apo rfl (.tmp 19) (.tmp 23) 90 rfl tbSpan (HS3.out.row.kept0 HFA.out) HX.out rfl rfl ?g0 ?g1 ?g2 ?go4)
        case g0 => exact ⟨rfl, rfl, rfl⟩
        case g1 => simp only [maxLen]; omega
        case g2 => omega
        case go4 =>
          intro B N d w4 hN ho _ hf hst
          subst hN
          have fin := ref_fin (x := ⟨.slice B1 k.length d1, .slice B3 (k.length + 1) d3, k, k ++ [0], false⟩) rfl HS.out ((F1.out.trans F3.out (fun _ _ h => h)).trans HFA.out (fun _ _ h => h))
            ⟨((H1.out.kept0 F3.out).kept0 HFA.out).sl, by have := (H3.out.kept0 HFA.out).sl; rw [← bvs_append] at this; simpa using this, by simp only []; omega, by simp; omega⟩
            (fun j hj => hj.elim (fun h => by have := M1.out j h; have := F3.out.size; simp; omega) (fun h => by have := M3.out j h; have := H3.out.lt j h; have := F1.out.size; simp; omega)) ho hf (stays_moved hst)
          have c0 := hf.cell (a := ⟨p, 0, none⟩) (((HFA.out).cell e0 (fun h => h))) HS.out.ne
          have c1 := (hf.frozen (a := ⟨p, 0, none⟩) (by simp; omega) HS.out.ne).trans ((HFA.out.frozen (a := ⟨p, 0, none⟩) e2 (fun h => h)).trans (e1 0))
          have HFIN := Lib.hid fin; clear fin ho hf hst
          go_wp2
          refine bodyPost_end (results_none rfl _ _ _) rfl ?_
          exact ⟨rfl, _, _, _, _, HFIN.out.1, .inr ⟨.inr (by simp [cb_zero]), rfl⟩, HFIN.out.2.1, HFIN.out.2.2⟩
end Go.Proofs.Ytdnohhlgaaihmaa
