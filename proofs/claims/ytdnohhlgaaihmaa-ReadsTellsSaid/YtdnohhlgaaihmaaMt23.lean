import Derived.Test.YtdnohhlgaaihmaaMt22
import Derived.Test.YtdnohhlgaaihmaaMt04

/- The book: bytes, pairs, changes, spans put into it. (printed by mkbook.py) -/
namespace Go.Proofs.Ytdnohhlgaaihmaa
open Go.RowKit

/-- The book's own blocks. -/
def BkO (b : Nat) (V : Nat → Value) : Nat → Prop := fun k => k = b ∨ ∃ i, (V i).ownBlock = some k
theorem BkO.bc {b : Nat} {V : Nat → Value} {R : Nat → List Value} {k : Nat} (h : BkO b V k) : BcF b V R k := by
  rcases h with h | h
  · exact .inl h
  · exact .inr (.inl h)

/-- What putting into the book leaves: the book with more rows; N: the blocks of what was put in. -/
def Grown (w w' : World) (b : Nat) (V : Nat → Value) (R : Nat → List Value) (N : Nat → Prop) (g : Nat) (e : Ending) : Prop :=
  e = .returned (.tuple #[]) ∧ ∃ V' R', Bc w' b V' R' ∧ Fr (BkO b V) w w' ∧ (∀ k, BcF b V' R' k → BcF b V R k ∨ N k ∨ w.heap.size ≤ k) ∧ (∀ k, BkO b V' k → BkO b V k ∨ w.heap.size ≤ k) ∧ ∀ i, (R' i).length ≤ (R i).length + g

theorem Bc.put {w w0 w2 : World} {b i N : Nat} {V : Nat → Value} {R : Nat → List Value} {r v' : Value} (h : Bc w b V R) (f0 : Fr no w w0) (hk : kept4 i) (f : Fr (fun k => (V i).ownBlock = some k) w0 w2) (hN : N = (R i).length + 1)
    (ho : Ow w2 (eT i) 1 v' N (R i ++ [r])) (st : Stays w0 w2 (V i) v' (R i).length N) (hr : RowOk w i r) (hd : ∀ k, r.ownBlock = some k → ¬ BcF b V R k) :
    Bc (w2.setCell ⟨b, i, none⟩ v') b (upd V i v') (upd R i (R i ++ [r])) ∧ Fr (BkO b V) w (w2.setCell ⟨b, i, none⟩ v') ∧ (∀ k, BcF b (upd V i v') (upd R i (R i ++ [r])) k → BcF b V R k ∨ r.ownBlock = some k ∨ w.heap.size ≤ k) ∧ (∀ k, BkO b (upd V i v') k → BkO b V k ∨ w.heap.size ≤ k) ∧ ∀ j, (upd R i (R i ++ [r]) j).length ≤ (R j).length + 1 := by
  obtain ⟨q1, q2, q3⟩ := (h.kept0 f0).bq.put hk f hN ho st
  have hs := f0.size
  obtain ⟨a1, a2⟩ := (h.kept0 f0).add q1 q2 (fun k hk => by rcases q3 k hk with h1 | h1; exact .inl h1; exact .inr h1.1) (by obtain ⟨n, xs, h1, h2⟩ := hr; exact ⟨n, xs, h1, h2.kept0 f0⟩) hd
  refine ⟨a1, (f0.mono (fun _ _ h => h.elim)).trans q2 (fun k _ e => ?_), fun k hk => ?_, fun k hk => ?_, fun j => ?_⟩
  · rcases e with e | e
    · exact .inl e
    · exact .inr ⟨i, e⟩
  · rcases a2 k hk with h1 | h1 | h1
    · exact .inl h1
    · exact .inr (.inl h1)
    · exact .inr (.inr (by omega))
  · rcases hk with h1 | ⟨j, h1⟩
    · exact .inl (.inl h1)
    · by_cases hji : j = i
      · subst hji; rw [upd_same] at h1
        rcases q3 k h1 with h2 | h2
        · exact .inl (.inr ⟨_, h2⟩)
        · exact .inr (by omega)
      · rw [upd_other hji] at h1; exact .inl (.inr ⟨j, h1⟩)
  · by_cases hji : j = i
    · subst hji; rw [upd_same]; simp
    · rw [upd_other hji]; omega

theorem Fr.trans2 {S T : Nat → Prop} {w w1 w2 : World} (h : Fr S w w1) (h' : Fr T w1 w2) (hs : ∀ k, k < w.heap.size → T k → S k) : Fr S w w2 := h.trans h' hs

set_option maxRecDepth 100000 in
theorem bc_bytes (w : World) (b : Nat) (V : Nat → Value) (R : Nat → List Value) (A : Option Addr) (n c : Nat) (h : Bc w b V R) (hl : (R 0).length ≤ 1000000) (hr : RowOk w 0 (.slice A n c)) (hd : ∀ k, (Value.slice A n c).ownBlock = some k → ¬ BcF b V R k) :
    Calls Try.prog 82 #[.pointer (some ⟨b, 0, none⟩), .slice A n c] w fun e w' => Grown w w' b V R (fun k => (Value.slice A n c).ownBlock = some k) 1 e := by
  have hc0 := h.bq.cell 0 (by omega)
  have hfz := h.bq.frozen 0
  have hbs := h.bq.lt
  have hrow := h.bq.row 0 (.inl rfl)
  obtain ⟨B, d, hv, _, _⟩ := hrow.form
  rw [hv] at hc0
  have HB := Lib.hid h; have HR := Lib.hid hr; have HD := Lib.hid hd; have HV := Lib.hid hv
  rw [hv] at hrow
  have HROW := Lib.hid hrow
  clear h hr hd hv hrow
  go_enter Try.func82, Try.ntmps82
  go_wp2_with (at_builtin; refine wpList_apo rfl (.tmp 8) (.tmp 10) 63 rfl tbRows (HROW.out.kept0 ((Fr.refl no _).alloc _)) (Sl.built w _ _) rfl rfl (by simp [Value.oneCell']) ?b1 ?b2 ?go)
  case b1 => simp only [maxLen]; omega
  case b2 => omega
  case go =>
    intro A' N c' w2 hN ho hold hf2 hst
    have f0 := (Fr.refl no w).alloc (.cells #[.slice A n c] 34)
    have hp := Bc.put (i := 0) HB.out f0 (.inl rfl) (by rw [HV.out]; exact hf2) hN ho (by rw [HV.out]; exact hst) HR.out HD.out
    have hnb : ¬ (Value.slice B (R 0).length d).ownBlock = some b := by rw [← HV.out]; exact HB.out.bq.ne 0
    have hh := hf2.heap (f0.heap HB.out.bq.at_ (fun h => h)) hnb
    have hc1 : w2.cell? ⟨b, 0, none⟩ = some (V 0) := by simp [World.cell?, hh, cells23]
    rw [HV.out] at hc1
    have hz1 : w2.frozen? ⟨b, 0, none⟩ = false := by simp [World.frozen?, hh]
    have hl1 : b < w2.heap.size := (Array.getElem?_eq_some_iff.1 hh).1
    have HP := Lib.hid hp; clear ho hold hf2 hst f0 hp hnb hh hN
    go_wp2
    go_end0
    obtain ⟨p1, p2, p3, p5, p4⟩ := HP.out
    exact ⟨rfl, _, _, p1, p2, p3, p5, p4⟩

/-- A pair as its two slices. -/
def SpV.c2 (x : SpV) : List Value := [x.F, x.T]
theorem flat2s (l : List SpV) (j : Nat) (h : j < l.length) (i : Nat) (hi : i < 2) : (l.flatMap SpV.c2)[2 * j + i]? = (l[j].c2)[i]? := by
  have e : l.flatMap SpV.c2 = (l.map SpV.c2).flatten := by rw [List.flatMap_def]
  induction l generalizing j with
  | nil => simp at h
  | cons y l ih =>
    rcases j with _ | j
    · match i, hi with
      | 0, _ => rfl
      | 1, _ => rfl
    · have := ih j (by simpa using h) (by rw [List.flatMap_def])
      rw [List.flatMap_cons, show 2 * (j + 1) + i = (2 * j + i) + 2 by omega]
      simpa [SpV.c2] using this
theorem at2 {w : World} {A : Option Addr} {n c : Nat} {l : List SpV} (h : Sl w 2 (.slice A n c) l.length (l.flatMap SpV.c2)) (j : Nat) (hj : j < l.length) :
    ∃ b o, A = some ⟨b, o, none⟩ ∧ w.cell? ⟨b, o + j * 2, none⟩ = some l[j].F ∧ w.cell? ⟨b, o + j * 2 + 1, none⟩ = some l[j].T := by
  rcases h.2 with ⟨_, h1, h2⟩ | ⟨b, o, cap, h1, _, _, h4⟩
  · omega
  · cases h1
    have g : ∀ i, i < 2 → ∀ u, (l[j].c2)[i]? = some u → w.cell? ⟨b, o + j * 2 + i, none⟩ = some u := fun i hi u hu => by
      have := h4 (2 * j + i) u (by rw [flat2s l j hj i hi, hu])
      rw [show o + j * 2 + i = o + (2 * j + i) by omega]; exact this
    exact ⟨b, o, rfl, g 0 (by omega) _ rfl, g 1 (by omega) _ rfl⟩

/-- What is put in: a row of pairs that is the book's owner's, each with its bytes apart. -/
structure InPairs (w : World) (ov : Value) (os : List SpV) : Prop where
  row : Ow w 40 2 ov os.length (os.flatMap SpV.c2)
  own : ∀ x ∈ os, Ow w 5 1 x.F x.f.length (bvs x.f) ∧ Ow w 5 1 x.T x.t.length (bvs x.t)
  form : ∀ x ∈ os, (∃ A c, x.F = .slice A x.f.length c) ∧ ∃ A c, x.T = .slice A x.t.length c
  short : ∀ x ∈ os, x.f.length ≤ 140737488351232 ∧ x.t.length ≤ 140737488351232
  ne : ∀ x ∈ os, ∀ k, BlC x k → ov.ownBlock ≠ some k
  ft : ∀ x ∈ os, ∀ k, x.F.ownBlock = some k → x.T.ownBlock ≠ some k
  pw : os.Pairwise fun x y => ∀ k, BlC x k → ¬ BlC y k
def InPairsF (ov : Value) (os : List SpV) : Nat → Prop := fun k => ov.ownBlock = some k ∨ ∃ x ∈ os, BlC x k
theorem InPairs.kept {w w1 : World} {ov : Value} {os : List SpV} {S : Nat → Prop} (h : InPairs w ov os) (f : Fr S w w1) (hn : ∀ k, InPairsF ov os k → ¬ S k) : InPairs w1 ov os :=
  ⟨h.row.kept f (fun k hk => hn k (.inl hk)), fun x hx => ⟨(h.own x hx).1.kept f (fun k hk => hn k (.inr ⟨x, hx, .inl hk⟩)), (h.own x hx).2.kept f (fun k hk => hn k (.inr ⟨x, hx, .inr hk⟩))⟩, h.form, h.short, h.ne, h.ft, h.pw⟩

theorem tbQPairs : Tb Try.prog 76 22 (.slice none 0 0) 1 24 := ⟨by kernel_rfl, by kernel_rfl, rfl, by decide⟩

set_option maxRecDepth 100000 in
set_option maxHeartbeats 4000000 in
theorem bc_Pairs (w : World) (b : Nat) (V : Nat → Value) (R : Nat → List Value) (ov : Value) (os : List SpV) (h : Bc w b V R) (hl : ∀ i, (R i).length ≤ 100000) (hi : InPairs w ov os) (hos : os.length ≤ 100000) (hd : ∀ k, InPairsF ov os k → ¬ BcF b V R k) :
    Calls Try.prog 79 #[.pointer (some ⟨b, 0, none⟩), ov] w fun e w' => Grown w w' b V R (InPairsF ov os) (2 * os.length + 1) e := by
  obtain ⟨A, c, rfl, hoc, _⟩ := hi.row.form
  have hc0 := h.bq.cell 13 (by omega)
  have hfz := h.bq.frozen 13
  have hbs := h.bq.lt
  have hl0 := hl 0
  have hl13 := hl 13
  have hrow := h.bq.row 13 (by unfold kept4; omega)
  obtain ⟨B, d, hv, _, _⟩ := hrow.form
  rw [hv] at hc0
  have hro : RowOk w 13 (.slice A os.length c) := ⟨os.length, _, by show os.length ≤ 1000000; omega, hi.row⟩
  have HB := Lib.hid h; have HI := Lib.hid hi; have HD := Lib.hid hd; have HV := Lib.hid hv; have HRO := Lib.hid hro; have HL := Lib.hid hl
  rw [hv] at hrow
  have HROW := Lib.hid hrow
  clear h hi hd hv hrow hro hl
  go_enter Try.func79, Try.ntmps79
  go_wp2_with (at_builtin; refine wpList_apo rfl (.tmp 9) (.tmp 11) 76 rfl tbQPairs (HROW.out.kept0 ((Fr.refl no _).alloc _)) (Sl.built w _ _) rfl rfl (by simp [Value.oneCell']) ?b1 ?b2 ?go)
  case b1 => simp only [maxLen]; omega
  case b2 => omega
  case go =>
    intro A' N c' w2 hN ho hold hf2 hst
    have f0 := (Fr.refl no w).alloc (.cells #[.slice A os.length c] 22)
    have hp := Bc.put (i := 13) HB.out f0 (by unfold kept4; omega) (by rw [HV.out]; exact hf2) hN ho (by rw [HV.out]; exact hst) HRO.out (fun k hk => HD.out k (.inl hk))
    have hnb : ¬ (Value.slice B (R 13).length d).ownBlock = some b := by rw [← HV.out]; exact HB.out.bq.ne 13
    have hh := hf2.heap (f0.heap HB.out.bq.at_ (fun h => h)) hnb
    have hc1 : w2.cell? ⟨b, 13, none⟩ = some (V 13) := by simp [World.cell?, hh, cells23]
    rw [HV.out] at hc1
    have hz1 : w2.frozen? ⟨b, 13, none⟩ = false := by simp [World.frozen?, hh]
    have hl1 : b < w2.heap.size := (Array.getElem?_eq_some_iff.1 hh).1
    have HP := Lib.hid hp; clear ho hold hf2 hst f0 hp hnb hh hN hc0
    go_wp2
    go_loopw [4] (fun s wr => ∃ (j : Nat) (V1 : Nat → Value) (R1 : Nat → List Value), j ≤ os.length ∧ s = .int .i64 j ∧ Bc wr b V1 R1 ∧ Fr (BkO b V) w wr ∧ (∀ k, BkO b V1 k → BkO b V k ∨ w.heap.size ≤ k) ∧ (∀ k, BcF b V1 R1 k → BcF b V R k ∨ ((Value.slice A os.length c).ownBlock = some k ∨ ∃ x ∈ os.take j, BlC x k) ∨ w.heap.size ≤ k) ∧ ∀ i, (R1 i).length ≤ (R i).length + 1 + 2 * j) (fun s _ => os.length - (intOf s).toNat)
    case atStart =>
      obtain ⟨p1, p2, p3, p5, p4⟩ := HP.out
      refine ⟨0, _, _, Nat.zero_le _, rfl, p1, p2, p5, fun k hk => ?_, fun i => by have := p4 i; omega⟩
      rcases p3 k hk with h1 | h1 | h1
      · exact .inl h1
      · exact .inr (.inl (.inl h1))
      · exact .inr (.inr h1)
    case round =>
      obtain ⟨j, V1, R1, hj, rfl, r1, r2, r5, r3, r4⟩ := hrel
      have h40 := r4 0
      have B1 := Lib.hid r1; have B2 := Lib.hid r2; have B3 := Lib.hid r3; have B4 := Lib.hid r4; have B5 := Lib.hid r5; clear r1 r2 r3 r4 r5
      by_cases hlt : j < os.length
      · have hir := HI.out.kept B2.out (fun k hk e => HD.out k hk e.bc)
        obtain ⟨g, o, hA, q0, q1⟩ := at2 hir.row.sl j hlt
        subst hA
        obtain ⟨⟨FA, fc, hF⟩, ⟨TA, tc, hT⟩⟩ := HI.out.form os[j] (List.getElem_mem _)
        obtain ⟨oF, oT⟩ := hir.own os[j] (List.getElem_mem _)
        obtain ⟨sF, sT⟩ := HI.out.short os[j] (List.getElem_mem _)
        have hbl : ∀ k, BlC os[j] k → ¬ BcF b V1 R1 k := fun k hk e => by
          have hlk : k < w.heap.size := by rcases hk with hk | hk; exact (HI.out.own os[j] (List.getElem_mem _)).1.lt k hk; exact (HI.out.own os[j] (List.getElem_mem _)).2.lt k hk
          rcases B3.out k e with h1 | (h1 | ⟨x, hx, h1⟩) | h1
          · exact HD.out k (.inr ⟨_, List.getElem_mem _, hk⟩) h1
          · exact HI.out.ne os[j] (List.getElem_mem _) k hk h1
          · obtain ⟨m, hm, rfl⟩ := List.getElem_of_mem hx
            rw [List.getElem_take] at h1
            exact List.pairwise_iff_getElem.1 HI.out.pw m j (by simp at hm; omega) hlt (by simp at hm; omega) k h1 hk
          · omega
        have hq0 := World.block_lt_of_cell? _ _ q0
        have hgn : ¬ BkO b V1 g := fun e => by
          have hgl : g < w.heap.size := HI.out.row.lt g rfl
          rcases B5.out g e with h1 | h1
          · exact HD.out g (.inl rfl) h1.bc
          · omega
        rw [hF] at q0 oF; rw [hT] at q1 oT
        have HBL := Lib.hid hbl; have OF := Lib.hid oF; have OT := Lib.hid oT; have HFT := Lib.hid (And.intro hF hT)
        have HIR := Lib.hid hir; have HGN := Lib.hid hgn; have Q1 := Lib.hid q1
        clear hbl oF oT hF hT hgn hir
        go_wp2_with fail
        refine (bc_bytes wr b V1 R1 FA os[j].f.length fc B1.out (by omega) ⟨_, _, sF, OF.out⟩ (fun k hk => HBL.out k (.inl (by rw [HFT.out.1]; exact hk)))).mono ?_
        rintro e w3 ⟨rfl, V2, R2, s1, s2, s3, s5, s4⟩
        have s40 := s4 0
        have q1 := s2.cell Q1.out HGN.out
        have hq1 := World.block_lt_of_cell? _ _ q1
        have oT3 := OT.out.kept s2 (fun k hk e => HBL.out k (.inr (by rw [HFT.out.2]; exact hk)) e.bc)
        have hT2 : ∀ k, (Value.slice TA os[j].t.length tc).ownBlock = some k → ¬ BcF b V2 R2 k := fun k hk e => by
          have hk2 : os[j].T.ownBlock = some k := by rw [HFT.out.2]; exact hk
          have hlk := (HIR.out.own os[j] (List.getElem_mem _)).2.lt k hk2
          rcases s3 k e with h1 | h1 | h1
          · exact HBL.out k (.inr hk2) h1
          · exact HI.out.ft os[j] (List.getElem_mem _) k (by rw [HFT.out.1]; exact h1) hk2
          · omega
        have S1 := Lib.hid s1; have S2 := Lib.hid s2; have S3 := Lib.hid s3; have S4 := Lib.hid s4; have S5 := Lib.hid s5; have OT3 := Lib.hid oT3; have HT2 := Lib.hid hT2
        clear s1 s2 s3 s4 s5 oT3 hT2
        go_wp2_with fail
        refine (bc_bytes w3 b V2 R2 TA os[j].t.length tc S1.out (by omega) ⟨_, _, sT, OT3.out⟩ HT2.out).mono ?_
        rintro e w4 ⟨rfl, V3, R3, t1, t2, t3, t5, t4⟩
        have T1 := Lib.hid t1; have T2 := Lib.hid t2; have T3 := Lib.hid t3; have T4 := Lib.hid t4; have T5 := Lib.hid t5
        clear t1 t2 t3 t4 t5
        go_wp2
        go_roundw
        case rel =>
          have z1 := B2.out.size; have z2 := S2.out.size
          refine ⟨j + 1, V3, R3, hlt, by go_num, T1.out, (B2.out.trans S2.out (fun k hk e => ?_)).trans T2.out (fun k hk e => ?_), fun k hk => ?_, fun k hk => ?_, fun i => by have := T4.out i; have := S4.out i; have := B4.out i; omega⟩
          · rcases B5.out k e with h1 | h1; exact h1; omega
          · rcases S5.out k e with h1 | h1
            · rcases B5.out k h1 with h2 | h2; exact h2; omega
            · omega
          · rcases T5.out k hk with h1 | h1
            · rcases S5.out k h1 with h2 | h2
              · exact B5.out k h2
              · exact .inr (by omega)
            · exact .inr (by omega)
          · have hjm : os[j] ∈ os.take (j + 1) := by rw [List.take_succ_eq_append_getElem hlt]; exact List.mem_append_right _ (List.mem_singleton.2 rfl)
            rcases T3.out k hk with h1 | h1 | h1
            · rcases S3.out k h1 with h2 | h2 | h2
              · rcases B3.out k h2 with h3 | (h3 | ⟨x, hx, h3⟩) | h3
                · exact .inl h3
                · exact .inr (.inl (.inl h3))
                · exact .inr (.inl (.inr ⟨x, by rw [List.take_succ_eq_append_getElem hlt]; exact List.mem_append_left _ hx, h3⟩))
                · exact .inr (.inr h3)
              · exact .inr (.inl (.inr ⟨_, hjm, .inl (by rw [HFT.out.1]; exact h2)⟩))
              · exact .inr (.inr (by omega))
            · exact .inr (.inl (.inr ⟨_, hjm, .inr (by rw [HFT.out.2]; exact h1)⟩))
            · exact .inr (.inr (by omega))
        case measure => simp [intOf]; omega
      · obtain rfl : j = os.length := by omega
        go_wp2
        go_end0
        refine ⟨rfl, V1, R1, B1.out, B2.out, fun k hk => ?_, B5.out, fun i => by have := B4.out i; omega⟩
        have := B3.out k hk
        rw [List.take_of_length_le (Nat.le_refl _)] at this
        exact this

/-- What is put in: a row of changes that is the book's owner's, each with its bytes apart. -/
structure InChanges (w : World) (ov : Value) (os : List SpV) : Prop where
  row : Ow w 36 3 ov os.length (os.flatMap SpV.cells)
  own : ∀ x ∈ os, Ow w 5 1 x.F x.f.length (bvs x.f) ∧ Ow w 5 1 x.T x.t.length (bvs x.t)
  form : ∀ x ∈ os, (∃ A c, x.F = .slice A x.f.length c) ∧ ∃ A c, x.T = .slice A x.t.length c
  short : ∀ x ∈ os, x.f.length ≤ 140737488351232 ∧ x.t.length ≤ 140737488351232
  ne : ∀ x ∈ os, ∀ k, BlC x k → ov.ownBlock ≠ some k
  ft : ∀ x ∈ os, ∀ k, x.F.ownBlock = some k → x.T.ownBlock ≠ some k
  pw : os.Pairwise fun x y => ∀ k, BlC x k → ¬ BlC y k
def InChangesF (ov : Value) (os : List SpV) : Nat → Prop := fun k => ov.ownBlock = some k ∨ ∃ x ∈ os, BlC x k
theorem InChanges.kept {w w1 : World} {ov : Value} {os : List SpV} {S : Nat → Prop} (h : InChanges w ov os) (f : Fr S w w1) (hn : ∀ k, InChangesF ov os k → ¬ S k) : InChanges w1 ov os :=
  ⟨h.row.kept f (fun k hk => hn k (.inl hk)), fun x hx => ⟨(h.own x hx).1.kept f (fun k hk => hn k (.inr ⟨x, hx, .inl hk⟩)), (h.own x hx).2.kept f (fun k hk => hn k (.inr ⟨x, hx, .inr hk⟩))⟩, h.form, h.short, h.ne, h.ft, h.pw⟩

theorem tbQChanges : Tb Try.prog 77 30 (.slice none 0 0) 1 24 := ⟨by kernel_rfl, by kernel_rfl, rfl, by decide⟩

set_option maxRecDepth 100000 in
set_option maxHeartbeats 4000000 in
theorem bc_Changes (w : World) (b : Nat) (V : Nat → Value) (R : Nat → List Value) (ov : Value) (os : List SpV) (h : Bc w b V R) (hl : ∀ i, (R i).length ≤ 100000) (hi : InChanges w ov os) (hos : os.length ≤ 100000) (hd : ∀ k, InChangesF ov os k → ¬ BcF b V R k) :
    Calls Try.prog 35 #[.pointer (some ⟨b, 0, none⟩), ov] w fun e w' => Grown w w' b V R (InChangesF ov os) (2 * os.length + 1) e := by
  obtain ⟨A, c, rfl, hoc, _⟩ := hi.row.form
  have hc0 := h.bq.cell 14 (by omega)
  have hfz := h.bq.frozen 14
  have hbs := h.bq.lt
  have hl0 := hl 0
  have hl14 := hl 14
  have hrow := h.bq.row 14 (by unfold kept4; omega)
  obtain ⟨B, d, hv, _, _⟩ := hrow.form
  rw [hv] at hc0
  have hro : RowOk w 14 (.slice A os.length c) := ⟨os.length, _, by show os.length ≤ 1000000; omega, hi.row⟩
  have HB := Lib.hid h; have HI := Lib.hid hi; have HD := Lib.hid hd; have HV := Lib.hid hv; have HRO := Lib.hid hro; have HL := Lib.hid hl
  rw [hv] at hrow
  have HROW := Lib.hid hrow
  clear h hi hd hv hrow hro hl
  go_enter Try.func35, Try.ntmps35
  go_wp2_with (at_builtin; refine wpList_apo rfl (.tmp 9) (.tmp 11) 77 rfl tbQChanges (HROW.out.kept0 ((Fr.refl no _).alloc _)) (Sl.built w _ _) rfl rfl (by simp [Value.oneCell']) ?b1 ?b2 ?go)
  case b1 => simp only [maxLen]; omega
  case b2 => omega
  case go =>
    intro A' N c' w2 hN ho hold hf2 hst
    have f0 := (Fr.refl no w).alloc (.cells #[.slice A os.length c] 30)
    have hp := Bc.put (i := 14) HB.out f0 (by unfold kept4; omega) (by rw [HV.out]; exact hf2) hN ho (by rw [HV.out]; exact hst) HRO.out (fun k hk => HD.out k (.inl hk))
    have hnb : ¬ (Value.slice B (R 14).length d).ownBlock = some b := by rw [← HV.out]; exact HB.out.bq.ne 14
    have hh := hf2.heap (f0.heap HB.out.bq.at_ (fun h => h)) hnb
    have hc1 : w2.cell? ⟨b, 14, none⟩ = some (V 14) := by simp [World.cell?, hh, cells23]
    rw [HV.out] at hc1
    have hz1 : w2.frozen? ⟨b, 14, none⟩ = false := by simp [World.frozen?, hh]
    have hl1 : b < w2.heap.size := (Array.getElem?_eq_some_iff.1 hh).1
    have HP := Lib.hid hp; clear ho hold hf2 hst f0 hp hnb hh hN hc0
    go_wp2
    go_loopw [4] (fun s wr => ∃ (j : Nat) (V1 : Nat → Value) (R1 : Nat → List Value), j ≤ os.length ∧ s = .int .i64 j ∧ Bc wr b V1 R1 ∧ Fr (BkO b V) w wr ∧ (∀ k, BkO b V1 k → BkO b V k ∨ w.heap.size ≤ k) ∧ (∀ k, BcF b V1 R1 k → BcF b V R k ∨ ((Value.slice A os.length c).ownBlock = some k ∨ ∃ x ∈ os.take j, BlC x k) ∨ w.heap.size ≤ k) ∧ ∀ i, (R1 i).length ≤ (R i).length + 1 + 2 * j) (fun s _ => os.length - (intOf s).toNat)
    case atStart =>
      obtain ⟨p1, p2, p3, p5, p4⟩ := HP.out
      refine ⟨0, _, _, Nat.zero_le _, rfl, p1, p2, p5, fun k hk => ?_, fun i => by have := p4 i; omega⟩
      rcases p3 k hk with h1 | h1 | h1
      · exact .inl h1
      · exact .inr (.inl (.inl h1))
      · exact .inr (.inr h1)
    case round =>
      obtain ⟨j, V1, R1, hj, rfl, r1, r2, r5, r3, r4⟩ := hrel
      have h40 := r4 0
      have B1 := Lib.hid r1; have B2 := Lib.hid r2; have B3 := Lib.hid r3; have B4 := Lib.hid r4; have B5 := Lib.hid r5; clear r1 r2 r3 r4 r5
      by_cases hlt : j < os.length
      · have hir := HI.out.kept B2.out (fun k hk e => HD.out k hk e.bc)
        obtain ⟨g, o, hA, q0, q1, -⟩ := Spans.at hir.row.sl j hlt
        subst hA
        obtain ⟨⟨FA, fc, hF⟩, ⟨TA, tc, hT⟩⟩ := HI.out.form os[j] (List.getElem_mem _)
        obtain ⟨oF, oT⟩ := hir.own os[j] (List.getElem_mem _)
        obtain ⟨sF, sT⟩ := HI.out.short os[j] (List.getElem_mem _)
        have hbl : ∀ k, BlC os[j] k → ¬ BcF b V1 R1 k := fun k hk e => by
          have hlk : k < w.heap.size := by rcases hk with hk | hk; exact (HI.out.own os[j] (List.getElem_mem _)).1.lt k hk; exact (HI.out.own os[j] (List.getElem_mem _)).2.lt k hk
          rcases B3.out k e with h1 | (h1 | ⟨x, hx, h1⟩) | h1
          · exact HD.out k (.inr ⟨_, List.getElem_mem _, hk⟩) h1
          · exact HI.out.ne os[j] (List.getElem_mem _) k hk h1
          · obtain ⟨m, hm, rfl⟩ := List.getElem_of_mem hx
            rw [List.getElem_take] at h1
            exact List.pairwise_iff_getElem.1 HI.out.pw m j (by simp at hm; omega) hlt (by simp at hm; omega) k h1 hk
          · omega
        have hq0 := World.block_lt_of_cell? _ _ q0
        have hgn : ¬ BkO b V1 g := fun e => by
          have hgl : g < w.heap.size := HI.out.row.lt g rfl
          rcases B5.out g e with h1 | h1
          · exact HD.out g (.inl rfl) h1.bc
          · omega
        rw [hF] at q0 oF; rw [hT] at q1 oT
        have HBL := Lib.hid hbl; have OF := Lib.hid oF; have OT := Lib.hid oT; have HFT := Lib.hid (And.intro hF hT)
        have HIR := Lib.hid hir; have HGN := Lib.hid hgn; have Q1 := Lib.hid q1
        clear hbl oF oT hF hT hgn hir
        go_wp2_with fail
        refine (bc_bytes wr b V1 R1 FA os[j].f.length fc B1.out (by omega) ⟨_, _, sF, OF.out⟩ (fun k hk => HBL.out k (.inl (by rw [HFT.out.1]; exact hk)))).mono ?_
        rintro e w3 ⟨rfl, V2, R2, s1, s2, s3, s5, s4⟩
        have s40 := s4 0
        have q1 := s2.cell Q1.out HGN.out
        have hq1 := World.block_lt_of_cell? _ _ q1
        have oT3 := OT.out.kept s2 (fun k hk e => HBL.out k (.inr (by rw [HFT.out.2]; exact hk)) e.bc)
        have hT2 : ∀ k, (Value.slice TA os[j].t.length tc).ownBlock = some k → ¬ BcF b V2 R2 k := fun k hk e => by
          have hk2 : os[j].T.ownBlock = some k := by rw [HFT.out.2]; exact hk
          have hlk := (HIR.out.own os[j] (List.getElem_mem _)).2.lt k hk2
          rcases s3 k e with h1 | h1 | h1
          · exact HBL.out k (.inr hk2) h1
          · exact HI.out.ft os[j] (List.getElem_mem _) k (by rw [HFT.out.1]; exact h1) hk2
          · omega
        have S1 := Lib.hid s1; have S2 := Lib.hid s2; have S3 := Lib.hid s3; have S4 := Lib.hid s4; have S5 := Lib.hid s5; have OT3 := Lib.hid oT3; have HT2 := Lib.hid hT2
        clear s1 s2 s3 s4 s5 oT3 hT2
        go_wp2_with fail
        refine (bc_bytes w3 b V2 R2 TA os[j].t.length tc S1.out (by omega) ⟨_, _, sT, OT3.out⟩ HT2.out).mono ?_
        rintro e w4 ⟨rfl, V3, R3, t1, t2, t3, t5, t4⟩
        have T1 := Lib.hid t1; have T2 := Lib.hid t2; have T3 := Lib.hid t3; have T4 := Lib.hid t4; have T5 := Lib.hid t5
        clear t1 t2 t3 t4 t5
        go_wp2
        go_roundw
        case rel =>
          have z1 := B2.out.size; have z2 := S2.out.size
          refine ⟨j + 1, V3, R3, hlt, by go_num, T1.out, (B2.out.trans S2.out (fun k hk e => ?_)).trans T2.out (fun k hk e => ?_), fun k hk => ?_, fun k hk => ?_, fun i => by have := T4.out i; have := S4.out i; have := B4.out i; omega⟩
          · rcases B5.out k e with h1 | h1; exact h1; omega
          · rcases S5.out k e with h1 | h1
            · rcases B5.out k h1 with h2 | h2; exact h2; omega
            · omega
          · rcases T5.out k hk with h1 | h1
            · rcases S5.out k h1 with h2 | h2
              · exact B5.out k h2
              · exact .inr (by omega)
            · exact .inr (by omega)
          · have hjm : os[j] ∈ os.take (j + 1) := by rw [List.take_succ_eq_append_getElem hlt]; exact List.mem_append_right _ (List.mem_singleton.2 rfl)
            rcases T3.out k hk with h1 | h1 | h1
            · rcases S3.out k h1 with h2 | h2 | h2
              · rcases B3.out k h2 with h3 | (h3 | ⟨x, hx, h3⟩) | h3
                · exact .inl h3
                · exact .inr (.inl (.inl h3))
                · exact .inr (.inl (.inr ⟨x, by rw [List.take_succ_eq_append_getElem hlt]; exact List.mem_append_left _ hx, h3⟩))
                · exact .inr (.inr h3)
              · exact .inr (.inl (.inr ⟨_, hjm, .inl (by rw [HFT.out.1]; exact h2)⟩))
              · exact .inr (.inr (by omega))
            · exact .inr (.inl (.inr ⟨_, hjm, .inr (by rw [HFT.out.2]; exact h1)⟩))
            · exact .inr (.inr (by omega))
        case measure => simp [intOf]; omega
      · obtain rfl : j = os.length := by omega
        go_wp2
        go_end0
        refine ⟨rfl, V1, R1, B1.out, B2.out, fun k hk => ?_, B5.out, fun i => by have := B4.out i; omega⟩
        have := B3.out k hk
        rw [List.take_of_length_le (Nat.le_refl _)] at this
        exact this

/-- What is put in: a row of spans that is the book's owner's, each with its bytes apart. -/
structure InSpans (w : World) (ov : Value) (os : List SpV) : Prop where
  row : Ow w 100 3 ov os.length (os.flatMap SpV.cells)
  own : ∀ x ∈ os, Ow w 5 1 x.F x.f.length (bvs x.f) ∧ Ow w 5 1 x.T x.t.length (bvs x.t)
  form : ∀ x ∈ os, (∃ A c, x.F = .slice A x.f.length c) ∧ ∃ A c, x.T = .slice A x.t.length c
  short : ∀ x ∈ os, x.f.length ≤ 140737488351232 ∧ x.t.length ≤ 140737488351232
  ne : ∀ x ∈ os, ∀ k, BlC x k → ov.ownBlock ≠ some k
  ft : ∀ x ∈ os, ∀ k, x.F.ownBlock = some k → x.T.ownBlock ≠ some k
  pw : os.Pairwise fun x y => ∀ k, BlC x k → ¬ BlC y k
def InSpansF (ov : Value) (os : List SpV) : Nat → Prop := fun k => ov.ownBlock = some k ∨ ∃ x ∈ os, BlC x k
theorem InSpans.kept {w w1 : World} {ov : Value} {os : List SpV} {S : Nat → Prop} (h : InSpans w ov os) (f : Fr S w w1) (hn : ∀ k, InSpansF ov os k → ¬ S k) : InSpans w1 ov os :=
  ⟨h.row.kept f (fun k hk => hn k (.inl hk)), fun x hx => ⟨(h.own x hx).1.kept f (fun k hk => hn k (.inr ⟨x, hx, .inl hk⟩)), (h.own x hx).2.kept f (fun k hk => hn k (.inr ⟨x, hx, .inr hk⟩))⟩, h.form, h.short, h.ne, h.ft, h.pw⟩

theorem tbQSpans : Tb Try.prog 78 90 (.slice none 0 0) 1 24 := ⟨by kernel_rfl, by kernel_rfl, rfl, by decide⟩

set_option maxRecDepth 100000 in
set_option maxHeartbeats 4000000 in
theorem bc_Spans (w : World) (b : Nat) (V : Nat → Value) (R : Nat → List Value) (ov : Value) (os : List SpV) (h : Bc w b V R) (hl : ∀ i, (R i).length ≤ 100000) (hi : InSpans w ov os) (hos : os.length ≤ 100000) (hd : ∀ k, InSpansF ov os k → ¬ BcF b V R k) :
    Calls Try.prog 53 #[.pointer (some ⟨b, 0, none⟩), ov] w fun e w' => Grown w w' b V R (InSpansF ov os) (2 * os.length + 1) e := by
  obtain ⟨A, c, rfl, hoc, _⟩ := hi.row.form
  have hc0 := h.bq.cell 15 (by omega)
  have hfz := h.bq.frozen 15
  have hbs := h.bq.lt
  have hl0 := hl 0
  have hl15 := hl 15
  have hrow := h.bq.row 15 (by unfold kept4; omega)
  obtain ⟨B, d, hv, _, _⟩ := hrow.form
  rw [hv] at hc0
  have hro : RowOk w 15 (.slice A os.length c) := ⟨os.length, _, by show os.length ≤ 1000000; omega, hi.row⟩
  have HB := Lib.hid h; have HI := Lib.hid hi; have HD := Lib.hid hd; have HV := Lib.hid hv; have HRO := Lib.hid hro; have HL := Lib.hid hl
  rw [hv] at hrow
  have HROW := Lib.hid hrow
  clear h hi hd hv hrow hro hl
  go_enter Try.func53, Try.ntmps53
  go_wp2_with (at_builtin; refine wpList_apo rfl (.tmp 9) (.tmp 11) 78 rfl tbQSpans (HROW.out.kept0 ((Fr.refl no _).alloc _)) (Sl.built w _ _) rfl rfl (by simp [Value.oneCell']) ?b1 ?b2 ?go)
  case b1 => simp only [maxLen]; omega
  case b2 => omega
  case go =>
    intro A' N c' w2 hN ho hold hf2 hst
    have f0 := (Fr.refl no w).alloc (.cells #[.slice A os.length c] 90)
    have hp := Bc.put (i := 15) HB.out f0 (by unfold kept4; omega) (by rw [HV.out]; exact hf2) hN ho (by rw [HV.out]; exact hst) HRO.out (fun k hk => HD.out k (.inl hk))
    have hnb : ¬ (Value.slice B (R 15).length d).ownBlock = some b := by rw [← HV.out]; exact HB.out.bq.ne 15
    have hh := hf2.heap (f0.heap HB.out.bq.at_ (fun h => h)) hnb
    have hc1 : w2.cell? ⟨b, 15, none⟩ = some (V 15) := by simp [World.cell?, hh, cells23]
    rw [HV.out] at hc1
    have hz1 : w2.frozen? ⟨b, 15, none⟩ = false := by simp [World.frozen?, hh]
    have hl1 : b < w2.heap.size := (Array.getElem?_eq_some_iff.1 hh).1
    have HP := Lib.hid hp; clear ho hold hf2 hst f0 hp hnb hh hN hc0
    go_wp2
    go_loopw [4] (fun s wr => ∃ (j : Nat) (V1 : Nat → Value) (R1 : Nat → List Value), j ≤ os.length ∧ s = .int .i64 j ∧ Bc wr b V1 R1 ∧ Fr (BkO b V) w wr ∧ (∀ k, BkO b V1 k → BkO b V k ∨ w.heap.size ≤ k) ∧ (∀ k, BcF b V1 R1 k → BcF b V R k ∨ ((Value.slice A os.length c).ownBlock = some k ∨ ∃ x ∈ os.take j, BlC x k) ∨ w.heap.size ≤ k) ∧ ∀ i, (R1 i).length ≤ (R i).length + 1 + 2 * j) (fun s _ => os.length - (intOf s).toNat)
    case atStart =>
      obtain ⟨p1, p2, p3, p5, p4⟩ := HP.out
      refine ⟨0, _, _, Nat.zero_le _, rfl, p1, p2, p5, fun k hk => ?_, fun i => by have := p4 i; omega⟩
      rcases p3 k hk with h1 | h1 | h1
      · exact .inl h1
      · exact .inr (.inl (.inl h1))
      · exact .inr (.inr h1)
    case round =>
      obtain ⟨j, V1, R1, hj, rfl, r1, r2, r5, r3, r4⟩ := hrel
      have h40 := r4 0
      have B1 := Lib.hid r1; have B2 := Lib.hid r2; have B3 := Lib.hid r3; have B4 := Lib.hid r4; have B5 := Lib.hid r5; clear r1 r2 r3 r4 r5
      by_cases hlt : j < os.length
      · have hir := HI.out.kept B2.out (fun k hk e => HD.out k hk e.bc)
        obtain ⟨g, o, hA, q0, q1, -⟩ := Spans.at hir.row.sl j hlt
        subst hA
        obtain ⟨⟨FA, fc, hF⟩, ⟨TA, tc, hT⟩⟩ := HI.out.form os[j] (List.getElem_mem _)
        obtain ⟨oF, oT⟩ := hir.own os[j] (List.getElem_mem _)
        obtain ⟨sF, sT⟩ := HI.out.short os[j] (List.getElem_mem _)
        have hbl : ∀ k, BlC os[j] k → ¬ BcF b V1 R1 k := fun k hk e => by
          have hlk : k < w.heap.size := by rcases hk with hk | hk; exact (HI.out.own os[j] (List.getElem_mem _)).1.lt k hk; exact (HI.out.own os[j] (List.getElem_mem _)).2.lt k hk
          rcases B3.out k e with h1 | (h1 | ⟨x, hx, h1⟩) | h1
          · exact HD.out k (.inr ⟨_, List.getElem_mem _, hk⟩) h1
          · exact HI.out.ne os[j] (List.getElem_mem _) k hk h1
          · obtain ⟨m, hm, rfl⟩ := List.getElem_of_mem hx
            rw [List.getElem_take] at h1
            exact List.pairwise_iff_getElem.1 HI.out.pw m j (by simp at hm; omega) hlt (by simp at hm; omega) k h1 hk
          · omega
        have hq0 := World.block_lt_of_cell? _ _ q0
        have hgn : ¬ BkO b V1 g := fun e => by
          have hgl : g < w.heap.size := HI.out.row.lt g rfl
          rcases B5.out g e with h1 | h1
          · exact HD.out g (.inl rfl) h1.bc
          · omega
        rw [hF] at q0 oF; rw [hT] at q1 oT
        have HBL := Lib.hid hbl; have OF := Lib.hid oF; have OT := Lib.hid oT; have HFT := Lib.hid (And.intro hF hT)
        have HIR := Lib.hid hir; have HGN := Lib.hid hgn; have Q1 := Lib.hid q1
        clear hbl oF oT hF hT hgn hir
        go_wp2_with fail
        refine (bc_bytes wr b V1 R1 FA os[j].f.length fc B1.out (by omega) ⟨_, _, sF, OF.out⟩ (fun k hk => HBL.out k (.inl (by rw [HFT.out.1]; exact hk)))).mono ?_
        rintro e w3 ⟨rfl, V2, R2, s1, s2, s3, s5, s4⟩
        have s40 := s4 0
        have q1 := s2.cell Q1.out HGN.out
        have hq1 := World.block_lt_of_cell? _ _ q1
        have oT3 := OT.out.kept s2 (fun k hk e => HBL.out k (.inr (by rw [HFT.out.2]; exact hk)) e.bc)
        have hT2 : ∀ k, (Value.slice TA os[j].t.length tc).ownBlock = some k → ¬ BcF b V2 R2 k := fun k hk e => by
          have hk2 : os[j].T.ownBlock = some k := by rw [HFT.out.2]; exact hk
          have hlk := (HIR.out.own os[j] (List.getElem_mem _)).2.lt k hk2
          rcases s3 k e with h1 | h1 | h1
          · exact HBL.out k (.inr hk2) h1
          · exact HI.out.ft os[j] (List.getElem_mem _) k (by rw [HFT.out.1]; exact h1) hk2
          · omega
        have S1 := Lib.hid s1; have S2 := Lib.hid s2; have S3 := Lib.hid s3; have S4 := Lib.hid s4; have S5 := Lib.hid s5; have OT3 := Lib.hid oT3; have HT2 := Lib.hid hT2
        clear s1 s2 s3 s4 s5 oT3 hT2
        go_wp2_with fail
        refine (bc_bytes w3 b V2 R2 TA os[j].t.length tc S1.out (by omega) ⟨_, _, sT, OT3.out⟩ HT2.out).mono ?_
        rintro e w4 ⟨rfl, V3, R3, t1, t2, t3, t5, t4⟩
        have T1 := Lib.hid t1; have T2 := Lib.hid t2; have T3 := Lib.hid t3; have T4 := Lib.hid t4; have T5 := Lib.hid t5
        clear t1 t2 t3 t4 t5
        go_wp2
        go_roundw
        case rel =>
          have z1 := B2.out.size; have z2 := S2.out.size
          refine ⟨j + 1, V3, R3, hlt, by go_num, T1.out, (B2.out.trans S2.out (fun k hk e => ?_)).trans T2.out (fun k hk e => ?_), fun k hk => ?_, fun k hk => ?_, fun i => by have := T4.out i; have := S4.out i; have := B4.out i; omega⟩
          · rcases B5.out k e with h1 | h1; exact h1; omega
          · rcases S5.out k e with h1 | h1
            · rcases B5.out k h1 with h2 | h2; exact h2; omega
            · omega
          · rcases T5.out k hk with h1 | h1
            · rcases S5.out k h1 with h2 | h2
              · exact B5.out k h2
              · exact .inr (by omega)
            · exact .inr (by omega)
          · have hjm : os[j] ∈ os.take (j + 1) := by rw [List.take_succ_eq_append_getElem hlt]; exact List.mem_append_right _ (List.mem_singleton.2 rfl)
            rcases T3.out k hk with h1 | h1 | h1
            · rcases S3.out k h1 with h2 | h2 | h2
              · rcases B3.out k h2 with h3 | (h3 | ⟨x, hx, h3⟩) | h3
                · exact .inl h3
                · exact .inr (.inl (.inl h3))
                · exact .inr (.inl (.inr ⟨x, by rw [List.take_succ_eq_append_getElem hlt]; exact List.mem_append_left _ hx, h3⟩))
                · exact .inr (.inr h3)
              · exact .inr (.inl (.inr ⟨_, hjm, .inl (by rw [HFT.out.1]; exact h2)⟩))
              · exact .inr (.inr (by omega))
            · exact .inr (.inl (.inr ⟨_, hjm, .inr (by rw [HFT.out.2]; exact h1)⟩))
            · exact .inr (.inr (by omega))
        case measure => simp [intOf]; omega
      · obtain rfl : j = os.length := by omega
        go_wp2
        go_end0
        refine ⟨rfl, V1, R1, B1.out, B2.out, fun k hk => ?_, B5.out, fun i => by have := B4.out i; omega⟩
        have := B3.out k hk
        rw [List.take_of_length_le (Nat.le_refl _)] at this
        exact this
end Go.Proofs.Ytdnohhlgaaihmaa
