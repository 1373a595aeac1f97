/- The walk of the law CodeReads. -/
import Derived.Test.YtomnhblecnbmaaaReads
import Derived.Test.YtomnhblecnbmaaaOps
import Derived.Test.YtomnhblecnbmaaaLent
import Derived.Test.YtomnhblecnbmaaaBookO
import Derived.Test.YtomnhblecnbmaaaKnown
import Derived.IntWalk
namespace Go.Proofs.Ytomnhblecnbmaaa
open Go.RowKit

theorem reads_any (w : World) (p q : Nat) (sv xv : Value) (l : List UInt8) (s : RS) (o : OpV) (w0 : World) (ho : o.Good w0) (h : Both w p q sv xv l s) :
    Calls Try.prog 25 #[.pointer (some ⟨p, 0, none⟩), .pointer (some ⟨q, 0, none⟩), .agg #[.int .u8 o.k, .int .u64 o.v, .int .i64 o.n, o.B]] w fun e w' => RdOut w w' p q sv xv l (o.k % 8 = 6) e := by
  have h8 : o.k % 8 = 0 ∨ o.k % 8 = 1 ∨ o.k % 8 = 2 ∨ o.k % 8 = 3 ∨ o.k % 8 = 4 ∨ o.k % 8 = 5 ∨ o.k % 8 = 6 ∨ o.k % 8 = 7 := by omega
  rcases h8 with h8 | h8 | h8 | h8 | h8 | h8 | h8 | h8
  · exact reads_0 w p q sv xv l s o w0 ho h8 h
  · exact reads_1 w p q sv xv l s o w0 ho h8 h
  · exact reads_2 w p q sv xv l s o w0 ho h8 h
  · exact reads_3 w p q sv xv l s o w0 ho h8 h
  · exact reads_4 w p q sv xv l s o w0 ho h8 h
  · exact reads_5 w p q sv xv l s o w0 ho h8 h
  · exact reads_6 w p q sv xv l s o w0 ho h8 h
  · exact reads_7 w p q sv xv l s o w0 ho h8 h

theorem last_lt (l : List UInt8) (s : RS) (h : s.e < 65536) : s.last l < 65536 := by unfold RS.last; split <;> omega

def RF (p : Nat) (sv : Value) : Nat → Prop := fun k => k = p ∨ sv.ownBlock = some k

/-- The law's things: both readers, and a book. -/
structure Sr (w0 w : World) (p q b : Nat) (sv xv bv : Value) (rs : List Value) (ns : Nat → Nat) (C : Nat → List Value) (l : List UInt8) (s : RS) : Prop where
  bel : Below w0.heap.size w0 w
  both : Both w p q sv xv l s
  bo : Bo w b bv rs ns C
  sep : Sep w0.heap.size w.heap.size [RF p sv, at1 q, BkF b bv, InRows rs]
  old : ∀ k, xv.ownBlock = some k → k < w0.heap.size

theorem below_by {w0 w w1 : World} {S : Nat → Prop} (h : Below w0.heap.size w0 w) (f : Fr S w w1) (hS : ∀ k, S k → w0.heap.size ≤ k) : Below w0.heap.size w0 w1 := by
  have s := h.size
  exact ⟨f.os.trans h.os, f.tape.trans h.tape, f.output.trans h.output, Nat.le_trans s f.size, fun k hk => (f.block k (by omega) (fun h2 => by have := hS k h2; omega)).trans (h.block k hk)⟩

namespace Sr
variable {w0 w w1 : World} {p q b : Nat} {sv xv bv : Value} {rs : List Value} {ns : Nat → Nat} {C : Nat → List Value} {l : List UInt8} {s : RS}
theorem kept0 (h : Sr w0 w p q b sv xv bv rs ns C l s) (f : Fr no w w1) : Sr w0 w1 p q b sv xv bv rs ns C l s :=
  ⟨below_by h.bel f (fun _ h => h.elim), h.both.kept0 f, h.bo.kept0 f, h.sep.later f.size, h.old⟩

theorem read (h : Sr w0 w p q b sv xv bv rs ns C l s) {s' : RS} (hr : Rr w1 p sv l s') (hx : Rx w1 q xv l s') (f : Fr (fun k => k = p ∨ k = q) w w1) : Sr w0 w1 p q b sv xv bv rs ns C l s' := by
  have hd : ∀ T i, (i = 2 ∨ i = 3) → [RF p sv, at1 q, BkF b bv, InRows rs][i]? = some T → Dj T (fun k => k = p ∨ k = q) := fun T i hi hT k hk e => by
    rcases e with e | e
    · exact h.sep.ne i 0 (by omega) hT rfl k hk (.inl e)
    · exact h.sep.ne i 1 (by omega) hT rfl k hk e
  refine ⟨below_by h.bel f (fun k hk => ?_), ⟨hr, hx, h.both.pq, h.both.sq, h.both.xp⟩, h.bo.kept f (hd _ 2 (.inl rfl) rfl) (hd _ 3 (.inr rfl) rfl), h.sep.later f.size, h.old⟩
  rcases hk with e | e
  · exact (h.sep.lo_of 0 rfl k (.inl e)).1
  · exact (h.sep.lo_of 1 rfl k e).1

theorem booked (h : Sr w0 w p q b sv xv bv rs ns C l s) {r bv' : Value} {n : Nat} {xs : List Value} {wb : World} (fb : Fr (fun k => k = p ∨ k = q) wb w) (h0 : Sep w0.heap.size wb.heap.size [RF p sv, at1 q, BkF b bv, InRows rs]) (hl0 : w0.heap.size ≤ wb.heap.size) (hn : n ≤ 1000000000) (ho : Ow w 5 1 r n xs) (hf : ∀ k, r.ownBlock = some k → wb.heap.size ≤ k) (hb : Bk w1 b bv' (rs ++ [r])) (f : Fr (fun k => k = b ∨ bv.ownBlock = some k) w w1) (m : Moved w w1 bv bv') :
    ∃ ns C, Sr w0 w1 p q b sv xv bv' (rs ++ [r]) ns C l s := by
  have hrk := ho.lt
  have key : ∀ k, r.ownBlock = some k → wb.heap.size ≤ k ∧ k < w.heap.size := fun k hk => ⟨hf k hk, hrk k hk⟩
  have d0 := fun i j hij {S T} hS hT => h.sep.ne i j hij (S := S) (T := T) hS hT
  have hrS : ∀ T i, [RF p sv, at1 q, BkF b bv, InRows rs][i]? = some T → Dj T (fun k => r.ownBlock = some k) := fun T i hT k hk hk2 => by
    have := hf k hk2; have := (h0.lo_of i hT k hk).2; omega
  have s1 : Sep w0.heap.size w.heap.size [RF p sv, at1 q, BkF b bv, InRows (rs ++ [r])] := by
    have s0 : Sep w0.heap.size w.heap.size ([RF p sv, at1 q, BkF b bv, InRows rs].set 3 (InRows (rs ++ [r]))) := by
      refine h0.upd 3 _ rfl fb.size hl0 (fun k hk => ?_)
      rcases (Bo.in_snoc k).1 hk with h1 | h1
      · exact .inl h1
      · exact .inr (key k h1)
    exact s0
  have s2 : Sep w0.heap.size w1.heap.size [RF p sv, at1 q, BkF b bv', InRows (rs ++ [r])] := by
    have hl := h.bel.size
    have s0 := s1.upd 2 (BkF b bv') rfl f.size hl (fun k hk => by
      rcases hk with hk | hk
      · exact .inl (.inl hk)
      · rcases m.blk k hk with h2 | h2
        · exact .inl (.inr h2)
        · exact .inr h2)
    exact s0
  have dB : Dj (BkF b bv) (InRows (rs ++ [r])) := s1.ne 2 3 (by decide) rfl rfl
  have hrow : ∃ ns C, Bo w1 b bv' (rs ++ [r]) ns C := by
    refine ⟨fun j => if j = rs.length then n else ns j, fun j => if j = rs.length then xs else C j, hb, ⟨fun j hj => ?_, fun i j hi hj k hij hk => ?_⟩, fun j => ?_⟩
    · by_cases hj2 : j < rs.length
      · simp only [List.getElem_append_left hj2, show ¬ j = rs.length by omega, if_false]
        exact (h.bo.rows.row j hj2).kept f (fun k hk hk2 => dB k hk2 ((Bo.in_snoc k).2 (.inl (InRows.ob hj2 hk))))
      · obtain rfl : j = rs.length := by simp at hj; omega
        simp only [List.getElem_concat_length, if_true]
        exact ho.kept f (fun k hk hk2 => dB k hk2 ((Bo.in_snoc k).2 (.inr hk)))
    · by_cases hi2 : i < rs.length
      · rw [List.getElem_append_left hi2] at hk
        by_cases hj2 : j < rs.length
        · rw [List.getElem_append_left hj2]
          exact h.bo.rows.apart i j hi2 hj2 k hij hk
        · obtain rfl : j = rs.length := by simp at hj; omega
          simp only [List.getElem_concat_length]
          exact fun hk2 => hrS _ 3 rfl k (InRows.ob hi2 hk) hk2
      · obtain rfl : i = rs.length := by simp at hi; omega
        simp only [List.getElem_concat_length] at hk
        have hj2 : j < rs.length := by simp at hj; omega
        rw [List.getElem_append_left hj2]
        exact fun hk2 => hrS _ 3 rfl k (InRows.ob hj2 hk2) hk
    · split
      · exact hn
      · exact h.bo.short j
  obtain ⟨ns', C', hbo'⟩ := hrow
  have hd : Dj (fun k => k = p ∨ k = q ∨ sv.ownBlock = some k) (fun k => k = b ∨ bv.ownBlock = some k) := fun k hk hk2 => by
    rcases hk with e | e | e
    · exact h.sep.ne 0 2 (by decide) rfl rfl k (.inl e) hk2
    · exact h.sep.ne 1 2 (by decide) rfl rfl k e hk2
    · exact h.sep.ne 0 2 (by decide) rfl rfl k (.inr e) hk2
  refine ⟨ns', C', below_by h.bel f (fun k hk => (h.sep.lo_of 2 rfl k hk).1), ⟨h.both.rr.kept f (hd p (.inl rfl)) (fun k hk => hd k (.inr (.inr hk))), h.both.rx.kept f (hd q (.inr (.inl rfl))) (fun k hk hk2 => ?_), h.both.pq, h.both.sq, h.both.xp⟩, hbo', s2, h.old⟩
  have := h.old k hk; have := (h.sep.lo_of 2 rfl k hk2).1; omega
end Sr

/-- Behind j calls. -/
def Lr (w0 wr : World) (p q b : Nat) (sv xv : Value) (l : List UInt8) (j : Nat) : Prop :=
  ∃ bv rs ns C s, rs.length ≤ j ∧ Sr w0 wr p q b sv xv bv rs ns C l s

set_option maxRecDepth 100000 in
set_option maxHeartbeats 8000000 in
theorem reads_walk (w : World) (A0 : Option Addr) (c0 : Nat) (l : List UInt8) (x : Value) (os : List OpV) (hl : Sl w 1 (.slice A0 l.length c0) l.length (bvs l)) (hlo : ∀ k, (Value.slice A0 l.length c0).ownBlock = some k → k < w.heap.size) (hx : Ops w x os) (h0 : l.length ≤ 20000) (h1 : os.length ≤ 20000) :
    Calls Try.prog 6 #[.slice A0 l.length c0, x] w fun e w' => e = .returned (.bool true) ∧ Below w.heap.size w w' := by
  obtain ⟨A, c, hA, hc1, hc2⟩ := hx.1.form
  subst hA
  have HX := Lib.hid hx; have HB := Lib.hid hl; have HLO := Lib.hid hlo; clear hx hl hc2 hlo
  go_enter Try.func6, Try.ntmps6
  go_wp2_with fail
  refine (lent_any _ _ l HB.out (by omega)).mono ?_
  rintro e w1 ⟨g, rfl, hg1, hl1, hf1⟩
  have hg1' : g < w1.heap.size := (Array.getElem?_eq_some_iff.1 hl1).1
  go_wp2_with fail
  refine (read_any _ _ l (hl1.sl (by omega)) (by omega)).mono ?_
  rintro e w2 ⟨p, rv, rfl, hr2, hp2, hk2, hf2⟩
  go_wp2_with fail
  refine (whole_lent w2 g _ l l (hl1.kept hf2 (fun h => h)) ((HB.out.kept0 hf1).kept0 hf2) (by omega) (by omega)).mono ?_
  rintro e w3 ⟨rfl, n3, rfl⟩
  rw [decide_eq_true (rfl : l = l)]
  go_wp2_with fail
  refine (spoil_lent _ g l ((hl1.kept hf2 (fun h => h)).kept (Fr.drewN no _ _) (fun h => h)) (by omega)).mono ?_
  rintro e w4 ⟨rfl, hf4⟩
  go_wp2_with fail
  refine (known_any _).mono ?_
  rintro e w5 ⟨rfl, hf5⟩
  have s1 := hf1.size; have s2 := hf2.size; have s4 := hf4.size; have s5 := hf5.size
  replace s4 : w2.heap.size ≤ w4.heap.size := s4
  have hrr4 : Rr w4 p rv l ⟨0, 0, 0⟩ := (hr2.drewN n3).kept hf4 (fun h => by omega) (fun k hk h => by have := (hk2 k hk).1; omega)
  have hbel4 : Below w.heap.size w w4 := below_by (((hf1.trans hf2 (fun _ _ h => h)).moreN n3).below (fun _ _ h => h)) hf4 (fun k hk => by omega)
  have hst : Sr w ((w5.alloc (.cells #[.slice A0 l.length c0, .int .i64 0, .int .i64 0, .int .i64 0] 75)).alloc (.cells #[.slice none 0 0, .slice none 0 0, .slice none 0 0, .slice none 0 0, .slice none 0 0, .slice none 0 0, .slice none 0 0, .slice none 0 0, .slice none 0 0, .slice none 0 0, .slice none 0 0, .slice none 0 0, .slice none 0 0, .slice none 0 0, .slice none 0 0, .slice none 0 0, .slice none 0 0, .slice none 0 0, .slice none 0 0, .slice none 0 0, .slice none 0 0, .slice none 0 0, .slice none 0 0] 66)) p w5.heap.size (w5.heap.size + 1) rv (.slice A0 l.length c0) (.slice none 0 0) [] (fun _ => 0) (fun _ => []) l ⟨0, 0, 0⟩ := by
    have f6 : Fr no w4 (w5.alloc (.cells #[.slice A0 l.length c0, .int .i64 0, .int .i64 0, .int .i64 0] 75)) := hf5.alloc _
    have b6 := below_by hbel4 f6 (fun _ h => h.elim)
    have hpl := (four_cells hrr4.1).2.2.2.2.2
    have hrl : ∀ k, rv.ownBlock = some k → k < w2.heap.size ∧ w.heap.size ≤ k := fun k hk => by have := hk2 k hk; omega
    have hnil : ∀ k, (Value.slice none 0 0).ownBlock ≠ some k := fun k => by simp [Value.ownBlock]
    refine ⟨below_by b6 (Fr.alloc (Fr.refl no _) _) (fun _ h => h.elim), ⟨hrr4.kept (f6.alloc _) (fun h => h) (fun _ _ h => h), ⟨?_, (HB.out.below b6).kept0 ((Fr.refl no _).alloc _), fun h => by have := HLO.out _ h; have := hbel4.size; omega, Nat.zero_le _, by omega, by decide⟩, by omega, fun h => by have := (hrl _ h).1; omega, fun h => by have := HLO.out _ h; omega⟩, ⟨⟨?_, ⟨rfl, .inl ⟨rfl, rfl⟩⟩, by simp [Value.ownBlock]⟩, ⟨fun j hj => by simp at hj, fun i j hi => by simp at hi⟩, fun _ => Nat.zero_le _⟩, ⟨?_, ?_⟩, HLO.out⟩
    · exact (Fr.alloc (Fr.refl no _) _).heap (heap_alloc_new _ _) (fun h => h)
    · have h := heap_alloc_new (w5.alloc (.cells #[.slice A0 l.length c0, .int .i64 0, .int .i64 0, .int .i64 0] 75)) (.cells #[.slice none 0 0, .slice none 0 0, .slice none 0 0, .slice none 0 0, .slice none 0 0, .slice none 0 0, .slice none 0 0, .slice none 0 0, .slice none 0 0, .slice none 0 0, .slice none 0 0, .slice none 0 0, .slice none 0 0, .slice none 0 0, .slice none 0 0, .slice none 0 0, .slice none 0 0, .slice none 0 0, .slice none 0 0, .slice none 0 0, .slice none 0 0, .slice none 0 0, .slice none 0 0] 66)
      rw [show (w5.alloc (.cells #[.slice A0 l.length c0, .int .i64 0, .int .i64 0, .int .i64 0] 75)).heap.size = w5.heap.size + 1 from by simp] at h
      exact h
    · refine List.pairwise_cons.2 ⟨?_, List.pairwise_cons.2 ⟨?_, List.pairwise_cons.2 ⟨?_, by simp⟩⟩⟩
      · intro T hT k hk
        have hk' : k < w5.heap.size := by
          rcases hk with e | e
          · omega
          · have := hrl k e; omega
        simp only [List.mem_cons, List.not_mem_nil, or_false] at hT
        rcases hT with rfl | rfl | rfl
        · intro h; have : k = w5.heap.size := h; omega
        · rintro (h | h)
          · omega
          · exact hnil k h
        · simp [InRows]
      · intro T hT k hk
        have hk' : k = w5.heap.size := hk
        simp only [List.mem_cons, List.not_mem_nil, or_false] at hT
        rcases hT with rfl | rfl
        · rintro (h | h)
          · omega
          · exact hnil k h
        · simp [InRows]
      · intro T hT k hk
        simp only [List.mem_cons, List.not_mem_nil, or_false] at hT
        subst hT
        simp [InRows]
    · intro T hT k hk
      have hsz : ∀ (w : World) (o : Obj), (w.alloc o).heap.size = w.heap.size + 1 := fun w o => by simp
      rw [hsz, hsz]
      simp only [List.mem_cons, List.not_mem_nil, or_false] at hT
      rcases hT with rfl | rfl | rfl | rfl
      · rcases hk with e | e
        · omega
        · have := hrl k e; omega
      · have hk' : k = w5.heap.size := hk; omega
      · rcases hk with e | e
        · omega
        · exact absurd e (hnil k)
      · simp [InRows] at hk
  have HST := Lib.hid hst
  clear hst hg1 hl1 hf1 hg1' hr2 hp2 hk2 hf2 hf4 hf5 s1 s2 s4 s5 hrr4 hbel4
  go_wp2_with fail
  go_loopw [10] (fun i wr => ∃ j : Nat, j ≤ os.length ∧ i = .int .i64 j ∧ Lr w wr p w5.heap.size (w5.heap.size + 1) rv (.slice A0 l.length c0) l j) (fun i _ => os.length - (intOf i).toNat)
  case atStart => exact ⟨0, Nat.zero_le _, rfl, _, _, _, _, _, Nat.le_refl _, HST.out⟩
  case round =>
    obtain ⟨j, hj, rfl, bv, rs, ns, C, s, hrl, hst⟩ := hrel
    have HS := Lib.hid hst; clear hst
    by_cases hlt : j < os.length
    · obtain ⟨b, o, hA, q0, q1, q2, q3⟩ := Ops.at HX.out.1 j hlt
      subst hA
      obtain ⟨B2, d2, hB2, hB3, hB4⟩ := (HX.out.2.1 os[j] (List.getElem_mem _)).1.B.form
      rw [hB2] at q3
      have hbw := World.block_lt_of_cell? w _ q3
      have HG := Lib.hid ((HX.out.2.1 os[j] (List.getElem_mem _)).1); have HB2 := Lib.hid hB2
      clear hB2 hB3 hB4
      have HQ := Lib.hid (And.intro q0 (And.intro q1 (And.intro q2 q3)))
      have keep : ∀ w', Below w.heap.size w w' → w'.cell? ⟨b, o + j * 4, none⟩ = some (.int .u8 os[j].k) ∧ w'.cell? ⟨b, o + j * 4 + 1, none⟩ = some (.int .u64 os[j].v) ∧ w'.cell? ⟨b, o + j * 4 + 2, none⟩ = some (.int .i64 os[j].n) ∧ w'.cell? ⟨b, o + j * 4 + 3, none⟩ = some (.slice B2 os[j].bs.length d2) := fun w' hb =>
        ⟨(hb.cell (p := ⟨b, o + j * 4, none⟩) hbw).trans HQ.out.1, (hb.cell (p := ⟨b, o + j * 4 + 1, none⟩) hbw).trans HQ.out.2.1, (hb.cell (p := ⟨b, o + j * 4 + 2, none⟩) hbw).trans HQ.out.2.2.1, (hb.cell (p := ⟨b, o + j * 4 + 3, none⟩) hbw).trans HQ.out.2.2.2⟩
      have KEEP := Lib.hid keep
      clear keep q0 q1 q2 q3 hbw
      obtain ⟨q0, q1, q2, q3⟩ := KEEP.out _ HS.out.bel
      have hk256 := HG.out.k
      go_wp2_with fail
      rw [← HB2.out]
      refine (reads_any wr p _ rv _ l s os[j] w HG.out HS.out.both).mono ?_
      rintro e w6 ⟨s', bs, v, A1, A2, c1, c2, rfl, hbl, hsa, hsb, hown, hr, hx, hf⟩
      have HS6 := Lib.hid (HS.out.read hr hx hf)
      have HSA := Lib.hid hsa; have HSB := Lib.hid hsb; have HOWN := Lib.hid hown; have HF := Lib.hid hf
      clear hsa hsb hown hr hx hf q0 q1 q2 q3
      go_wp2_with fail
      refine (err_any p _ rv l s' HS6.out.both.rr).mono ?_
      rintro e w7 ⟨rfl, n7, hw7⟩
      have F7 := Lib.hid (show Fr no w6 w7 from by rw [hw7]; exact Fr.drewN no _ n7)
      clear hw7
      have HS7 := Lib.hid (HS6.out.kept0 F7.out)
      obtain ⟨q0, q1, q2, q3⟩ := KEEP.out _ HS7.out.bel
      have HS7E := Lib.hid HS7.out.both.rx.2.2.2.2.2
      by_cases h6 : os[j].k % 8 = 6
      · have e6 : (os[j].k : Int) % 8 = 6 := by omega
        have hb6 : ((os[j].k : Int) % 8 == 6) = true := by rw [beq_iff_eq]; exact e6
        clear e6
        obtain ⟨hc, ho, hfa, hfb⟩ := HOWN.out h6
        have HO := Lib.hid ho; have HFA := Lib.hid hfa; have HFB := Lib.hid hfb; have H6 := Lib.hid h6; clear ho hfa hfb h6
        subst hc
        go_wp2_with fail
        refine (book_bytes _ (w7) bv rs A1 _ _ HS7.out.bo.bk (by omega)).mono ?_
        rintro e w8 ⟨rfl, bv', hb', f', m'⟩
        have hS8 := HS7.out.booked ((HF.out).trans F7.out (fun _ _ h => h.elim)) HS.out.sep HS.out.bel.size hbl (HO.out.kept F7.out (fun _ _ h => h)) HFA.out hb' f' m'
        have hdj : ∀ k, wr.heap.size ≤ k → ¬ BkF (w5.heap.size + 1) bv k := fun k hk hk2 => by have := (HS.out.sep.lo_of 2 rfl k hk2).2; omega
        have HSA8 := Lib.hid ((HSA.out.kept0 F7.out).kept f' (fun k hk => hdj k (HFA.out k hk)))
        have HSB8 := Lib.hid ((HSB.out.kept0 F7.out).kept f' (fun k hk => hdj k (HFB.out k hk)))
        obtain ⟨ns', C', hst⟩ := hS8
        have HS8 := Lib.hid hst
        clear hst hb' f' m' hdj q0 q1 q2 q3 HS6 HS7 HSA HSB HO HFA HFB
        obtain ⟨x0, x1, x2, x3, _, _⟩ := four_cells HS8.out.both.rx.1
        have he16 := HS8.out.both.rx.2.2.2.2.2
        have hwe : IntKind.i64.wrap (s'.e : Int) = (s'.e : Int) := IntWalk.i64_in _ (by omega)
        have hwl : IntKind.i64.wrap (s'.last l : Int) = (s'.last l : Int) := IntWalk.i64_in _ (by have := last_lt l s' he16; omega)
        have hwp : IntKind.i64.wrap ((l.length : Int) - (s'.pos : Int)) = (l.length : Int) - (s'.pos : Int) := IntWalk.i64_in _ (by have := HS8.out.both.rx.2.2.2.1; omega)
        go_wp2
        go_quiet ((first
          | (go_at_call 15; exact Calls.quiet_of (same_any _ _ _ bs bs (HSA8.out.kept0 (Fr.drewN _ _ _)) (HSB8.out.kept0 (Fr.drewN _ _ _)) hbl hbl))
          | (go_at_call 14; exact Calls.quiet_of (left_any p _ rv l s' (HS8.out.both.rr.drewN _)))
          | (go_at_call 26; exact Calls.quiet_of (end_any p _ rv l s' (HS8.out.both.rr.drewN _)))
          | (go_at_call 27; exact Calls.quiet_of (xend_any _ _ _ l s' (HS8.out.both.rx.drewN _)))))
        go_wp2
        go_roundw
        case rel => exact ⟨j + 1, hlt, by go_num, _, _, _, _, _, by simp; omega, HS8.out.kept0 (Fr.drewN no _ _)⟩
        case measure => simp [intOf]; omega
      · have hb6 : ((os[j].k : Int) % 8 == 6) = false := by rw [beq_eq_false_iff_ne]; omega
        have HSA8 := Lib.hid (HSA.out.kept0 F7.out)
        have HSB8 := Lib.hid (HSB.out.kept0 F7.out)
        have HS8 := HS7
        obtain ⟨x0, x1, x2, x3, _, _⟩ := four_cells HS8.out.both.rx.1
        have he16 := HS8.out.both.rx.2.2.2.2.2
        clear h6 HS6 HS7 HSA HSB
        have hwe : IntKind.i64.wrap (s'.e : Int) = (s'.e : Int) := IntWalk.i64_in _ (by omega)
        have hwl : IntKind.i64.wrap (s'.last l : Int) = (s'.last l : Int) := IntWalk.i64_in _ (by have := last_lt l s' he16; omega)
        have hwp : IntKind.i64.wrap ((l.length : Int) - (s'.pos : Int)) = (l.length : Int) - (s'.pos : Int) := IntWalk.i64_in _ (by have := HS8.out.both.rx.2.2.2.1; omega)
        go_wp2
        go_quiet ((first
          | (go_at_call 15; exact Calls.quiet_of (same_any _ _ _ bs bs (HSA8.out.kept0 (Fr.drewN _ _ _)) (HSB8.out.kept0 (Fr.drewN _ _ _)) hbl hbl))
          | (go_at_call 14; exact Calls.quiet_of (left_any p _ rv l s' (HS8.out.both.rr.drewN _)))
          | (go_at_call 26; exact Calls.quiet_of (end_any p _ rv l s' (HS8.out.both.rr.drewN _)))
          | (go_at_call 27; exact Calls.quiet_of (xend_any _ _ _ l s' (HS8.out.both.rx.drewN _)))))
        go_wp2
        go_roundw
        case rel => exact ⟨j + 1, hlt, by go_num, _, _, _, _, _, by omega, HS8.out.kept0 (Fr.drewN no _ _)⟩
        case measure => simp [intOf]; omega
    · obtain rfl : j = os.length := by omega
      clear hlt hj
      go_wp2_with fail
      refine (book_own _ _ bv _ ns C HS.out.bo.bk HS.out.bo.rows (HS.out.sep.ne 2 3 (by decide) rfl rfl) (by omega) HS.out.bo.short).mono ?_
      rintro e w15 ⟨rfl, hf15⟩
      go_wp2
      go_ret
      exact ⟨rfl, below_by HS.out.bel hf15 (fun k hk => (HS.out.sep.lo_of 3 rfl k hk).1)⟩

set_option maxHeartbeats 400000 in
theorem reads_much (w : World) (A0 : Option Addr) (c0 n0 : Nat) (A1 : Option Addr) (c1 n1 : Nat) (h : 20000 < n0 ∨ 20000 < n1) :
    Calls Try.prog 6 #[.slice A0 n0 c0, .slice A1 n1 c1] w fun e w' => e = .returned (.bool true) ∧ Below w.heap.size w w' := by
  by_cases h0 : 20000 < n0
  · have hb : decide ((20000 : Int) < (n0 : Int)) = true := by simp; omega
    go_enter Try.func6, Try.ntmps6
    go_wp2
    go_ret
    exact ⟨rfl, Below.refl _ _⟩
  · have hb0 : decide ((20000 : Int) < (n0 : Int)) = false := by simp; omega
    have hb : decide ((20000 : Int) < (n1 : Int)) = true := by simp; omega
    go_enter Try.func6, Try.ntmps6
    go_wp2
    go_ret
    exact ⟨rfl, Below.refl _ _⟩
end Go.Proofs.Ytomnhblecnbmaaa
