import Derived.Test.YtdnohhlgaaihmaaMt23
import Derived.Test.YtdnohhlgaaihmaaMt13
import Derived.Test.YtdnohhlgaaihmaaMt18
import Derived.Test.YtdnohhlgaaihmaaMt14
import Derived.Test.YtdnohhlgaaihmaaMt15
import Derived.Test.YtdnohhlgaaihmaaMt16
import Derived.Test.YtdnohhlgaaihmaaMt19
import Derived.Test.YtdnohhlgaaihmaaRows
import Derived.WalkKit
import Derived.ProofKit
import Derived.OpenShut
import Derived.ChangeOld
import Derived.Below
import Derived.SizedLaws

/- The book finds what it has its owner's. -/
namespace Go.Proofs.Ytdnohhlgaaihmaa
open Go.RowKit

theorem Bc.two {w w' : World} {b i : Nat} {V : Nat → Value} {R : Nat → List Value} (h : Bc w b V R) (hk : kept4 i) (f : Fr (fun k => ∃ j, j < i ∧ InRows (R j) k) w w') :
    ∃ (ns : Nat → Nat) (C : Nat → List Value) (A : Option Addr) (c : Nat), (∀ j, ns j ≤ rL i) ∧ V i = .slice A (R i).length c ∧ Two w' (rT i) (rS i) (.slice A (R i).length c) (R i) ns C := by
  have hex : ∀ j, ∃ nc : Nat × List Value, nc.1 ≤ rL i ∧ ∀ h2 : j < (R i).length, Ow w (rT i) (rS i) (R i)[j] nc.1 nc.2 := fun j => by
    by_cases h2 : j < (R i).length
    · obtain ⟨n, xs, h3, h4⟩ := h.ok i _ (List.getElem_mem h2)
      exact ⟨(n, xs), h3, fun _ => h4⟩
    · exact ⟨(0, []), Nat.zero_le _, fun h3 => absurd h3 h2⟩
  obtain ⟨A, c, hv, _, _⟩ := (h.bq.row i hk).form
  have hr : ∀ v ∈ R i, ∀ k, v.ownBlock = some k → ¬ ∃ j, j < i ∧ InRows (R j) k := fun v hv k hk2 ⟨j, hj, v', hv', e⟩ => h.px j i (by omega) v' hv' v hv k e hk2
  refine ⟨fun j => (Classical.choose (hex j)).1, fun j => (Classical.choose (hex j)).2, A, c, fun j => (Classical.choose_spec (hex j)).1, hv, ?_, ?_, fun j hj => ?_, fun j j' hj hj' k hne e e2 => ?_⟩
  · rw [← hv]
    exact ((h.bq.row i hk).kept f (fun k hk2 ⟨j, _, v', hv', e⟩ => (h.away j v' hv' k e).2 i hk2)).sl
  · rintro k hk2 ⟨v, hv2, e⟩
    rw [← hv] at hk2
    exact (h.away i v hv2 k e).2 i hk2
  · exact ((Classical.choose_spec (hex j)).2 hj).kept f (fun k hk2 => hr _ (List.getElem_mem hj) k hk2)
  · have := h.pi i
    rw [List.pairwise_iff_getElem] at this
    rcases Nat.lt_or_gt_of_ne hne with h1 | h1
    · exact this j j' hj hj' h1 k e e2
    · exact this j' j hj' hj h1 k e2 e

/-- The book's rows ahead of the i-th list. -/
def RowsTo (R : Nat → List Value) (i : Nat) : Nat → Prop := fun k => ∃ j, j < i ∧ InRows (R j) k

set_option maxRecDepth 100000 in
theorem bc_own (w : World) (b : Nat) (V : Nat → Value) (R : Nat → List Value) (h : Bc w b V R) (hl : ∀ i, (R i).length ≤ 1000000) :
    Calls Try.prog 37 #[.pointer (some ⟨b, 0, none⟩)] w fun e w' => e = .returned (.bool true) ∧ Fr (RowsTo R 23) w w' := by
  have hstep : ∀ i w' w'', Fr (RowsTo R i) w w' → Fr (InRows (R i)) w' w'' → Fr (RowsTo R (i + 1)) w w'' := fun i w' w'' h1 h2 =>
    (h1.mono (fun k _ ⟨j, hj, e⟩ => ⟨j, by omega, e⟩)).trans h2 (fun k _ e => ⟨i, by omega, e⟩)
  have hmore : ∀ i w', Fr (RowsTo R i) w w' → Fr (RowsTo R (i + 1)) w w' := fun i w' h1 => h1.mono (fun k _ ⟨j, hj, e⟩ => ⟨j, by omega, e⟩)
  have hnil : ∀ f : FuncId, (∀ w' : World, Calls Try.prog f #[.slice none 0 0] w' fun e w'' => e = .returned (.bool true) ∧ w'' = w') → ∀ i, ¬ kept4 i → ∀ w', Fr (RowsTo R i) w w' →
      Calls Try.prog f #[V i] w' fun e w'' => e = .returned (.bool true) ∧ Fr (RowsTo R (i + 1)) w w'' := by
    intro f hf i hi w' hw
    rw [(h.bq.none_ i hi).1]
    exact (hf w').mono fun e w'' ⟨h1, h2⟩ => ⟨h1, by rw [h2]; exact hmore i w' hw⟩
  have hcell : ∀ i w', i < 23 → Fr (RowsTo R i) w w' → w'.cell? ⟨b, i, none⟩ = some (V i) := fun i w' hi hw => by
    refine hw.cell (h.bq.cell i hi) ?_
    rintro ⟨j, _, v, hv, e⟩
    exact (h.away j v hv b e).1 rfl
  have hVl : ∀ i, kept4 i → ∀ w', Fr (RowsTo R i) w w' → ∀ k, (V i).ownBlock = some k → k < w'.heap.size := fun i hi w' hw k hk => Nat.lt_of_lt_of_le ((h.bq.row i hi).lt k hk) hw.size
  refine (own_all b w V (fun i w' => Fr (RowsTo R i) w w') (Fr.refl _ _) hcell ?q0 (hnil _ ownTexts_nil 1 (by unfold kept4; omega)) (hnil _ ownInts_nil 2 (by unfold kept4; omega)) (hnil _ ownLongs_nil 3 (by unfold kept4; omega)) (hnil _ ownNumbers_nil 4 (by unfold kept4; omega)) (hnil _ ownWords_nil 5 (by unfold kept4; omega)) (hnil _ ownSteps_nil 6 (by unfold kept4; omega)) (hnil _ ownParts_nil 7 (by unfold kept4; omega)) (hnil _ ownDones_nil 8 (by unfold kept4; omega)) (hnil _ ownRows_nil 9 (by unfold kept4; omega)) (hnil _ ownLists_nil 10 (by unfold kept4; omega)) (hnil _ ownIntLists_nil 11 (by unfold kept4; omega)) (hnil _ ownPaths_nil 12 (by unfold kept4; omega)) ?q13 ?q14 ?q15 (hnil _ ownEntries_nil 16 (by unfold kept4; omega)) ?q17 (hnil _ ownValues_nil 18 (by unfold kept4; omega)) (hnil _ ownFields_nil 19 (by unfold kept4; omega)) (hnil _ ownIndexes_nil 20 (by unfold kept4; omega)) (hnil _ ownEvents_nil 21 (by unfold kept4; omega)) (hnil _ ownCommits_nil 22 (by unfold kept4; omega))).mono (fun e w' h => h)
  case q0 =>
    intro w' hw
    obtain ⟨ns, C, A, c, h1, h2, h3⟩ := h.two (i := 0) (by unfold kept4; omega) hw
    have h4 := hVl 0 (by unfold kept4; omega) w' hw
    rw [h2] at h4 ⊢
    exact (own_bytes w' A c (R 0) ns C h3 h4 (hl 0) h1).mono fun e w'' ⟨h5, h6⟩ => ⟨h5, hstep 0 w' w'' hw h6⟩
  case q13 =>
    intro w' hw
    obtain ⟨ns, C, A, c, h1, h2, h3⟩ := h.two (i := 13) (by unfold kept4; omega) hw
    have h4 := hVl 13 (by unfold kept4; omega) w' hw
    rw [h2] at h4 ⊢
    exact (own_Pairs w' A c (R 13) ns C h3 h4 (hl 13) h1).mono fun e w'' ⟨h5, h6⟩ => ⟨h5, hstep 13 w' w'' hw h6⟩
  case q14 =>
    intro w' hw
    obtain ⟨ns, C, A, c, h1, h2, h3⟩ := h.two (i := 14) (by unfold kept4; omega) hw
    have h4 := hVl 14 (by unfold kept4; omega) w' hw
    rw [h2] at h4 ⊢
    exact (own_Changes w' A c (R 14) ns C h3 h4 (hl 14) h1).mono fun e w'' ⟨h5, h6⟩ => ⟨h5, hstep 14 w' w'' hw h6⟩
  case q15 =>
    intro w' hw
    obtain ⟨ns, C, A, c, h1, h2, h3⟩ := h.two (i := 15) (by unfold kept4; omega) hw
    have h4 := hVl 15 (by unfold kept4; omega) w' hw
    rw [h2] at h4 ⊢
    exact (own_Spans w' A c (R 15) ns C h3 h4 (hl 15) h1).mono fun e w'' ⟨h5, h6⟩ => ⟨h5, hstep 15 w' w'' hw h6⟩
  case q17 =>
    intro w' hw
    rw [(h.bq.none_ 17 (by unfold kept4; omega)).1]
    exact (ownBools_nil w').mono fun e w'' ⟨h1, h2⟩ => ⟨h1, hmore 17 w'' (hw.trans h2 (fun _ _ h => h.elim))⟩
end Go.Proofs.Ytdnohhlgaaihmaa

/- law17: ReadsTells, of arguments that are looked at. -/
namespace Go.Proofs.Ytdnohhlgaaihmaa
open Go.RowKit
open SpV

theorem inV_mem (x : SpV) (k : List UInt8) : inV x k = true ↔ x.mem k := by
  unfold inV SpV.mem SpV.upto le lt
  rw [Bool.and_eq_true, Bool.or_eq_true, Bool.not_eq_true', decide_eq_false_iff_not, decide_eq_true_eq]
  have := cb_swap x.f k
  constructor
  · rintro ⟨h1, h2⟩; exact ⟨by omega, h2⟩
  · rintro ⟨h1, h2⟩; exact ⟨by omega, h2⟩
theorem any_mem (l : List SpV) (k : List UInt8) : (l.any fun x => inV x k) = true ↔ SpV.Mem l k := by
  rw [List.any_eq_true]
  unfold SpV.Mem
  exact ⟨fun ⟨x, h1, h2⟩ => ⟨x, h1, (inV_mem x k).1 h2⟩, fun ⟨x, h1, h2⟩ => ⟨x, h1, (inV_mem x k).2 h2⟩⟩
theorem has_same {l rl : List SpV} (hn : SpV.Norm l) (h : ∀ k, SpV.Mem l k ↔ SpV.Mem rl k) (k : List UInt8) : hasV l k = rl.any fun x => inV x k := by
  have h1 := hasV_mem hn k
  have h2 := any_mem rl k
  have h3 := h k
  cases h4 : hasV l k <;> cases h5 : (rl.any fun x => inV x k) <;> simp_all
theorem any_same {l rl : List SpV} {own ks : List Kv} (h : ∀ k, hasV l k = rl.any fun x => inV x k) (hm : own.map Kv.b = ks.map Kv.b) : (own.any fun k => hasV l k.b) = ks.any fun y => rl.any fun x => inV x y.b := by
  have e1 : (own.any fun k => hasV l k.b) = (own.map Kv.b).any (hasV l) := by rw [List.any_map]; rfl
  have e2 : (ks.any fun y => rl.any fun x => inV x y.b) = (ks.map Kv.b).any (hasV l) := by rw [List.any_map]; exact congrArg _ (funext fun y => (h y.b).symm)
  rw [e1, e2, hm]

theorem Told.ins {w0 w w1 : World} {ov : Value} {os l : List SpV} (h : Told w0 w ov os) (hp : os.map SpV.pr = l.map SpV.pr) (hg : ∀ x ∈ l, x.Good w1) : InSpans w ov os := by
  refine ⟨h.row, h.own, fun x hx => ⟨by obtain ⟨A, e⟩ := (h.form x hx).1; exact ⟨A, _, e⟩, by obtain ⟨A, e⟩ := (h.form x hx).2; exact ⟨A, _, e⟩⟩, fun x hx => ?_, h.ne, h.ft, h.pw⟩
  have h1 : x.pr ∈ l.map SpV.pr := by rw [← hp]; exact List.mem_map_of_mem hx
  obtain ⟨y, hy, h2⟩ := List.mem_map.1 h1
  obtain ⟨e1, e2, _⟩ := pr_inj.1 h2
  rw [← e1, ← e2]
  exact ⟨(hg y hy).lf, (hg y hy).lt⟩
theorem InSpans.good {w : World} {ov : Value} {os : List SpV} (h : InSpans w ov os) : ∀ y ∈ os, y.Good w := fun y hy =>
  ⟨(h.own y hy).1.sl, (h.own y hy).2.sl, (h.short y hy).1, (h.short y hy).2⟩
theorem Told.inf {w0 w : World} {ov : Value} {os : List SpV} (h : Told w0 w ov os) {k : Nat} (hk : InSpansF ov os k) : w0.heap.size ≤ k ∧ k < w.heap.size := by
  refine ⟨h.new k hk, ?_⟩
  rcases hk with hk | ⟨x, hx, hk⟩
  · exact h.row.lt k hk
  · exact h.lt hx hk

theorem book_new {w : World} {b : Nat} (h : w.heap[b]? = some (.cells (cells23 fun _ => .slice none 0 0) 87 (0, 0))) : Bc w b (fun _ => .slice none 0 0) (fun _ => []) := by
  refine ⟨⟨h, fun i _ => ow_nil _ _ _, fun i _ => ⟨rfl, rfl⟩, fun i => by simp [Value.ownBlock], fun i j _ k hk => by simp [Value.ownBlock] at hk⟩, fun i v hv => (nomatch hv), fun i => List.Pairwise.nil, fun i j _ v hv => (nomatch hv), fun i v hv => (nomatch hv)⟩

set_option maxRecDepth 100000 in
set_option maxHeartbeats 8000000 in
theorem tells_walk (w : World) (X Y V : Value) (ks : List Kv) (l : List SpV) (asked : List Kv) (hk : Keys w X ks) (hn : ks.length ≤ reachBytes) (hl : SpIn w Y l) (ha : Keys w V asked) (hna : asked.length ≤ reachBytes)
    (o1 : over17 ks.length (ks.map fun k => k.b.length) = false) (o2 : over17 l.length (l.map fun k => k.f.length + k.t.length) = false) (o4 : over17 asked.length (asked.map fun k => k.b.length) = false) :
    Calls Try.prog 9 #[X, Y, V] w fun e w' => e = .returned (.bool true) ∧ Fr no w w' := by
  obtain ⟨k1, k2⟩ := over_keys o1
  obtain ⟨l1, l2⟩ := over_spans o2
  obtain ⟨a1, a2⟩ := over_keys o4
  obtain ⟨D, dc, rfl, hd1, hd2⟩ := ha.sl.form
  have HK := Lib.hid hk; have HL := Lib.hid hl; have HA := Lib.hid ha
  have K2 := Lib.hid k2; have L2 := Lib.hid l2; have A2 := Lib.hid a2
  have O1 := Lib.hid o1; have O2 := Lib.hid o2; have O4 := Lib.hid o4
  clear hk hl ha k2 l2 a2 o1 o2 o4 hd2
  go_enter Try.func9, Try.ntmps9
  go_wp2_with fail
  refine (many_any w _ ks HK.out hn).mono ?_
  rintro e w1 ⟨rfl, f1⟩
  rw [O1.out]
  have F1 := Lib.hid f1; clear f1
  go_wp2_with fail
  refine (much_any w1 _ l (HL.out.kept0 F1.out)).mono ?_
  rintro e w2 ⟨rfl, f2⟩
  rw [O2.out]
  have F2 := Lib.hid (F1.out.trans f2 (fun _ _ h => h)); clear f2
  go_wp2_with fail
  refine (many_any w2 _ asked (HA.out.kept0 F2.out) hna).mono ?_
  rintro e w4 ⟨rfl, f4⟩
  rw [O4.out]
  have F4 := Lib.hid (F2.out.trans f4 (fun _ _ h => h)); clear f4
  go_wp2_with fail
  refine (filled_any w4 _ _ ks l (HK.out.kept0 F4.out) (HL.out.kept0 F4.out) k1 l1 K2.out L2.out).mono ?_
  rintro e w5 ⟨p, q, rfl, hb⟩
  have HB := Lib.hid hb; have F5 := Lib.hid (F4.out.trans hb.fr (fun _ _ h => h)); clear hb
  go_wp2_with fail
  refine (known17 w5).mono ?_
  rintro e w6 ⟨rfl, f6⟩
  have F6 := Lib.hid (F5.out.trans f6 (fun _ _ h => h)); have HB6 := Lib.hid (HB.out.kept0 f6); clear f6
  go_wp2_with fail
  refine (lentrows_any w6 _ asked (HA.out.kept0 F6.out) (by omega) (fun y hy => by have := A2.out y hy; omega)).mono ?_
  rintro e w7 ⟨g, own, rfl, hmap, hlr, hg6, f7⟩
  have F7 := Lib.hid (F6.out.trans f7 (fun _ _ h => h)); have HB7 := Lib.hid (HB6.out.kept0 f7); have HLR := Lib.hid hlr; have HMAP := Lib.hid hmap
  have hol : own.length = asked.length := by have := congrArg List.length hmap; simpa using this
  have HOL := Lib.hid hol
  clear f7 hlr hmap hg6
  obtain ⟨sv, sl, rv, rl, hs, hd⟩ := HB7.out
  have HS := Lib.hid hs; have HD := Lib.hid hd
  have hsame := has_same hs.norm (fun k => (hs.mem k).trans (hd.mem k).symm)
  have HSM := Lib.hid hsame
  have hsl : sl.length ≤ 1200 := hs.len
  have hrl : rl.length ≤ 1200 := hd.len
  clear hs hd hsame
  rw [hol]
  clear hol
  go_wp2
  go_loopw [11] (fun i wr => ∃ m : Nat, m ≤ asked.length ∧ i = .int .i64 m ∧ Fr no w7 wr) (fun i _ => asked.length - (intOf i).toNat)
  case atStart => exact ⟨0, Nat.zero_le _, rfl, Fr.refl _ _⟩
  case round =>
    obtain ⟨m, hm, rfl, hf⟩ := hrel
    have HF := Lib.hid hf; clear hf
    by_cases hlt : m < asked.length
    · have hlt2 : m < own.length := by rw [HOL.out]; exact hlt
      obtain ⟨b1, o1, VA, va, hA1, -, q0, hsa⟩ := key_in (HA.out.kept0 (F7.out.trans HF.out (fun _ _ h => h))) m hlt
      have hke := (HLR.out.kept0 HF.out).keys
      obtain ⟨b2, o2, UA, ua, hA2, -, p0, hsu⟩ := key_in hke m hlt2
      simp only [Option.some.injEq, Addr.mk.injEq, and_true] at hA2
      obtain ⟨rfl, rfl⟩ := hA2
      subst hA1
      have hbe : own[m].b = asked[m].b := by
        have h1 : (own.map Kv.b)[m]? = (asked.map Kv.b)[m]? := by rw [HMAP.out]
        rw [List.getElem?_map, List.getElem?_map, List.getElem?_eq_getElem hlt, List.getElem?_eq_getElem hlt2] at h1
        simpa using h1
      rw [hbe] at p0 hsu
      simp only [Nat.zero_add] at p0
      have HSA := Lib.hid hsa; have HSU := Lib.hid hsu
      have x1 := World.block_lt_of_cell? wr _ q0
      have x2 := World.block_lt_of_cell? wr _ p0
      clear hke hsa hsu hbe
      go_wp2_with fail
      refine wp_region_ord [0, 1, 2, 3, 4, 6, 7, 8, 9, 10, 5, 11, 12] (fun i => [Kd.p, Kd.p, Kd.p, Kd.p, Kd.l, Kd.g, Kd.p, Kd.p, Kd.p, Kd.p, Kd.l, Kd.g, Kd.e].getD i .e) (by kernel_rfl) (by kernel_rfl) ?_
      iterate 10
        first | refine wpX_pu rfl rfl rfl (by first | exact pu_move rfl | exact pu_assign rfl | exact pu_nilCheck rfl rfl | exact pu_binInt rfl rfl rfl | exact pu_conv rfl rfl (by kernel_rfl) | exact pu_fld rfl (by kernel_rfl) | exact pu_ix rfl rfl rfl (by kernel_rfl) | exact pu_unOp rfl | exact pu_binStr rfl rfl rfl | exact pu_len rfl rfl | exact pu_lens rfl rfl | exact pu_pick rfl | exact pu_slice rfl rfl) (fun K hK => ?_) | refine wpX_rd rfl rfl rfl (rd_load rfl) (fun K hK => ?_) | refine wpX_gr rfl rfl rfl (by first | exact gr_buildSlice rfl | exact gr_box rfl | exact gr_alloc rfl) (fun K hK => ?_) | refine wpX_ex rfl rfl rfl (fun K hK => ?_)
        try go_wp2
      refine wpX_ca rfl rfl rfl (fun K hK => ?_)
      go_wp2_with fail
      refine (has_any _ p sv _ sl asked[m].b (HS.out.se.kept0 (HF.out.trans (by (repeat first | exact Fr.refl _ _ | exact Fr.drewN _ _ _ | apply Fr.drew | apply Fr.alloc | apply Fr.setAt | apply Fr.moreN) : Fr no wr _) (fun _ _ h => h))) (HSU.out.kept0 (by (repeat first | exact Fr.refl _ _ | exact Fr.drewN _ _ _ | apply Fr.drew | apply Fr.alloc | apply Fr.setAt | apply Fr.moreN))) (by omega)).mono ?_
      rintro e w8 ⟨rfl, f8⟩
      have F8 := Lib.hid ((by (repeat first | exact Fr.refl _ _ | exact Fr.drewN _ _ _ | apply Fr.drew | apply Fr.alloc | apply Fr.setAt | apply Fr.moreN) : Fr no wr wr.drew).trans f8 (fun _ _ h => h)); clear f8
      go_wp2
      obtain ⟨⟨xa, xb⟩, hext⟩ := F8.out.ext
      refine ⟨⟨xa, xb, hext⟩, hK _ _ ?_⟩
      clear hK K hext xa xb
      refine wpX_ca rfl rfl rfl (fun K hK => ?_)
      go_wp2_with fail
      refine (rhas_any _ q rv _ rl asked[m].b (HD.out.rf.kept0 (HF.out.trans F8.out (fun _ _ h => h))) (HSA.out.kept0 F8.out) (by omega)).mono ?_
      rintro e w9 ⟨rfl, f9⟩
      have F9 := Lib.hid f9; clear f9
      rw [← HSM.out asked[m].b]
      generalize hv : hasV sl asked[m].b = v
      clear hv
      go_wp2
      obtain ⟨⟨xa, xb⟩, hext⟩ := F9.out.ext
      refine ⟨⟨xa, xb, hext⟩, hK _ _ ?_⟩
      clear hK K hext xa xb
      refine wpX_ex rfl rfl rfl (fun K hK => ?_)
      go_simp
      refine hK _ _ ?_
      clear hK K
      refine wpX_done ?_
      have hvv : (v != v) = false := by cases v <;> rfl
      go_wp2
      go_roundw
      case rel => exact ⟨m + 1, by omega, by first | rfl | go_num, (HF.out.trans F8.out (fun _ _ h => h)).trans F9.out (fun _ _ h => h)⟩
      case measure => simp [intOf]; omega
    · obtain rfl : m = asked.length := by omega
      have hlk := HLR.out.keys
      rw [HOL.out] at hlk
      have HOK := Lib.hid hlk; clear hlk
      go_wp2_with fail
      refine (meets_any wr p sv _ sl own (HS.out.se.kept0 HF.out) (HOK.out.kept0 HF.out) (by omega) (by have := HOL.out; omega)).mono ?_
      rintro e w8 ⟨rfl, f8⟩
      have F8 := Lib.hid (HF.out.trans f8 (fun _ _ h => h)); clear f8
      go_wp2_with fail
      refine (rmeets_any w8 q rv _ rl asked (HD.out.rf.kept0 F8.out) (HA.out.kept0 (F7.out.trans F8.out (fun _ _ h => h))) (by omega) (by omega)).mono ?_
      rintro e w9 ⟨rfl, f9⟩
      have F9 := Lib.hid (F8.out.trans f9 (fun _ _ h => h)); clear f9
      rw [any_same HSM.out HMAP.out]
      generalize hv : (asked.any fun y => rl.any fun x => inV x y.b) = v
      clear hv
      have hvv : (v == v) = true := by cases v <;> rfl
      go_wp2_with fail
      have hwr := wholerows_any w9 (.slice D asked.length dc) g own asked (HLR.out.kept0 F9.out) (HA.out.kept0 (F7.out.trans F9.out (fun _ _ h => h))) HMAP.out
      rw [HOL.out] at hwr
      refine hwr.mono ?_
      clear hwr hvv
      rintro e w10 ⟨rfl, f10⟩
      have FA := Lib.hid (F9.out.trans f10 (fun _ _ h => h)); clear f10
      go_wp2_with fail
      refine (all_any w10 p sv sl (HS.out.se.kept0 FA.out) (by omega)).mono ?_
      rintro e w11 ⟨A1, os1, rfl, ht1, hp1, f11⟩
      have T1 := Lib.hid ht1; have P1 := Lib.hid hp1; have FB := Lib.hid (FA.out.trans f11 (fun _ _ h => h)); have F11 := Lib.hid f11; clear ht1 hp1 f11
      go_wp2_with fail
      refine (all_any w11 p sv sl (HS.out.se.kept0 FB.out) (by omega)).mono ?_
      rintro e w12 ⟨A2', os2, rfl, ht2, hp2, f12⟩
      have T2 := Lib.hid ht2; have P2 := Lib.hid hp2; have FC := Lib.hid (FB.out.trans f12 (fun _ _ h => h)); have F12 := Lib.hid f12; clear ht2 hp2 f12
      have hn1 : os1.length ≤ 1200 := by have := congrArg List.length P1.out; simp only [List.length_map] at this; omega
      have hn2 : os2.length ≤ 1200 := by have := congrArg List.length P2.out; simp only [List.length_map] at this; omega
      go_wp2_with fail
      have e2 := heap_alloc_new w12 (.cells #[.slice none 0 0, .slice none 0 0, .slice none 0 0, .slice none 0 0, .slice none 0 0, .slice none 0 0, .slice none 0 0, .slice none 0 0, .slice none 0 0, .slice none 0 0, .slice none 0 0, .slice none 0 0, .slice none 0 0, .slice none 0 0, .slice none 0 0, .slice none 0 0, .slice none 0 0, .slice none 0 0, .slice none 0 0, .slice none 0 0, .slice none 0 0, .slice none 0 0, .slice none 0 0] 87)
      have fal := (Fr.refl no w12).alloc (.cells #[.slice none 0 0, .slice none 0 0, .slice none 0 0, .slice none 0 0, .slice none 0 0, .slice none 0 0, .slice none 0 0, .slice none 0 0, .slice none 0 0, .slice none 0 0, .slice none 0 0, .slice none 0 0, .slice none 0 0, .slice none 0 0, .slice none 0 0, .slice none 0 0, .slice none 0 0, .slice none 0 0, .slice none 0 0, .slice none 0 0, .slice none 0 0, .slice none 0 0, .slice none 0 0] 87)
      generalize hgb : w12.heap.size = b at e2 ⊢
      generalize w12.alloc (.cells #[.slice none 0 0, .slice none 0 0, .slice none 0 0, .slice none 0 0, .slice none 0 0, .slice none 0 0, .slice none 0 0, .slice none 0 0, .slice none 0 0, .slice none 0 0, .slice none 0 0, .slice none 0 0, .slice none 0 0, .slice none 0 0, .slice none 0 0, .slice none 0 0, .slice none 0 0, .slice none 0 0, .slice none 0 0, .slice none 0 0, .slice none 0 0, .slice none 0 0, .slice none 0 0] 87) = wb at e2 fal ⊢
      have hgb1 := Nat.le_of_eq hgb
      have hgb2 := Nat.le_of_eq hgb.symm
      clear hgb
      have hnb := book_new e2
      clear e2
      have hbc : ∀ k, BcF b (fun _ => .slice none 0 0) (fun _ => []) k → k = b := fun k hk => by
        rcases hk with hk | ⟨_, hk⟩ | ⟨_, _, h, _⟩
        · exact hk
        · simp [Value.ownBlock] at hk
        · cases h
      have hbo : ∀ k, BkO b (fun _ => .slice none 0 0) k → k = b := fun k hk => by
        rcases hk with hk | ⟨_, hk⟩
        · exact hk
        · simp [Value.ownBlock] at hk
      have s12 := F12.out.size
      have i1 := (T1.out.kept0 (F12.out.trans fal (fun _ _ h => h))).ins P1.out (fun x hx => HS.out.se.good x hx)
      have i2 := (T2.out.kept0 fal).ins P2.out (fun x hx => HS.out.se.good x hx)
      have hd1 : ∀ k, InSpansF (.slice A1 os1.length os1.length) os1 k → ¬ BcF b (fun _ => .slice none 0 0) (fun _ => []) k := fun k h1 h2 => by
        have h3 := T1.out.inf h1; have := hbc k h2; omega
      have I1 := Lib.hid i1; have I2 := Lib.hid i2; have HBC := Lib.hid hbc; have HBO := Lib.hid hbo; have HD1 := Lib.hid hd1; have FAL := Lib.hid fal; have HNB := Lib.hid hnb
      have GB := Lib.hid (And.intro hgb1 hgb2); have S12 := Lib.hid s12
      clear i1 i2 hbc hbo hd1 fal hnb hgb1 hgb2 s12
      go_wp2_with fail
      refine (bc_Spans wb b _ _ _ os1 HNB.out (fun i => Nat.zero_le _) I1.out (by omega) HD1.out).mono ?_
      rintro e w13 ⟨rfl, V1, R1, hb1, fb1, hi1, ho1, hl1⟩
      have f13 : Fr no w12 w13 := FAL.out.trans fb1 (fun k hk h => by have h2 := HBO.out k h; have h3 := GB.out; omega)
      have hl1' : ∀ i, (R1 i).length ≤ 2401 := fun i => by have := hl1 i; simp only [List.length_nil] at this; omega
      have i3 := I2.out.kept fb1 (fun k h1 h2 => by have h3 := T2.out.inf h1; have h4 := HBO.out k h2; have h5 := GB.out; omega)
      have hd2 : ∀ k, InSpansF (.slice A2' os2.length os2.length) os2 k → ¬ BcF b V1 R1 k := fun k h1 h2 => by
        have h3 := T2.out.inf h1
        rcases hi1 k h2 with h4 | h4 | h4
        · have h5 := HBC.out k h4; have h6 := GB.out; omega
        · have h5 := T1.out.inf h4; omega
        · have h5 := FAL.out.size; omega
      have HB1 := Lib.hid hb1; have FB1 := Lib.hid f13; have I3 := Lib.hid i3; have HD2 := Lib.hid hd2; have HI1 := Lib.hid hi1; have HO1 := Lib.hid ho1; have HL1 := Lib.hid hl1'
      clear hb1 fb1 f13 i3 hd2 hi1 ho1 hl1 hl1'
      go_wp2_with fail
      refine (bc_Spans w13 b V1 R1 _ os2 HB1.out (fun i => Nat.le_trans (HL1.out i) (by omega)) I3.out (by omega) HD2.out).mono ?_
      rintro e w14 ⟨rfl, V2, R2, hb2, fb2, hi2, ho2, hl2⟩
      have f14 : Fr no w12 w14 := FB1.out.trans fb2 (fun k hk h => by
        rcases HO1.out k h with h2 | h2
        · have h3 := HBO.out k h2; have h4 := GB.out; omega
        · have h3 := FAL.out.size; omega)
      have hl2' : ∀ i, (R2 i).length ≤ 1000000 := fun i => by have := hl2 i; have := HL1.out i; omega
      have hrw : ∀ k, BcF b V2 R2 k → w10.heap.size ≤ k := fun k h => by
        have h0 := FB.out.size; have h1 := F11.out.size; have h2 := F12.out.size; have h3 := FAL.out.size; have h4 := FB1.out.size; have h5 := GB.out
        rcases hi2 k h with h | h | h
        · rcases HI1.out k h with h | h | h
          · have := HBC.out k h; omega
          · have := T1.out.inf h; omega
          · omega
        · have := T2.out.inf h; omega
        · omega
      have HB2 := Lib.hid hb2; have FD := Lib.hid f14; have HL2 := Lib.hid hl2'; have HRW := Lib.hid hrw
      clear hb2 fb2 hi2 ho2 hl2 f14 hl2' hrw
      have FE := Lib.hid (FC.out.trans FD.out (fun _ _ h => h))
      go_wp2_with fail
      refine (rall_any w14 q rv rl (HD.out.rf.kept0 FE.out) HD.out.ok (by omega)).mono ?_
      rintro e w15 ⟨ov, out, rfl, hno, hme, hle, hrow, hgo, -, f15⟩
      have hpo : os1.map SpV.pr = out.map SpV.pr := P1.out.trans (SpV.norm_ext sl out HS.out.norm hno (fun k => (HS.out.mem k).trans ((HD.out.mem k).symm.trans (hme k).symm)))
      have T1b := (T1.out.kept0 (F12.out.trans FD.out (fun _ _ h => h))).kept0 f15
      have T2b := (T2.out.kept0 FD.out).kept0 f15
      have i1 := T1b.ins P1.out (fun x hx => HS.out.se.good x hx)
      have i2 := T2b.ins P2.out (fun x hx => HS.out.se.good x hx)
      have I1b := Lib.hid i1; have I2b := Lib.hid i2; have HROW := Lib.hid hrow.sl; have HGO := Lib.hid hgo; have HPO := Lib.hid hpo; have FF := Lib.hid f15
      clear hno hme hrow hgo f15 hpo T1b T2b i1 i2
      go_wp2_with fail
      refine (samesp_any w15 _ _ os1 out I1b.out.row.sl HROW.out I1b.out.good HGO.out (by omega)).mono ?_
      rintro e w16 ⟨rfl, f16⟩
      rw [decide_eq_true HPO.out]
      have FG := Lib.hid f16; clear f16
      go_wp2_with fail
      refine (samesp_any w16 _ _ os2 os1 (I2b.out.row.sl.kept0 FG.out) (I1b.out.row.sl.kept0 FG.out) (fun y hy => (I2b.out.good y hy).kept0 FG.out) (fun y hy => (I1b.out.good y hy).kept0 FG.out) (by omega)).mono ?_
      rintro e w17 ⟨rfl, f17⟩
      rw [decide_eq_true (P2.out.trans P1.out.symm)]
      have FH := Lib.hid (FF.out.trans (FG.out.trans f17 (fun _ _ h => h)) (fun _ _ h => h)); clear f17
      go_wp2_with fail
      refine (bc_own w17 b V2 R2 (HB2.out.kept0 FH.out) HL2.out).mono ?_
      rintro e w18 ⟨rfl, f18⟩
      have hfin : Fr no w w18 := (((F7.out.trans FC.out (fun _ _ h => h)).trans FD.out (fun _ _ h => h)).trans FH.out (fun _ _ h => h)).trans f18 (fun k hk h => by
        obtain ⟨j, _, h⟩ := h
        have h2 := HRW.out k (.inr (.inr ⟨j, h⟩))
        have h3 := (F7.out.trans FA.out (fun _ _ h => h)).size
        omega)
      have HFIN := Lib.hid hfin; clear hfin f18
      go_wp2
      go_ret
      exact ⟨rfl, HFIN.out⟩
end Go.Proofs.Ytdnohhlgaaihmaa

/- law17: ReadsTells, whatever comes in. -/
namespace Go.Proofs.Ytdnohhlgaaihmaa
open Go.RowKit

set_option maxRecDepth 100000 in
set_option maxHeartbeats 4000000 in
theorem tells_any (w : World) (X Y V : Value) (ks : List Kv) (l : List SpV) (asked : List Kv) (hk : Keys w X ks) (hn : ks.length ≤ reachBytes) (hl : SpIn w Y l) (ha : Keys w V asked) (hna : asked.length ≤ reachBytes) :
    Calls Try.prog 9 #[X, Y, V] w fun e w' => e = .returned (.bool true) ∧ Fr no w w' := by
  cases o1 : over17 ks.length (ks.map fun k => k.b.length) with
  | true =>
    have O1 := Lib.hid o1; clear o1
    go_enter Try.func9, Try.ntmps9
    have F0 := Lib.hid (Fr.refl no w)
    go_wp2_with fail
    refine (many_any w X ks (hk.kept0 (F0.out)) hn).mono ?_
    rintro e w1 ⟨rfl, f⟩
    rw [O1.out]
    have F1 := Lib.hid (F0.out.trans f (fun _ _ h => h)); clear f
    go_wp2
    go_ret
    exact ⟨rfl, F1.out⟩
  | false =>
    cases o2 : over17 l.length (l.map fun k => k.f.length + k.t.length) with
    | true =>
      have O1 := Lib.hid o1; clear o1
      have O2 := Lib.hid o2; clear o2
      go_enter Try.func9, Try.ntmps9
      have F0 := Lib.hid (Fr.refl no w)
      go_wp2_with fail
      refine (many_any w X ks (hk.kept0 (F0.out)) hn).mono ?_
      rintro e w1 ⟨rfl, f⟩
      rw [O1.out]
      have F1 := Lib.hid (F0.out.trans f (fun _ _ h => h)); clear f
      go_wp2_with fail
      refine (much_any w1 Y l (hl.kept0 (F1.out))).mono ?_
      rintro e w2 ⟨rfl, f⟩
      rw [O2.out]
      have F2 := Lib.hid (F1.out.trans f (fun _ _ h => h)); clear f
      go_wp2
      go_ret
      exact ⟨rfl, F2.out⟩
    | false =>
      cases o3 : over17 asked.length (asked.map fun k => k.b.length) with
      | true =>
        have O1 := Lib.hid o1; clear o1
        have O2 := Lib.hid o2; clear o2
        have O3 := Lib.hid o3; clear o3
        go_enter Try.func9, Try.ntmps9
        have F0 := Lib.hid (Fr.refl no w)
        go_wp2_with fail
        refine (many_any w X ks (hk.kept0 (F0.out)) hn).mono ?_
        rintro e w1 ⟨rfl, f⟩
        rw [O1.out]
        have F1 := Lib.hid (F0.out.trans f (fun _ _ h => h)); clear f
        go_wp2_with fail
        refine (much_any w1 Y l (hl.kept0 (F1.out))).mono ?_
        rintro e w2 ⟨rfl, f⟩
        rw [O2.out]
        have F2 := Lib.hid (F1.out.trans f (fun _ _ h => h)); clear f
        go_wp2_with fail
        refine (many_any w2 V asked (ha.kept0 (F2.out)) hna).mono ?_
        rintro e w3 ⟨rfl, f⟩
        rw [O3.out]
        have F3 := Lib.hid (F2.out.trans f (fun _ _ h => h)); clear f
        go_wp2
        go_ret
        exact ⟨rfl, F3.out⟩
      | false =>
        exact tells_walk w X Y V ks l asked hk hn hl ha hna o1 o2 o3
end Go.Proofs.Ytdnohhlgaaihmaa

/- The keys and spans that a law of package reads is handed, opened. -/
namespace Go.Proofs.Ytdnohhlgaaihmaa
open Go.RowKit

theorem one_of' {c : List Value} (h : c.length = 1) : ∃ c0, c = [c0] := by
  match c, h with
  | [c0], _ => exact ⟨c0, rfl⟩
theorem three_of {c : List Value} (h : c.length = 3) : ∃ c0 c1 c2, c = [c0, c1, c2] := by
  match c, h with
  | [c0, c1, c2], _ => exact ⟨c0, c1, c2, rfl⟩

set_option maxRecDepth 100000 in
theorem keys_open {w : World} {cs : List Value} (h : Td Try.prog w 63 cs) : ∃ x ks, cs = [x] ∧ Keys w x ks ∧ ks.length ≤ reachBytes := by
  have hc : Try.prog.cellsOf 34 = 1 := by kernel_rfl
  have hb : Try.prog.bytesOf 34 = 24 := by kernel_rfl
  obtain ⟨v, css, rfl, h1, h2, h3⟩ := h.slice Try.underlying63 (by rw [hc]; decide)
  rw [hc] at h1
  rw [hb] at h3
  have key : ∀ (css : List (List Value)), (∀ c ∈ css, c.length = Try.prog.cellsOf 34 ∧ Td Try.prog w 34 c) → ∃ ks : List Kv, ks.length = css.length ∧ css.flatten = ks.map Kv.V ∧ ∀ o ∈ ks, o.Good w := by
    intro css
    induction css with
    | nil => intro _; exact ⟨[], rfl, rfl, by simp⟩
    | cons c css ih =>
      intro hall
      obtain ⟨ks, e1, e2, e3⟩ := ih fun c hc => hall c (.tail _ hc)
      obtain ⟨hl, hd⟩ := hall c (.head _)
      obtain ⟨B, bs, hB, hBs, hBl⟩ := hd.bytes Try.underlying34 Try.underlying5 (by kernel_rfl) (by kernel_rfl)
      subst hB
      refine ⟨⟨B, bs⟩ :: ks, by simp [e1], ?_, ?_⟩
      · rw [List.flatten_cons, e2]; rfl
      · intro o ho
        rcases List.mem_cons.1 ho with rfl | ho
        · exact ⟨hBs, hBl⟩
        · exact e3 o ho
  obtain ⟨ks, e1, e2, e3⟩ := key css h2
  rw [e2, ← e1] at h1
  exact ⟨v, ks, rfl, ⟨h1, e3⟩, by omega⟩

set_option maxRecDepth 100000 in
theorem spans_open {w : World} {cs : List Value} (h : Td Try.prog w 90 cs) : ∃ x l, cs = [x] ∧ SpIn w x l := by
  have hc : Try.prog.cellsOf 100 = 3 := by kernel_rfl
  have hb : Try.prog.bytesOf 100 = 56 := by kernel_rfl
  obtain ⟨v, css, rfl, h1, h2, h3⟩ := h.slice Try.underlying90 (by rw [hc]; decide)
  rw [hc] at h1
  rw [hb] at h3
  have key : ∀ (css : List (List Value)), (∀ c ∈ css, c.length = Try.prog.cellsOf 100 ∧ Td Try.prog w 100 c) → ∃ l : List SpV, l.length = css.length ∧ css.flatten = l.flatMap SpV.cells ∧ ∀ o ∈ l, o.Raw w := by
    intro css
    induction css with
    | nil => intro _; exact ⟨[], rfl, rfl, by simp⟩
    | cons c css ih =>
      intro hall
      obtain ⟨os, e1, e2, e3⟩ := ih fun c hc => hall c (.tail _ hc)
      obtain ⟨hl, hd⟩ := hall c (.head _)
      have hf := (hd.struct Try.underlying100).2
      obtain ⟨c0, c1, c2, rfl⟩ := three_of (hl.trans hc)
      have z0 : Try.prog.cellsOf 34 = 1 := by kernel_rfl
      have z1 : Try.prog.cellsOf 4 = 1 := by kernel_rfl
      have f0 : Td Try.prog w 34 [c0] := by
        have h : Td Try.prog w 34 (([c0, c1, c2].drop 0).take (Try.prog.cellsOf 34)) := hf 0 _ rfl
        rw [z0] at h; exact h
      have f1 : Td Try.prog w 34 [c1] := by
        have h : Td Try.prog w 34 (([c0, c1, c2].drop 1).take (Try.prog.cellsOf 34)) := hf 1 _ rfl
        rw [z0] at h; exact h
      have f2 : Td Try.prog w 4 [c2] := by
        have h : Td Try.prog w 4 (([c0, c1, c2].drop 2).take (Try.prog.cellsOf 4)) := hf 2 _ rfl
        rw [z1] at h; exact h
      obtain ⟨B, bs, hB, hBs, hBl⟩ := f0.bytes Try.underlying34 Try.underlying5 (by kernel_rfl) (by kernel_rfl)
      obtain ⟨C, ct, hC, hCs, hCl⟩ := f1.bytes Try.underlying34 Try.underlying5 (by kernel_rfl) (by kernel_rfl)
      obtain ⟨b, hb⟩ := f2.bool Try.underlying4
      simp only [List.cons.injEq, and_true] at hB hC hb
      subst hB; subst hC; subst hb
      refine ⟨⟨c0, c1, bs, ct, b⟩ :: os, by simp [e1], ?_, ?_⟩
      · rw [List.flatten_cons, e2]; rfl
      · intro o ho
        rcases List.mem_cons.1 ho with rfl | ho
        · exact ⟨hBs, hCs, hBl, hCl⟩
        · exact e3 o ho
  obtain ⟨os, e1, e2, e3⟩ := key css h2
  rw [e2, ← e1] at h1
  exact ⟨v, os, rfl, h1, e3, by omega⟩
end Go.Proofs.Ytdnohhlgaaihmaa

/- ReadsTells holds, for every input. No condition. -/
namespace Go.Proofs.Ytdnohhlgaaihmaa
open Go.ChangeShapes Go.WideShapes Go.ChangeAt Go.RowKit
namespace RReadsTells
theorem own : ownKnob Try.prog.godebug = none := by kernel_rfl
theorem laidOut : laidOutB Try.prog = true := by kernel_rfl

set_option maxRecDepth 100000 in
theorem lifted (os : Os) (started : os.Started) (H : Type) (enc : TypeId × Value → H) :
    ReturnsInHanded {} Try.checked os 9 .any (Rows.readsTellsSpec.pre6 enc Try.prog Try.f9 Rows.readsTellsRow.domain false) (Rows.readsTellsSpec.post enc Try.prog Try.f9 false true false false) := by
  refine returnsInHanded_of_change_sized (C := Try.checked) own started (by kernel_rfl) Try.func9
    (ChangeSpec.witness6 (enc := enc) (C := Try.checked) false ⟨#[], #[.slice none 0 0, .slice none 0 0, .slice none 0 0], []⟩ 8 (by kernel_rfl) (by kernel_rfl) (by kernel_rfl) (by kernel_rfl)) ?_
  intro W base args ds gs before hval0 hW hcnd hsz0 _
  have hval : ∀ (j : Nat) t v, Try.f9.params[j]? = some t → args[j]? = some v → Value.okWide Try.prog W .any base t v := hval0
  have hW' := hW
  obtain ⟨p, q, hA0, hV, rfl, hfz, hnd⟩ := hW
  have hA : DataW.TrodAll enc Try.prog W 0 (fun _ => true) true Try.f9.params.toList args.toList ds p := hA0
  have hsz : (DataW.weightsEach Try.prog (Try.f9.params.toList ++ Rows.readsTellsSpec.plain.varTypes Try.prog) (ds ++ gs)).all (· ≤ reachBytes) = true := hsz0
  have hTd : ∀ (j : Nat) t v, Try.f9.params.toList[j]? = some t → args.toList[j]? = some v → Td Try.prog W t v.cells.toList := fun j t v h1 h2 => Td.arg hA hsz j t v h1 h2
  clear hsz hsz0
  rw [Try.params9] at hA hval hTd
  obtain ⟨v0, vs0, d0, ds0, p0, q0, hargs, rfl, rfl, h0, r0⟩ := trodAll_cons hA
  obtain ⟨v1, vs1, d1, ds1, p1, q1, rfl, rfl, rfl, h1, r1⟩ := trodAll_cons r0
  obtain ⟨v2, vs2, d2, ds2, p2, q2, rfl, rfl, rfl, h2, r2⟩ := trodAll_cons r1
  obtain ⟨rfl, rfl, rfl⟩ := trodAll_nil r2
  obtain rfl : args = #[v0, v1, v2] := by cases args; simp_all
  obtain ⟨rfl, rfl⟩ := trodVars_none hV
  obtain ⟨a0, n0, c0, rfl⟩ := okWide_slice Try.underlying63 (hval 0 63 v0 rfl rfl)
  have lt0 : ∀ x ∈ p0, x.block < W.heap.size := by obtain ⟨m, hm⟩ := h0; exact DataW.trod_lt m _ _ _ hm
  have lo0 : ∀ k, (Value.slice a0 n0 c0).ownBlock = some k → k < W.heap.size := okWide_lt Try.underlying63 (hval 0 63 _ rfl rfl)
  have td0 : Td Try.prog W 63 [.slice a0 n0 c0] := hTd 0 63 _ rfl rfl
  obtain ⟨a1, n1, c1, rfl⟩ := okWide_slice Try.underlying90 (hval 1 90 v1 rfl rfl)
  have lt1 : ∀ x ∈ p1, x.block < W.heap.size := by obtain ⟨m, hm⟩ := h1; exact DataW.trod_lt m _ _ _ hm
  have lo1 : ∀ k, (Value.slice a1 n1 c1).ownBlock = some k → k < W.heap.size := okWide_lt Try.underlying90 (hval 1 90 _ rfl rfl)
  have td1 : Td Try.prog W 90 [.slice a1 n1 c1] := hTd 1 90 _ rfl rfl
  obtain ⟨a2, n2, c2, rfl⟩ := okWide_slice Try.underlying63 (hval 2 63 v2 rfl rfl)
  have lt2 : ∀ x ∈ p2, x.block < W.heap.size := by obtain ⟨m, hm⟩ := h2; exact DataW.trod_lt m _ _ _ hm
  have lo2 : ∀ k, (Value.slice a2 n2 c2).ownBlock = some k → k < W.heap.size := okWide_lt Try.underlying63 (hval 2 63 _ rfl rfl)
  have td2 : Td Try.prog W 63 [.slice a2 n2 c2] := hTd 2 63 _ rfl rfl
  have walk : Calls Try.prog 9 #[.slice a0 n0 c0, .slice a1 n1 c1, .slice a2 n2 c2] W fun e w' => e = .returned (.bool true) ∧ Below W.heap.size W w' := by
    clear hA0 hTd hval hval0
    obtain ⟨x0, ks, e0, hk, hn⟩ := keys_open td0
    obtain ⟨x1, l, e1, hl⟩ := spans_open td1
    obtain ⟨x2, ask, e2, ha, hna⟩ := keys_open td2
    simp only [List.cons.injEq, and_true] at e0 e1 e2
    subst e0; subst e1; subst e2
    exact (tells_any W _ _ _ ks l ask hk hn hl ha hna).mono fun e w' h => ⟨h.1, h.2.below (fun k _ h => h)⟩
  clear hA0 hval0 hTd
  refine walk.mono fun e W' ⟨he, bel⟩ => ?_
  subst he
  exact ⟨_, rfl, _, _, _, [], _, [], hW', trodAll_mk1 (shut_bool Try.underlying4 _), (trodAll_cons_mk (Below.trod laidOut (by kernel_rfl) (of_decide_eq_true (by kernel_rfl)) h0 bel lt0) (trodAll_cons_mk (Below.trod laidOut (by kernel_rfl) (of_decide_eq_true (by kernel_rfl)) h1 bel lt1) (trodAll_cons_mk (Below.trod laidOut (by kernel_rfl) (of_decide_eq_true (by kernel_rfl)) h2 bel lt2) trodAll_mk0))), rfl, bel.frame _, fun h => by cases h⟩

theorem over : Rows.readsTellsRow.holds Try.pinned (OpenSpec.ofChange Rows.readsTellsSpec) :=
  OpenClaim.holds_of_wide 9 Try.f9 rfl rfl rfl rfl rfl rfl rfl ⟨rfl, rfl, rfl, rfl, rfl⟩ rfl rfl rfl rfl rfl (by kernel_rfl) Try.func9 (by kernel_rfl)
    (of_decide_eq_true (by kernel_rfl)) (by unfold Func.isWrapper; first | (rw [if_pos (by decide +kernel)]; kernel_rfl) | (rw [if_neg (by decide +kernel)]; exact ⟨rfl, rfl⟩))
    (fun os started H enc _ => lifted os started H enc)
end RReadsTells

/-- The row. -/
theorem readsTells_holds : Rows.ReadsTellsSaid := RReadsTells.over
#print axioms readsTells_holds
end Go.Proofs.Ytdnohhlgaaihmaa
