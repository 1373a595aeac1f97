import Derived.Test.YtdnohhlgaaihmaaMd09
import Derived.Test.YtdnohhlgaaihmaaMd05

/- law16: the calls that a statement of package buffer is handed. -/
namespace Go.Proofs.Ytdnohhlgaaihmaa
open Go.RowKit

/-- A call: its kind, its key and value, and the rest. -/
structure OpB where
  k : Nat
  K : Value
  V : Value
  kb : List UInt8
  vb : List UInt8
  i : Bool
  n : Int
namespace OpB
def cells (o : OpB) : List Value := [.int .u8 o.k, o.K, o.V, .bool o.i, .int .i64 o.n]
structure Good (w : World) (o : OpB) : Prop where
  k : o.k < 256
  K : Sl w 1 o.K o.kb.length (bvs o.kb)
  V : Sl w 1 o.V o.vb.length (bvs o.vb)
  n0 : -9223372036854775808 ≤ o.n
  n1 : o.n ≤ 9223372036854775807
  lk : o.kb.length ≤ reachBytes
  lv : o.vb.length ≤ reachBytes
theorem Good.kept0 {w w1 : World} {o : OpB} (h : o.Good w) (f : Fr no w w1) : o.Good w1 := ⟨h.k, h.K.kept0 f, h.V.kept0 f, h.n0, h.n1, h.lk, h.lv⟩
end OpB

theorem flat5 (l : List OpB) (j : Nat) (h : j < l.length) (i : Nat) (hi : i < 5) : (l.flatMap OpB.cells)[5 * j + i]? = (l[j].cells)[i]? := by
  have e : l.flatMap OpB.cells = (l.map OpB.cells).flatten := by rw [List.flatMap_def]
  rw [e, flat_get (sz := 5) (by omega) _ (by intro c hc; obtain ⟨o, _, rfl⟩ := List.mem_map.1 hc; rfl)]
  rw [show (5 * j + i) / 5 = j by omega, show (5 * j + i) % 5 = i by omega]
  simp [h]

/-- Calls in a row. -/
structure OpsB (w : World) (x : Value) (l : List OpB) : Prop where
  sl : Sl w 5 x l.length (l.flatMap OpB.cells)
  good : ∀ o ∈ l, o.Good w
  n : l.length ≤ reachBytes
theorem OpsB.kept0 {w w1 : World} {x : Value} {l : List OpB} (h : OpsB w x l) (f : Fr no w w1) : OpsB w1 x l := ⟨h.sl.kept0 f, fun y hy => (h.good y hy).kept0 f, h.n⟩
theorem OpsB.at {w : World} {A : Option Addr} {n c : Nat} {l : List OpB} (h : OpsB w (.slice A n c) l) (j : Nat) (hj : j < l.length) :
    ∃ b o KA kc VA vc, A = some ⟨b, o, none⟩ ∧ n = l.length ∧ w.cell? ⟨b, o + j * 5, none⟩ = some (.int .u8 l[j].k) ∧ w.cell? ⟨b, o + j * 5 + 1, none⟩ = some (.slice KA l[j].kb.length kc) ∧ w.cell? ⟨b, o + j * 5 + 2, none⟩ = some (.slice VA l[j].vb.length vc) ∧
      w.cell? ⟨b, o + j * 5 + 3, none⟩ = some (.bool l[j].i) ∧ w.cell? ⟨b, o + j * 5 + 4, none⟩ = some (.int .i64 l[j].n) ∧
      Sl w 1 (.slice KA l[j].kb.length kc) l[j].kb.length (bvs l[j].kb) ∧ Sl w 1 (.slice VA l[j].vb.length vc) l[j].vb.length (bvs l[j].vb) := by
  have hg := h.good l[j] (List.getElem_mem _)
  obtain ⟨KA, kc, hK, _, _⟩ := hg.K.form
  obtain ⟨VA, vc, hV, _, _⟩ := hg.V.form
  rcases h.sl.2 with ⟨_, h1, h2⟩ | ⟨b, o, cap, h1, _, _, h4⟩
  · omega
  · cases h1
    have g : ∀ i, i < 5 → ∀ u, (l[j].cells)[i]? = some u → w.cell? ⟨b, o + j * 5 + i, none⟩ = some u := fun i hi u hu => by
      have := h4 (5 * j + i) u (by rw [flat5 l j hj i hi, hu])
      rw [show o + j * 5 + i = o + (5 * j + i) by omega]; exact this
    refine ⟨b, o, KA, kc, VA, vc, rfl, rfl, g 0 (by omega) _ rfl, ?_, ?_, g 3 (by omega) _ rfl, g 4 (by omega) _ rfl, hK ▸ hg.K, hV ▸ hg.V⟩
    · rw [← hK]; exact g 1 (by omega) _ rfl
    · rw [← hV]; exact g 2 (by omega) _ rfl

/-- More than is looked at. -/
def sum16 (l : List OpB) : Nat := l.length + (l.map fun o => o.kb.length / 8 + o.vb.length / 8).sum
def over16 (l : List OpB) : Bool := decide (3000 < sum16 l) || decide (300 < l.length)

theorem five_of {c : List Value} (h : c.length = 5) : ∃ c0 c1 c2 c3 c4, c = [c0, c1, c2, c3, c4] := by
  match c, h with
  | [c0, c1, c2, c3, c4], _ => exact ⟨c0, c1, c2, c3, c4, rfl⟩

set_option maxRecDepth 100000 in
theorem ops16_open {w : World} {cs : List Value} (h : Td Try.prog w 23 cs) : ∃ x l, cs = [x] ∧ OpsB w x l := by
  have hc : Try.prog.cellsOf 54 = 5 := by kernel_rfl
  have hb : Try.prog.bytesOf 54 = 72 := by kernel_rfl
  obtain ⟨v, css, rfl, h1, h2, h3⟩ := h.slice Try.underlying23 (by rw [hc]; decide)
  rw [hc] at h1
  rw [hb] at h3
  have key : ∀ (css : List (List Value)), (∀ c ∈ css, c.length = Try.prog.cellsOf 54 ∧ Td Try.prog w 54 c) → ∃ l : List OpB, l.length = css.length ∧ css.flatten = l.flatMap OpB.cells ∧ ∀ o ∈ l, o.Good w := by
    intro css
    induction css with
    | nil => intro _; exact ⟨[], rfl, rfl, by simp⟩
    | cons c css ih =>
      intro hall
      obtain ⟨os, e1, e2, e3⟩ := ih fun c hc => hall c (.tail _ hc)
      obtain ⟨hl, hd⟩ := hall c (.head _)
      have hf := (hd.struct Try.underlying54).2
      obtain ⟨c0, c1, c2, c3, c4, rfl⟩ := five_of (hl.trans hc)
      have z0 : Try.prog.cellsOf 5 = 1 := by kernel_rfl
      have z1 : Try.prog.cellsOf 34 = 1 := by kernel_rfl
      have z2 : Try.prog.cellsOf 4 = 1 := by kernel_rfl
      have z3 : Try.prog.cellsOf 3 = 1 := by kernel_rfl
      have f0 : Td Try.prog w 5 [c0] := by
        have h : Td Try.prog w 5 (([c0, c1, c2, c3, c4].drop 0).take (Try.prog.cellsOf 5)) := hf 0 _ rfl
        rw [z0] at h; exact h
      have f1 : Td Try.prog w 34 [c1] := by
        have h : Td Try.prog w 34 (([c0, c1, c2, c3, c4].drop 1).take (Try.prog.cellsOf 34)) := hf 1 _ rfl
        rw [z1] at h; exact h
      have f2 : Td Try.prog w 34 [c2] := by
        have h : Td Try.prog w 34 (([c0, c1, c2, c3, c4].drop 2).take (Try.prog.cellsOf 34)) := hf 2 _ rfl
        rw [z1] at h; exact h
      have f3 : Td Try.prog w 4 [c3] := by
        have h : Td Try.prog w 4 (([c0, c1, c2, c3, c4].drop 3).take (Try.prog.cellsOf 4)) := hf 3 _ rfl
        rw [z2] at h; exact h
      have f4 : Td Try.prog w 3 [c4] := by
        have h : Td Try.prog w 3 (([c0, c1, c2, c3, c4].drop 4).take (Try.prog.cellsOf 3)) := hf 4 _ rfl
        rw [z3] at h; exact h
      obtain ⟨k, hk, hkw⟩ := f0.int Try.underlying5
      obtain ⟨B, bs, hB, hBs, hBl⟩ := f1.bytes Try.underlying34 Try.underlying5 (by kernel_rfl) (by kernel_rfl)
      obtain ⟨C, ct, hC, hCs, hCl⟩ := f2.bytes Try.underlying34 Try.underlying5 (by kernel_rfl) (by kernel_rfl)
      obtain ⟨b, hb⟩ := f3.bool Try.underlying4
      obtain ⟨n, hn, hnw⟩ := f4.int Try.underlying3
      simp only [List.cons.injEq, and_true] at hk hB hC hb hn
      subst hk; subst hB; subst hC; subst hb; subst hn
      obtain ⟨k0, k1⟩ := u8_of_wf hkw
      obtain ⟨n0, n1⟩ := i64_of_wf hnw
      obtain ⟨k, rfl⟩ := Int.eq_ofNat_of_zero_le k0
      refine ⟨⟨k, c1, c2, bs, ct, b, n⟩ :: os, by simp [e1], ?_, ?_⟩
      · rw [List.flatten_cons, e2]; rfl
      · intro o ho
        rcases List.mem_cons.1 ho with rfl | ho
        · exact ⟨by show k < 256; omega, hBs, hCs, n0, n1, hBl, hCl⟩
        · exact e3 o ho
  obtain ⟨os, e1, e2, e3⟩ := key css h2
  rw [e2, ← e1] at h1
  exact ⟨v, os, rfl, h1, e3, by omega⟩
end Go.Proofs.Ytdnohhlgaaihmaa

/- law16: much, filled. -/
namespace Go.Proofs.Ytdnohhlgaaihmaa
open Go.RowKit

/-- A buffer that was made since w. -/
structure Bs (w wr : World) (p : Nat) (lv : Value) (l : List SpV) (uv : Value) (us : List Und) : Prop where
  fr : Fr no w wr
  bf : Bf wr p lv l uv us
  new : ∀ k, BfF p lv l uv us k → w.heap.size ≤ k
  len : l.length ≤ us.length
theorem Bs.kept0 {w wr w1 : World} {p : Nat} {lv uv : Value} {l : List SpV} {us : List Und} (h : Bs w wr p lv l uv us) (f : Fr no wr w1) : Bs w w1 p lv l uv us := ⟨h.fr.trans f (fun _ _ h => h), h.bf.kept0 f, h.new, h.len⟩

theorem say_len (l : List SpV) (x : SpV) : (sayL l x).length ≤ l.length + 1 := by
  unfold sayL
  have := posK_le l x.f
  split <;> simp; omega

theorem Bs.said {w wr w1 : World} {p : Nat} {lv uv : Value} {l : List SpV} {us : List Und} {x : SpV} {e : Ending} (h : Bs w wr p lv l uv us) (hs : Said wr w1 p lv uv l us x e) :
    e = .returned (.tuple #[]) ∧ ∃ lv' uv' u F T, Bs w w1 p lv' (sayL l ⟨F, T, x.f, x.t, x.o⟩) uv' (u :: us) ∧ Fr (fun k => w.heap.size ≤ k) wr w1 := by
  obtain ⟨h0, lv', uv', u, F, T, h1, h2, h3, -⟩ := hs
  have hn : ∀ k, (k = p ∨ lv.ownBlock = some k ∨ uv.ownBlock = some k) → w.heap.size ≤ k := fun k hk => h.new k (by
    rcases hk with hk | hk | hk
    · exact .inl hk
    · exact .inr (.inl hk)
    · exact .inr (.inr (.inl hk)))
  have hl := h.len
  have := say_len l ⟨F, T, x.f, x.t, x.o⟩
  refine ⟨h0, lv', uv', u, F, T, ⟨h.fr.trans h2 (fun k hk e => by have := hn k e; omega), h1, fun k hk => ?_, by simp only [List.length_cons]; omega⟩, h2.mono fun k _ hk => hn k hk⟩
  rcases h3 k hk with e | e
  · exact h.new k e
  · have := h.fr.size; omega

/-- What is said of each key. -/
def viewK (l : List SpV) (k : List UInt8) : Option (List UInt8 × Bool) := (getK l k).map fun y => (y.t, y.o)
theorem view_say {l : List SpV} (x : SpV) (h : Ris l) (k : List UInt8) : viewK (sayL l x) k = if x.f = k then some (x.t, x.o) else viewK l k := by
  unfold viewK
  rw [get_say x h k]
  split <;> rfl

/-- What the calls say. -/
def doV (V : List UInt8 → Option (List UInt8 × Bool)) (o : OpB) : List UInt8 → Option (List UInt8 × Bool) :=
  if o.k % 8 < 2 then fun k => if o.kb = k then some (o.vb, false) else V k else if o.k % 8 = 2 then fun k => if o.kb = k then some ([], true) else V k else V
def allV (l : List OpB) : List UInt8 → Option (List UInt8 × Bool) := l.foldl doV fun _ => none
theorem allV_succ (l : List OpB) (j : Nat) (h : j < l.length) : allV (l.take (j + 1)) = doV (allV (l.take j)) l[j] := by
  unfold allV
  rw [List.take_succ_eq_append_getElem h, List.foldl_append]; rfl

theorem le_sum16 {l : List OpB} {o : OpB} (h : o ∈ l) : o.kb.length / 8 + o.vb.length / 8 ≤ (l.map fun o => o.kb.length / 8 + o.vb.length / 8).sum := by
  induction l with
  | nil => cases h
  | cons a l ih =>
    rcases List.mem_cons.1 h with rfl | h
    · simp
    · have := ih h; simp; omega
theorem over16_short {l : List OpB} (h : over16 l = false) : l.length ≤ 300 ∧ ∀ o ∈ l, o.kb.length ≤ 30000 ∧ o.vb.length ≤ 30000 := by
  unfold over16 sum16 at h
  simp only [Bool.or_eq_false_iff, decide_eq_false_iff_not] at h
  refine ⟨by omega, fun o ho => ?_⟩
  have := le_sum16 ho
  omega

set_option maxRecDepth 100000 in
set_option maxHeartbeats 8000000 in
theorem filled16_any (w : World) (X : Value) (l : List OpB) (hx : OpsB w X l) (hn : l.length ≤ 300) (hs : ∀ o ∈ l, o.kb.length ≤ 30000 ∧ o.vb.length ≤ 30000) :
    Calls Try.prog 13 #[X] w fun e w' => ∃ p lv sl uv us, e = .returned (.pointer (some ⟨p, 0, none⟩)) ∧ Bs w w' p lv sl uv us ∧ (∀ k, viewK sl k = allV l k) ∧ us.length ≤ 300 := by
  obtain ⟨A, c, rfl, hc1, hc2⟩ := hx.sl.form
  have HX := Lib.hid hx; have HS := Lib.hid hs; clear hx hs hc2
  go_enter Try.func13, Try.ntmps13
  go_wp2_with fail
  refine (bnew_any _).mono ?_
  rintro e w1 ⟨p, rfl, hp, hb, hf⟩
  have hb0 : Bs w w1 p (.slice none 0 0) [] (.slice none 0 0) [] := ⟨hf, hb, (fun k hk => by
    rcases hk with rfl | hk | hk | ⟨x, hx, _⟩ | ⟨x, hx, _⟩
    · exact hp
    · simp [Value.ownBlock] at hk
    · simp [Value.ownBlock] at hk
    · cases hx
    · cases hx), Nat.le_refl _⟩
  have HB0 := Lib.hid hb0; clear hp hb hf hb0
  go_wp2_with fail
  go_loopw [4] (fun i wr => ∃ j lv sl uv us, j ≤ l.length ∧ i = .int .i64 (j : Nat) ∧ Bs w wr p lv sl uv us ∧ (∀ k, viewK sl k = allV (l.take j) k) ∧ us.length ≤ j) (fun i _ => l.length - (intOf i).toNat)
  case atStart => exact ⟨0, _, [], _, [], Nat.zero_le _, rfl, HB0.out, fun k => rfl, Nat.le_refl _⟩
  case round =>
    obtain ⟨j, lv, sl, uv, us, hj, rfl, hb, hv, hu⟩ := hrel
    have HB := Lib.hid hb; have HV := Lib.hid hv; clear hb hv
    by_cases hlt : j < l.length
    · obtain ⟨b, o, KA, kc, VA, vc, rfl, _, q0, q1, q2, q3, q4, hK, hVs⟩ := HX.out.at j hlt
      have hf := HB.out.fr
      have q00 := q0
      have q0 := hf.cell q0 (fun h => h); have q1 := hf.cell q1 (fun h => h); have q2 := hf.cell q2 (fun h => h)
      have hq := World.block_lt_of_cell? _ _ q0
      have hqw := World.block_lt_of_cell? _ _ q00
      obtain ⟨s1, s2⟩ := HS.out l[j] (List.getElem_mem _)
      have hk256 := (HX.out.good l[j] (List.getElem_mem _)).k
      have HK := Lib.hid (hK.kept0 hf); have HVS := Lib.hid (hVs.kept0 hf); have HSH := Lib.hid (And.intro s1 s2); clear hK hVs hf s1 s2 q3 q4 q00
      by_cases h2 : l[j].k % 8 < 2
      · have t1 : decide (((l[j].k : Int) % 8) < 2) = true := decide_eq_true (by omega)
        have t2 : (((l[j].k : Int) % 8) == 2) = false := by simp; omega
        have hvv : allV (l.take (j + 1)) = fun k => if l[j].kb = k then some (l[j].vb, false) else allV (l.take j) k := by rw [allV_succ l j hlt]; unfold doV; simp [h2]
        have HVV := Lib.hid hvv; clear hvv
        go_wp2_with fail
        refine wp_region_ord (List.range 12) (fun i => [Kd.p, Kd.p, Kd.p, Kd.p, Kd.p, Kd.l, Kd.p, Kd.p, Kd.p, Kd.p, Kd.l, Kd.e].getD i .e) (by kernel_rfl) (by kernel_rfl) ?_
        iterate 11
          first | refine wpX_pu rfl rfl rfl (by first | exact pu_move rfl | exact pu_assign rfl | exact pu_nilCheck rfl rfl | exact pu_binInt rfl rfl rfl | exact pu_conv rfl rfl (by kernel_rfl) | exact pu_fld rfl (by kernel_rfl) | exact pu_ix rfl rfl rfl (by kernel_rfl) | exact pu_unOp rfl | exact pu_binStr rfl rfl rfl | exact pu_len rfl rfl | exact pu_lens rfl rfl | exact pu_pick rfl | exact pu_slice rfl rfl) (fun K hK => ?_) | refine wpX_rd rfl rfl rfl (rd_load rfl) (fun K hK => ?_) | refine wpX_gr rfl rfl rfl (by first | exact gr_buildSlice rfl | exact gr_box rfl | exact gr_alloc rfl) (fun K hK => ?_) | refine wpX_ex rfl rfl rfl (fun K hK => ?_)
          try go_wp2
        refine wpX_ex rfl rfl rfl (fun K hK => ?_)
        go_wp2_with fail
        refine (bput_any _ p lv uv _ _ sl us l[j].kb l[j].vb (HB.out.bf.kept0 (Fr.drew (Fr.refl no wr))) (HK.out.kept0 (Fr.drew (Fr.refl no wr))) (HVS.out.kept0 (Fr.drew (Fr.refl no wr))) (by have := HSH.out; omega) (by have := HSH.out; omega) (by have := HB.out.len; omega) (by omega)).mono ?_
        rintro e w2 hsd
        obtain ⟨rfl, lv', uv', u, F, T, hb2, f2⟩ := (HB.out.kept0 (Fr.drew (Fr.refl no wr))).said hsd
        have q0 := f2.cell (a := ⟨b, o + j * 5, none⟩) q0 (fun h => by have h' : w.heap.size ≤ b := h; omega)
        have hq2 := World.block_lt_of_cell? _ _ q0
        have HB2 := Lib.hid hb2; clear hb2 f2 hsd
        go_wp2
        refine wpX_done ?_
        go_wp2
        go_roundw
        case rel => exact ⟨j + 1, lv', _, uv', _, by omega, by first | rfl | go_num, HB2.out, fun k => by rw [view_say _ HB.out.bf.ris, HVV.out, HV.out], by simp only [List.length_cons]; omega⟩
        case measure => simp [intOf]; omega
      · by_cases h3 : l[j].k % 8 = 2
        · have t1 : decide (((l[j].k : Int) % 8) < 2) = false := decide_eq_false (by omega)
          have t2 : (((l[j].k : Int) % 8) == 2) = true := by simp; omega
          have hvv : allV (l.take (j + 1)) = fun k => if l[j].kb = k then some ([], true) else allV (l.take j) k := by rw [allV_succ l j hlt]; unfold doV; simp [h3]
          have HVV := Lib.hid hvv; clear hvv h3
          go_wp2_with fail
          refine (bdel_any _ p lv uv _ sl us l[j].kb HB.out.bf HK.out (by have := HSH.out; omega) (by have := HB.out.len; omega) (by omega)).mono ?_
          rintro e w2 hsd
          obtain ⟨rfl, lv', uv', u, F, T, hb2, f2⟩ := HB.out.said hsd
          have HB2 := Lib.hid hb2; clear hb2 f2 hsd
          go_wp2
          go_roundw
          case rel => exact ⟨j + 1, lv', _, uv', _, by omega, by first | rfl | go_num, HB2.out, fun k => by rw [view_say _ HB.out.bf.ris, HVV.out, HV.out], by simp only [List.length_cons]; omega⟩
          case measure => simp [intOf]; omega
        · have t1 : decide (((l[j].k : Int) % 8) < 2) = false := decide_eq_false (by omega)
          have t2 : (((l[j].k : Int) % 8) == 2) = false := by simp; omega
          have hvv : allV (l.take (j + 1)) = allV (l.take j) := by rw [allV_succ l j hlt]; unfold doV; simp [h2, h3]
          have HVV := Lib.hid hvv; clear hvv h3
          go_wp2
          go_roundw
          case rel => exact ⟨j + 1, lv, sl, uv, us, by omega, by first | rfl | go_num, HB.out, fun k => by rw [HVV.out, HV.out], by omega⟩
          case measure => simp [intOf]; omega
    · obtain rfl : j = l.length := by omega
      go_wp2
      go_ret
      exact ⟨p, lv, sl, uv, us, rfl, HB.out, fun k => by rw [HV.out, List.take_of_length_le (Nat.le_refl _)], by omega⟩
end Go.Proofs.Ytdnohhlgaaihmaa
