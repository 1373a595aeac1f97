/- law16: much, filled. -/
import Derived.Test.YtdnohhlgaaihmaaOps16
namespace Go.Proofs.Ytdnohhlgaaihmaa
open Go.RowKit

/-- A buffer that was made since w. -/
structure Bs (w wr : World) (p : Nat) (lv : Value) (l : List SpV) (uv : Value) (us : List Und) : Prop where
  fr : Fr no w wr
  bf : Bf wr p lv l uv us
  new : ∀ k, BfF p lv l uv us k → w.heap.size ≤ k
  len : l.length ≤ us.length
theorem Bs.kept0 {w wr w1 : World} {p : Nat} {lv uv : Value} {l : List SpV} {us : List Und} (h : Bs w wr p lv l uv us) (f : Fr no wr w1) : Bs w w1 p lv l uv us := ⟨h.fr.trans f (fun _ _ h => h), h.bf.kept0 f, h.new, h.len⟩

theorem say_len (l : List SpV) (x : SpV) : (sayL l x).length ≤ l.length + 1 := by
  unfold sayL
  have := posK_le l x.f
  split <;> simp; omega

theorem Bs.said {w wr w1 : World} {p : Nat} {lv uv : Value} {l : List SpV} {us : List Und} {x : SpV} {e : Ending} (h : Bs w wr p lv l uv us) (hs : Said wr w1 p lv uv l us x e) :
    e = .returned (.tuple #[]) ∧ ∃ lv' uv' u F T, Bs w w1 p lv' (sayL l ⟨F, T, x.f, x.t, x.o⟩) uv' (u :: us) ∧ Fr (fun k => w.heap.size ≤ k) wr w1 := by
  obtain ⟨h0, lv', uv', u, F, T, h1, h2, h3, -⟩ := hs
  have hn : ∀ k, (k = p ∨ lv.ownBlock = some k ∨ uv.ownBlock = some k) → w.heap.size ≤ k := fun k hk => h.new k (by
    rcases hk with hk | hk | hk
    · exact .inl hk
    · exact .inr (.inl hk)
    · exact .inr (.inr (.inl hk)))
  have hl := h.len
  have := say_len l ⟨F, T, x.f, x.t, x.o⟩
  refine ⟨h0, lv', uv', u, F, T, ⟨h.fr.trans h2 (fun k hk e => by have := hn k e; omega), h1, fun k hk => ?_, by simp only [List.length_cons]; omega⟩, h2.mono fun k _ hk => hn k hk⟩
  rcases h3 k hk with e | e
  · exact h.new k e
  · have := h.fr.size; omega

/-- What is said of each key. -/
def viewK (l : List SpV) (k : List UInt8) : Option (List UInt8 × Bool) := (getK l k).map fun y => (y.t, y.o)
theorem view_say {l : List SpV} (x : SpV) (h : Ris l) (k : List UInt8) : viewK (sayL l x) k = if x.f = k then some (x.t, x.o) else viewK l k := by
  unfold viewK
  rw [get_say x h k]
  split <;> rfl

/-- What the calls say. -/
def doV (V : List UInt8 → Option (List UInt8 × Bool)) (o : OpB) : List UInt8 → Option (List UInt8 × Bool) :=
  if o.k % 8 < 2 then fun k => if o.kb = k then some (o.vb, false) else V k else if o.k % 8 = 2 then fun k => if o.kb = k then some ([], true) else V k else V
def allV (l : List OpB) : List UInt8 → Option (List UInt8 × Bool) := l.foldl doV fun _ => none
theorem allV_succ (l : List OpB) (j : Nat) (h : j < l.length) : allV (l.take (j + 1)) = doV (allV (l.take j)) l[j] := by
  unfold allV
  rw [List.take_succ_eq_append_getElem h, List.foldl_append]; rfl

theorem le_sum16 {l : List OpB} {o : OpB} (h : o ∈ l) : o.kb.length / 8 + o.vb.length / 8 ≤ (l.map fun o => o.kb.length / 8 + o.vb.length / 8).sum := by
  induction l with
  | nil => cases h
  | cons a l ih =>
    rcases List.mem_cons.1 h with rfl | h
    · simp
    · have := ih h; simp; omega
theorem over16_short {l : List OpB} (h : over16 l = false) : l.length ≤ 300 ∧ ∀ o ∈ l, o.kb.length ≤ 30000 ∧ o.vb.length ≤ 30000 := by
  unfold over16 sum16 at h
  simp only [Bool.or_eq_false_iff, decide_eq_false_iff_not] at h
  refine ⟨by omega, fun o ho => ?_⟩
  have := le_sum16 ho
  omega

set_option maxRecDepth 100000 in
set_option maxHeartbeats 8000000 in
theorem filled16_any (w : World) (X : Value) (l : List OpB) (hx : OpsB w X l) (hn : l.length ≤ 300) (hs : ∀ o ∈ l, o.kb.length ≤ 30000 ∧ o.vb.length ≤ 30000) :
    Calls Try.prog 13 #[X] w fun e w' => ∃ p lv sl uv us, e = .returned (.pointer (some ⟨p, 0, none⟩)) ∧ Bs w w' p lv sl uv us ∧ (∀ k, viewK sl k = allV l k) ∧ us.length ≤ 300 := by
  obtain ⟨A, c, rfl, hc1, hc2⟩ := hx.sl.form
  have HX := Lib.hid hx; have HS := Lib.hid hs; clear hx hs hc2
  go_enter Try.func13, Try.ntmps13
  go_wp2_with fail
  refine (bnew_any _).mono ?_
  rintro e w1 ⟨p, rfl, hp, hb, hf⟩
  have hb0 : Bs w w1 p (.slice none 0 0) [] (.slice none 0 0) [] := ⟨hf, hb, (fun k hk => by
    rcases hk with rfl | hk | hk | ⟨x, hx, _⟩ | ⟨x, hx, _⟩
    · exact hp
    · simp [Value.ownBlock] at hk
    · simp [Value.ownBlock] at hk
    · cases hx
    · cases hx), Nat.le_refl _⟩
  have HB0 := Lib.hid hb0; clear hp hb hf hb0
  go_wp2_with fail
  go_loopw [4] (fun i wr => ∃ j lv sl uv us, j ≤ l.length ∧ i = .int .i64 (j : Nat) ∧ Bs w wr p lv sl uv us ∧ (∀ k, viewK sl k = allV (l.take j) k) ∧ us.length ≤ j) (fun i _ => l.length - (intOf i).toNat)
  case atStart => exact ⟨0, _, [], _, [], Nat.zero_le _, rfl, HB0.out, fun k => rfl, Nat.le_refl _⟩
  case round =>
    obtain ⟨j, lv, sl, uv, us, hj, rfl, hb, hv, hu⟩ := hrel
    have HB := Lib.hid hb; have HV := Lib.hid hv; clear hb hv
    by_cases hlt : j < l.length
    · obtain ⟨b, o, KA, kc, VA, vc, rfl, _, q0, q1, q2, q3, q4, hK, hVs⟩ := HX.out.at j hlt
      have hf := HB.out.fr
      have q00 := q0
      have q0 := hf.cell q0 (fun h => h); have q1 := hf.cell q1 (fun h => h); have q2 := hf.cell q2 (fun h => h)
      have hq := World.block_lt_of_cell? _ _ q0
      have hqw := World.block_lt_of_cell? _ _ q00
      obtain ⟨s1, s2⟩ := HS.out l[j] (List.getElem_mem _)
      have hk256 := (HX.out.good l[j] (List.getElem_mem _)).k
      have HK := Lib.hid (hK.kept0 hf); have HVS := Lib.hid (hVs.kept0 hf); have HSH := Lib.hid (And.intro s1 s2); clear hK hVs hf s1 s2 q3 q4 q00
      by_cases h2 : l[j].k % 8 < 2
      · have t1 : decide (((l[j].k : Int) % 8) < 2) = true := decide_eq_true (by omega)
        have t2 : (((l[j].k : Int) % 8) == 2) = false := by simp; omega
        have hvv : allV (l.take (j + 1)) = fun k => if l[j].kb = k then some (l[j].vb, false) else allV (l.take j) k := by rw [allV_succ l j hlt]; unfold doV; simp [h2]
        have HVV := Lib.hid hvv; clear hvv
        go_wp2_with fail
        refine wp_region_ord (List.range 12) (fun i => [Kd.p, Kd.p, Kd.p, Kd.p, Kd.p, Kd.l, Kd.p, Kd.p, Kd.p, Kd.p, Kd.l, Kd.e].getD i .e) (by kernel_rfl) (by kernel_rfl) ?_
        iterate 11
          first | refine wpX_pu rfl rfl rfl (by first | exact pu_move rfl | exact pu_assign rfl | exact pu_nilCheck rfl rfl | exact pu_binInt rfl rfl rfl | exact pu_conv rfl rfl (by kernel_rfl) | exact pu_fld rfl (by kernel_rfl) | exact pu_ix rfl rfl rfl (by kernel_rfl) | exact pu_unOp rfl | exact pu_binStr rfl rfl rfl | exact pu_len rfl rfl | exact pu_lens rfl rfl | exact pu_pick rfl | exact pu_slice rfl rfl) (fun K hK => ?_) | refine wpX_rd rfl rfl rfl (rd_load rfl) (fun K hK => ?_) | refine wpX_gr rfl rfl rfl (by first | exact gr_buildSlice rfl | exact gr_box rfl | exact gr_alloc rfl) (fun K hK => ?_) | refine wpX_ex rfl rfl rfl (fun K hK => ?_)
          try go_wp2
        refine wpX_ex rfl rfl rfl (fun K hK => ?_)
        go_wp2_with fail
        refine (bput_any _ p lv uv _ _ sl us l[j].kb l[j].vb (HB.out.bf.kept0 (Fr.drew (Fr.refl no wr))) (HK.out.kept0 (Fr.drew (Fr.refl no wr))) (HVS.out.kept0 (Fr.drew (Fr.refl no wr))) (by have := HSH.out; omega) (by have := HSH.out; omega) (by have := HB.out.len; omega) (by omega)).mono ?_
        rintro e w2 hsd
        obtain ⟨rfl, lv', uv', u, F, T, hb2, f2⟩ := (HB.out.kept0 (Fr.drew (Fr.refl no wr))).said hsd
        have q0 := f2.cell (a := ⟨b, o + j * 5, none⟩) q0 (fun h => by have h' : w.heap.size ≤ b := h; omega)
        have hq2 := World.block_lt_of_cell? _ _ q0
        have HB2 := Lib.hid hb2; clear hb2 f2 hsd
        go_wp2
        refine wpX_done ?_
        go_wp2
        go_roundw
        case rel => exact ⟨j + 1, lv', _, uv', _, by omega, by first | rfl | go_num, HB2.out, fun k => by rw [view_say _ HB.out.bf.ris, HVV.out, HV.out], by simp only [List.length_cons]; omega⟩
        case measure => simp [intOf]; omega
      · by_cases h3 : l[j].k % 8 = 2
        · have t1 : decide (((l[j].k : Int) % 8) < 2) = false := decide_eq_false (by omega)
          have t2 : (((l[j].k : Int) % 8) == 2) = true := by simp; omega
          have hvv : allV (l.take (j + 1)) = fun k => if l[j].kb = k then some ([], true) else allV (l.take j) k := by rw [allV_succ l j hlt]; unfold doV; simp [h3]
          have HVV := Lib.hid hvv; clear hvv h3
          go_wp2_with fail
          refine (bdel_any _ p lv uv _ sl us l[j].kb HB.out.bf HK.out (by have := HSH.out; omega) (by have := HB.out.len; omega) (by omega)).mono ?_
          rintro e w2 hsd
          obtain ⟨rfl, lv', uv', u, F, T, hb2, f2⟩ := HB.out.said hsd
          have HB2 := Lib.hid hb2; clear hb2 f2 hsd
          go_wp2
          go_roundw
          case rel => exact ⟨j + 1, lv', _, uv', _, by omega, by first | rfl | go_num, HB2.out, fun k => by rw [view_say _ HB.out.bf.ris, HVV.out, HV.out], by simp only [List.length_cons]; omega⟩
          case measure => simp [intOf]; omega
        · have t1 : decide (((l[j].k : Int) % 8) < 2) = false := decide_eq_false (by omega)
          have t2 : (((l[j].k : Int) % 8) == 2) = false := by simp; omega
          have hvv : allV (l.take (j + 1)) = allV (l.take j) := by rw [allV_succ l j hlt]; unfold doV; simp [h2, h3]
          have HVV := Lib.hid hvv; clear hvv h3
          go_wp2
          go_roundw
          case rel => exact ⟨j + 1, lv, sl, uv, us, by omega, by first | rfl | go_num, HB.out, fun k => by rw [HVV.out, HV.out], by omega⟩
          case measure => simp [intOf]; omega
    · obtain rfl : j = l.length := by omega
      go_wp2
      go_ret
      exact ⟨p, lv, sl, uv, us, rfl, HB.out, fun k => by rw [HV.out, List.take_of_length_le (Nat.le_refl _)], by omega⟩
end Go.Proofs.Ytdnohhlgaaihmaa
