/- law16: BufferBacks, from what came in. -/
import Derived.Test.YtdnohhlgaaihmaaBack16
import Derived.Test.YtdnohhlgaaihmaaErrs
namespace Go.Proofs.Ytdnohhlgaaihmaa
open Go.RowKit

/-- One change more in the buffer, behind its mark. -/
theorem back_more {w4 w5 wr w1 : World} {p b0 : Nat} {lv uv : Value} {sl sl0 : List SpV} {new us : List Und} {x : SpV} {e : Ending} (_ : Bf wr p lv sl uv (new ++ us)) (hk : backs new sl = sl0) (hn : ∀ k, BfF p lv sl uv (new ++ us) k → b0 ≤ k ∧ (k < w4.heap.size ∨ w5.heap.size ≤ k)) (h5 : b0 ≤ w5.heap.size)
    (hl : sl.length ≤ (new ++ us).length) (hf : Fr (fun k => b0 ≤ k ∧ k < w4.heap.size) w5 wr) (hs : Said wr w1 p lv uv sl (new ++ us) x e) :
    e = .returned (.tuple #[]) ∧ ∃ lv' uv' u F T, Bf w1 p lv' (sayL sl ⟨F, T, x.f, x.t, x.o⟩) uv' ((u :: new) ++ us) ∧ backs (u :: new) (sayL sl ⟨F, T, x.f, x.t, x.o⟩) = sl0 ∧ (∀ k, BfF p lv' (sayL sl ⟨F, T, x.f, x.t, x.o⟩) uv' ((u :: new) ++ us) k → b0 ≤ k ∧ (k < w4.heap.size ∨ w5.heap.size ≤ k)) ∧
      (sayL sl ⟨F, T, x.f, x.t, x.o⟩).length ≤ ((u :: new) ++ us).length ∧ Fr (fun k => b0 ≤ k ∧ k < w4.heap.size) w5 w1 := by
  obtain ⟨h0, lv', uv', u, F, T, h1, h2, h3, h4⟩ := hs
  refine ⟨h0, lv', uv', u, F, T, h1, ?_, fun k hk => ?_, ?_, hf.trans h2 (fun k hk e => ?_)⟩
  · show backs new (u.back _) = sl0
    rw [h4]; exact hk
  · rcases h3 k hk with h | ⟨h, _⟩
    · exact hn k h
    · have := hf.size; exact ⟨by omega, .inr (by omega)⟩
  · have := say_len sl ⟨F, T, x.f, x.t, x.o⟩
    simp only [List.cons_append, List.length_cons]; omega
  · have := hn k (by rcases e with e | e | e; exact .inl e; exact .inr (.inl e); exact .inr (.inr (.inl e)))
    show b0 ≤ k ∧ k < w4.heap.size
    omega

set_option maxRecDepth 100000 in
set_option maxHeartbeats 16000000 in
theorem backs_walk (w : World) (X Y : Value) (l m : List OpB) (hx : OpsB w X l) (ho : over16 l = false) (hy : OpsB w Y m) (hoy : over16 m = false) :
    Calls Try.prog 6 #[X, Y] w fun e w' => e = .returned (.bool true) ∧ Fr no w w' := by
  obtain ⟨n1, n2⟩ := over16_short ho
  obtain ⟨m1, m2⟩ := over16_short hoy
  obtain ⟨A, c, rfl, hc1, _⟩ := hx.sl.form
  obtain ⟨B, d, rfl, hd1, _⟩ := hy.sl.form
  have HX := Lib.hid hx; have HO := Lib.hid ho; have HS := Lib.hid n2; have HY := Lib.hid hy; have HOY := Lib.hid hoy; have MS := Lib.hid m2; clear hx ho n2 hy hoy m2
  go_enter Try.func6, Try.ntmps6
  go_wp2_with fail
  refine (much16_any w _ l HX.out).mono ?_
  rintro e w1 ⟨rfl, f1⟩
  rw [HO.out]
  have F1 := Lib.hid f1; clear f1
  go_wp2_with fail
  refine (much16_any w1 _ m (HY.out.kept0 F1.out)).mono ?_
  rintro e w1' ⟨rfl, f1⟩
  rw [HOY.out]
  have F1 := Lib.hid (F1.out.trans f1 (fun _ _ h => h)); clear f1
  go_wp2_with fail
  refine (filled16_any w1' _ l (HX.out.kept0 F1.out) n1 HS.out).mono ?_
  rintro e w2 ⟨p, lv, sl, uv, us, rfl, hb, -, hus⟩
  have HB := Lib.hid hb; clear hb
  have hsl := HB.out.len
  go_wp2_with fail
  refine (known16_any w2).mono ?_
  rintro e w3 ⟨rfl, f3⟩
  have F3 := Lib.hid ((F1.out.trans HB.out.fr (fun _ _ h => h)).trans f3 (fun _ _ h => h)); have HB3 := Lib.hid (HB.out.bf.kept0 f3)
  have hnw : ∀ k, BfF p lv sl uv us k → w.heap.size ≤ k := fun k hk => by have := HB.out.new k hk; have := F1.out.size; omega
  have HNW := Lib.hid hnw; clear f3 hnw
  go_wp2_with fail
  refine (bmark_any w3 p lv uv sl us HB3.out).mono ?_
  rintro e w3' ⟨rfl, rfl⟩
  go_wp2_with fail
  refine (changes_any w3' p lv uv sl us HB3.out (by omega)).mono ?_
  rintro e w4 ⟨A4, os, rfl, ht, hpr, f4⟩
  have hol : os.length = sl.length := by have := congrArg List.length hpr; simpa using this
  have hos : os.length ≤ 300 := by omega
  have e83 : ((sl.length : Int) == (os.length : Int)) = true := by rw [hol]; simp
  have HT := Lib.hid ht; have HPR := Lib.hid hpr; have HOL := Lib.hid hol; have F4 := Lib.hid f4; have HB4 := Lib.hid (HB3.out.kept0 f4)
  clear ht hpr f4 hol
  go_wp2
  go_loopw [8] (fun i wr => ∃ (j : Nat) (lv1 uv1 : Value) (sl1 : List SpV) (new : List Und), j ≤ m.length ∧ i = .int .i64 j ∧ Bf wr p lv1 sl1 uv1 (new ++ us) ∧ backs new sl1 = sl ∧ (∀ k, BfF p lv1 sl1 uv1 (new ++ us) k → w.heap.size ≤ k ∧ (k < w3'.heap.size ∨ w4.heap.size ≤ k)) ∧ sl1.length ≤ (new ++ us).length ∧ new.length ≤ j ∧ Fr (fun k => w.heap.size ≤ k ∧ k < w3'.heap.size) w4 wr) (fun i _ => m.length - (intOf i).toNat)
  case atStart =>
    exact ⟨0, lv, uv, sl, [], Nat.zero_le _, rfl, HB4.out, rfl, fun k hk => ⟨HNW.out k hk, .inl (HB3.out.lt k hk)⟩, HB.out.len, Nat.le_refl _, Fr.refl _ _⟩
  case round =>
    obtain ⟨j, lv1, uv1, sl1, new, hj, rfl, r1, r2, r3, r4, r5, r6⟩ := hrel
    have R1 := Lib.hid r1; have R2 := Lib.hid r2; have R3 := Lib.hid r3; have R4 := Lib.hid r4; have R6 := Lib.hid r6
    have hsz4 : w.heap.size ≤ w4.heap.size := by have := F3.out.size; have := F4.out.size; omega
    have W4 := Lib.hid hsz4
    have hnl : (new ++ us).length ≤ 600 := by rw [List.length_append]; omega
    have hsl1 : sl1.length ≤ 600 := by omega
    clear r1 r2 r3 r4 r6 hsz4
    by_cases hlt : j < m.length
    · obtain ⟨b, o, KA, kc, VA, vc, rfl, _, q0, q1, q2, q3, q4, hK, hVs⟩ := HY.out.at j hlt
      have hqw := World.block_lt_of_cell? _ _ q0
      have f4 := F3.out.trans F4.out (fun _ _ h => h)
      have hf : Fr no w wr := f4.trans R6.out (fun k hk e => by have e2 : w.heap.size ≤ k := e.1; omega)
      have Q4 := Lib.hid (f4.cell q0 (fun h => h)); have QW := Lib.hid hqw
      have q0 := hf.cell q0 (fun h => h); have q1 := hf.cell q1 (fun h => h); have q2 := hf.cell q2 (fun h => h)
      have hq := World.block_lt_of_cell? _ _ q0
      obtain ⟨s1, s2⟩ := MS.out m[j] (List.getElem_mem _)
      have hk256 := (HY.out.good m[j] (List.getElem_mem _)).k
      have HK := Lib.hid (hK.kept0 hf); have HVS := Lib.hid (hVs.kept0 hf); have HSH := Lib.hid (And.intro s1 s2); clear hK hVs hf s1 s2 q3 q4 f4 hqw
      by_cases h2 : m[j].k % 8 < 2
      · have t1 : decide (((m[j].k : Int) % 8) < 2) = true := decide_eq_true (by omega)
        have t2 : (((m[j].k : Int) % 8) == 2) = false := by simp; omega
        go_wp2_with fail
        refine wp_region_ord (List.range 12) (fun i => [Kd.p, Kd.p, Kd.p, Kd.p, Kd.p, Kd.l, Kd.p, Kd.p, Kd.p, Kd.p, Kd.l, Kd.e].getD i .e) (by kernel_rfl) (by kernel_rfl) ?_
        iterate 11
          first | refine wpX_pu rfl rfl rfl (by first | exact pu_move rfl | exact pu_assign rfl | exact pu_nilCheck rfl rfl | exact pu_binInt rfl rfl rfl | exact pu_conv rfl rfl (by kernel_rfl) | exact pu_fld rfl (by kernel_rfl) | exact pu_ix rfl rfl rfl (by kernel_rfl) | exact pu_unOp rfl | exact pu_binStr rfl rfl rfl | exact pu_len rfl rfl | exact pu_lens rfl rfl | exact pu_pick rfl | exact pu_slice rfl rfl) (fun K hK => ?_) | refine wpX_rd rfl rfl rfl (rd_load rfl) (fun K hK => ?_) | refine wpX_gr rfl rfl rfl (by first | exact gr_buildSlice rfl | exact gr_box rfl | exact gr_alloc rfl) (fun K hK => ?_) | refine wpX_ex rfl rfl rfl (fun K hK => ?_)
          try go_wp2
        refine wpX_ex rfl rfl rfl (fun K hK => ?_)
        go_wp2_with fail
        refine (bput_any _ p lv1 uv1 _ _ sl1 (new ++ us) m[j].kb m[j].vb (R1.out.kept0 (Fr.drew (Fr.refl no wr))) (HK.out.kept0 (Fr.drew (Fr.refl no wr))) (HVS.out.kept0 (Fr.drew (Fr.refl no wr))) (by have := HSH.out; omega) (by have := HSH.out; omega) (by omega) (by omega)).mono ?_
        rintro e w7 hsd
        obtain ⟨rfl, lv2, uv2, u, F, T, h1, h2, h3, h4, h5⟩ := back_more (R1.out.kept0 (Fr.drew (Fr.refl no wr))) R2.out R3.out W4.out R4.out (Fr.drew R6.out) hsd
        have H1 := Lib.hid h1; have H2 := Lib.hid h2; have H3 := Lib.hid h3; have H4 := Lib.hid h4; have H5 := Lib.hid h5
        have q0 := h5.cell Q4.out (fun e => by have e2 : w.heap.size ≤ b := e.1; have := QW.out; omega)
        have hq2 := World.block_lt_of_cell? _ _ q0
        clear h1 h2 h3 h4 h5 hsd
        go_wp2
        refine wpX_done ?_
        go_wp2
        go_roundw
        case rel => exact ⟨j + 1, lv2, uv2, _, u :: new, hlt, by first | rfl | go_num, H1.out, H2.out, H3.out, H4.out, by simp only [List.length_cons]; omega, H5.out⟩
        case measure => simp [intOf]; omega
      · by_cases h3 : m[j].k % 8 = 2
        · have t1 : decide (((m[j].k : Int) % 8) < 2) = false := decide_eq_false (by omega)
          have t2 : (((m[j].k : Int) % 8) == 2) = true := by simp; omega
          clear h3
          go_wp2_with fail
          refine (bdel_any _ p lv1 uv1 _ sl1 (new ++ us) m[j].kb R1.out HK.out (by have := HSH.out; omega) (by omega) (by omega)).mono ?_
          rintro e w7 hsd
          obtain ⟨rfl, lv2, uv2, u, F, T, h1, h2, h3, h4, h5⟩ := back_more R1.out R2.out R3.out W4.out R4.out R6.out hsd
          have H1 := Lib.hid h1; have H2 := Lib.hid h2; have H3 := Lib.hid h3; have H4 := Lib.hid h4; have H5 := Lib.hid h5
          have q0 := h5.cell Q4.out (fun e => by have e2 : w.heap.size ≤ b := e.1; have := QW.out; omega)
          have hq2 := World.block_lt_of_cell? _ _ q0
          clear h1 h2 h3 h4 h5 hsd
          go_wp2
          go_roundw
          case rel => exact ⟨j + 1, lv2, uv2, _, u :: new, hlt, by first | rfl | go_num, H1.out, H2.out, H3.out, H4.out, by simp only [List.length_cons]; omega, H5.out⟩
          case measure => simp [intOf]; omega
        · have t1 : decide (((m[j].k : Int) % 8) < 2) = false := decide_eq_false (by omega)
          have t2 : (((m[j].k : Int) % 8) == 2) = false := by simp; omega
          clear h3
          go_wp2
          go_roundw
          case rel => exact ⟨j + 1, lv1, uv1, sl1, new, by omega, by first | rfl | go_num, R1.out, R2.out, R3.out, R4.out, by omega, R6.out⟩
          case measure => simp [intOf]; omega
    · obtain rfl : j = m.length := by omega
      go_wp2_with fail
      refine (back_any wr p lv1 uv1 sl1 (new ++ us) us.length R1.out (by simp) (by omega) (by omega)).mono ?_
      rintro e w7 ⟨rfl, lv2, uv2, hb, hsub, hf⟩
      have el : (new ++ us).length - us.length = new.length := by simp
      rw [el, List.take_left' rfl, List.drop_left' rfl, R2.out] at hb hsub
      have hfw : Fr (fun k => w.heap.size ≤ k ∧ k < w3'.heap.size) w4 w7 := R6.out.trans hf (fun k hk e => by
        have := R3.out k (by rcases e with e | e; exact .inl e; exact .inr (.inl e))
        show w.heap.size ≤ k ∧ k < w3'.heap.size
        omega)
      have HB7 := Lib.hid hb; have F7 := Lib.hid hfw; clear hb hsub hf hfw el
      go_wp2_with fail
      refine (bmark_any w7 p _ _ _ _ HB7.out).mono ?_
      rintro e w7a ⟨rfl, rfl⟩
      go_wp2_with fail
      refine (blen_any _ p _ _ _ _ HB7.out).mono ?_
      rintro e w7b ⟨rfl, rfl⟩
      go_wp2_with fail
      refine (changes_any _ p _ _ _ _ HB7.out (by omega)).mono ?_
      rintro e w8 ⟨A8, os2, rfl, ht, hpr, f8⟩
      have hb8 := HB7.out.kept0 f8
      have hpe : os2.map SpV.pr = os.map SpV.pr := hpr.trans HPR.out.symm
      have hlo : os2.length ≤ 100000 := by have := congrArg List.length hpr; simp at this; omega
      have HT8 := Lib.hid ht; have HPR8 := Lib.hid hpr; have HB8 := Lib.hid hb8; have HPE := Lib.hid hpe; have HG8 := Lib.hid (ht.goods hpr HB7.out.good)
      have F8 := Lib.hid (F7.out.trans f8 (fun _ _ h => h.elim))
      clear ht hpr hb8 f8 hpe
      have HTk := Lib.hid (HT.out.kept F8.out (fun k hk => hk.2))
      have HGk := Lib.hid (HTk.out.goods HPR.out HB3.out.good)
      go_wp2_with fail
      refine (samech_any _ _ _ os2 os HT8.out.row.sl HTk.out.row.sl HG8.out HGk.out hlo).mono ?_
      rintro e w9 ⟨rfl, f9⟩
      rw [decide_eq_true HPE.out]
      have HB9 := Lib.hid (HB8.out.kept0 f9); have F9 := Lib.hid (F8.out.trans f9 (fun _ _ h => h.elim)); clear f9
      go_wp2_with fail
      refine (back_err w9 p _ _ _ us _ HB9.out (.inr (by omega)) (by omega) (by omega)).mono ?_
      rintro e w9a ⟨rfl, rfl⟩
      go_wp2_with fail
      refine (back_err _ p _ _ _ us _ HB9.out (.inl (by omega)) (by omega) (by omega)).mono ?_
      rintro e w9b ⟨rfl, rfl⟩
      go_wp2
      go_ret
      exact ⟨rfl, (F3.out.trans F4.out (fun _ _ h => h)).trans F9.out (fun k hk e => by have e2 : w.heap.size ≤ k := e.1; omega)⟩

set_option maxRecDepth 100000 in
set_option maxHeartbeats 4000000 in
theorem backs_over (w : World) (X Y : Value) (l m : List OpB) (hx : OpsB w X l) (hy : OpsB w Y m) (h : over16 l = true ∨ over16 m = true) :
    Calls Try.prog 6 #[X, Y] w fun e w' => e = .returned (.bool true) ∧ Fr no w w' := by
  obtain ⟨A, c, rfl, hc1, _⟩ := hx.sl.form
  obtain ⟨B, d, rfl, hd1, _⟩ := hy.sl.form
  have HX := Lib.hid hx; have HY := Lib.hid hy; clear hx hy
  rcases ho : over16 l with _ | _
  · have hoy : over16 m = true := by rcases h with h | h; rw [ho] at h; cases h; exact h
    have HO := Lib.hid ho; have HOY := Lib.hid hoy; clear ho hoy h
    go_enter Try.func6, Try.ntmps6
    go_wp2_with fail
    refine (much16_any w _ l HX.out).mono ?_
    rintro e w1 ⟨rfl, f1⟩
    rw [HO.out]
    have F1 := Lib.hid f1; clear f1
    go_wp2_with fail
    refine (much16_any w1 _ m (HY.out.kept0 F1.out)).mono ?_
    rintro e w1' ⟨rfl, f1⟩
    rw [HOY.out]
    have F1 := Lib.hid (F1.out.trans f1 (fun _ _ h => h)); clear f1
    go_wp2
    go_ret
    exact ⟨rfl, F1.out⟩
  · have HO := Lib.hid ho; clear ho h
    go_enter Try.func6, Try.ntmps6
    go_wp2_with fail
    refine (much16_any w _ l HX.out).mono ?_
    rintro e w1 ⟨rfl, f1⟩
    rw [HO.out]
    have F1 := Lib.hid f1; clear f1
    go_wp2
    go_ret
    exact ⟨rfl, F1.out⟩
end Go.Proofs.Ytdnohhlgaaihmaa
