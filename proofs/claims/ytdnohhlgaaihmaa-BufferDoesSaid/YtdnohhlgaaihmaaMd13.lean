import Derived.Test.YtdnohhlgaaihmaaMd12

/- package buffer: what is seen through a buffer. -/
namespace Go.Proofs.Ytdnohhlgaaihmaa
open Go.RowKit

/-- What through does: how many questions are left, and what it tells (none: an error). -/
def thr (l : List SpV) (c : Option (List UInt8 × List UInt8)) (ah : List UInt8 → List UInt8 → Bool) (ask : List UInt8 → Bool → Option (List UInt8 × List UInt8)) : Nat → List UInt8 → Bool → Nat × Option (Option (List UInt8 × List UInt8))
  | 0, _, _ => (0, none)
  | n + 1, f, i => match ask f i with
    | none => (n, some c)
    | some kv => if (match c with | some ck => !ah kv.1 ck.1 | none => false) then (n, some c) else if saidK l kv.1 then thr l c ah ask n kv.1 false else (n, some (some kv))

/-- What it hands out. -/
def ThrE (w w' : World) (r : Option (Option (List UInt8 × List UInt8))) (e : Ending) : Prop :=
  match r with
  | none => e = .returned (.tuple #[.agg #[.slice none 0 0, .slice none 0 0], .bool false, .int .u16 6])
  | some none => e = .returned (.tuple #[.agg #[.slice none 0 0, .slice none 0 0], .bool false, .int .u16 0])
  | some (some kv) => ∃ A B, e = .returned (.tuple #[.agg #[.slice A kv.1.length kv.1.length, .slice B kv.2.length kv.2.length], .bool true, .int .u16 0]) ∧
      Ow w' 5 1 (.slice A kv.1.length kv.1.length) kv.1.length (bvs kv.1) ∧ Ow w' 5 1 (.slice B kv.2.length kv.2.length) kv.2.length (bvs kv.2) ∧
      (∀ k, ((Value.slice A kv.1.length kv.1.length).ownBlock = some k ∨ (Value.slice B kv.2.length kv.2.length).ownBlock = some k) → w.heap.size ≤ k) ∧ ∀ k, (Value.slice A kv.1.length kv.1.length).ownBlock = some k → (Value.slice B kv.2.length kv.2.length).ownBlock ≠ some k

set_option maxRecDepth 100000 in
set_option maxHeartbeats 400000 in
theorem ahn_any (w : World) (x y : Value) (l k : List UInt8) (hx : Sl w 1 x l.length (bvs l)) (hy : Sl w 1 y k.length (bvs k)) :
    Calls Try.prog 61 #[x, y] w fun e w' => e = .returned (.bool (decide (cb l k < 0))) ∧ w' = w := by
  go_enter Try.func61, Try.ntmps61
  go_wp2_with fail
  refine (cmp_any _ _ _ l k hx hy).mono ?_
  rintro e w1 ⟨rfl, rfl⟩
  go_wp2
  go_ret
  exact ⟨by first | rfl | simp, rfl⟩
set_option maxRecDepth 100000 in
set_option maxHeartbeats 400000 in
theorem ahp_any (w : World) (x y : Value) (l k : List UInt8) (hx : Sl w 1 x l.length (bvs l)) (hy : Sl w 1 y k.length (bvs k)) :
    Calls Try.prog 66 #[x, y] w fun e w' => e = .returned (.bool (decide (0 < cb l k))) ∧ w' = w := by
  go_enter Try.func66, Try.ntmps66
  go_wp2_with fail
  refine (cmp_any _ _ _ l k hx hy).mono ?_
  rintro e w1 ⟨rfl, rfl⟩
  go_wp2
  go_ret
  exact ⟨by first | rfl | simp, rfl⟩

theorem Bel.upd {w w1 : World} {b : Nat} {lv : Value} {l : List PrV} {n m : Nat} (h : Bel w b lv l n) (f : Fr (fun k => k = b) w w1) (ha : w1.heap[b]? = some (.cells #[lv, .int .i64 m] 48 (0, 0))) : Bel w1 b lv l m :=
  ⟨ha, h.pairs.kept f (fun k hk e => h.ne (e ▸ hk)) (fun y hy k hk e => by
    obtain ⟨h1, h2⟩ := h.nk y hy
    rcases hk with hk | hk
    · exact h1 (e ▸ hk)
    · exact h2 (e ▸ hk)), h.ne, h.nk⟩

/-- How many questions it answers. -/
def wrongs (w : World) (b : Nat) : Nat := match w.cell? ⟨b, 1, none⟩ with | some (.int _ z) => z.toNat | _ => 0
theorem wrongs_of {w : World} {b n : Nat} {lv : Value} {l : List PrV} (h : Bel w b lv l n) : wrongs w b = n := by
  unfold wrongs; rw [(two_cells h.at_).2.1]; simp

/-- What lies below answers. -/
def askN (bl : List PrV) (f : List UInt8) (i : Bool) : Option (List UInt8 × List UInt8) := (bl.find? fun y => abv y.k f i).map fun z => (z.k, z.v)
def askP (bl : List PrV) (f : List UInt8) (i : Bool) : Option (List UInt8 × List UInt8) := (bl.reverse.find? fun y => bel y.k f i).map fun z => (z.k, z.v)

set_option maxRecDepth 100000 in
set_option maxHeartbeats 8000000 in
theorem thrn_any (w : World) (p : Nat) (lv uv : Value) (l : List SpV) (us : List Und) (b : Nat) (blv : Value) (bl : List PrV) (n : Nat) (c : SpV) (is : Bool) (F : Value) (f : List UInt8) (i : Bool) (hb : Bf w p lv l uv us) (hl : l.length ≤ 100000) (hbf : ∀ k, BfF p lv l uv us k → k ≠ b)
    (hbel : Bel w b blv bl n) (hn : n ≤ 140737488351232) (hc : c.Good w) (hcb : ∀ k, BlC c k → k ≠ b) (hF : Sl w 1 F f.length (bvs f)) (hFb : F.ownBlock ≠ some b) :
    Calls Try.prog 60 #[.pointer (some ⟨p, 0, none⟩), .agg #[c.F, c.T, .bool c.o], .bool is, .func (.func 21) #[.pointer (some ⟨b, 0, none⟩)] #[], F, .bool i, .func (.func 61) #[] #[]] w fun e w' =>
      ThrE w w' (thr l (if is then some (c.f, c.t) else none) (fun x y => decide (cb x y < 0)) (askN bl) n f i).2 e ∧ Bel w' b blv bl (thr l (if is then some (c.f, c.t) else none) (fun x y => decide (cb x y < 0)) (askN bl) n f i).1 ∧ Fr (fun k => k = b) w w' := by
  obtain ⟨cA, cAc, hcA, _, _⟩ := hc.F.form
  obtain ⟨cB, cBc, hcB, _, _⟩ := hc.T.form
  have hc2 : SpV.Good w ⟨.slice cA c.f.length cAc, .slice cB c.t.length cBc, c.f, c.t, c.o⟩ := ⟨hcA ▸ hc.F, hcB ▸ hc.T, hc.lf, hc.lt⟩
  have hcb2 : ∀ k, BlC ⟨.slice cA c.f.length cAc, .slice cB c.t.length cBc, c.f, c.t, c.o⟩ k → k ≠ b := fun k hk => hcb k (by unfold BlC at hk ⊢; rw [hcA, hcB]; exact hk)
  rw [hcA, hcB]
  clear hc hcb hcA hcB
  have HB := Lib.hid hb; have HBF := Lib.hid hbf; have HBEL := Lib.hid hbel; have HC := Lib.hid hc2; have HCB := Lib.hid hcb2; have HF := Lib.hid hF; have HFB := Lib.hid hFb
  have HN := Lib.hid hn
  have hbl := (Array.getElem?_eq_some_iff.1 hbel.at_).1
  clear hb hbf hbel hc2 hcb2 hF hFb
  obtain ⟨R, hR⟩ : ∃ R, R = thr l (if is then some (c.f, c.t) else none) (fun x y => decide (cb x y < 0)) (askN bl) n f i := ⟨_, rfl⟩
  rw [← hR]
  have HR := Lib.hid hR; clear hR
  go_enter Try.func60, Try.ntmps60
  go_wp2_with fail
  have hr1 := heap_alloc2_new w (.cells #[.slice cA c.f.length cAc, .slice cB c.t.length cBc, .bool c.o] 36) (.cells #[.slice none 0 0, .slice none 0 0] 40)
  have hr0 := ((Fr.refl no (w.alloc (.cells #[.slice cA c.f.length cAc, .slice cB c.t.length cBc, .bool c.o] 36))).alloc (.cells #[.slice none 0 0, .slice none 0 0] 40)).heap (heap_alloc_new w (.cells #[.slice cA c.f.length cAc, .slice cB c.t.length cBc, .bool c.o] 36)) (fun h => h)
  have hf := ((Fr.refl no w).alloc (.cells #[.slice cA c.f.length cAc, .slice cB c.t.length cBc, .bool c.o] 36)).alloc (.cells #[.slice none 0 0, .slice none 0 0] 40)
  generalize hgx : w.heap.size = gx at hr1 hr0 hbl ⊢
  generalize hgp : gx + 1 = gp at hr1 ⊢
  generalize (w.alloc (.cells #[.slice cA c.f.length cAc, .slice cB c.t.length cBc, .bool c.o] 36)).alloc (.cells #[.slice none 0 0, .slice none 0 0] 40) = w1 at hr1 hr0 hf ⊢
  have HGX := Lib.hid hgx; have HGP := Lib.hid hgp; have R0 := Lib.hid hr0; have R1 := Lib.hid hr1; have F1 := Lib.hid hf; have HBL := Lib.hid hbl
  clear hr1 hr0 hf hgx hgp hbl
  go_loopw [4, 5] (fun fv iv wr => ∃ m f' i', fv.ownBlock ≠ some b ∧ iv = .bool i' ∧ Sl wr 1 fv f'.length (bvs f') ∧ m ≤ n ∧ Bel wr b blv bl m ∧ Fr (fun k => k = b) w wr ∧ wr.heap[gx]? = some (.cells #[.slice cA c.f.length cAc, .slice cB c.t.length cBc, .bool c.o] 36 (0, 0)) ∧ wr.heap[gp]? = some (.cells #[.slice none 0 0, .slice none 0 0] 40 (0, 0)) ∧ R = thr l (if is then some (c.f, c.t) else none) (fun x y => decide (cb x y < 0)) (askN bl) m f' i') (fun _ _ wr => wrongs wr b)
  case atStart => exact ⟨n, f, i, HFB.out, rfl, HF.out.kept0 F1.out, Nat.le_refl _, HBEL.out.kept0 F1.out, F1.out.mono (fun _ _ h => h.elim), R0.out, R1.out, HR.out⟩
  case round =>
    rename_i fv iv wr _ _
    obtain ⟨m, f', i', hfb, rfl, hfs, hmn, hbe, hfr, hr0, hr1, hRR⟩ := hrel
    have HFS := Lib.hid hfs; have HFB2 := Lib.hid hfb; have HBE := Lib.hid hbe; have HFR := Lib.hid hfr; have R0 := Lib.hid hr0; have R1 := Lib.hid hr1; have HRR := Lib.hid hRR
    clear hfs hfb hbe hfr hr0 hr1 hRR
    rcases m with _ | m
    · go_wp2_with fail
      refine (bnext_any wr b blv _ bl 0 f' i' HBE.out HFS.out HFB2.out (by omega)).mono ?_
      rintro e w2 h
      rcases h with ⟨_, rfl, f2⟩ | ⟨m', hm, _⟩
      · have F2 := Lib.hid f2; have R1 := Lib.hid (f2.heap R1.out (fun h => h)); clear f2
        have hal := (Fr.refl no w2).alloc (.cells #[.slice none 0 0, .slice none 0 0] 40)
        obtain ⟨c0, c1, hz, hlt⟩ := two_cells (hal.heap R1.out (fun h => h))
        have HAL := Lib.hid hal; clear hal
        go_wp2
        have hR2 : R = (0, none) := HRR.out
        have HR2 := Lib.hid hR2; have BE2 := Lib.hid (HBE.out.kept0 F2.out); have FT2 := Lib.hid (HFR.out.trans (S := fun k => k = b) F2.out (fun _ _ h => h.elim))
        have hg3 := set2_row (a := .slice none 0 0) (b := .slice none 0 0) (HAL.out.heap R1.out (fun h => h))
        have fs := set2_fr (w2.alloc (.cells #[.slice none 0 0, .slice none 0 0] 40)) gp (.slice none 0 0) (.slice none 0 0)
        rw [show ((w2.alloc (.cells #[.slice none 0 0, .slice none 0 0] 40)).setCell ⟨gp, 0, none⟩ (.slice none 0 0)).setCell ⟨gp, 1, none⟩ (.slice none 0 0) = set2 (w2.alloc (.cells #[.slice none 0 0, .slice none 0 0] 40)) gp (.slice none 0 0) (.slice none 0 0) from rfl]
        have hab := HAL.out.heap BE2.out.at_ (fun h => h)
        have hal := HAL.out
        generalize set2 (w2.alloc (.cells #[.slice none 0 0, .slice none 0 0] 40)) gp (.slice none 0 0) (.slice none 0 0) = w9 at hg3 fs ⊢
        refine bodyPost_ret (results_cell_row3 rfl _ _ gp _ #[.slice none 0 0, .slice none 0 0] (0, 0) _ rfl hg3 Try.underlying40 rfl (by kernel_rfl)) rfl ?_
        have hgx := HGX.out; have hgp := HGP.out; have hbl := HBL.out
        have tot : Fr (fun k => k = b) w w9 := (FT2.out.trans (S := fun k => k = b) hal (fun _ _ h => h.elim)).trans fs (fun k hk e => by omega)
        rw [HR2.out]
        exact ⟨rfl, HBEL.out.upd tot (fs.heap hab (fun e => by have e2 : b = gp := e; omega)), tot⟩
      · omega
    · go_wp2_with fail
      refine (bnext_any wr b blv _ bl (m + 1) f' i' HBE.out HFS.out HFB2.out (by omega)).mono ?_
      rintro e w2 h
      rcases h with ⟨h0, _⟩ | ⟨m', hm, ⟨yK, yV, yk, yv⟩, rfl, hyg, hyk, ⟨KA, kc, hK⟩, ⟨VA, vc, hV⟩, hB2, f2, hnew⟩
      · omega
      obtain rfl : m = m' := by omega
      simp only at hK hV
      subst hK; subst hV
      have hgxb : ¬ gx = b := by have := HBL.out; omega
      have hgpb : ¬ gp = b := by have := HBL.out; have := HGP.out; omega
      have R0 := Lib.hid (f2.heap R0.out hgxb); have R1 := Lib.hid (f2.heap R1.out hgpb); have FT2 := Lib.hid (HFR.out.trans f2 (fun _ _ h => h)); have BE2 := Lib.hid hB2; have HYG := Lib.hid hyg; have HYK := Lib.hid hyk; have HNEW := Lib.hid hnew; have S2 := Lib.hid f2.size
      clear hyg hyk hB2 f2 hnew hm hgxb hgpb
      have hal := (Fr.refl no w2).alloc (.cells #[.slice KA yk.length kc, .slice VA yv.length vc] 40)
      have hrn := heap_alloc_new w2 (.cells #[.slice KA yk.length kc, .slice VA yv.length vc] 40)
      have HAL := Lib.hid hal; have HRN := Lib.hid hrn; clear hal hrn
      obtain ⟨c0, c1, hz, hlt⟩ := two_cells (HAL.out.heap R1.out (fun h => h))
      obtain ⟨d0, d1, d2, dz, dlt⟩ := three_cells (HAL.out.heap R0.out (fun h => h))
      cases hr : (bl.find? fun y => abv y.k f' i') with
      | none =>
        have hR2 : R = (m, some (if is then some (c.f, c.t) else none)) := by rw [HRR.out]; unfold thr; simp only [askN, hr, Option.map_none]
        have HR2 := Lib.hid hR2; have HR0 := Lib.hid hr; clear hr hR2
        cases is with
        | false =>
          go_wp2
          have hg3 := set2_row (a := .slice none 0 0) (b := .slice none 0 0) (HAL.out.heap R1.out (fun h => h))
          have fs := set2_fr (w2.alloc (.cells #[.slice KA yk.length kc, .slice VA yv.length vc] 40)) gp (.slice none 0 0) (.slice none 0 0)
          rw [show ((w2.alloc (.cells #[.slice KA yk.length kc, .slice VA yv.length vc] 40)).setCell ⟨gp, 0, none⟩ (.slice none 0 0)).setCell ⟨gp, 1, none⟩ (.slice none 0 0) = set2 (w2.alloc (.cells #[.slice KA yk.length kc, .slice VA yv.length vc] 40)) gp (.slice none 0 0) (.slice none 0 0) from rfl]
          have hab := HAL.out.heap BE2.out.at_ (fun h => h)
          have hal := HAL.out
          generalize set2 (w2.alloc (.cells #[.slice KA yk.length kc, .slice VA yv.length vc] 40)) gp (.slice none 0 0) (.slice none 0 0) = w9 at hg3 fs ⊢
          refine bodyPost_ret (results_cell_row3 rfl _ _ gp _ #[.slice none 0 0, .slice none 0 0] (0, 0) _ rfl hg3 Try.underlying40 rfl (by kernel_rfl)) rfl ?_
          have hgx := HGX.out; have hgp := HGP.out; have hbl := HBL.out
          have tot : Fr (fun k => k = b) w w9 := (FT2.out.trans (S := fun k => k = b) hal (fun _ _ h => h.elim)).trans fs (fun k hk e => by omega)
          rw [HR2.out]
          exact ⟨rfl, HBEL.out.upd tot (fs.heap hab (fun e => by have e2 : b = gp := e; omega)), tot⟩
        | true =>
          go_wp2_with fail
          clear c0 c1 hz hlt d0 d1 d2 dz dlt
          have hwd : Fr no w2 (w2.alloc (.cells #[.slice KA yk.length kc, .slice VA yv.length vc] 40)).drew := Fr.drew HAL.out
          have HWD := Lib.hid hwd; clear hwd
          obtain ⟨d0, d1, d2, _, _⟩ := three_cells (HWD.out.heap R0.out (fun h => h))
          refine wp_region_ord [0, 1, 3, 4, 2, 5, 6, 7, 8, 9] (fun i => [Kd.p, Kd.l, Kd.g, Kd.p, Kd.l, Kd.g, Kd.e, Kd.e, Kd.e, Kd.e].getD i .e) (by kernel_rfl) (by kernel_rfl) ?_
          iterate 4
            first | refine wpX_pu rfl rfl rfl (by first | exact pu_move rfl | exact pu_assign rfl | exact pu_nilCheck rfl rfl | exact pu_binInt rfl rfl rfl | exact pu_conv rfl rfl (by kernel_rfl) | exact pu_fld rfl (by kernel_rfl) | exact pu_ix rfl rfl rfl (by kernel_rfl) | exact pu_unOp rfl | exact pu_binStr rfl rfl rfl | exact pu_len rfl rfl | exact pu_lens rfl rfl | exact pu_pick rfl | exact pu_slice rfl rfl) (fun K hK => ?_) | refine wpX_rd rfl rfl rfl (rd_load rfl) (fun K hK => ?_) | refine wpX_gr rfl rfl rfl (by first | exact gr_buildSlice rfl | exact gr_box rfl | exact gr_alloc rfl) (fun K hK => ?_) | refine wpX_ex rfl rfl rfl (fun K hK => ?_)
            try go_wp2
          refine wpX_ca rfl rfl rfl (fun K hK => ?_)
          go_wp2_with fail
          refine (bown_any _ _ c.f ((slKeep HC.out.F (FT2.out.trans (S := fun k => k = b) HWD.out (fun _ _ h => h.elim)) (fun k hk _ e => HCB.out k (.inl hk) e))) HC.out.lf).mono ?_
          rintro e w5 ⟨A5, rfl, h1, h2, h3⟩
          have H1 := Lib.hid h1; have H2 := Lib.hid h2; have H3 := Lib.hid h3; clear h1 h2 h3
          go_wp2
          obtain ⟨⟨xa, xb⟩, hext⟩ := H3.out.ext
          refine ⟨⟨xa, xb, hext⟩, hK _ _ ?_⟩
          clear hK K hext xa xb
          refine wpX_ca rfl rfl rfl (fun K hK => ?_)
          go_wp2_with fail
          refine (bown_any _ _ c.t ((slKeep HC.out.T (FT2.out.trans (S := fun k => k = b) HWD.out (fun _ _ h => h.elim)) (fun k hk _ e => HCB.out k (.inr hk) e)).kept0 H3.out) HC.out.lt).mono ?_
          rintro e w6 ⟨A6, rfl, h1, h2, h3⟩
          have G1 := Lib.hid h1; have G2 := Lib.hid h2; have G3 := Lib.hid h3; clear h1 h2 h3
          go_wp2
          obtain ⟨⟨xa, xb⟩, hext⟩ := G3.out.ext
          refine ⟨⟨xa, xb, hext⟩, hK _ _ ?_⟩
          clear hK K hext xa xb
          have f26 := (HWD.out.trans H3.out (fun _ _ h => h)).trans G3.out (fun _ _ h => h)
          have F26 := Lib.hid f26; have R6 := Lib.hid (f26.heap R1.out (fun h => h)); clear f26
          obtain ⟨c0, c1, hz, hlt⟩ := two_cells R6.out
          iterate 4
            first | refine wpX_pu rfl rfl rfl (by first | exact pu_move rfl | exact pu_assign rfl | exact pu_nilCheck rfl rfl | exact pu_binInt rfl rfl rfl | exact pu_conv rfl rfl (by kernel_rfl) | exact pu_fld rfl (by kernel_rfl) | exact pu_ix rfl rfl rfl (by kernel_rfl) | exact pu_unOp rfl | exact pu_binStr rfl rfl rfl | exact pu_len rfl rfl | exact pu_lens rfl rfl | exact pu_pick rfl | exact pu_slice rfl rfl) (fun K hK => ?_) | refine wpX_rd rfl rfl rfl (rd_load rfl) (fun K hK => ?_) | refine wpX_gr rfl rfl rfl (by first | exact gr_buildSlice rfl | exact gr_box rfl | exact gr_alloc rfl) (fun K hK => ?_) | refine wpX_ex rfl rfl rfl (fun K hK => ?_)
            try go_wp2
          refine wpX_done ?_
          go_wp2
          have hg3 := set2_row (a := .slice A5 c.f.length c.f.length) (b := .slice A6 c.t.length c.t.length) R6.out
          have fs := set2_fr w6 gp (.slice A5 c.f.length c.f.length) (.slice A6 c.t.length c.t.length)
          rw [show (w6.setCell ⟨gp, 0, none⟩ (.slice A5 c.f.length c.f.length)).setCell ⟨gp, 1, none⟩ (.slice A6 c.t.length c.t.length) = set2 w6 gp (.slice A5 c.f.length c.f.length) (.slice A6 c.t.length c.t.length) from rfl]
          have hab := F26.out.heap BE2.out.at_ (fun h => h)
          generalize set2 w6 gp (.slice A5 c.f.length c.f.length) (.slice A6 c.t.length c.t.length) = w9 at hg3 fs ⊢
          refine bodyPost_ret (results_cell_row3 rfl _ _ gp _ #[.slice A5 c.f.length c.f.length, .slice A6 c.t.length c.t.length] (0, 0) _ rfl hg3 Try.underlying40 rfl (by kernel_rfl)) rfl ?_
          have s0 := FT2.out.size; have s1 := HWD.out.size; have s3 := H3.out.size
          have hgl := (Array.getElem?_eq_some_iff.1 R1.out).1
          have n1 : ∀ k, (Value.slice A5 c.f.length c.f.length).ownBlock = some k → w2.heap.size ≤ k := fun k hk => by have := H2.out k hk; omega
          have n2 : ∀ k, (Value.slice A6 c.t.length c.t.length).ownBlock = some k → w2.heap.size ≤ k := fun k hk => by have := G2.out k hk; omega
          have hgx := HGX.out; have hgp := HGP.out; have hbl := HBL.out
          have tot : Fr (fun k => k = b) w w9 := (FT2.out.trans (S := fun k => k = b) F26.out (fun _ _ h => h.elim)).trans fs (fun k hk e => by omega)
          rw [HR2.out]
          exact ⟨⟨A5, A6, rfl, (H1.out.kept0 G3.out).kept fs (fun k hk e => by have := n1 k hk; omega), G1.out.kept fs (fun k hk e => by have := n2 k hk; omega), (fun k hk => by rcases hk with hk | hk; (have := n1 k hk; omega); (have := n2 k hk; omega)), fun k h1 h2 => by have := H1.out.lt k h1; have := G2.out k h2; omega⟩, HBEL.out.upd tot (fs.heap hab (fun e => by have e2 : b = gp := e; omega)), tot⟩
      | some z =>
        obtain ⟨hyk, hyv⟩ : yk = z.k ∧ yv = z.v := by have := HYK.out; rw [hr] at this; simpa using this
        have hask : askN bl f' i' = some (yk, yv) := by unfold askN; rw [hr, hyk, hyv]; rfl
        cases is with
        | false =>
          have hR1 : R = if saidK l yk then thr l none (fun x y => decide (cb x y < 0)) (askN bl) m yk false else (m, some (some (yk, yv))) := by rw [HRR.out]; show thr _ _ _ _ (m + 1) f' i' = _; rw [thr, hask]; simp
          have HR1 := Lib.hid hR1; clear hR1 hask hyk hyv hr
          go_wp2_with fail
          generalize w2.alloc (.cells #[.slice KA yk.length kc, .slice VA yv.length vc] 40) = w3 at HAL HRN ⊢
          clear c0 c1 hz hlt d0 d1 d2 dz dlt
          have htot3 := FT2.out.trans (S := fun k => k = b) HAL.out (fun _ _ h => h.elim)
          refine (at_any w3 p lv uv _ l us yk (HB.out.kept htot3 (fun k hk e => HBF.out k hk e)) (HYG.out.K.kept0 HAL.out) (by omega)).mono ?_
          rintro e w4 ⟨rfl, f4⟩
          have F4 := Lib.hid f4; clear f4 htot3
          cases hs : saidK l yk with
          | false =>
            have hR2 : R = (m, some (some (yk, yv))) := by rw [HR1.out]; simp [hs]
            have HR2 := Lib.hid hR2; have HS := Lib.hid hs; clear hR2 hs
            go_wp2_with fail
            have hwd : Fr no w2 w4.drew := Fr.drew (HAL.out.trans F4.out (fun _ _ h => h))
            have HWD := Lib.hid hwd; clear hwd
            obtain ⟨d0, d1, _, _⟩ := two_cells ((Fr.drew F4.out).heap HRN.out (fun h => h))
            refine wp_region_ord [0, 1, 3, 4, 2, 5, 6, 7, 8, 9] (fun i => [Kd.p, Kd.l, Kd.g, Kd.p, Kd.l, Kd.g, Kd.e, Kd.e, Kd.e, Kd.e].getD i .e) (by kernel_rfl) (by kernel_rfl) ?_
            iterate 4
              first | refine wpX_pu rfl rfl rfl (by first | exact pu_move rfl | exact pu_assign rfl | exact pu_nilCheck rfl rfl | exact pu_binInt rfl rfl rfl | exact pu_conv rfl rfl (by kernel_rfl) | exact pu_fld rfl (by kernel_rfl) | exact pu_ix rfl rfl rfl (by kernel_rfl) | exact pu_unOp rfl | exact pu_binStr rfl rfl rfl | exact pu_len rfl rfl | exact pu_lens rfl rfl | exact pu_pick rfl | exact pu_slice rfl rfl) (fun K hK => ?_) | refine wpX_rd rfl rfl rfl (rd_load rfl) (fun K hK => ?_) | refine wpX_gr rfl rfl rfl (by first | exact gr_buildSlice rfl | exact gr_box rfl | exact gr_alloc rfl) (fun K hK => ?_) | refine wpX_ex rfl rfl rfl (fun K hK => ?_)
              try go_wp2
            refine wpX_ca rfl rfl rfl (fun K hK => ?_)
            go_wp2_with fail
            refine (bown_any _ _ yk (HYG.out.K.kept0 HWD.out) HYG.out.lk).mono ?_
            rintro e w5 ⟨A5, rfl, h1, h2, h3⟩
            have H1 := Lib.hid h1; have H2 := Lib.hid h2; have H3 := Lib.hid h3; clear h1 h2 h3
            go_wp2
            obtain ⟨⟨xa, xb⟩, hext⟩ := H3.out.ext
            refine ⟨⟨xa, xb, hext⟩, hK _ _ ?_⟩
            clear hK K hext xa xb
            refine wpX_ca rfl rfl rfl (fun K hK => ?_)
            go_wp2_with fail
            refine (bown_any _ _ yv ((HYG.out.V.kept0 HWD.out).kept0 H3.out) HYG.out.lv).mono ?_
            rintro e w6 ⟨A6, rfl, h1, h2, h3⟩
            have G1 := Lib.hid h1; have G2 := Lib.hid h2; have G3 := Lib.hid h3; clear h1 h2 h3
            go_wp2
            obtain ⟨⟨xa, xb⟩, hext⟩ := G3.out.ext
            refine ⟨⟨xa, xb, hext⟩, hK _ _ ?_⟩
            clear hK K hext xa xb
            have f26 := (HWD.out.trans H3.out (fun _ _ h => h)).trans G3.out (fun _ _ h => h)
            have F26 := Lib.hid f26; have R6 := Lib.hid (f26.heap R1.out (fun h => h)); clear f26
            obtain ⟨c0, c1, hz, hlt⟩ := two_cells R6.out
            iterate 4
              first | refine wpX_pu rfl rfl rfl (by first | exact pu_move rfl | exact pu_assign rfl | exact pu_nilCheck rfl rfl | exact pu_binInt rfl rfl rfl | exact pu_conv rfl rfl (by kernel_rfl) | exact pu_fld rfl (by kernel_rfl) | exact pu_ix rfl rfl rfl (by kernel_rfl) | exact pu_unOp rfl | exact pu_binStr rfl rfl rfl | exact pu_len rfl rfl | exact pu_lens rfl rfl | exact pu_pick rfl | exact pu_slice rfl rfl) (fun K hK => ?_) | refine wpX_rd rfl rfl rfl (rd_load rfl) (fun K hK => ?_) | refine wpX_gr rfl rfl rfl (by first | exact gr_buildSlice rfl | exact gr_box rfl | exact gr_alloc rfl) (fun K hK => ?_) | refine wpX_ex rfl rfl rfl (fun K hK => ?_)
              try go_wp2
            refine wpX_done ?_
            go_wp2
            have hg3 := set2_row (a := .slice A5 yk.length yk.length) (b := .slice A6 yv.length yv.length) R6.out
            have fs := set2_fr w6 gp (.slice A5 yk.length yk.length) (.slice A6 yv.length yv.length)
            rw [show (w6.setCell ⟨gp, 0, none⟩ (.slice A5 yk.length yk.length)).setCell ⟨gp, 1, none⟩ (.slice A6 yv.length yv.length) = set2 w6 gp (.slice A5 yk.length yk.length) (.slice A6 yv.length yv.length) from rfl]
            have hab := F26.out.heap BE2.out.at_ (fun h => h)
            generalize set2 w6 gp (.slice A5 yk.length yk.length) (.slice A6 yv.length yv.length) = w9 at hg3 fs ⊢
            refine bodyPost_ret (results_cell_row3 rfl _ _ gp _ #[.slice A5 yk.length yk.length, .slice A6 yv.length yv.length] (0, 0) _ rfl hg3 Try.underlying40 rfl (by kernel_rfl)) rfl ?_
            have s0 := FT2.out.size; have s1 := HWD.out.size; have s3 := H3.out.size
            have hgl := (Array.getElem?_eq_some_iff.1 R1.out).1
            have n1 : ∀ k, (Value.slice A5 yk.length yk.length).ownBlock = some k → w2.heap.size ≤ k := fun k hk => by have := H2.out k hk; omega
            have n2 : ∀ k, (Value.slice A6 yv.length yv.length).ownBlock = some k → w2.heap.size ≤ k := fun k hk => by have := G2.out k hk; omega
            have hgx := HGX.out; have hgp := HGP.out; have hbl := HBL.out
            have tot : Fr (fun k => k = b) w w9 := (FT2.out.trans (S := fun k => k = b) F26.out (fun _ _ h => h.elim)).trans fs (fun k hk e => by omega)
            rw [HR2.out]
            exact ⟨⟨A5, A6, rfl, (H1.out.kept0 G3.out).kept fs (fun k hk e => by have := n1 k hk; omega), G1.out.kept fs (fun k hk e => by have := n2 k hk; omega), (fun k hk => by rcases hk with hk | hk; (have := n1 k hk; omega); (have := n2 k hk; omega)), fun k h1 h2 => by have := H1.out.lt k h1; have := G2.out k h2; omega⟩, HBEL.out.upd tot (fs.heap hab (fun e => by have e2 : b = gp := e; omega)), tot⟩
          | true =>
            have hR2 : R = thr l none (fun x y => decide (cb x y < 0)) (askN bl) m yk false := by rw [HR1.out]; simp [hs]
            have HR2 := Lib.hid hR2; have HS := Lib.hid hs; clear hR2 hs
            have h24 := HAL.out.trans F4.out (fun _ _ h => h)
            obtain ⟨d0, d1, _, _⟩ := two_cells (F4.out.heap HRN.out (fun h => h))
            have H24 := Lib.hid h24; clear h24
            go_wp2
            go_roundw
            case rel =>
              refine ⟨m, yk, false, fun e => ?_, rfl, HYG.out.K.kept0 H24.out, by omega, BE2.out.kept0 H24.out, FT2.out.trans (S := fun k => k = b) H24.out (fun _ _ h => h.elim), H24.out.heap R0.out (fun h => h), H24.out.heap R1.out (fun h => h), HR2.out⟩
              have := HNEW.out b (.inl e); have := (Array.getElem?_eq_some_iff.1 HBE.out.at_).1; omega
            case measure =>
              rw [wrongs_of (BE2.out.kept0 H24.out), wrongs_of HBE.out]; omega
        | true =>
          have hR1 : R = if !(fun x y => decide (cb x y < 0)) yk c.f then (m, some (some (c.f, c.t))) else if saidK l yk then thr l (some (c.f, c.t)) (fun x y => decide (cb x y < 0)) (askN bl) m yk false else (m, some (some (yk, yv))) := by rw [HRR.out]; show thr _ _ _ _ (m + 1) f' i' = _; rw [thr, hask]; rfl
          have HR1 := Lib.hid hR1; clear hR1 hask hyk hyv hr
          go_wp2_with fail
          refine (ahn_any _ _ _ yk c.f (HYG.out.K.kept0 HAL.out) (slKeep HC.out.F (FT2.out.trans (S := fun k => k = b) HAL.out (fun _ _ h => h.elim)) (fun k hk _ e => HCB.out k (.inl hk) e))).mono ?_
          rintro e w3 ⟨rfl, rfl⟩
          cases hd : (fun x y => decide (cb x y < 0)) yk c.f with
          | false =>
            simp only [] at hd
            have hR2 : R = (m, some (some (c.f, c.t))) := by rw [HR1.out]; simp [hd]
            have HR2 := Lib.hid hR2; clear hR2
            rw [hd]; clear hd
            go_wp2_with fail
            clear c0 c1 hz hlt d0 d1 d2 dz dlt
            have hwd : Fr no w2 (w2.alloc (.cells #[.slice KA yk.length kc, .slice VA yv.length vc] 40)).drew := Fr.drew HAL.out
            have HWD := Lib.hid hwd; clear hwd
            obtain ⟨d0, d1, d2, _, _⟩ := three_cells (HWD.out.heap R0.out (fun h => h))
            refine wp_region_ord [0, 1, 3, 4, 2, 5, 6, 7, 8, 9] (fun i => [Kd.p, Kd.l, Kd.g, Kd.p, Kd.l, Kd.g, Kd.e, Kd.e, Kd.e, Kd.e].getD i .e) (by kernel_rfl) (by kernel_rfl) ?_
            iterate 4
              first | refine wpX_pu rfl rfl rfl (by first | exact pu_move rfl | exact pu_assign rfl | exact pu_nilCheck rfl rfl | exact pu_binInt rfl rfl rfl | exact pu_conv rfl rfl (by kernel_rfl) | exact pu_fld rfl (by kernel_rfl) | exact pu_ix rfl rfl rfl (by kernel_rfl) | exact pu_unOp rfl | exact pu_binStr rfl rfl rfl | exact pu_len rfl rfl | exact pu_lens rfl rfl | exact pu_pick rfl | exact pu_slice rfl rfl) (fun K hK => ?_) | refine wpX_rd rfl rfl rfl (rd_load rfl) (fun K hK => ?_) | refine wpX_gr rfl rfl rfl (by first | exact gr_buildSlice rfl | exact gr_box rfl | exact gr_alloc rfl) (fun K hK => ?_) | refine wpX_ex rfl rfl rfl (fun K hK => ?_)
              try go_wp2
            refine wpX_ca rfl rfl rfl (fun K hK => ?_)
            go_wp2_with fail
            refine (bown_any _ _ c.f ((slKeep HC.out.F (FT2.out.trans (S := fun k => k = b) HWD.out (fun _ _ h => h.elim)) (fun k hk _ e => HCB.out k (.inl hk) e))) HC.out.lf).mono ?_
            rintro e w5 ⟨A5, rfl, h1, h2, h3⟩
            have H1 := Lib.hid h1; have H2 := Lib.hid h2; have H3 := Lib.hid h3; clear h1 h2 h3
            go_wp2
            obtain ⟨⟨xa, xb⟩, hext⟩ := H3.out.ext
            refine ⟨⟨xa, xb, hext⟩, hK _ _ ?_⟩
            clear hK K hext xa xb
            refine wpX_ca rfl rfl rfl (fun K hK => ?_)
            go_wp2_with fail
            refine (bown_any _ _ c.t ((slKeep HC.out.T (FT2.out.trans (S := fun k => k = b) HWD.out (fun _ _ h => h.elim)) (fun k hk _ e => HCB.out k (.inr hk) e)).kept0 H3.out) HC.out.lt).mono ?_
            rintro e w6 ⟨A6, rfl, h1, h2, h3⟩
            have G1 := Lib.hid h1; have G2 := Lib.hid h2; have G3 := Lib.hid h3; clear h1 h2 h3
            go_wp2
            obtain ⟨⟨xa, xb⟩, hext⟩ := G3.out.ext
            refine ⟨⟨xa, xb, hext⟩, hK _ _ ?_⟩
            clear hK K hext xa xb
            have f26 := (HWD.out.trans H3.out (fun _ _ h => h)).trans G3.out (fun _ _ h => h)
            have F26 := Lib.hid f26; have R6 := Lib.hid (f26.heap R1.out (fun h => h)); clear f26
            obtain ⟨c0, c1, hz, hlt⟩ := two_cells R6.out
            iterate 4
              first | refine wpX_pu rfl rfl rfl (by first | exact pu_move rfl | exact pu_assign rfl | exact pu_nilCheck rfl rfl | exact pu_binInt rfl rfl rfl | exact pu_conv rfl rfl (by kernel_rfl) | exact pu_fld rfl (by kernel_rfl) | exact pu_ix rfl rfl rfl (by kernel_rfl) | exact pu_unOp rfl | exact pu_binStr rfl rfl rfl | exact pu_len rfl rfl | exact pu_lens rfl rfl | exact pu_pick rfl | exact pu_slice rfl rfl) (fun K hK => ?_) | refine wpX_rd rfl rfl rfl (rd_load rfl) (fun K hK => ?_) | refine wpX_gr rfl rfl rfl (by first | exact gr_buildSlice rfl | exact gr_box rfl | exact gr_alloc rfl) (fun K hK => ?_) | refine wpX_ex rfl rfl rfl (fun K hK => ?_)
              try go_wp2
            refine wpX_done ?_
            go_wp2
            have hg3 := set2_row (a := .slice A5 c.f.length c.f.length) (b := .slice A6 c.t.length c.t.length) R6.out
            have fs := set2_fr w6 gp (.slice A5 c.f.length c.f.length) (.slice A6 c.t.length c.t.length)
            rw [show (w6.setCell ⟨gp, 0, none⟩ (.slice A5 c.f.length c.f.length)).setCell ⟨gp, 1, none⟩ (.slice A6 c.t.length c.t.length) = set2 w6 gp (.slice A5 c.f.length c.f.length) (.slice A6 c.t.length c.t.length) from rfl]
            have hab := F26.out.heap BE2.out.at_ (fun h => h)
            generalize set2 w6 gp (.slice A5 c.f.length c.f.length) (.slice A6 c.t.length c.t.length) = w9 at hg3 fs ⊢
            refine bodyPost_ret (results_cell_row3 rfl _ _ gp _ #[.slice A5 c.f.length c.f.length, .slice A6 c.t.length c.t.length] (0, 0) _ rfl hg3 Try.underlying40 rfl (by kernel_rfl)) rfl ?_
            have s0 := FT2.out.size; have s1 := HWD.out.size; have s3 := H3.out.size
            have hgl := (Array.getElem?_eq_some_iff.1 R1.out).1
            have n1 : ∀ k, (Value.slice A5 c.f.length c.f.length).ownBlock = some k → w2.heap.size ≤ k := fun k hk => by have := H2.out k hk; omega
            have n2 : ∀ k, (Value.slice A6 c.t.length c.t.length).ownBlock = some k → w2.heap.size ≤ k := fun k hk => by have := G2.out k hk; omega
            have hgx := HGX.out; have hgp := HGP.out; have hbl := HBL.out
            have tot : Fr (fun k => k = b) w w9 := (FT2.out.trans (S := fun k => k = b) F26.out (fun _ _ h => h.elim)).trans fs (fun k hk e => by omega)
            rw [HR2.out]
            exact ⟨⟨A5, A6, rfl, (H1.out.kept0 G3.out).kept fs (fun k hk e => by have := n1 k hk; omega), G1.out.kept fs (fun k hk e => by have := n2 k hk; omega), (fun k hk => by rcases hk with hk | hk; (have := n1 k hk; omega); (have := n2 k hk; omega)), fun k h1 h2 => by have := H1.out.lt k h1; have := G2.out k h2; omega⟩, HBEL.out.upd tot (fs.heap hab (fun e => by have e2 : b = gp := e; omega)), tot⟩
          | true =>
            simp only [] at hd
            have hR3 : R = if saidK l yk then thr l (some (c.f, c.t)) (fun x y => decide (cb x y < 0)) (askN bl) m yk false else (m, some (some (yk, yv))) := by rw [HR1.out]; simp [hd]
            have HR1 := Lib.hid hR3; clear hR3
            rw [hd]; clear hd
            go_wp2_with fail
            generalize w2.alloc (.cells #[.slice KA yk.length kc, .slice VA yv.length vc] 40) = w3 at HAL HRN ⊢
            clear c0 c1 hz hlt d0 d1 d2 dz dlt
            have htot3 := FT2.out.trans (S := fun k => k = b) HAL.out (fun _ _ h => h.elim)
            refine (at_any w3 p lv uv _ l us yk (HB.out.kept htot3 (fun k hk e => HBF.out k hk e)) (HYG.out.K.kept0 HAL.out) (by omega)).mono ?_
            rintro e w4 ⟨rfl, f4⟩
            have F4 := Lib.hid f4; clear f4 htot3
            cases hs : saidK l yk with
            | false =>
              have hR2 : R = (m, some (some (yk, yv))) := by rw [HR1.out]; simp [hs]
              have HR2 := Lib.hid hR2; have HS := Lib.hid hs; clear hR2 hs
              go_wp2_with fail
              have hwd : Fr no w2 w4.drew := Fr.drew (HAL.out.trans F4.out (fun _ _ h => h))
              have HWD := Lib.hid hwd; clear hwd
              obtain ⟨d0, d1, _, _⟩ := two_cells ((Fr.drew F4.out).heap HRN.out (fun h => h))
              refine wp_region_ord [0, 1, 3, 4, 2, 5, 6, 7, 8, 9] (fun i => [Kd.p, Kd.l, Kd.g, Kd.p, Kd.l, Kd.g, Kd.e, Kd.e, Kd.e, Kd.e].getD i .e) (by kernel_rfl) (by kernel_rfl) ?_
              iterate 4
                first | refine wpX_pu rfl rfl rfl (by first | exact pu_move rfl | exact pu_assign rfl | exact pu_nilCheck rfl rfl | exact pu_binInt rfl rfl rfl | exact pu_conv rfl rfl (by kernel_rfl) | exact pu_fld rfl (by kernel_rfl) | exact pu_ix rfl rfl rfl (by kernel_rfl) | exact pu_unOp rfl | exact pu_binStr rfl rfl rfl | exact pu_len rfl rfl | exact pu_lens rfl rfl | exact pu_pick rfl | exact pu_slice rfl rfl) (fun K hK => ?_) | refine wpX_rd rfl rfl rfl (rd_load rfl) (fun K hK => ?_) | refine wpX_gr rfl rfl rfl (by first | exact gr_buildSlice rfl | exact gr_box rfl | exact gr_alloc rfl) (fun K hK => ?_) | refine wpX_ex rfl rfl rfl (fun K hK => ?_)
                try go_wp2
              refine wpX_ca rfl rfl rfl (fun K hK => ?_)
              go_wp2_with fail
              refine (bown_any _ _ yk (HYG.out.K.kept0 HWD.out) HYG.out.lk).mono ?_
              rintro e w5 ⟨A5, rfl, h1, h2, h3⟩
              have H1 := Lib.hid h1; have H2 := Lib.hid h2; have H3 := Lib.hid h3; clear h1 h2 h3
              go_wp2
              obtain ⟨⟨xa, xb⟩, hext⟩ := H3.out.ext
              refine ⟨⟨xa, xb, hext⟩, hK _ _ ?_⟩
              clear hK K hext xa xb
              refine wpX_ca rfl rfl rfl (fun K hK => ?_)
              go_wp2_with fail
              refine (bown_any _ _ yv ((HYG.out.V.kept0 HWD.out).kept0 H3.out) HYG.out.lv).mono ?_
              rintro e w6 ⟨A6, rfl, h1, h2, h3⟩
              have G1 := Lib.hid h1; have G2 := Lib.hid h2; have G3 := Lib.hid h3; clear h1 h2 h3
              go_wp2
              obtain ⟨⟨xa, xb⟩, hext⟩ := G3.out.ext
              refine ⟨⟨xa, xb, hext⟩, hK _ _ ?_⟩
              clear hK K hext xa xb
              have f26 := (HWD.out.trans H3.out (fun _ _ h => h)).trans G3.out (fun _ _ h => h)
              have F26 := Lib.hid f26; have R6 := Lib.hid (f26.heap R1.out (fun h => h)); clear f26
              obtain ⟨c0, c1, hz, hlt⟩ := two_cells R6.out
              iterate 4
                first | refine wpX_pu rfl rfl rfl (by first | exact pu_move rfl | exact pu_assign rfl | exact pu_nilCheck rfl rfl | exact pu_binInt rfl rfl rfl | exact pu_conv rfl rfl (by kernel_rfl) | exact pu_fld rfl (by kernel_rfl) | exact pu_ix rfl rfl rfl (by kernel_rfl) | exact pu_unOp rfl | exact pu_binStr rfl rfl rfl | exact pu_len rfl rfl | exact pu_lens rfl rfl | exact pu_pick rfl | exact pu_slice rfl rfl) (fun K hK => ?_) | refine wpX_rd rfl rfl rfl (rd_load rfl) (fun K hK => ?_) | refine wpX_gr rfl rfl rfl (by first | exact gr_buildSlice rfl | exact gr_box rfl | exact gr_alloc rfl) (fun K hK => ?_) | refine wpX_ex rfl rfl rfl (fun K hK => ?_)
                try go_wp2
              refine wpX_done ?_
              go_wp2
              have hg3 := set2_row (a := .slice A5 yk.length yk.length) (b := .slice A6 yv.length yv.length) R6.out
              have fs := set2_fr w6 gp (.slice A5 yk.length yk.length) (.slice A6 yv.length yv.length)
              rw [show (w6.setCell ⟨gp, 0, none⟩ (.slice A5 yk.length yk.length)).setCell ⟨gp, 1, none⟩ (.slice A6 yv.length yv.length) = set2 w6 gp (.slice A5 yk.length yk.length) (.slice A6 yv.length yv.length) from rfl]
              have hab := F26.out.heap BE2.out.at_ (fun h => h)
              generalize set2 w6 gp (.slice A5 yk.length yk.length) (.slice A6 yv.length yv.length) = w9 at hg3 fs ⊢
              refine bodyPost_ret (results_cell_row3 rfl _ _ gp _ #[.slice A5 yk.length yk.length, .slice A6 yv.length yv.length] (0, 0) _ rfl hg3 Try.underlying40 rfl (by kernel_rfl)) rfl ?_
              have s0 := FT2.out.size; have s1 := HWD.out.size; have s3 := H3.out.size
              have hgl := (Array.getElem?_eq_some_iff.1 R1.out).1
              have n1 : ∀ k, (Value.slice A5 yk.length yk.length).ownBlock = some k → w2.heap.size ≤ k := fun k hk => by have := H2.out k hk; omega
              have n2 : ∀ k, (Value.slice A6 yv.length yv.length).ownBlock = some k → w2.heap.size ≤ k := fun k hk => by have := G2.out k hk; omega
              have hgx := HGX.out; have hgp := HGP.out; have hbl := HBL.out
              have tot : Fr (fun k => k = b) w w9 := (FT2.out.trans (S := fun k => k = b) F26.out (fun _ _ h => h.elim)).trans fs (fun k hk e => by omega)
              rw [HR2.out]
              exact ⟨⟨A5, A6, rfl, (H1.out.kept0 G3.out).kept fs (fun k hk e => by have := n1 k hk; omega), G1.out.kept fs (fun k hk e => by have := n2 k hk; omega), (fun k hk => by rcases hk with hk | hk; (have := n1 k hk; omega); (have := n2 k hk; omega)), fun k h1 h2 => by have := H1.out.lt k h1; have := G2.out k h2; omega⟩, HBEL.out.upd tot (fs.heap hab (fun e => by have e2 : b = gp := e; omega)), tot⟩
            | true =>
              have hR2 : R = thr l (some (c.f, c.t)) (fun x y => decide (cb x y < 0)) (askN bl) m yk false := by rw [HR1.out]; simp [hs]
              have HR2 := Lib.hid hR2; have HS := Lib.hid hs; clear hR2 hs
              have h24 := HAL.out.trans F4.out (fun _ _ h => h)
              obtain ⟨d0, d1, _, _⟩ := two_cells (F4.out.heap HRN.out (fun h => h))
              have H24 := Lib.hid h24; clear h24
              go_wp2
              go_roundw
              case rel =>
                refine ⟨m, yk, false, fun e => ?_, rfl, HYG.out.K.kept0 H24.out, by omega, BE2.out.kept0 H24.out, FT2.out.trans (S := fun k => k = b) H24.out (fun _ _ h => h.elim), H24.out.heap R0.out (fun h => h), H24.out.heap R1.out (fun h => h), HR2.out⟩
                have := HNEW.out b (.inl e); have := (Array.getElem?_eq_some_iff.1 HBE.out.at_).1; omega
              case measure =>
                rw [wrongs_of (BE2.out.kept0 H24.out), wrongs_of HBE.out]; omega
end Go.Proofs.Ytdnohhlgaaihmaa
