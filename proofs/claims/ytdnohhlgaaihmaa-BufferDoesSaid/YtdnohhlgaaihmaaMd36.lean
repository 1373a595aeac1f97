import Derived.Test.YtdnohhlgaaihmaaMd35

/- law16: a call of a buffer, and of the document's: kind 0. (printed by mkdoes.py) -/
namespace Go.Proofs.Ytdnohhlgaaihmaa
open Go.RowKit

set_option maxRecDepth 100000 in
set_option maxHeartbeats 16000000 in
theorem does_put (w0 w : World) (p g b : Nat) (lv uv sv ov : Value) (l L : List SpV) (us : List Und) (V : Nat → Value) (R : Nat → List Value) (U : Nat → Prop) (pr : List PrV) (o : OpB) (h0 : Fr no w0 w) (hd : Dz w p lv uv l us g sv L b V R U w0.heap.size)
    (hu : Pairs w ov pr) (hU : ∀ k, (ov.ownBlock = some k ∨ ∃ y ∈ pr, y.K.ownBlock = some k ∨ y.V.ownBlock = some k) → U k) (hRi : RisP pr) (_hpr : pr.length ≤ 200) (ho : o.Good w0) (hs : o.kb.length ≤ 30000 ∧ o.vb.length ≤ 30000) (hl : us.length ≤ 1000) (hR : ∀ i, (R i).length ≤ 50000) (hk : o.k % 8 = 0) :
    Calls Try.prog 34 #[.pointer (some ⟨p, 0, none⟩), .pointer (some ⟨g, 0, none⟩), ov, .agg #[.int .u8 o.k, o.K, o.V, .bool o.i, .int .i64 o.n], .pointer (some ⟨b, 0, none⟩)] w fun e w' => DoesP w w' p us g b R U w0.heap.size e := by
  obtain ⟨KA, kc, hKf, _, _⟩ := ho.K.form
  obtain ⟨VA, vc, hVf, _, _⟩ := ho.V.form
  obtain ⟨OA, oc, rfl, _, _⟩ := hu.sl.form
  have hlen := hd.len
  have hk256 := ho.k
  have hn0 := ho.n0; have hn1 := ho.n1
  have hoK := hKf ▸ ho.K; have hoV := hVf ▸ ho.V
  rw [hKf, hVf]
  have ek : (o.k : Int) % 8 = 0 := by omega
  have hk0 : (0 : Int) ≤ (o.k : Int) := by omega
  have H0 := Lib.hid h0; have HD := Lib.hid hd; have HU := Lib.hid hu; have HUU := Lib.hid hU; have HRI := Lib.hid hRi; have HK := Lib.hid hoK; have HV := Lib.hid hoV; have HS := Lib.hid hs; have HR := Lib.hid hR
  clear h0 hd hu hU hRi hoK hoV hs hR hKf hVf ho hk
  obtain ⟨w00, hw00⟩ : ∃ w00 : World, w00 = w := ⟨_, rfl⟩
  go_enter Try.func34, Try.ntmps34
  go_wp2_with fail
  have hN := heap_alloc_new w (.cells #[.int .u8 o.k, .slice KA o.kb.length kc, .slice VA o.vb.length vc, .bool o.i, .int .i64 o.n] 54)
  have hf := (Fr.refl no w).alloc (.cells #[.int .u8 o.k, .slice KA o.kb.length kc, .slice VA o.vb.length vc, .bool o.i, .int .i64 o.n] 54)
  generalize hq8 : w.heap.size = q8 at hN ⊢
  generalize w.alloc (.cells #[.int .u8 o.k, .slice KA o.kb.length kc, .slice VA o.vb.length vc, .bool o.i, .int .i64 o.n] 54) = w1 at hN hf ⊢
  have hq8' := Nat.le_of_eq hq8
  have HN := Lib.hid hN; have F1 := Lib.hid hf; have HQ8 := Lib.hid hq8'; clear hN hf hq8 hq8'
  obtain ⟨c0, c1, c2, c3, c4, ql⟩ := five_cells HN.out
  refine wp_region_ord [0, 1, 3, 4, 2, 5, 6, 7] (fun i => [Kd.p, Kd.l, Kd.g, Kd.p, Kd.l, Kd.e, Kd.p, Kd.p].getD i .e) (by kernel_rfl) (by kernel_rfl) ?_
  iterate 4
    first | refine wpX_pu rfl rfl rfl (by first | exact pu_move rfl | exact pu_assign rfl | exact pu_nilCheck rfl rfl | exact pu_binInt rfl rfl rfl | exact pu_conv rfl rfl (by kernel_rfl) | exact pu_fld rfl (by kernel_rfl) | exact pu_ix rfl rfl rfl (by kernel_rfl) | exact pu_unOp rfl | exact pu_binStr rfl rfl rfl | exact pu_len rfl rfl | exact pu_lens rfl rfl | exact pu_pick rfl | exact pu_slice rfl rfl) (fun K hK => ?_) | refine wpX_rd rfl rfl rfl (rd_load rfl) (fun K hK => ?_) | refine wpX_gr rfl rfl rfl (by first | exact gr_buildSlice rfl | exact gr_box rfl | exact gr_alloc rfl) (fun K hK => ?_) | refine wpX_ex rfl rfl rfl (fun K hK => ?_)
    try go_wp2
  refine wpX_ca rfl rfl rfl (fun K hK => ?_)
  go_wp2_with fail
  refine (lent_any _ (.slice KA o.kb.length kc) o.kb ((HK.out.kept0 (H0.out.trans F1.out (fun _ _ h => h))).kept0 (Fr.drew (Fr.refl no _))) (by have := HS.out; omega)).mono ?_
  rintro e w2 ⟨gk, rfl, hgk, hLk, f2⟩
  have hgk : w1.heap.size ≤ gk := hgk
  have hx2 := f2.ext
  have f12 := (Fr.drew (Fr.refl no w1)).trans f2 (fun _ _ h => h)
  have F2 := Lib.hid (F1.out.trans f12 (fun _ _ h => h)); have F12 := Lib.hid f12; have HLK := Lib.hid hLk; have HGK := Lib.hid hgk; have HX2 := Lib.hid hx2
  clear f2 f12 hLk hgk hx2 c0 c1 c2 c3 c4 ql
  refine ⟨?_, hK _ _ ?_⟩
  · obtain ⟨⟨xa, xb⟩, hext⟩ := HX2.out; exact ⟨xa, xb, hext⟩
  clear hK K HX2
  have hgkl : gk < w2.heap.size := (Array.getElem?_eq_some_iff.1 HLK.out).1
  have HGL := Lib.hid hgkl; clear hgkl
  refine wpX_ex rfl rfl rfl (fun K hK => ?_)
  go_wp2_with fail
  refine (lent_any _ (.slice VA o.vb.length vc) o.vb (HV.out.kept0 (H0.out.trans F2.out (fun _ _ h => h))) (by have := HS.out; omega)).mono ?_
  rintro e w3 ⟨gv, rfl, hgv, hLv, f3⟩
  have hne : gk ≠ gv ∧ w.heap.size ≤ gk ∧ w.heap.size ≤ gv := by have := HGL.out; have := HGK.out; have := F1.out.size; have := F12.out.size; omega
  have F3 := Lib.hid (F2.out.trans f3 (fun _ _ h => h)); have F13 := Lib.hid (F12.out.trans f3 (fun _ _ h => h)); have HLK := Lib.hid (HLK.out.kept f3 (fun h => h)); have HLV := Lib.hid hLv; have HNE := Lib.hid hne; have hg3 : gk < w3.heap.size ∧ gv < w3.heap.size := ⟨by have := f3.size; have := HGL.out; omega, (Array.getElem?_eq_some_iff.1 HLV.out).1⟩; have HG3 := Lib.hid hg3; clear hg3
  clear f3 hgv hLv hgk HGL HGK hne
  go_wp2_with fail
  iterate 2
    first | refine wpX_pu rfl rfl rfl (by first | exact pu_move rfl | exact pu_assign rfl | exact pu_nilCheck rfl rfl | exact pu_binInt rfl rfl rfl | exact pu_conv rfl rfl (by kernel_rfl) | exact pu_fld rfl (by kernel_rfl) | exact pu_ix rfl rfl rfl (by kernel_rfl) | exact pu_unOp rfl | exact pu_binStr rfl rfl rfl | exact pu_len rfl rfl | exact pu_lens rfl rfl | exact pu_pick rfl | exact pu_slice rfl rfl) (fun K hK => ?_) | refine wpX_rd rfl rfl rfl (rd_load rfl) (fun K hK => ?_) | refine wpX_gr rfl rfl rfl (by first | exact gr_buildSlice rfl | exact gr_box rfl | exact gr_alloc rfl) (fun K hK => ?_) | refine wpX_ex rfl rfl rfl (fun K hK => ?_)
    try go_wp2
  refine wpX_done ?_
  obtain ⟨c0, c1, c2, c3, c4, ql⟩ := five_cells (F13.out.heap HN.out (fun h => h))
  have HD3 := Lib.hid (HD.out.kept0 F3.out)
  have hb0 : w0.heap.size ≤ w3.heap.size := by have := H0.out.size; have := F3.out.size; omega
  have HB0 := Lib.hid hb0; clear hb0
  go_wp2_with fail
  refine (bput_any w3 p _ _ _ _ _ us o.kb o.vb HD3.out.bf (HLK.out.sl (by have := HS.out; omega)) (HLV.out.sl (by have := HS.out; omega)) (by have := HS.out; omega) (by have := HS.out; omega) (by omega) (by omega)).mono ?_
  rintro e w4 hsd
  obtain ⟨lv4, uv4, l4, u4, rfl, hb4, hr4, f4, hl4, hnext⟩ := HD3.out.said HB0.out rfl hsd
  have hnb : ∀ k, w.heap.size ≤ k → ¬ DzB p lv uv l us g sv L b V R k := fun k hk e => by have := (HD.out.b3 k e).1; omega
  have HNB := Lib.hid hnb; have F4 := Lib.hid f4; have HN4 := Lib.hid hnext; have HB4 := Lib.hid hb4; have HR4 := Lib.hid hr4
  have f04 : Fr no w0 w4 := (H0.out.trans F3.out (fun _ _ h => h)).trans f4 (fun k hk e => by have := (HD.out.b3 k (.inl e)).2.1; omega)
  have F04 := Lib.hid f04
  clear hsd hb4 hr4 hnext hnb f04 c0 c1 c2 c3 c4 ql
  obtain ⟨c0, c1, c2, c3, c4, ql⟩ := five_cells (f4.heap (F13.out.heap HN.out (fun h => h)) (fun e => HNB.out q8 HQ8.out (.inl e)))
  clear f4
  go_wp2_with fail
  refine (rput_any w4 g sv _ _ L o.kb o.vb HR4.out (HK.out.kept0 F04.out) (HV.out.kept0 F04.out) (by have := HS.out; omega) (by have := HS.out; omega) (by have := HD.out.sy.1; omega)).mono ?_
  rintro e wz hrs
  obtain ⟨rfl, svz, yz, hdz, f5, hbz⟩ := HN4.out w4 (Fr.refl _ _) wz e hrs
  have hfz : Fr (DzB p lv uv l us g sv L b V R) w3 wz := (F4.out.mono (fun _ _ h => .inl h)).trans f5 (fun _ _ h => .inr (.inl h))
  have DZ := Lib.hid hdz; have FZ := Lib.hid hfz; have BZ := Lib.hid hbz
  have hus : (u4 :: us).length ≤ us.length + 1 := Nat.le_refl _
  have hRz : ∀ i, (R i).length ≤ (R i).length + 6 := fun i => Nat.le_add_right _ _
  have HUS := Lib.hid hus; have HRZ := Lib.hid hRz
  clear hrs hdz f5 hbz hfz hus hRz c0 c1 c2 c3 c4 ql
  generalize L ++ [yz] = Lz at DZ BZ
  generalize u4 :: us = usz at DZ BZ HUS
  have f0z : Fr no w0 wz := (H0.out.trans F3.out (fun _ _ h => h)).trans FZ.out (fun k hk e => by have := (HD.out.b3 k e).2.1; omega)
  have F0Z := Lib.hid f0z
  have LKZ := Lib.hid (HLK.out.kept FZ.out (HNB.out gk HNE.out.2.1)); have LVZ := Lib.hid (HLV.out.kept FZ.out (HNB.out gv HNE.out.2.2))
  have hboxz := FZ.out.heap (F13.out.heap HN.out (fun h => h)) (HNB.out q8 HQ8.out)
  have HBX := Lib.hid hboxz
  clear f0z
  obtain ⟨c0, c1, c2, c3, c4, ql⟩ := five_cells hboxz
  clear hboxz
  go_wp2_with fail
  refine (whole_lent wz gk (.slice KA o.kb.length kc) o.kb o.kb LKZ.out (HK.out.kept0 F0Z.out) (by have := HS.out; omega) (by have := HS.out; omega)).mono ?_
  rintro e wa ⟨rfl, n1, rfl⟩
  rw [decide_eq_true rfl]
  clear c0 c1 c2 c3 c4 ql
  have hdr : Fr no wz (wz.drewN n1) := Fr.drewN _ _ _
  obtain ⟨c0, c1, c2, c3, c4, ql⟩ := five_cells (hdr.heap HBX.out (fun h => h))
  go_wp2_with fail
  refine (whole_lent (wz.drewN n1) gv (.slice VA o.vb.length vc) o.vb o.vb (LVZ.out.kept hdr (fun h => h)) ((HV.out.kept0 F0Z.out).kept0 hdr) (by have := HS.out; omega) (by have := HS.out; omega)).mono ?_
  rintro e wa ⟨rfl, n2, rfl⟩
  rw [decide_eq_true rfl]
  have hdr2 : Fr no wz ((wz.drewN n1).drewN n2) := hdr.moreN n2
  generalize (wz.drewN n1).drewN n2 = wb at hdr2 ⊢
  have FB := Lib.hid hdr2
  clear c0 c1 c2 c3 c4 ql hdr hdr2
  go_wp2_with fail
  refine (spoil_lent wb gk o.kb (LKZ.out.kept FB.out (fun h => h)) (by have := HS.out; omega)).mono ?_
  rintro e wc ⟨rfl, fc⟩
  have FC := Lib.hid fc; clear fc
  go_wp2_with fail
  refine (spoil_lent wc gv o.vb ((LVZ.out.kept FB.out (fun h => h)).kept FC.out (fun e => HNE.out.1 e.symm)) (by have := HS.out; omega)).mono ?_
  rintro e wd ⟨rfl, fd⟩
  have fbd : Fr (fun k => k = gk ∨ k = gv) wb wd := (FC.out.mono (fun _ _ h => .inl h)).trans fd (fun _ _ h => .inr h)
  have hdd := (DZ.out.kept0 FB.out).kept fbd (fun k hk e => by
    have h3 := HNE.out; have h4 := HG3.out
    rcases BZ.out k hk with h1 | h1
    · exact HNB.out k (by rcases e with e | e <;> omega) h1
    · rcases e with e | e <;> omega)
  have ftot : Fr (DzS w0.heap.size U) w wd := by
    have h5 := HD.out.ul
    refine (((F3.out.mono (fun _ _ h => h.elim)).trans FZ.out (fun k _ e => (HD.out.b3 k e).2)).trans FB.out (fun _ _ h => h.elim)).trans fbd (fun k hk e => ?_)
    have := HNE.out; rcases e with e | e <;> omega
  have DD := Lib.hid hdd; have FT := Lib.hid ftot
  clear fd fbd hdd ftot
  obtain ⟨b0, bz, bl⟩ := one_cell DD.out.rf.at_
  obtain ⟨SA, sc, hsv, _, _⟩ := DD.out.rf.row.form
  rw [hsv] at b0
  have HSV := Lib.hid hsv; clear hsv
  have e10 : ∀ n m : Nat, n = m → ((n : Int) == (m : Int)) = true := fun n m h => by simp [h]
  have e11 := e10 _ _ (by have := congrArg List.length DD.out.sy.now; simpa using this)
  have e12 := e10 _ _ DD.out.sy.1
  clear e10
  go_wp2_with fail
  refine wp_region_ord [0, 1, 2, 3, 4, 5, 7, 6, 8, 9, 10, 11, 12, 13, 15, 16, 17, 18, 19, 14, 20, 21, 22] (fun i => [Kd.p, Kd.p, Kd.p, Kd.p, Kd.p, Kd.p, Kd.e, Kd.p, Kd.e, Kd.p, Kd.p, Kd.p, Kd.p, Kd.p, Kd.g, Kd.p, Kd.p, Kd.p, Kd.l, Kd.p, Kd.p, Kd.p, Kd.p].getD i .e) (by kernel_rfl) (by kernel_rfl) ?_
  iterate 7
    first | (refine wpX_un rfl rfl ?_; go_simp) | first | refine wpX_pu rfl rfl rfl (by first | exact pu_move rfl | exact pu_assign rfl | exact pu_nilCheck rfl rfl | exact pu_binInt rfl rfl rfl | exact pu_conv rfl rfl (by kernel_rfl) | exact pu_fld rfl (by kernel_rfl) | exact pu_ix rfl rfl rfl (by kernel_rfl) | exact pu_unOp rfl | exact pu_binStr rfl rfl rfl | exact pu_len rfl rfl | exact pu_lens rfl rfl | exact pu_pick rfl | exact pu_slice rfl rfl) (fun K hK => ?_) | refine wpX_rd rfl rfl rfl (rd_load rfl) (fun K hK => ?_) | refine wpX_gr rfl rfl rfl (by first | exact gr_buildSlice rfl | exact gr_box rfl | exact gr_alloc rfl) (fun K hK => ?_) | refine wpX_ex rfl rfl rfl (fun K hK => ?_)
    try go_wp2
  refine wpX_ex rfl rfl rfl (fun K hK => ?_)
  go_wp2_with fail
  refine (blen_any wd.drew p _ _ _ _ (DD.out.kept0 (Fr.drew (Fr.refl no _))).bf).mono ?_
  rintro e we ⟨rfl, rfl⟩
  go_wp2_with fail
  refine wpX_ex rfl rfl rfl (fun K hK => ?_)
  go_wp2_with fail
  refine (rchanges_any wd.drew g _ _ (DD.out.kept0 (Fr.drew (Fr.refl no _))).rf (by have h1 := DD.out.sy.1; have h2 := HUS.out; omega)).mono ?_
  rintro e we ⟨ovc, rfl, h1, h2, fe⟩
  obtain ⟨CA, cc, rfl, _, _⟩ := h1.form
  have hdw := DD.out.kept0 ((Fr.drew (Fr.refl no wd)).trans fe (fun _ _ h => h))
  have FE := Lib.hid ((Fr.drew (Fr.refl no wd)).trans fe (fun _ _ h => h)); have DW := Lib.hid hdw
  obtain ⟨b0', bz', bl'⟩ := one_cell hdw.rf.at_
  rw [HSV.out] at b0'
  clear h1 h2 fe hdw b0 bz bl
  go_wp2_with fail
  iterate 10
    first | (refine wpX_un rfl rfl ?_; go_simp) | first | refine wpX_pu rfl rfl rfl (by first | exact pu_move rfl | exact pu_assign rfl | exact pu_nilCheck rfl rfl | exact pu_binInt rfl rfl rfl | exact pu_conv rfl rfl (by kernel_rfl) | exact pu_fld rfl (by kernel_rfl) | exact pu_ix rfl rfl rfl (by kernel_rfl) | exact pu_unOp rfl | exact pu_binStr rfl rfl rfl | exact pu_len rfl rfl | exact pu_lens rfl rfl | exact pu_pick rfl | exact pu_slice rfl rfl) (fun K hK => ?_) | refine wpX_rd rfl rfl rfl (rd_load rfl) (fun K hK => ?_) | refine wpX_gr rfl rfl rfl (by first | exact gr_buildSlice rfl | exact gr_box rfl | exact gr_alloc rfl) (fun K hK => ?_) | refine wpX_ex rfl rfl rfl (fun K hK => ?_)
    try go_wp2
  refine wpX_ca rfl rfl rfl (fun K hK => ?_)
  go_wp2_with fail
  refine (bmark_any we p _ _ _ _ DW.out.bf).mono ?_
  rintro e wf ⟨rfl, rfl⟩
  go_wp2_with fail
  refine ⟨⟨#[], _, (World.ext_self _).symm⟩, hK _ _ ?_⟩
  clear hK K
  iterate 3
    first | (refine wpX_un rfl rfl ?_; go_simp) | first | refine wpX_pu rfl rfl rfl (by first | exact pu_move rfl | exact pu_assign rfl | exact pu_nilCheck rfl rfl | exact pu_binInt rfl rfl rfl | exact pu_conv rfl rfl (by kernel_rfl) | exact pu_fld rfl (by kernel_rfl) | exact pu_ix rfl rfl rfl (by kernel_rfl) | exact pu_unOp rfl | exact pu_binStr rfl rfl rfl | exact pu_len rfl rfl | exact pu_lens rfl rfl | exact pu_pick rfl | exact pu_slice rfl rfl) (fun K hK => ?_) | refine wpX_rd rfl rfl rfl (rd_load rfl) (fun K hK => ?_) | refine wpX_gr rfl rfl rfl (by first | exact gr_buildSlice rfl | exact gr_box rfl | exact gr_alloc rfl) (fun K hK => ?_) | refine wpX_ex rfl rfl rfl (fun K hK => ?_)
    try go_wp2
  refine wpX_done ?_
  go_wp2
  go_ret
  exact ⟨rfl, _, _, _, _, _, _, _, _, DW.out, FT.out.trans FE.out (fun _ _ h => h.elim), HUS.out, HRZ.out⟩
end Go.Proofs.Ytdnohhlgaaihmaa

/- law16: a call of a buffer, and of the document's: kind 1. (printed by mkdoes.py) -/
namespace Go.Proofs.Ytdnohhlgaaihmaa
open Go.RowKit

set_option maxRecDepth 100000 in
set_option maxHeartbeats 16000000 in
theorem does_put1 (w0 w : World) (p g b : Nat) (lv uv sv ov : Value) (l L : List SpV) (us : List Und) (V : Nat → Value) (R : Nat → List Value) (U : Nat → Prop) (pr : List PrV) (o : OpB) (h0 : Fr no w0 w) (hd : Dz w p lv uv l us g sv L b V R U w0.heap.size)
    (hu : Pairs w ov pr) (hU : ∀ k, (ov.ownBlock = some k ∨ ∃ y ∈ pr, y.K.ownBlock = some k ∨ y.V.ownBlock = some k) → U k) (hRi : RisP pr) (_hpr : pr.length ≤ 200) (ho : o.Good w0) (hs : o.kb.length ≤ 30000 ∧ o.vb.length ≤ 30000) (hl : us.length ≤ 1000) (hR : ∀ i, (R i).length ≤ 50000) (hk : o.k % 8 = 1) :
    Calls Try.prog 34 #[.pointer (some ⟨p, 0, none⟩), .pointer (some ⟨g, 0, none⟩), ov, .agg #[.int .u8 o.k, o.K, o.V, .bool o.i, .int .i64 o.n], .pointer (some ⟨b, 0, none⟩)] w fun e w' => DoesP w w' p us g b R U w0.heap.size e := by
  obtain ⟨KA, kc, hKf, _, _⟩ := ho.K.form
  obtain ⟨VA, vc, hVf, _, _⟩ := ho.V.form
  obtain ⟨OA, oc, rfl, _, _⟩ := hu.sl.form
  have hlen := hd.len
  have hk256 := ho.k
  have hn0 := ho.n0; have hn1 := ho.n1
  have hoK := hKf ▸ ho.K; have hoV := hVf ▸ ho.V
  rw [hKf, hVf]
  have ek : (o.k : Int) % 8 = 1 := by omega
  have hk0 : (0 : Int) ≤ (o.k : Int) := by omega
  have H0 := Lib.hid h0; have HD := Lib.hid hd; have HU := Lib.hid hu; have HUU := Lib.hid hU; have HRI := Lib.hid hRi; have HK := Lib.hid hoK; have HV := Lib.hid hoV; have HS := Lib.hid hs; have HR := Lib.hid hR
  clear h0 hd hu hU hRi hoK hoV hs hR hKf hVf ho hk
  obtain ⟨w00, hw00⟩ : ∃ w00 : World, w00 = w := ⟨_, rfl⟩
  go_enter Try.func34, Try.ntmps34
  go_wp2_with fail
  have hN := heap_alloc_new w (.cells #[.int .u8 o.k, .slice KA o.kb.length kc, .slice VA o.vb.length vc, .bool o.i, .int .i64 o.n] 54)
  have hf := (Fr.refl no w).alloc (.cells #[.int .u8 o.k, .slice KA o.kb.length kc, .slice VA o.vb.length vc, .bool o.i, .int .i64 o.n] 54)
  generalize hq8 : w.heap.size = q8 at hN ⊢
  generalize w.alloc (.cells #[.int .u8 o.k, .slice KA o.kb.length kc, .slice VA o.vb.length vc, .bool o.i, .int .i64 o.n] 54) = w1 at hN hf ⊢
  have hq8' := Nat.le_of_eq hq8
  have HN := Lib.hid hN; have F1 := Lib.hid hf; have HQ8 := Lib.hid hq8'; clear hN hf hq8 hq8'
  obtain ⟨c0, c1, c2, c3, c4, ql⟩ := five_cells HN.out
  refine wp_region_ord [0, 1, 3, 4, 2, 5, 6, 7] (fun i => [Kd.p, Kd.l, Kd.g, Kd.p, Kd.l, Kd.e, Kd.p, Kd.p].getD i .e) (by kernel_rfl) (by kernel_rfl) ?_
  iterate 4
    first | refine wpX_pu rfl rfl rfl (by first | exact pu_move rfl | exact pu_assign rfl | exact pu_nilCheck rfl rfl | exact pu_binInt rfl rfl rfl | exact pu_conv rfl rfl (by kernel_rfl) | exact pu_fld rfl (by kernel_rfl) | exact pu_ix rfl rfl rfl (by kernel_rfl) | exact pu_unOp rfl | exact pu_binStr rfl rfl rfl | exact pu_len rfl rfl | exact pu_lens rfl rfl | exact pu_pick rfl | exact pu_slice rfl rfl) (fun K hK => ?_) | refine wpX_rd rfl rfl rfl (rd_load rfl) (fun K hK => ?_) | refine wpX_gr rfl rfl rfl (by first | exact gr_buildSlice rfl | exact gr_box rfl | exact gr_alloc rfl) (fun K hK => ?_) | refine wpX_ex rfl rfl rfl (fun K hK => ?_)
    try go_wp2
  refine wpX_ca rfl rfl rfl (fun K hK => ?_)
  go_wp2_with fail
  refine (lent_any _ (.slice KA o.kb.length kc) o.kb ((HK.out.kept0 (H0.out.trans F1.out (fun _ _ h => h))).kept0 (Fr.drew (Fr.refl no _))) (by have := HS.out; omega)).mono ?_
  rintro e w2 ⟨gk, rfl, hgk, hLk, f2⟩
  have hgk : w1.heap.size ≤ gk := hgk
  have hx2 := f2.ext
  have f12 := (Fr.drew (Fr.refl no w1)).trans f2 (fun _ _ h => h)
  have F2 := Lib.hid (F1.out.trans f12 (fun _ _ h => h)); have F12 := Lib.hid f12; have HLK := Lib.hid hLk; have HGK := Lib.hid hgk; have HX2 := Lib.hid hx2
  clear f2 f12 hLk hgk hx2 c0 c1 c2 c3 c4 ql
  refine ⟨?_, hK _ _ ?_⟩
  · obtain ⟨⟨xa, xb⟩, hext⟩ := HX2.out; exact ⟨xa, xb, hext⟩
  clear hK K HX2
  have hgkl : gk < w2.heap.size := (Array.getElem?_eq_some_iff.1 HLK.out).1
  have HGL := Lib.hid hgkl; clear hgkl
  refine wpX_ex rfl rfl rfl (fun K hK => ?_)
  go_wp2_with fail
  refine (lent_any _ (.slice VA o.vb.length vc) o.vb (HV.out.kept0 (H0.out.trans F2.out (fun _ _ h => h))) (by have := HS.out; omega)).mono ?_
  rintro e w3 ⟨gv, rfl, hgv, hLv, f3⟩
  have hne : gk ≠ gv ∧ w.heap.size ≤ gk ∧ w.heap.size ≤ gv := by have := HGL.out; have := HGK.out; have := F1.out.size; have := F12.out.size; omega
  have F3 := Lib.hid (F2.out.trans f3 (fun _ _ h => h)); have F13 := Lib.hid (F12.out.trans f3 (fun _ _ h => h)); have HLK := Lib.hid (HLK.out.kept f3 (fun h => h)); have HLV := Lib.hid hLv; have HNE := Lib.hid hne; have hg3 : gk < w3.heap.size ∧ gv < w3.heap.size := ⟨by have := f3.size; have := HGL.out; omega, (Array.getElem?_eq_some_iff.1 HLV.out).1⟩; have HG3 := Lib.hid hg3; clear hg3
  clear f3 hgv hLv hgk HGL HGK hne
  go_wp2_with fail
  iterate 2
    first | refine wpX_pu rfl rfl rfl (by first | exact pu_move rfl | exact pu_assign rfl | exact pu_nilCheck rfl rfl | exact pu_binInt rfl rfl rfl | exact pu_conv rfl rfl (by kernel_rfl) | exact pu_fld rfl (by kernel_rfl) | exact pu_ix rfl rfl rfl (by kernel_rfl) | exact pu_unOp rfl | exact pu_binStr rfl rfl rfl | exact pu_len rfl rfl | exact pu_lens rfl rfl | exact pu_pick rfl | exact pu_slice rfl rfl) (fun K hK => ?_) | refine wpX_rd rfl rfl rfl (rd_load rfl) (fun K hK => ?_) | refine wpX_gr rfl rfl rfl (by first | exact gr_buildSlice rfl | exact gr_box rfl | exact gr_alloc rfl) (fun K hK => ?_) | refine wpX_ex rfl rfl rfl (fun K hK => ?_)
    try go_wp2
  refine wpX_done ?_
  obtain ⟨c0, c1, c2, c3, c4, ql⟩ := five_cells (F13.out.heap HN.out (fun h => h))
  have HD3 := Lib.hid (HD.out.kept0 F3.out)
  have hb0 : w0.heap.size ≤ w3.heap.size := by have := H0.out.size; have := F3.out.size; omega
  have HB0 := Lib.hid hb0; clear hb0
  go_wp2_with fail
  refine (bput_any w3 p _ _ _ _ _ us o.kb o.vb HD3.out.bf (HLK.out.sl (by have := HS.out; omega)) (HLV.out.sl (by have := HS.out; omega)) (by have := HS.out; omega) (by have := HS.out; omega) (by omega) (by omega)).mono ?_
  rintro e w4 hsd
  obtain ⟨lv4, uv4, l4, u4, rfl, hb4, hr4, f4, hl4, hnext⟩ := HD3.out.said HB0.out rfl hsd
  have hnb : ∀ k, w.heap.size ≤ k → ¬ DzB p lv uv l us g sv L b V R k := fun k hk e => by have := (HD.out.b3 k e).1; omega
  have HNB := Lib.hid hnb; have F4 := Lib.hid f4; have HN4 := Lib.hid hnext; have HB4 := Lib.hid hb4; have HR4 := Lib.hid hr4
  have f04 : Fr no w0 w4 := (H0.out.trans F3.out (fun _ _ h => h)).trans f4 (fun k hk e => by have := (HD.out.b3 k (.inl e)).2.1; omega)
  have F04 := Lib.hid f04
  clear hsd hb4 hr4 hnext hnb f04 c0 c1 c2 c3 c4 ql
  obtain ⟨c0, c1, c2, c3, c4, ql⟩ := five_cells (f4.heap (F13.out.heap HN.out (fun h => h)) (fun e => HNB.out q8 HQ8.out (.inl e)))
  clear f4
  go_wp2_with fail
  refine (rput_any w4 g sv _ _ L o.kb o.vb HR4.out (HK.out.kept0 F04.out) (HV.out.kept0 F04.out) (by have := HS.out; omega) (by have := HS.out; omega) (by have := HD.out.sy.1; omega)).mono ?_
  rintro e wz hrs
  obtain ⟨rfl, svz, yz, hdz, f5, hbz⟩ := HN4.out w4 (Fr.refl _ _) wz e hrs
  have hfz : Fr (DzB p lv uv l us g sv L b V R) w3 wz := (F4.out.mono (fun _ _ h => .inl h)).trans f5 (fun _ _ h => .inr (.inl h))
  have DZ := Lib.hid hdz; have FZ := Lib.hid hfz; have BZ := Lib.hid hbz
  have hus : (u4 :: us).length ≤ us.length + 1 := Nat.le_refl _
  have hRz : ∀ i, (R i).length ≤ (R i).length + 6 := fun i => Nat.le_add_right _ _
  have HUS := Lib.hid hus; have HRZ := Lib.hid hRz
  clear hrs hdz f5 hbz hfz hus hRz c0 c1 c2 c3 c4 ql
  generalize L ++ [yz] = Lz at DZ BZ
  generalize u4 :: us = usz at DZ BZ HUS
  have f0z : Fr no w0 wz := (H0.out.trans F3.out (fun _ _ h => h)).trans FZ.out (fun k hk e => by have := (HD.out.b3 k e).2.1; omega)
  have F0Z := Lib.hid f0z
  have LKZ := Lib.hid (HLK.out.kept FZ.out (HNB.out gk HNE.out.2.1)); have LVZ := Lib.hid (HLV.out.kept FZ.out (HNB.out gv HNE.out.2.2))
  have hboxz := FZ.out.heap (F13.out.heap HN.out (fun h => h)) (HNB.out q8 HQ8.out)
  have HBX := Lib.hid hboxz
  clear f0z
  obtain ⟨c0, c1, c2, c3, c4, ql⟩ := five_cells hboxz
  clear hboxz
  go_wp2_with fail
  refine (whole_lent wz gk (.slice KA o.kb.length kc) o.kb o.kb LKZ.out (HK.out.kept0 F0Z.out) (by have := HS.out; omega) (by have := HS.out; omega)).mono ?_
  rintro e wa ⟨rfl, n1, rfl⟩
  rw [decide_eq_true rfl]
  clear c0 c1 c2 c3 c4 ql
  have hdr : Fr no wz (wz.drewN n1) := Fr.drewN _ _ _
  obtain ⟨c0, c1, c2, c3, c4, ql⟩ := five_cells (hdr.heap HBX.out (fun h => h))
  go_wp2_with fail
  refine (whole_lent (wz.drewN n1) gv (.slice VA o.vb.length vc) o.vb o.vb (LVZ.out.kept hdr (fun h => h)) ((HV.out.kept0 F0Z.out).kept0 hdr) (by have := HS.out; omega) (by have := HS.out; omega)).mono ?_
  rintro e wa ⟨rfl, n2, rfl⟩
  rw [decide_eq_true rfl]
  have hdr2 : Fr no wz ((wz.drewN n1).drewN n2) := hdr.moreN n2
  generalize (wz.drewN n1).drewN n2 = wb at hdr2 ⊢
  have FB := Lib.hid hdr2
  clear c0 c1 c2 c3 c4 ql hdr hdr2
  go_wp2_with fail
  refine (spoil_lent wb gk o.kb (LKZ.out.kept FB.out (fun h => h)) (by have := HS.out; omega)).mono ?_
  rintro e wc ⟨rfl, fc⟩
  have FC := Lib.hid fc; clear fc
  go_wp2_with fail
  refine (spoil_lent wc gv o.vb ((LVZ.out.kept FB.out (fun h => h)).kept FC.out (fun e => HNE.out.1 e.symm)) (by have := HS.out; omega)).mono ?_
  rintro e wd ⟨rfl, fd⟩
  have fbd : Fr (fun k => k = gk ∨ k = gv) wb wd := (FC.out.mono (fun _ _ h => .inl h)).trans fd (fun _ _ h => .inr h)
  have hdd := (DZ.out.kept0 FB.out).kept fbd (fun k hk e => by
    have h3 := HNE.out; have h4 := HG3.out
    rcases BZ.out k hk with h1 | h1
    · exact HNB.out k (by rcases e with e | e <;> omega) h1
    · rcases e with e | e <;> omega)
  have ftot : Fr (DzS w0.heap.size U) w wd := by
    have h5 := HD.out.ul
    refine (((F3.out.mono (fun _ _ h => h.elim)).trans FZ.out (fun k _ e => (HD.out.b3 k e).2)).trans FB.out (fun _ _ h => h.elim)).trans fbd (fun k hk e => ?_)
    have := HNE.out; rcases e with e | e <;> omega
  have DD := Lib.hid hdd; have FT := Lib.hid ftot
  clear fd fbd hdd ftot
  obtain ⟨b0, bz, bl⟩ := one_cell DD.out.rf.at_
  obtain ⟨SA, sc, hsv, _, _⟩ := DD.out.rf.row.form
  rw [hsv] at b0
  have HSV := Lib.hid hsv; clear hsv
  have e10 : ∀ n m : Nat, n = m → ((n : Int) == (m : Int)) = true := fun n m h => by simp [h]
  have e11 := e10 _ _ (by have := congrArg List.length DD.out.sy.now; simpa using this)
  have e12 := e10 _ _ DD.out.sy.1
  clear e10
  go_wp2_with fail
  refine wp_region_ord [0, 1, 2, 3, 4, 5, 7, 6, 8, 9, 10, 11, 12, 13, 15, 16, 17, 18, 19, 14, 20, 21, 22] (fun i => [Kd.p, Kd.p, Kd.p, Kd.p, Kd.p, Kd.p, Kd.e, Kd.p, Kd.e, Kd.p, Kd.p, Kd.p, Kd.p, Kd.p, Kd.g, Kd.p, Kd.p, Kd.p, Kd.l, Kd.p, Kd.p, Kd.p, Kd.p].getD i .e) (by kernel_rfl) (by kernel_rfl) ?_
  iterate 7
    first | (refine wpX_un rfl rfl ?_; go_simp) | first | refine wpX_pu rfl rfl rfl (by first | exact pu_move rfl | exact pu_assign rfl | exact pu_nilCheck rfl rfl | exact pu_binInt rfl rfl rfl | exact pu_conv rfl rfl (by kernel_rfl) | exact pu_fld rfl (by kernel_rfl) | exact pu_ix rfl rfl rfl (by kernel_rfl) | exact pu_unOp rfl | exact pu_binStr rfl rfl rfl | exact pu_len rfl rfl | exact pu_lens rfl rfl | exact pu_pick rfl | exact pu_slice rfl rfl) (fun K hK => ?_) | refine wpX_rd rfl rfl rfl (rd_load rfl) (fun K hK => ?_) | refine wpX_gr rfl rfl rfl (by first | exact gr_buildSlice rfl | exact gr_box rfl | exact gr_alloc rfl) (fun K hK => ?_) | refine wpX_ex rfl rfl rfl (fun K hK => ?_)
    try go_wp2
  refine wpX_ex rfl rfl rfl (fun K hK => ?_)
  go_wp2_with fail
  refine (blen_any wd.drew p _ _ _ _ (DD.out.kept0 (Fr.drew (Fr.refl no _))).bf).mono ?_
  rintro e we ⟨rfl, rfl⟩
  go_wp2_with fail
  refine wpX_ex rfl rfl rfl (fun K hK => ?_)
  go_wp2_with fail
  refine (rchanges_any wd.drew g _ _ (DD.out.kept0 (Fr.drew (Fr.refl no _))).rf (by have h1 := DD.out.sy.1; have h2 := HUS.out; omega)).mono ?_
  rintro e we ⟨ovc, rfl, h1, h2, fe⟩
  obtain ⟨CA, cc, rfl, _, _⟩ := h1.form
  have hdw := DD.out.kept0 ((Fr.drew (Fr.refl no wd)).trans fe (fun _ _ h => h))
  have FE := Lib.hid ((Fr.drew (Fr.refl no wd)).trans fe (fun _ _ h => h)); have DW := Lib.hid hdw
  obtain ⟨b0', bz', bl'⟩ := one_cell hdw.rf.at_
  rw [HSV.out] at b0'
  clear h1 h2 fe hdw b0 bz bl
  go_wp2_with fail
  iterate 10
    first | (refine wpX_un rfl rfl ?_; go_simp) | first | refine wpX_pu rfl rfl rfl (by first | exact pu_move rfl | exact pu_assign rfl | exact pu_nilCheck rfl rfl | exact pu_binInt rfl rfl rfl | exact pu_conv rfl rfl (by kernel_rfl) | exact pu_fld rfl (by kernel_rfl) | exact pu_ix rfl rfl rfl (by kernel_rfl) | exact pu_unOp rfl | exact pu_binStr rfl rfl rfl | exact pu_len rfl rfl | exact pu_lens rfl rfl | exact pu_pick rfl | exact pu_slice rfl rfl) (fun K hK => ?_) | refine wpX_rd rfl rfl rfl (rd_load rfl) (fun K hK => ?_) | refine wpX_gr rfl rfl rfl (by first | exact gr_buildSlice rfl | exact gr_box rfl | exact gr_alloc rfl) (fun K hK => ?_) | refine wpX_ex rfl rfl rfl (fun K hK => ?_)
    try go_wp2
  refine wpX_ca rfl rfl rfl (fun K hK => ?_)
  go_wp2_with fail
  refine (bmark_any we p _ _ _ _ DW.out.bf).mono ?_
  rintro e wf ⟨rfl, rfl⟩
  go_wp2_with fail
  refine ⟨⟨#[], _, (World.ext_self _).symm⟩, hK _ _ ?_⟩
  clear hK K
  iterate 3
    first | (refine wpX_un rfl rfl ?_; go_simp) | first | refine wpX_pu rfl rfl rfl (by first | exact pu_move rfl | exact pu_assign rfl | exact pu_nilCheck rfl rfl | exact pu_binInt rfl rfl rfl | exact pu_conv rfl rfl (by kernel_rfl) | exact pu_fld rfl (by kernel_rfl) | exact pu_ix rfl rfl rfl (by kernel_rfl) | exact pu_unOp rfl | exact pu_binStr rfl rfl rfl | exact pu_len rfl rfl | exact pu_lens rfl rfl | exact pu_pick rfl | exact pu_slice rfl rfl) (fun K hK => ?_) | refine wpX_rd rfl rfl rfl (rd_load rfl) (fun K hK => ?_) | refine wpX_gr rfl rfl rfl (by first | exact gr_buildSlice rfl | exact gr_box rfl | exact gr_alloc rfl) (fun K hK => ?_) | refine wpX_ex rfl rfl rfl (fun K hK => ?_)
    try go_wp2
  refine wpX_done ?_
  go_wp2
  go_ret
  exact ⟨rfl, _, _, _, _, _, _, _, _, DW.out, FT.out.trans FE.out (fun _ _ h => h.elim), HUS.out, HRZ.out⟩
end Go.Proofs.Ytdnohhlgaaihmaa
