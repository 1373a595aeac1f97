import Derived.Test.YtdnohhlgaaihmaaMd35

/- law16: a call of a buffer, and of the document's: kind 6. (printed by mkdoes.py) -/
namespace Go.Proofs.Ytdnohhlgaaihmaa
open Go.RowKit

set_option maxRecDepth 100000 in
set_option maxHeartbeats 16000000 in
theorem does_back (w0 w : World) (p g b : Nat) (lv uv sv ov : Value) (l L : List SpV) (us : List Und) (V : Nat → Value) (R : Nat → List Value) (U : Nat → Prop) (pr : List PrV) (o : OpB) (h0 : Fr no w0 w) (hd : Dz w p lv uv l us g sv L b V R U w0.heap.size)
    (hu : Pairs w ov pr) (hU : ∀ k, (ov.ownBlock = some k ∨ ∃ y ∈ pr, y.K.ownBlock = some k ∨ y.V.ownBlock = some k) → U k) (hRi : RisP pr) (_hpr : pr.length ≤ 200) (ho : o.Good w0) (hs : o.kb.length ≤ 30000 ∧ o.vb.length ≤ 30000) (hl : us.length ≤ 1000) (hR : ∀ i, (R i).length ≤ 50000) (hk : o.k % 8 = 6) :
    Calls Try.prog 34 #[.pointer (some ⟨p, 0, none⟩), .pointer (some ⟨g, 0, none⟩), ov, .agg #[.int .u8 o.k, o.K, o.V, .bool o.i, .int .i64 o.n], .pointer (some ⟨b, 0, none⟩)] w fun e w' => DoesP w w' p us g b R U w0.heap.size e := by
  obtain ⟨KA, kc, hKf, _, _⟩ := ho.K.form
  obtain ⟨VA, vc, hVf, _, _⟩ := ho.V.form
  obtain ⟨OA, oc, rfl, _, _⟩ := hu.sl.form
  have hlen := hd.len
  have hk256 := ho.k
  have hn0 := ho.n0; have hn1 := ho.n1
  have hoK := hKf ▸ ho.K; have hoV := hVf ▸ ho.V
  rw [hKf, hVf]
  have ek : (o.k : Int) % 8 = 6 := by omega
  have hk0 : (0 : Int) ≤ (o.k : Int) := by omega
  have H0 := Lib.hid h0; have HD := Lib.hid hd; have HU := Lib.hid hu; have HUU := Lib.hid hU; have HRI := Lib.hid hRi; have HK := Lib.hid hoK; have HV := Lib.hid hoV; have HS := Lib.hid hs; have HR := Lib.hid hR
  clear h0 hd hu hU hRi hoK hoV hs hR hKf hVf ho hk
  obtain ⟨w00, hw00⟩ : ∃ w00 : World, w00 = w := ⟨_, rfl⟩
  go_enter Try.func34, Try.ntmps34
  go_wp2_with fail
  have hN := heap_alloc_new w (.cells #[.int .u8 o.k, .slice KA o.kb.length kc, .slice VA o.vb.length vc, .bool o.i, .int .i64 o.n] 54)
  have hf := (Fr.refl no w).alloc (.cells #[.int .u8 o.k, .slice KA o.kb.length kc, .slice VA o.vb.length vc, .bool o.i, .int .i64 o.n] 54)
  generalize hq8 : w.heap.size = q8 at hN ⊢
  generalize w.alloc (.cells #[.int .u8 o.k, .slice KA o.kb.length kc, .slice VA o.vb.length vc, .bool o.i, .int .i64 o.n] 54) = w1 at hN hf ⊢
  have hq8' := Nat.le_of_eq hq8
  have HN := Lib.hid hN; have F1 := Lib.hid hf; have HQ8 := Lib.hid hq8'; clear hN hf hq8 hq8'
  obtain ⟨c0, c1, c2, c3, c4, ql⟩ := five_cells HN.out
  refine wp_region_ord [0, 1, 3, 4, 2, 5, 6, 7] (fun i => [Kd.p, Kd.l, Kd.g, Kd.p, Kd.l, Kd.e, Kd.p, Kd.p].getD i .e) (by kernel_rfl) (by kernel_rfl) ?_
  iterate 4
    first | refine wpX_pu rfl rfl rfl (by first | exact pu_move rfl | exact pu_assign rfl | exact pu_nilCheck rfl rfl | exact pu_binInt rfl rfl rfl | exact pu_conv rfl rfl (by kernel_rfl) | exact pu_fld rfl (by kernel_rfl) | exact pu_ix rfl rfl rfl (by kernel_rfl) | exact pu_unOp rfl | exact pu_binStr rfl rfl rfl | exact pu_len rfl rfl | exact pu_lens rfl rfl | exact pu_pick rfl | exact pu_slice rfl rfl) (fun K hK => ?_) | refine wpX_rd rfl rfl rfl (rd_load rfl) (fun K hK => ?_) | refine wpX_gr rfl rfl rfl (by first | exact gr_buildSlice rfl | exact gr_box rfl | exact gr_alloc rfl) (fun K hK => ?_) | refine wpX_ex rfl rfl rfl (fun K hK => ?_)
    try go_wp2
  refine wpX_ca rfl rfl rfl (fun K hK => ?_)
  go_wp2_with fail
  refine (lent_any _ (.slice KA o.kb.length kc) o.kb ((HK.out.kept0 (H0.out.trans F1.out (fun _ _ h => h))).kept0 (Fr.drew (Fr.refl no _))) (by have := HS.out; omega)).mono ?_
  rintro e w2 ⟨gk, rfl, hgk, hLk, f2⟩
  have hgk : w1.heap.size ≤ gk := hgk
  have hx2 := f2.ext
  have f12 := (Fr.drew (Fr.refl no w1)).trans f2 (fun _ _ h => h)
  have F2 := Lib.hid (F1.out.trans f12 (fun _ _ h => h)); have F12 := Lib.hid f12; have HLK := Lib.hid hLk; have HGK := Lib.hid hgk; have HX2 := Lib.hid hx2
  clear f2 f12 hLk hgk hx2 c0 c1 c2 c3 c4 ql
  refine ⟨?_, hK _ _ ?_⟩
  · obtain ⟨⟨xa, xb⟩, hext⟩ := HX2.out; exact ⟨xa, xb, hext⟩
  clear hK K HX2
  have hgkl : gk < w2.heap.size := (Array.getElem?_eq_some_iff.1 HLK.out).1
  have HGL := Lib.hid hgkl; clear hgkl
  refine wpX_ex rfl rfl rfl (fun K hK => ?_)
  go_wp2_with fail
  refine (lent_any _ (.slice VA o.vb.length vc) o.vb (HV.out.kept0 (H0.out.trans F2.out (fun _ _ h => h))) (by have := HS.out; omega)).mono ?_
  rintro e w3 ⟨gv, rfl, hgv, hLv, f3⟩
  have hne : gk ≠ gv ∧ w.heap.size ≤ gk ∧ w.heap.size ≤ gv := by have := HGL.out; have := HGK.out; have := F1.out.size; have := F12.out.size; omega
  have F3 := Lib.hid (F2.out.trans f3 (fun _ _ h => h)); have F13 := Lib.hid (F12.out.trans f3 (fun _ _ h => h)); have HLK := Lib.hid (HLK.out.kept f3 (fun h => h)); have HLV := Lib.hid hLv; have HNE := Lib.hid hne; have hg3 : gk < w3.heap.size ∧ gv < w3.heap.size := ⟨by have := f3.size; have := HGL.out; omega, (Array.getElem?_eq_some_iff.1 HLV.out).1⟩; have HG3 := Lib.hid hg3; clear hg3
  clear f3 hgv hLv hgk HGL HGK hne
  go_wp2_with fail
  iterate 2
    first | refine wpX_pu rfl rfl rfl (by first | exact pu_move rfl | exact pu_assign rfl | exact pu_nilCheck rfl rfl | exact pu_binInt rfl rfl rfl | exact pu_conv rfl rfl (by kernel_rfl) | exact pu_fld rfl (by kernel_rfl) | exact pu_ix rfl rfl rfl (by kernel_rfl) | exact pu_unOp rfl | exact pu_binStr rfl rfl rfl | exact pu_len rfl rfl | exact pu_lens rfl rfl | exact pu_pick rfl | exact pu_slice rfl rfl) (fun K hK => ?_) | refine wpX_rd rfl rfl rfl (rd_load rfl) (fun K hK => ?_) | refine wpX_gr rfl rfl rfl (by first | exact gr_buildSlice rfl | exact gr_box rfl | exact gr_alloc rfl) (fun K hK => ?_) | refine wpX_ex rfl rfl rfl (fun K hK => ?_)
    try go_wp2
  refine wpX_done ?_
  obtain ⟨c0, c1, c2, c3, c4, ql⟩ := five_cells (F13.out.heap HN.out (fun h => h))
  have HD3 := Lib.hid (HD.out.kept0 F3.out)
  have hb0 : w0.heap.size ≤ w3.heap.size := by have := H0.out.size; have := F3.out.size; omega
  have HB0 := Lib.hid hb0; clear hb0
  have hnb : ∀ k, w.heap.size ≤ k → ¬ DzB p lv uv l us g sv L b V R k := fun k hk e => by have := (HD.out.b3 k e).1; omega
  have HNB := Lib.hid hnb; clear hnb
  obtain ⟨b0, bz, bl⟩ := one_cell HD3.out.rf.at_
  obtain ⟨SA, sc, hsv, _, _⟩ := HD3.out.rf.row.form
  rw [hsv] at b0
  have HSV := Lib.hid hsv; clear hsv
  have e12 : ((us.length : Int) == (L.length : Int)) = true := by simp [HD3.out.sy.1]
  have hD := Fr.drew (Fr.refl no w3)
  have HI := Lib.hid (hD.cell c4 (fun h => h)); have HDD := Lib.hid hD; clear hD
  by_cases hm : 0 ≤ o.n ∧ o.n ≤ (us.length : Int)
  · obtain ⟨m, hm0⟩ := Int.eq_ofNat_of_zero_le hm.1
    have hmu : m ≤ us.length := by omega
    have HMU := Lib.hid hmu; have HM0 := Lib.hid hm0; clear hm hm0 hmu
    go_wp2_with fail
    refine wp_region_inv (fun w' => w'.cell? ⟨q8, 4, none⟩ = some (.int .i64 o.n)) [0, 2, 3, 4, 5, 6, 1, 7, 8, 9, 10, 11, 14, 15, 16, 12, 13, 17, 18, 19, 20] (fun i => [Kd.p, Kd.g, Kd.p, Kd.p, Kd.p, Kd.l, Kd.p, Kd.p, Kd.p, Kd.p, Kd.p, Kd.l, Kd.e, Kd.p, Kd.p, Kd.p, Kd.m, Kd.e, Kd.p, Kd.p, Kd.p].getD i .e) (by kernel_rfl) (by kernel_rfl) ?_ ?_
    · exact HI.out
    iterate 6
      first | (refine wpX_un rfl rfl ?_; go_simp) | first | refine wpX_pu rfl rfl rfl (by first | exact pu_move rfl | exact pu_assign rfl | exact pu_nilCheck rfl rfl | exact pu_binInt rfl rfl rfl | exact pu_conv rfl rfl (by kernel_rfl) | exact pu_fld rfl (by kernel_rfl) | exact pu_ix rfl rfl rfl (by kernel_rfl) | exact pu_unOp rfl | exact pu_binStr rfl rfl rfl | exact pu_len rfl rfl | exact pu_lens rfl rfl | exact pu_pick rfl | exact pu_slice rfl rfl) (fun K hK => ?_) | refine wpX_rd rfl rfl rfl (rd_load rfl) (fun K hK => ?_) | refine wpX_gr rfl rfl rfl (by first | exact gr_buildSlice rfl | exact gr_box rfl | exact gr_alloc rfl) (fun K hK => ?_) | refine wpX_ex rfl rfl rfl (fun K hK => ?_)
      try go_wp2
    refine wpX_cg rfl rfl rfl (fun K hK => ?_)
    go_wp2_with fail
    refine (bmark_any w3.drew p _ _ _ _ (HD3.out.kept0 HDD.out).bf).mono ?_
    rintro e wf ⟨rfl, rfl⟩
    go_wp2_with fail
    refine ⟨⟨#[], _, (World.ext_self _).symm⟩, hK _ _ ?_⟩
    clear hK K
    iterate 7
      first | (refine wpX_un rfl rfl ?_; go_simp) | first | refine wpX_pu rfl rfl rfl (by first | exact pu_move rfl | exact pu_assign rfl | exact pu_nilCheck rfl rfl | exact pu_binInt rfl rfl rfl | exact pu_conv rfl rfl (by kernel_rfl) | exact pu_fld rfl (by kernel_rfl) | exact pu_ix rfl rfl rfl (by kernel_rfl) | exact pu_unOp rfl | exact pu_binStr rfl rfl rfl | exact pu_len rfl rfl | exact pu_lens rfl rfl | exact pu_pick rfl | exact pu_slice rfl rfl) (fun K hK => ?_) | refine wpX_rd rfl rfl rfl (rd_load rfl) (fun K hK => ?_) | refine wpX_gr rfl rfl rfl (by first | exact gr_buildSlice rfl | exact gr_box rfl | exact gr_alloc rfl) (fun K hK => ?_) | refine wpX_ex rfl rfl rfl (fun K hK => ?_)
      try go_wp2
    refine wpX_md (.int .i64 o.n) rfl rfl rfl (rd_load rfl) rfl (by simp) (fun w' hI => ?_) ?_
    · replace hI : w'.cell? ⟨q8, 4, none⟩ = some (.int .i64 o.n) := hI
      go_wp2
    go_simp
    refine wpX_es rfl rfl rfl (fun K hK => ?_)
    go_wp2_with fail
    rw [HM0.out]
    refine (back_any w3.drew p _ _ _ us m (HD3.out.kept0 HDD.out).bf HMU.out (by omega) (by omega)).mono ?_
    rintro e w4 hbk
    obtain ⟨rfl, hr4, f4, lv4, uv4, l4, us4, hl4, hu4, hnext⟩ := (HD3.out.kept0 HDD.out).back HMU.out hbk
    have hc4 := f4.cell HI.out (fun e => HNB.out q8 HQ8.out (.inl e))
    have HR4 := Lib.hid hr4; have F4 := Lib.hid f4; have HL4 := Lib.hid hl4; have HU4 := Lib.hid hu4; have HNX := Lib.hid hnext; have HC4 := Lib.hid hc4
    clear hbk hr4 f4 hl4 hu4 hnext c0 c1 c2 c3 c4 ql b0 bz bl
    go_wp2_with fail
    refine hK _ _ HC4.out ?_
    clear hK K
    first | (refine wpX_un rfl rfl ?_; go_simp) | first | refine wpX_pu rfl rfl rfl (by first | exact pu_move rfl | exact pu_assign rfl | exact pu_nilCheck rfl rfl | exact pu_binInt rfl rfl rfl | exact pu_conv rfl rfl (by kernel_rfl) | exact pu_fld rfl (by kernel_rfl) | exact pu_ix rfl rfl rfl (by kernel_rfl) | exact pu_unOp rfl | exact pu_binStr rfl rfl rfl | exact pu_len rfl rfl | exact pu_lens rfl rfl | exact pu_pick rfl | exact pu_slice rfl rfl) (fun K hK => ?_) | refine wpX_rd rfl rfl rfl (rd_load rfl) (fun K hK => ?_) | refine wpX_gr rfl rfl rfl (by first | exact gr_buildSlice rfl | exact gr_box rfl | exact gr_alloc rfl) (fun K hK => ?_) | refine wpX_ex rfl rfl rfl (fun K hK => ?_)
    try go_wp2
    refine wpX_es rfl rfl rfl (fun K hK => ?_)
    go_wp2_with fail
    refine (rback_any w4 g sv L m HR4.out (by have := HD.out.sy.1; have := HMU.out; omega)).mono ?_
    rintro e wz ⟨rfl, svz, hrz, hsz, fz⟩
    obtain ⟨hdz, hbz⟩ := HNX.out wz svz hrz hsz fz
    have hcz := fz.cell HC4.out (fun e => HNB.out q8 HQ8.out (.inr (.inl (.inl e))))
    have DZ := Lib.hid hdz; have HCZ := Lib.hid hcz
    have FZ := Lib.hid (show Fr (DzB p lv uv l us g sv L b V R) w3 wz from ((HDD.out.mono (fun _ _ h => h.elim)).trans F4.out (fun _ _ h => .inl h)).trans fz (fun k _ h => .inr (.inl (.inl h))))
    have BZ := Lib.hid (show ∀ k, DzB p lv4 uv4 l4 us4 g svz (L.take m) b V R k → DzB p lv uv l us g sv L b V R k ∨ w3.heap.size ≤ k from fun k hk => .inl (hbz k hk))
    have HUS := Lib.hid (show us4.length ≤ us.length + 1 by have := HU4.out; have := HMU.out; omega)
    have HRZ := Lib.hid (show ∀ i, (R i).length ≤ (R i).length + 6 from fun i => Nat.le_add_right _ _)
    clear hrz hsz fz hdz hbz hcz
    generalize L.take m = Lz at DZ BZ
    go_wp2_with fail
    refine hK _ _ HCZ.out ?_
    clear hK K
    iterate 3
      first | (refine wpX_un rfl rfl ?_; go_simp) | first | refine wpX_pu rfl rfl rfl (by first | exact pu_move rfl | exact pu_assign rfl | exact pu_nilCheck rfl rfl | exact pu_binInt rfl rfl rfl | exact pu_conv rfl rfl (by kernel_rfl) | exact pu_fld rfl (by kernel_rfl) | exact pu_ix rfl rfl rfl (by kernel_rfl) | exact pu_unOp rfl | exact pu_binStr rfl rfl rfl | exact pu_len rfl rfl | exact pu_lens rfl rfl | exact pu_pick rfl | exact pu_slice rfl rfl) (fun K hK => ?_) | refine wpX_rd rfl rfl rfl (rd_load rfl) (fun K hK => ?_) | refine wpX_gr rfl rfl rfl (by first | exact gr_buildSlice rfl | exact gr_box rfl | exact gr_alloc rfl) (fun K hK => ?_) | refine wpX_ex rfl rfl rfl (fun K hK => ?_)
      try go_wp2
    refine wpX_done ?_
    have f0z : Fr no w0 wz := (H0.out.trans F3.out (fun _ _ h => h)).trans FZ.out (fun k hk e => by have := (HD.out.b3 k e).2.1; omega)
    have F0Z := Lib.hid f0z
    have LKZ := Lib.hid (HLK.out.kept FZ.out (HNB.out gk HNE.out.2.1)); have LVZ := Lib.hid (HLV.out.kept FZ.out (HNB.out gv HNE.out.2.2))
    have hboxz := FZ.out.heap (F13.out.heap HN.out (fun h => h)) (HNB.out q8 HQ8.out)
    have HBX := Lib.hid hboxz
    clear f0z
    obtain ⟨c0, c1, c2, c3, c4, ql⟩ := five_cells hboxz
    clear hboxz
    go_wp2_with fail
    refine (whole_lent wz gk (.slice KA o.kb.length kc) o.kb o.kb LKZ.out (HK.out.kept0 F0Z.out) (by have := HS.out; omega) (by have := HS.out; omega)).mono ?_
    rintro e wa ⟨rfl, n1, rfl⟩
    rw [decide_eq_true rfl]
    clear c0 c1 c2 c3 c4 ql
    have hdr : Fr no wz (wz.drewN n1) := Fr.drewN _ _ _
    obtain ⟨c0, c1, c2, c3, c4, ql⟩ := five_cells (hdr.heap HBX.out (fun h => h))
    go_wp2_with fail
    refine (whole_lent (wz.drewN n1) gv (.slice VA o.vb.length vc) o.vb o.vb (LVZ.out.kept hdr (fun h => h)) ((HV.out.kept0 F0Z.out).kept0 hdr) (by have := HS.out; omega) (by have := HS.out; omega)).mono ?_
    rintro e wa ⟨rfl, n2, rfl⟩
    rw [decide_eq_true rfl]
    have hdr2 : Fr no wz ((wz.drewN n1).drewN n2) := hdr.moreN n2
    generalize (wz.drewN n1).drewN n2 = wb at hdr2 ⊢
    have FB := Lib.hid hdr2
    clear c0 c1 c2 c3 c4 ql hdr hdr2
    go_wp2_with fail
    refine (spoil_lent wb gk o.kb (LKZ.out.kept FB.out (fun h => h)) (by have := HS.out; omega)).mono ?_
    rintro e wc ⟨rfl, fc⟩
    have FC := Lib.hid fc; clear fc
    go_wp2_with fail
    refine (spoil_lent wc gv o.vb ((LVZ.out.kept FB.out (fun h => h)).kept FC.out (fun e => HNE.out.1 e.symm)) (by have := HS.out; omega)).mono ?_
    rintro e wd ⟨rfl, fd⟩
    have fbd : Fr (fun k => k = gk ∨ k = gv) wb wd := (FC.out.mono (fun _ _ h => .inl h)).trans fd (fun _ _ h => .inr h)
    have hdd := (DZ.out.kept0 FB.out).kept fbd (fun k hk e => by
      have h3 := HNE.out; have h4 := HG3.out
      rcases BZ.out k hk with h1 | h1
      · exact HNB.out k (by rcases e with e | e <;> omega) h1
      · rcases e with e | e <;> omega)
    have ftot : Fr (DzS w0.heap.size U) w wd := by
      have h5 := HD.out.ul
      refine (((F3.out.mono (fun _ _ h => h.elim)).trans FZ.out (fun k _ e => (HD.out.b3 k e).2)).trans FB.out (fun _ _ h => h.elim)).trans fbd (fun k hk e => ?_)
      have := HNE.out; rcases e with e | e <;> omega
    have DD := Lib.hid hdd; have FT := Lib.hid ftot
    clear fd fbd hdd ftot
    obtain ⟨b0, bz, bl⟩ := one_cell DD.out.rf.at_
    obtain ⟨SA, sc, hsv, _, _⟩ := DD.out.rf.row.form
    rw [hsv] at b0
    have HSV := Lib.hid hsv; clear hsv
    have e10 : ∀ n m : Nat, n = m → ((n : Int) == (m : Int)) = true := fun n m h => by simp [h]
    have e11 := e10 _ _ (by have := congrArg List.length DD.out.sy.now; simpa using this)
    have e12 := e10 _ _ DD.out.sy.1
    clear e10
    go_wp2_with fail
    refine wp_region_ord [0, 1, 2, 3, 4, 5, 7, 6, 8, 9, 10, 11, 12, 13, 15, 16, 17, 18, 19, 14, 20, 21, 22] (fun i => [Kd.p, Kd.p, Kd.p, Kd.p, Kd.p, Kd.p, Kd.e, Kd.p, Kd.e, Kd.p, Kd.p, Kd.p, Kd.p, Kd.p, Kd.g, Kd.p, Kd.p, Kd.p, Kd.l, Kd.p, Kd.p, Kd.p, Kd.p].getD i .e) (by kernel_rfl) (by kernel_rfl) ?_
    iterate 7
      first | (refine wpX_un rfl rfl ?_; go_simp) | first | refine wpX_pu rfl rfl rfl (by first | exact pu_move rfl | exact pu_assign rfl | exact pu_nilCheck rfl rfl | exact pu_binInt rfl rfl rfl | exact pu_conv rfl rfl (by kernel_rfl) | exact pu_fld rfl (by kernel_rfl) | exact pu_ix rfl rfl rfl (by kernel_rfl) | exact pu_unOp rfl | exact pu_binStr rfl rfl rfl | exact pu_len rfl rfl | exact pu_lens rfl rfl | exact pu_pick rfl | exact pu_slice rfl rfl) (fun K hK => ?_) | refine wpX_rd rfl rfl rfl (rd_load rfl) (fun K hK => ?_) | refine wpX_gr rfl rfl rfl (by first | exact gr_buildSlice rfl | exact gr_box rfl | exact gr_alloc rfl) (fun K hK => ?_) | refine wpX_ex rfl rfl rfl (fun K hK => ?_)
      try go_wp2
    refine wpX_ex rfl rfl rfl (fun K hK => ?_)
    go_wp2_with fail
    refine (blen_any wd.drew p _ _ _ _ (DD.out.kept0 (Fr.drew (Fr.refl no _))).bf).mono ?_
    rintro e we ⟨rfl, rfl⟩
    go_wp2_with fail
    refine wpX_ex rfl rfl rfl (fun K hK => ?_)
    go_wp2_with fail
    refine (rchanges_any wd.drew g _ _ (DD.out.kept0 (Fr.drew (Fr.refl no _))).rf (by have h1 := DD.out.sy.1; have h2 := HUS.out; omega)).mono ?_
    rintro e we ⟨ovc, rfl, h1, h2, fe⟩
    obtain ⟨CA, cc, rfl, _, _⟩ := h1.form
    have hdw := DD.out.kept0 ((Fr.drew (Fr.refl no wd)).trans fe (fun _ _ h => h))
    have FE := Lib.hid ((Fr.drew (Fr.refl no wd)).trans fe (fun _ _ h => h)); have DW := Lib.hid hdw
    obtain ⟨b0', bz', bl'⟩ := one_cell hdw.rf.at_
    rw [HSV.out] at b0'
    clear h1 h2 fe hdw b0 bz bl
    go_wp2_with fail
    iterate 10
      first | (refine wpX_un rfl rfl ?_; go_simp) | first | refine wpX_pu rfl rfl rfl (by first | exact pu_move rfl | exact pu_assign rfl | exact pu_nilCheck rfl rfl | exact pu_binInt rfl rfl rfl | exact pu_conv rfl rfl (by kernel_rfl) | exact pu_fld rfl (by kernel_rfl) | exact pu_ix rfl rfl rfl (by kernel_rfl) | exact pu_unOp rfl | exact pu_binStr rfl rfl rfl | exact pu_len rfl rfl | exact pu_lens rfl rfl | exact pu_pick rfl | exact pu_slice rfl rfl) (fun K hK => ?_) | refine wpX_rd rfl rfl rfl (rd_load rfl) (fun K hK => ?_) | refine wpX_gr rfl rfl rfl (by first | exact gr_buildSlice rfl | exact gr_box rfl | exact gr_alloc rfl) (fun K hK => ?_) | refine wpX_ex rfl rfl rfl (fun K hK => ?_)
      try go_wp2
    refine wpX_ca rfl rfl rfl (fun K hK => ?_)
    go_wp2_with fail
    refine (bmark_any we p _ _ _ _ DW.out.bf).mono ?_
    rintro e wf ⟨rfl, rfl⟩
    go_wp2_with fail
    refine ⟨⟨#[], _, (World.ext_self _).symm⟩, hK _ _ ?_⟩
    clear hK K
    iterate 3
      first | (refine wpX_un rfl rfl ?_; go_simp) | first | refine wpX_pu rfl rfl rfl (by first | exact pu_move rfl | exact pu_assign rfl | exact pu_nilCheck rfl rfl | exact pu_binInt rfl rfl rfl | exact pu_conv rfl rfl (by kernel_rfl) | exact pu_fld rfl (by kernel_rfl) | exact pu_ix rfl rfl rfl (by kernel_rfl) | exact pu_unOp rfl | exact pu_binStr rfl rfl rfl | exact pu_len rfl rfl | exact pu_lens rfl rfl | exact pu_pick rfl | exact pu_slice rfl rfl) (fun K hK => ?_) | refine wpX_rd rfl rfl rfl (rd_load rfl) (fun K hK => ?_) | refine wpX_gr rfl rfl rfl (by first | exact gr_buildSlice rfl | exact gr_box rfl | exact gr_alloc rfl) (fun K hK => ?_) | refine wpX_ex rfl rfl rfl (fun K hK => ?_)
      try go_wp2
    refine wpX_done ?_
    go_wp2
    go_ret
    exact ⟨rfl, _, _, _, _, _, _, _, _, DW.out, FT.out.trans FE.out (fun _ _ h => h.elim), HUS.out, HRZ.out⟩
  · have hm1 : o.n < 0 ∨ (us.length : Int) < o.n := by omega
    have HMU := Lib.hid hm1; clear hm hm1
    go_wp2_with fail
    refine wp_region_inv (fun w' => w'.cell? ⟨q8, 4, none⟩ = some (.int .i64 o.n)) [0, 2, 3, 4, 5, 6, 1, 7, 8, 9, 10, 11, 14, 15, 16, 12, 13, 17, 18, 19, 20] (fun i => [Kd.p, Kd.g, Kd.p, Kd.p, Kd.p, Kd.l, Kd.p, Kd.p, Kd.p, Kd.p, Kd.p, Kd.l, Kd.e, Kd.p, Kd.p, Kd.p, Kd.m, Kd.e, Kd.p, Kd.p, Kd.p].getD i .e) (by kernel_rfl) (by kernel_rfl) ?_ ?_
    · exact HI.out
    iterate 6
      first | (refine wpX_un rfl rfl ?_; go_simp) | first | refine wpX_pu rfl rfl rfl (by first | exact pu_move rfl | exact pu_assign rfl | exact pu_nilCheck rfl rfl | exact pu_binInt rfl rfl rfl | exact pu_conv rfl rfl (by kernel_rfl) | exact pu_fld rfl (by kernel_rfl) | exact pu_ix rfl rfl rfl (by kernel_rfl) | exact pu_unOp rfl | exact pu_binStr rfl rfl rfl | exact pu_len rfl rfl | exact pu_lens rfl rfl | exact pu_pick rfl | exact pu_slice rfl rfl) (fun K hK => ?_) | refine wpX_rd rfl rfl rfl (rd_load rfl) (fun K hK => ?_) | refine wpX_gr rfl rfl rfl (by first | exact gr_buildSlice rfl | exact gr_box rfl | exact gr_alloc rfl) (fun K hK => ?_) | refine wpX_ex rfl rfl rfl (fun K hK => ?_)
      try go_wp2
    refine wpX_cg rfl rfl rfl (fun K hK => ?_)
    go_wp2_with fail
    refine (bmark_any w3.drew p _ _ _ _ (HD3.out.kept0 HDD.out).bf).mono ?_
    rintro e wf ⟨rfl, rfl⟩
    go_wp2_with fail
    refine ⟨⟨#[], _, (World.ext_self _).symm⟩, hK _ _ ?_⟩
    clear hK K
    iterate 7
      first | (refine wpX_un rfl rfl ?_; go_simp) | first | refine wpX_pu rfl rfl rfl (by first | exact pu_move rfl | exact pu_assign rfl | exact pu_nilCheck rfl rfl | exact pu_binInt rfl rfl rfl | exact pu_conv rfl rfl (by kernel_rfl) | exact pu_fld rfl (by kernel_rfl) | exact pu_ix rfl rfl rfl (by kernel_rfl) | exact pu_unOp rfl | exact pu_binStr rfl rfl rfl | exact pu_len rfl rfl | exact pu_lens rfl rfl | exact pu_pick rfl | exact pu_slice rfl rfl) (fun K hK => ?_) | refine wpX_rd rfl rfl rfl (rd_load rfl) (fun K hK => ?_) | refine wpX_gr rfl rfl rfl (by first | exact gr_buildSlice rfl | exact gr_box rfl | exact gr_alloc rfl) (fun K hK => ?_) | refine wpX_ex rfl rfl rfl (fun K hK => ?_)
      try go_wp2
    refine wpX_md (.int .i64 o.n) rfl rfl rfl (rd_load rfl) rfl (by simp) (fun w' hI => ?_) ?_
    · replace hI : w'.cell? ⟨q8, 4, none⟩ = some (.int .i64 o.n) := hI
      go_wp2
    go_simp
    refine wpX_es rfl rfl rfl (fun K hK => ?_)
    go_wp2_with fail
    refine (back_err w3.drew p _ _ _ us o.n (HD3.out.kept0 HDD.out).bf HMU.out (by omega) (by omega)).mono ?_
    rintro e w4 ⟨rfl, rfl⟩
    go_wp2_with fail
    refine hK _ _ HI.out ?_
    clear hK K
    first | (refine wpX_un rfl rfl ?_; go_simp) | first | refine wpX_pu rfl rfl rfl (by first | exact pu_move rfl | exact pu_assign rfl | exact pu_nilCheck rfl rfl | exact pu_binInt rfl rfl rfl | exact pu_conv rfl rfl (by kernel_rfl) | exact pu_fld rfl (by kernel_rfl) | exact pu_ix rfl rfl rfl (by kernel_rfl) | exact pu_unOp rfl | exact pu_binStr rfl rfl rfl | exact pu_len rfl rfl | exact pu_lens rfl rfl | exact pu_pick rfl | exact pu_slice rfl rfl) (fun K hK => ?_) | refine wpX_rd rfl rfl rfl (rd_load rfl) (fun K hK => ?_) | refine wpX_gr rfl rfl rfl (by first | exact gr_buildSlice rfl | exact gr_box rfl | exact gr_alloc rfl) (fun K hK => ?_) | refine wpX_ex rfl rfl rfl (fun K hK => ?_)
    try go_wp2
    refine wpX_es rfl rfl rfl (fun K hK => ?_)
    go_wp2_with fail
    refine (rback_err w3.drew g sv L o.n (HD3.out.kept0 HDD.out).rf (by have := HD.out.sy.1; have := HMU.out; omega) (by omega) (by omega)).mono ?_
    rintro e wz ⟨rfl, rfl⟩
    go_wp2_with fail
    refine hK _ _ HI.out ?_
    clear hK K c0 c1 c2 c3 c4 ql b0 bz bl
    have DZ := Lib.hid (HD3.out.kept0 HDD.out)
    have FZ := Lib.hid (show Fr (DzB p lv uv l us g sv L b V R) w3 w3.drew from HDD.out.mono (fun _ _ h => h.elim))
    have BZ := Lib.hid (show ∀ k, DzB p lv uv l us g sv L b V R k → DzB p lv uv l us g sv L b V R k ∨ w3.heap.size ≤ k from fun k hk => .inl hk)
    have HUS := Lib.hid (show us.length ≤ us.length + 1 from Nat.le_succ _)
    have HRZ := Lib.hid (show ∀ i, (R i).length ≤ (R i).length + 6 from fun i => Nat.le_add_right _ _)
    generalize w3.drew = wz at DZ FZ ⊢
    iterate 3
      first | (refine wpX_un rfl rfl ?_; go_simp) | first | refine wpX_pu rfl rfl rfl (by first | exact pu_move rfl | exact pu_assign rfl | exact pu_nilCheck rfl rfl | exact pu_binInt rfl rfl rfl | exact pu_conv rfl rfl (by kernel_rfl) | exact pu_fld rfl (by kernel_rfl) | exact pu_ix rfl rfl rfl (by kernel_rfl) | exact pu_unOp rfl | exact pu_binStr rfl rfl rfl | exact pu_len rfl rfl | exact pu_lens rfl rfl | exact pu_pick rfl | exact pu_slice rfl rfl) (fun K hK => ?_) | refine wpX_rd rfl rfl rfl (rd_load rfl) (fun K hK => ?_) | refine wpX_gr rfl rfl rfl (by first | exact gr_buildSlice rfl | exact gr_box rfl | exact gr_alloc rfl) (fun K hK => ?_) | refine wpX_ex rfl rfl rfl (fun K hK => ?_)
      try go_wp2
    refine wpX_done ?_
    have f0z : Fr no w0 wz := (H0.out.trans F3.out (fun _ _ h => h)).trans FZ.out (fun k hk e => by have := (HD.out.b3 k e).2.1; omega)
    have F0Z := Lib.hid f0z
    have LKZ := Lib.hid (HLK.out.kept FZ.out (HNB.out gk HNE.out.2.1)); have LVZ := Lib.hid (HLV.out.kept FZ.out (HNB.out gv HNE.out.2.2))
    have hboxz := FZ.out.heap (F13.out.heap HN.out (fun h => h)) (HNB.out q8 HQ8.out)
    have HBX := Lib.hid hboxz
    clear f0z
    obtain ⟨c0, c1, c2, c3, c4, ql⟩ := five_cells hboxz
    clear hboxz
    go_wp2_with fail
    refine (whole_lent wz gk (.slice KA o.kb.length kc) o.kb o.kb LKZ.out (HK.out.kept0 F0Z.out) (by have := HS.out; omega) (by have := HS.out; omega)).mono ?_
    rintro e wa ⟨rfl, n1, rfl⟩
    rw [decide_eq_true rfl]
    clear c0 c1 c2 c3 c4 ql
    have hdr : Fr no wz (wz.drewN n1) := Fr.drewN _ _ _
    obtain ⟨c0, c1, c2, c3, c4, ql⟩ := five_cells (hdr.heap HBX.out (fun h => h))
    go_wp2_with fail
    refine (whole_lent (wz.drewN n1) gv (.slice VA o.vb.length vc) o.vb o.vb (LVZ.out.kept hdr (fun h => h)) ((HV.out.kept0 F0Z.out).kept0 hdr) (by have := HS.out; omega) (by have := HS.out; omega)).mono ?_
    rintro e wa ⟨rfl, n2, rfl⟩
    rw [decide_eq_true rfl]
    have hdr2 : Fr no wz ((wz.drewN n1).drewN n2) := hdr.moreN n2
    generalize (wz.drewN n1).drewN n2 = wb at hdr2 ⊢
    have FB := Lib.hid hdr2
    clear c0 c1 c2 c3 c4 ql hdr hdr2
    go_wp2_with fail
    refine (spoil_lent wb gk o.kb (LKZ.out.kept FB.out (fun h => h)) (by have := HS.out; omega)).mono ?_
    rintro e wc ⟨rfl, fc⟩
    have FC := Lib.hid fc; clear fc
    go_wp2_with fail
    refine (spoil_lent wc gv o.vb ((LVZ.out.kept FB.out (fun h => h)).kept FC.out (fun e => HNE.out.1 e.symm)) (by have := HS.out; omega)).mono ?_
    rintro e wd ⟨rfl, fd⟩
    have fbd : Fr (fun k => k = gk ∨ k = gv) wb wd := (FC.out.mono (fun _ _ h => .inl h)).trans fd (fun _ _ h => .inr h)
    have hdd := (DZ.out.kept0 FB.out).kept fbd (fun k hk e => by
      have h3 := HNE.out; have h4 := HG3.out
      rcases BZ.out k hk with h1 | h1
      · exact HNB.out k (by rcases e with e | e <;> omega) h1
      · rcases e with e | e <;> omega)
    have ftot : Fr (DzS w0.heap.size U) w wd := by
      have h5 := HD.out.ul
      refine (((F3.out.mono (fun _ _ h => h.elim)).trans FZ.out (fun k _ e => (HD.out.b3 k e).2)).trans FB.out (fun _ _ h => h.elim)).trans fbd (fun k hk e => ?_)
      have := HNE.out; rcases e with e | e <;> omega
    have DD := Lib.hid hdd; have FT := Lib.hid ftot
    clear fd fbd hdd ftot
    obtain ⟨b0, bz, bl⟩ := one_cell DD.out.rf.at_
    obtain ⟨SA, sc, hsv, _, _⟩ := DD.out.rf.row.form
    rw [hsv] at b0
    have HSV := Lib.hid hsv; clear hsv
    have e10 : ∀ n m : Nat, n = m → ((n : Int) == (m : Int)) = true := fun n m h => by simp [h]
    have e11 := e10 _ _ (by have := congrArg List.length DD.out.sy.now; simpa using this)
    have e12 := e10 _ _ DD.out.sy.1
    clear e10
    go_wp2_with fail
    refine wp_region_ord [0, 1, 2, 3, 4, 5, 7, 6, 8, 9, 10, 11, 12, 13, 15, 16, 17, 18, 19, 14, 20, 21, 22] (fun i => [Kd.p, Kd.p, Kd.p, Kd.p, Kd.p, Kd.p, Kd.e, Kd.p, Kd.e, Kd.p, Kd.p, Kd.p, Kd.p, Kd.p, Kd.g, Kd.p, Kd.p, Kd.p, Kd.l, Kd.p, Kd.p, Kd.p, Kd.p].getD i .e) (by kernel_rfl) (by kernel_rfl) ?_
    iterate 7
      first | (refine wpX_un rfl rfl ?_; go_simp) | first | refine wpX_pu rfl rfl rfl (by first | exact pu_move rfl | exact pu_assign rfl | exact pu_nilCheck rfl rfl | exact pu_binInt rfl rfl rfl | exact pu_conv rfl rfl (by kernel_rfl) | exact pu_fld rfl (by kernel_rfl) | exact pu_ix rfl rfl rfl (by kernel_rfl) | exact pu_unOp rfl | exact pu_binStr rfl rfl rfl | exact pu_len rfl rfl | exact pu_lens rfl rfl | exact pu_pick rfl | exact pu_slice rfl rfl) (fun K hK => ?_) | refine wpX_rd rfl rfl rfl (rd_load rfl) (fun K hK => ?_) | refine wpX_gr rfl rfl rfl (by first | exact gr_buildSlice rfl | exact gr_box rfl | exact gr_alloc rfl) (fun K hK => ?_) | refine wpX_ex rfl rfl rfl (fun K hK => ?_)
      try go_wp2
    refine wpX_ex rfl rfl rfl (fun K hK => ?_)
    go_wp2_with fail
    refine (blen_any wd.drew p _ _ _ _ (DD.out.kept0 (Fr.drew (Fr.refl no _))).bf).mono ?_
    rintro e we ⟨rfl, rfl⟩
    go_wp2_with fail
    refine wpX_ex rfl rfl rfl (fun K hK => ?_)
    go_wp2_with fail
    refine (rchanges_any wd.drew g _ _ (DD.out.kept0 (Fr.drew (Fr.refl no _))).rf (by have h1 := DD.out.sy.1; have h2 := HUS.out; omega)).mono ?_
    rintro e we ⟨ovc, rfl, h1, h2, fe⟩
    obtain ⟨CA, cc, rfl, _, _⟩ := h1.form
    have hdw := DD.out.kept0 ((Fr.drew (Fr.refl no wd)).trans fe (fun _ _ h => h))
    have FE := Lib.hid ((Fr.drew (Fr.refl no wd)).trans fe (fun _ _ h => h)); have DW := Lib.hid hdw
    obtain ⟨b0', bz', bl'⟩ := one_cell hdw.rf.at_
    rw [HSV.out] at b0'
    clear h1 h2 fe hdw b0 bz bl
    go_wp2_with fail
    iterate 10
      first | (refine wpX_un rfl rfl ?_; go_simp) | first | refine wpX_pu rfl rfl rfl (by first | exact pu_move rfl | exact pu_assign rfl | exact pu_nilCheck rfl rfl | exact pu_binInt rfl rfl rfl | exact pu_conv rfl rfl (by kernel_rfl) | exact pu_fld rfl (by kernel_rfl) | exact pu_ix rfl rfl rfl (by kernel_rfl) | exact pu_unOp rfl | exact pu_binStr rfl rfl rfl | exact pu_len rfl rfl | exact pu_lens rfl rfl | exact pu_pick rfl | exact pu_slice rfl rfl) (fun K hK => ?_) | refine wpX_rd rfl rfl rfl (rd_load rfl) (fun K hK => ?_) | refine wpX_gr rfl rfl rfl (by first | exact gr_buildSlice rfl | exact gr_box rfl | exact gr_alloc rfl) (fun K hK => ?_) | refine wpX_ex rfl rfl rfl (fun K hK => ?_)
      try go_wp2
    refine wpX_ca rfl rfl rfl (fun K hK => ?_)
    go_wp2_with fail
    refine (bmark_any we p _ _ _ _ DW.out.bf).mono ?_
    rintro e wf ⟨rfl, rfl⟩
    go_wp2_with fail
    refine ⟨⟨#[], _, (World.ext_self _).symm⟩, hK _ _ ?_⟩
    clear hK K
    iterate 3
      first | (refine wpX_un rfl rfl ?_; go_simp) | first | refine wpX_pu rfl rfl rfl (by first | exact pu_move rfl | exact pu_assign rfl | exact pu_nilCheck rfl rfl | exact pu_binInt rfl rfl rfl | exact pu_conv rfl rfl (by kernel_rfl) | exact pu_fld rfl (by kernel_rfl) | exact pu_ix rfl rfl rfl (by kernel_rfl) | exact pu_unOp rfl | exact pu_binStr rfl rfl rfl | exact pu_len rfl rfl | exact pu_lens rfl rfl | exact pu_pick rfl | exact pu_slice rfl rfl) (fun K hK => ?_) | refine wpX_rd rfl rfl rfl (rd_load rfl) (fun K hK => ?_) | refine wpX_gr rfl rfl rfl (by first | exact gr_buildSlice rfl | exact gr_box rfl | exact gr_alloc rfl) (fun K hK => ?_) | refine wpX_ex rfl rfl rfl (fun K hK => ?_)
      try go_wp2
    refine wpX_done ?_
    go_wp2
    go_ret
    exact ⟨rfl, _, _, _, _, _, _, _, _, DW.out, FT.out.trans FE.out (fun _ _ h => h.elim), HUS.out, HRZ.out⟩
end Go.Proofs.Ytdnohhlgaaihmaa

/- law16: what is seen through, both ways: rows of two, what comes out. -/
namespace Go.Proofs.Ytdnohhlgaaihmaa
open Go.RowKit

theorem cnt_pr {c c' : List SpV} (h : c.map SpV.pr = c'.map SpV.pr) : c.map SpV.cnt = c'.map SpV.cnt := by
  have := congrArg (List.map fun x : List UInt8 × List UInt8 × Bool => (x.1, if x.2.2 then [] else x.2.1, x.2.2)) h
  rw [List.map_map, List.map_map] at this
  exact this

theorem find_kvs {S S' : List PrV} (h : S.map PrV.kv = S'.map PrV.kv) (p : List UInt8 → Bool) : (S.find? fun y => p y.k).map PrV.kv = (S'.find? fun y => p y.k).map PrV.kv := by
  have key : ∀ S : List PrV, (S.find? fun y => p y.k).map PrV.kv = (S.map PrV.kv).find? fun y => p y.1 := by
    intro S; rw [List.find?_map]; rfl
  rw [key, key, h]

theorem pairE_form {w : World} {r : Option PrV} (h : ∀ y, r = some y → y.Good w) : ∃ (A B : Option Addr) (f t : List UInt8) (ac bc : Nat) (is : Bool),
    pairE r = .tuple #[.agg #[.slice A f.length ac, .slice B t.length bc], .bool is] ∧ resN (some (r.map PrV.kv)) = (is, 0, f, t) ∧ PrV.Good w ⟨.slice A f.length ac, .slice B t.length bc, f, t⟩ ∧ ∀ k, ((Value.slice A f.length ac).ownBlock = some k ∨ (Value.slice B t.length bc).ownBlock = some k) → ∃ y, r = some y ∧ (y.K.ownBlock = some k ∨ y.V.ownBlock = some k) := by
  rcases r with _ | y
  · exact ⟨none, none, [], [], 0, 0, false, rfl, rfl, ⟨⟨rfl, .inl ⟨none, rfl, rfl⟩⟩, ⟨rfl, .inl ⟨none, rfl, rfl⟩⟩, Nat.zero_le _, Nat.zero_le _⟩, fun k hk => by rcases hk with hk | hk <;> simp [Value.ownBlock] at hk⟩
  · have hg := h y rfl
    obtain ⟨A, ac, hF, _, _⟩ := hg.K.form
    obtain ⟨B, bc, hT, _, _⟩ := hg.V.form
    refine ⟨A, B, y.k, y.v, ac, bc, true, ?_, rfl, ⟨hF ▸ hg.K, hT ▸ hg.V, hg.lk, hg.lv⟩, fun k hk => ⟨y, rfl, ?_⟩⟩
    · show Value.tuple #[.agg #[y.K, y.V], .bool true] = _
      rw [hF, hT]
    · rw [hF, hT]; exact hk

theorem ThrE.own {w w' : World} {r : Option (Option (List UInt8 × List UInt8))} {e : Ending} (h : ThrE w w' r e) :
    ∃ (K V : Option Addr) (k v : List UInt8) (is : Bool) (c : Nat), e = .returned (.tuple #[.agg #[.slice K k.length k.length, .slice V v.length v.length], .bool is, .int .u16 c]) ∧ resN r = (is, c, k, v) ∧
      Ow w' 5 1 (.slice K k.length k.length) k.length (bvs k) ∧ Ow w' 5 1 (.slice V v.length v.length) v.length (bvs v) ∧
      (∀ q, ((Value.slice K k.length k.length).ownBlock = some q ∨ (Value.slice V v.length v.length).ownBlock = some q) → w.heap.size ≤ q ∧ q < w'.heap.size) ∧ ∀ q, (Value.slice K k.length k.length).ownBlock = some q → (Value.slice V v.length v.length).ownBlock ≠ some q := by
  rcases r with _ | _ | ⟨k, v⟩
  · exact ⟨none, none, [], [], false, 6, h, rfl, ⟨rfl, .inl ⟨rfl, rfl⟩⟩, ⟨rfl, .inl ⟨rfl, rfl⟩⟩, fun q hq => by rcases hq with hq | hq <;> simp [Value.ownBlock] at hq, fun q hq => by simp [Value.ownBlock] at hq⟩
  · exact ⟨none, none, [], [], false, 0, h, rfl, ⟨rfl, .inl ⟨rfl, rfl⟩⟩, ⟨rfl, .inl ⟨rfl, rfl⟩⟩, fun q hq => by rcases hq with hq | hq <;> simp [Value.ownBlock] at hq, fun q hq => by simp [Value.ownBlock] at hq⟩
  · obtain ⟨A, B, h1, h2, h3, h4, h5⟩ := h
    exact ⟨A, B, k, v, true, 0, h1, rfl, h2, h3, fun q hq => ⟨h4 q hq, by rcases hq with hq | hq; exact h2.lt q hq; exact h3.lt q hq⟩, h5⟩

theorem two_new (w : World) (Ta Tb : TypeId) (a b : List Value) : Has ((w.alloc (.cells a.toArray Ta)).alloc (.cells b.toArray Tb)) w.heap.size Ta a ∧
    Has ((w.alloc (.cells a.toArray Ta)).alloc (.cells b.toArray Tb)) (w.heap.size + 1) Tb b ∧ Fr no w ((w.alloc (.cells a.toArray Ta)).alloc (.cells b.toArray Tb)) := by
  have a1 := (Fr.refl no w).alloc (.cells a.toArray Ta)
  have a2 := (Fr.refl no (w.alloc (.cells a.toArray Ta))).alloc (.cells b.toArray Tb)
  have e1 := heap_alloc_new w (.cells a.toArray Ta)
  have e2 := heap_alloc_new (w.alloc (.cells a.toArray Ta)) (.cells b.toArray Tb)
  rw [World.size_alloc] at e2
  exact ⟨a2.heap e1 (fun h => h), e2, a1.trans a2 (fun _ _ h => h)⟩

/-- Two pairs in a row of two. -/
theorem pair_two {w : World} {vb : Nat} {K V K2 V2 : Value} {k v k2 v2 : List UInt8} (hv : Has w vb 40 [K, V, K2, V2]) (h1 : PrV.Good w ⟨K, V, k, v⟩) (h2 : PrV.Good w ⟨K2, V2, k2, v2⟩) :
    Pairs w (.slice (some ⟨vb, 0, none⟩) 2 2) [⟨K, V, k, v⟩, ⟨K2, V2, k2, v2⟩] := by
  refine ⟨?_, fun y hy => ?_, by simp⟩
  · have h := hv.sl 2 0 2 2 (by simp) (Nat.le_refl _) (by simp [maxLen])
    rwa [List.drop_zero, List.take_of_length_le (by simp)] at h
  · rcases List.mem_cons.1 hy with rfl | hy
    · exact h1
    · cases List.mem_singleton.1 hy; exact h2

/-- Two pairs in a row of two, all their owner's. -/
theorem in_two {w : World} {vb a b c : Nat} {A B A2 B2 : Option Addr} {f t f2 t2 : List UInt8} (hv : Has w vb 40 [.slice A f.length f.length, .slice B t.length t.length, .slice A2 f2.length f2.length, .slice B2 t2.length t2.length])
    (oA : Ow w 5 1 (.slice A f.length f.length) f.length (bvs f)) (oB : Ow w 5 1 (.slice B t.length t.length) t.length (bvs t))
    (oA2 : Ow w 5 1 (.slice A2 f2.length f2.length) f2.length (bvs f2)) (oB2 : Ow w 5 1 (.slice B2 t2.length t2.length) t2.length (bvs t2))
    (n1 : ∀ k, (Value.slice A f.length f.length).ownBlock = some k ∨ (Value.slice B t.length t.length).ownBlock = some k → a ≤ k ∧ k < b)
    (n2 : ∀ k, (Value.slice A2 f2.length f2.length).ownBlock = some k ∨ (Value.slice B2 t2.length t2.length).ownBlock = some k → b ≤ k ∧ k < c) (hc : c ≤ vb)
    (d1 : ∀ k, (Value.slice A f.length f.length).ownBlock = some k → (Value.slice B t.length t.length).ownBlock ≠ some k)
    (d2 : ∀ k, (Value.slice A2 f2.length f2.length).ownBlock = some k → (Value.slice B2 t2.length t2.length).ownBlock ≠ some k)
    (l1 : f.length ≤ 140737488351232 ∧ t.length ≤ 140737488351232) (l2 : f2.length ≤ 140737488351232 ∧ t2.length ≤ 140737488351232) (hbc : b ≤ c) :
    InPairs w (.slice (some ⟨vb, 0, none⟩) 2 2) [⟨.slice A f.length f.length, .slice B t.length t.length, f, t, false⟩, ⟨.slice A2 f2.length f2.length, .slice B2 t2.length t2.length, f2, t2, false⟩] := by
  refine ⟨⟨rfl, .inr ⟨vb, 2, _, rfl, hv, Nat.le_refl _, by decide, Nat.le_refl _, rfl⟩⟩, fun x hx => ?_, fun x hx => ?_, fun x hx => ?_, fun x hx k hk e => ?_, fun x hx => ?_, ?_⟩
  · rcases List.mem_cons.1 hx with rfl | hx
    · exact ⟨oA, oB⟩
    · cases List.mem_singleton.1 hx; exact ⟨oA2, oB2⟩
  · rcases List.mem_cons.1 hx with rfl | hx
    · exact ⟨⟨_, _, rfl⟩, _, _, rfl⟩
    · cases List.mem_singleton.1 hx; exact ⟨⟨_, _, rfl⟩, _, _, rfl⟩
  · rcases List.mem_cons.1 hx with rfl | hx
    · exact l1
    · cases List.mem_singleton.1 hx; exact l2
  · have e2 : vb = k := by simpa [Value.ownBlock] using e
    rcases List.mem_cons.1 hx with rfl | hx
    · have := n1 k hk; omega
    · cases List.mem_singleton.1 hx; have := n2 k hk; omega
  · rcases List.mem_cons.1 hx with rfl | hx
    · exact d1
    · cases List.mem_singleton.1 hx; exact d2
  · simp only [List.pairwise_cons, List.mem_singleton, List.not_mem_nil, false_imp_iff, implies_true, List.Pairwise.nil, and_true]
    rintro y rfl k hk hk2
    have := n1 k hk; have := n2 k hk2; omega
end Go.Proofs.Ytdnohhlgaaihmaa
