import Derived.Test.YtdnohhlgaaihmaaMd35

/- law16: a call of a buffer, and of the document's: kind 4. (printed by mkdoes.py) -/
namespace Go.Proofs.Ytdnohhlgaaihmaa
open Go.RowKit

set_option maxRecDepth 100000 in
set_option maxHeartbeats 16000000 in
theorem does_next (w0 w : World) (p g b : Nat) (lv uv sv ov : Value) (l L : List SpV) (us : List Und) (V : Nat → Value) (R : Nat → List Value) (U : Nat → Prop) (pr : List PrV) (o : OpB) (h0 : Fr no w0 w) (hd : Dz w p lv uv l us g sv L b V R U w0.heap.size)
    (hu : Pairs w ov pr) (hU : ∀ k, (ov.ownBlock = some k ∨ ∃ y ∈ pr, y.K.ownBlock = some k ∨ y.V.ownBlock = some k) → U k) (hRi : RisP pr) (_hpr : pr.length ≤ 200) (ho : o.Good w0) (hs : o.kb.length ≤ 30000 ∧ o.vb.length ≤ 30000) (hl : us.length ≤ 1000) (hR : ∀ i, (R i).length ≤ 50000) (hk : o.k % 8 = 4) :
    Calls Try.prog 34 #[.pointer (some ⟨p, 0, none⟩), .pointer (some ⟨g, 0, none⟩), ov, .agg #[.int .u8 o.k, o.K, o.V, .bool o.i, .int .i64 o.n], .pointer (some ⟨b, 0, none⟩)] w fun e w' => DoesP w w' p us g b R U w0.heap.size e := by
  obtain ⟨KA, kc, hKf, _, _⟩ := ho.K.form
  obtain ⟨VA, vc, hVf, _, _⟩ := ho.V.form
  obtain ⟨OA, oc, rfl, _, _⟩ := hu.sl.form
  have hlen := hd.len
  have hk256 := ho.k
  have hn0 := ho.n0; have hn1 := ho.n1
  have hoK := hKf ▸ ho.K; have hoV := hVf ▸ ho.V
  rw [hKf, hVf]
  have ek : (o.k : Int) % 8 = 4 := by omega
  have hk0 : (0 : Int) ≤ (o.k : Int) := by omega
  have H0 := Lib.hid h0; have HD := Lib.hid hd; have HU := Lib.hid hu; have HUU := Lib.hid hU; have HRI := Lib.hid hRi; have HK := Lib.hid hoK; have HV := Lib.hid hoV; have HS := Lib.hid hs; have HR := Lib.hid hR
  clear h0 hd hu hU hRi hoK hoV hs hR hKf hVf ho hk
  obtain ⟨w00, hw00⟩ : ∃ w00 : World, w00 = w := ⟨_, rfl⟩
  go_enter Try.func34, Try.ntmps34
  go_wp2_with fail
  have hN := heap_alloc_new w (.cells #[.int .u8 o.k, .slice KA o.kb.length kc, .slice VA o.vb.length vc, .bool o.i, .int .i64 o.n] 54)
  have hf := (Fr.refl no w).alloc (.cells #[.int .u8 o.k, .slice KA o.kb.length kc, .slice VA o.vb.length vc, .bool o.i, .int .i64 o.n] 54)
  generalize hq8 : w.heap.size = q8 at hN ⊢
  generalize w.alloc (.cells #[.int .u8 o.k, .slice KA o.kb.length kc, .slice VA o.vb.length vc, .bool o.i, .int .i64 o.n] 54) = w1 at hN hf ⊢
  have hq8' := Nat.le_of_eq hq8
  have HN := Lib.hid hN; have F1 := Lib.hid hf; have HQ8 := Lib.hid hq8'; clear hN hf hq8 hq8'
  obtain ⟨c0, c1, c2, c3, c4, ql⟩ := five_cells HN.out
  refine wp_region_ord [0, 1, 3, 4, 2, 5, 6, 7] (fun i => [Kd.p, Kd.l, Kd.g, Kd.p, Kd.l, Kd.e, Kd.p, Kd.p].getD i .e) (by kernel_rfl) (by kernel_rfl) ?_
  iterate 4
    first | refine wpX_pu rfl rfl rfl (by first | exact pu_move rfl | exact pu_assign rfl | exact pu_nilCheck rfl rfl | exact pu_binInt rfl rfl rfl | exact pu_conv rfl rfl (by kernel_rfl) | exact pu_fld rfl (by kernel_rfl) | exact pu_ix rfl rfl rfl (by kernel_rfl) | exact pu_unOp rfl | exact pu_binStr rfl rfl rfl | exact pu_len rfl rfl | exact pu_lens rfl rfl | exact pu_pick rfl | exact pu_slice rfl rfl) (fun K hK => ?_) | refine wpX_rd rfl rfl rfl (rd_load rfl) (fun K hK => ?_) | refine wpX_gr rfl rfl rfl (by first | exact gr_buildSlice rfl | exact gr_box rfl | exact gr_alloc rfl) (fun K hK => ?_) | refine wpX_ex rfl rfl rfl (fun K hK => ?_)
    try go_wp2
  refine wpX_ca rfl rfl rfl (fun K hK => ?_)
  go_wp2_with fail
  refine (lent_any _ (.slice KA o.kb.length kc) o.kb ((HK.out.kept0 (H0.out.trans F1.out (fun _ _ h => h))).kept0 (Fr.drew (Fr.refl no _))) (by have := HS.out; omega)).mono ?_
  rintro e w2 ⟨gk, rfl, hgk, hLk, f2⟩
  have hgk : w1.heap.size ≤ gk := hgk
  have hx2 := f2.ext
  have f12 := (Fr.drew (Fr.refl no w1)).trans f2 (fun _ _ h => h)
  have F2 := Lib.hid (F1.out.trans f12 (fun _ _ h => h)); have F12 := Lib.hid f12; have HLK := Lib.hid hLk; have HGK := Lib.hid hgk; have HX2 := Lib.hid hx2
  clear f2 f12 hLk hgk hx2 c0 c1 c2 c3 c4 ql
  refine ⟨?_, hK _ _ ?_⟩
  · obtain ⟨⟨xa, xb⟩, hext⟩ := HX2.out; exact ⟨xa, xb, hext⟩
  clear hK K HX2
  have hgkl : gk < w2.heap.size := (Array.getElem?_eq_some_iff.1 HLK.out).1
  have HGL := Lib.hid hgkl; clear hgkl
  refine wpX_ex rfl rfl rfl (fun K hK => ?_)
  go_wp2_with fail
  refine (lent_any _ (.slice VA o.vb.length vc) o.vb (HV.out.kept0 (H0.out.trans F2.out (fun _ _ h => h))) (by have := HS.out; omega)).mono ?_
  rintro e w3 ⟨gv, rfl, hgv, hLv, f3⟩
  have hne : gk ≠ gv ∧ w.heap.size ≤ gk ∧ w.heap.size ≤ gv := by have := HGL.out; have := HGK.out; have := F1.out.size; have := F12.out.size; omega
  have F3 := Lib.hid (F2.out.trans f3 (fun _ _ h => h)); have F13 := Lib.hid (F12.out.trans f3 (fun _ _ h => h)); have HLK := Lib.hid (HLK.out.kept f3 (fun h => h)); have HLV := Lib.hid hLv; have HNE := Lib.hid hne; have hg3 : gk < w3.heap.size ∧ gv < w3.heap.size := ⟨by have := f3.size; have := HGL.out; omega, (Array.getElem?_eq_some_iff.1 HLV.out).1⟩; have HG3 := Lib.hid hg3; clear hg3
  clear f3 hgv hLv hgk HGL HGK hne
  go_wp2_with fail
  iterate 2
    first | refine wpX_pu rfl rfl rfl (by first | exact pu_move rfl | exact pu_assign rfl | exact pu_nilCheck rfl rfl | exact pu_binInt rfl rfl rfl | exact pu_conv rfl rfl (by kernel_rfl) | exact pu_fld rfl (by kernel_rfl) | exact pu_ix rfl rfl rfl (by kernel_rfl) | exact pu_unOp rfl | exact pu_binStr rfl rfl rfl | exact pu_len rfl rfl | exact pu_lens rfl rfl | exact pu_pick rfl | exact pu_slice rfl rfl) (fun K hK => ?_) | refine wpX_rd rfl rfl rfl (rd_load rfl) (fun K hK => ?_) | refine wpX_gr rfl rfl rfl (by first | exact gr_buildSlice rfl | exact gr_box rfl | exact gr_alloc rfl) (fun K hK => ?_) | refine wpX_ex rfl rfl rfl (fun K hK => ?_)
    try go_wp2
  refine wpX_done ?_
  obtain ⟨c0, c1, c2, c3, c4, ql⟩ := five_cells (F13.out.heap HN.out (fun h => h))
  have HD3 := Lib.hid (HD.out.kept0 F3.out)
  have hb0 : w0.heap.size ≤ w3.heap.size := by have := H0.out.size; have := F3.out.size; omega
  have HB0 := Lib.hid hb0; clear hb0
  have hnb : ∀ k, w.heap.size ≤ k → ¬ DzB p lv uv l us g sv L b V R k := fun k hk e => by have := (HD.out.b3 k e).1; omega
  have HNB := Lib.hid hnb; clear hnb
  obtain ⟨ta, tb, tf⟩ := two_chg w3 [.slice none 0 0, .slice none 0 0, .bool false] [.slice none 0 0, .slice none 0 0, .bool false]
  go_wp2_with fail
  have hz9 : w3.heap.size ≤ w3.heap.size := Nat.le_refl _
  generalize hq9 : w3.heap.size = q9 at ta tb ⊢
  generalize (w3.alloc (.cells #[.slice none 0 0, .slice none 0 0, .bool false] 36)).alloc (.cells #[.slice none 0 0, .slice none 0 0, .bool false] 36) = w4 at ta tb tf ⊢
  have hq9' := Nat.le_of_eq hq9
  have h89 : ¬ q8 = q9 ∧ ¬ q8 = q9 + 1 ∧ ¬ q9 = q8 ∧ ¬ q9 + 1 = q8 := by omega
  obtain ⟨n1, n2, n3, n4⟩ := h89
  have hq10 : q9 + 1 < w4.heap.size := (Array.getElem?_eq_some_iff.1 tb).1
  have HQ9 := Lib.hid hq9'; have HQ10 := Lib.hid hq10; have TA := Lib.hid ta; have TB := Lib.hid tb; have TF := Lib.hid tf
  have HN3 := Lib.hid (F13.out.heap HN.out (fun h => h))
  clear hz9 hq9 hq9' hq10 ta tb tf c0 c1 c2 c3 c4 ql
  have HD4 := Lib.hid (HD3.out.kept0 TF.out)
  refine (bnextC_any w4 p _ _ _ _ us o.kb o.i HD4.out.bf ((HLK.out.kept TF.out (fun h => h)).sl (by have := HS.out; omega)) (by omega)).mono ?_
  rintro e w5 hgt
  have hgo := hgt
  obtain ⟨A1, B1, f1, t1, o1, is1, rfl, hp1, hi1, oA, oB, ofr, odj, f5⟩ := hgo.form
  have HP1 := Lib.hid hp1; have HI1 := Lib.hid hi1; have OA1 := Lib.hid oA; have OB1 := Lib.hid oB; have OFR := Lib.hid ofr; have ODJ := Lib.hid odj
  have F35 := Lib.hid (TF.out.trans f5 (fun _ _ h => h)); have F45 := Lib.hid f5
  clear hgt hgo hp1 hi1 oA oB ofr odj f5
  obtain ⟨c0, c1, c2, c3, c4, ql⟩ := five_cells (F35.out.heap HN3.out (fun h => h))
  obtain ⟨a0, a1, a2, az, al⟩ := three_cells (F45.out.heap TA.out (fun h => h))
  go_wp2_with fail
  have hg6 := set3_row (a := .slice A1 f1.length f1.length) (b := .slice B1 t1.length t1.length) (c := .bool o1) (F45.out.heap TA.out (fun h => h))
  have fs6 := set3_fr w5 q9 (.slice A1 f1.length f1.length) (.slice B1 t1.length t1.length) (.bool o1)
  rw [show ((w5.setCell ⟨q9, 0, none⟩ (.slice A1 f1.length f1.length)).setCell ⟨q9, 1, none⟩ (.slice B1 t1.length t1.length)).setCell ⟨q9, 2, none⟩ (.bool o1) = set3 w5 q9 (.slice A1 f1.length f1.length) (.slice B1 t1.length t1.length) (.bool o1) from rfl]
  generalize set3 w5 q9 (.slice A1 f1.length f1.length) (.slice B1 t1.length t1.length) (.bool o1) = w6 at hg6 fs6 ⊢
  have f36 : Fr no w3 w6 := F35.out.trans fs6 (fun k hk e => by have e2 : k = q9 := e; have := HQ9.out; omega)
  have T6 := Lib.hid hg6; have F36 := Lib.hid f36; have U6 := Lib.hid (fs6.heap (F45.out.heap TB.out (fun h => h)) (fun e => by have e2 : q9 + 1 = q9 := e; omega))
  have HD6 := Lib.hid (HD3.out.kept0 f36); have FS6 := Lib.hid fs6
  clear hg6 fs6 f36 c0 c1 c2 c3 c4 ql a0 a1 a2 az al
  refine (rnextC_any w6 g sv _ L o.kb o.i HD6.out.rf (HK.out.kept0 ((H0.out.trans F3.out (fun _ _ h => h)).trans F36.out (fun _ _ h => h))) (by have := HD.out.sy.1; omega)).mono ?_
  rintro e w7 ⟨rfl, f7⟩
  obtain ⟨A2, B2, f2, t2, ac2, bc2, o2, is2, hE, hp2, hi2, hG2, hbl2⟩ := chgE_form (w := w6) (r := (chgL L).find? fun y => abv y.f o.kb o.i) (fun y hy => chg_good HD6.out.rf y (List.mem_of_find?_eq_some hy))
  rw [hE]
  have hpe : (nextR l o.kb o.i).map SpV.pr = ((chgL L).find? fun y => abv y.f o.kb o.i).map SpV.pr := (congrArg (Option.map SpV.pr) (nextR_find HD.out.bf.ris o.kb o.i)).trans (find_pr HD.out.sy.now (fun f => abv f o.kb o.i))
  obtain ⟨rfl, rfl, rfl, rfl⟩ := asked_eq hpe HP1.out hp2 HI1.out hi2
  have F67 := Lib.hid f7; have HG2 := Lib.hid hG2; have HBL2 := Lib.hid hbl2
  have hbm : ∀ k, ((Value.slice A2 f2.length ac2).ownBlock = some k ∨ (Value.slice B2 t2.length bc2).ownBlock = some k) → SeF g sv L k := fun k hk => by
    obtain ⟨y, hy, hk2⟩ := hbl2 k hk
    exact .inr (.inr ⟨y, mem_chg L y (List.mem_of_find?_eq_some hy), hk2⟩)
  have HBM := Lib.hid hbm
  clear hE hp2 hi2 hG2 hbl2 hpe f7 hbm
  have T7 := Lib.hid (F67.out.heap T6.out (fun h => h)); have U7 := Lib.hid (F67.out.heap U6.out (fun h => h))
  obtain ⟨a0, a1, a2, az, al⟩ := three_cells T7.out
  obtain ⟨d0, d1, d2, dz, dl⟩ := three_cells U7.out
  have n5 : ¬ q9 = q9 + 1 := by omega
  go_wp2_with fail
  have hg8 := set3_row (a := .slice A2 f2.length ac2) (b := .slice B2 t2.length bc2) (c := .bool o2) U7.out
  have fs8 := set3_fr w7 (q9 + 1) (.slice A2 f2.length ac2) (.slice B2 t2.length bc2) (.bool o2)
  rw [show ((w7.setCell ⟨q9 + 1, 0, none⟩ (.slice A2 f2.length ac2)).setCell ⟨q9 + 1, 1, none⟩ (.slice B2 t2.length bc2)).setCell ⟨q9 + 1, 2, none⟩ (.bool o2) = set3 w7 (q9 + 1) (.slice A2 f2.length ac2) (.slice B2 t2.length bc2) (.bool o2) from rfl]
  have hsz : w7.heap.size = (set3 w7 (q9 + 1) (.slice A2 f2.length ac2) (.slice B2 t2.length bc2) (.bool o2)).heap.size := by simp [set3]
  rw [hsz]
  clear hsz
  generalize set3 w7 (q9 + 1) (.slice A2 f2.length ac2) (.slice B2 t2.length bc2) (.bool o2) = w8 at hg8 fs8 ⊢
  have hN9 := heap_alloc_new w8 (.cells #[.slice A1 f2.length f2.length, .slice B1 t2.length t2.length, .bool o2] 36)
  have fa := (Fr.refl no w8).alloc (.cells #[.slice A1 f2.length f2.length, .slice B1 t2.length t2.length, .bool o2] 36)
  generalize hq11 : w8.heap.size = q11 at hN9 ⊢
  generalize w8.alloc (.cells #[.slice A1 f2.length f2.length, .slice B1 t2.length t2.length, .bool o2] 36) = w9 at hN9 fa ⊢
  have hq11' := Nat.le_of_eq hq11
  clear hq11 a0 a1 a2 az al d0 d1 d2 dz dl
  have s3 := TF.out.size; have s4 := F45.out.size; have s6 := FS6.out.size; have s7 := F67.out.size; have s8 := fs8.size; have hq9 := HQ9.out; have hqa := HQ10.out
  have f58 : Fr (fun k => k = q9 ∨ k = q9 + 1) w5 w8 := ((FS6.out.mono (fun _ _ h => .inl h)).trans F67.out (fun _ _ h => h.elim)).trans fs8 (fun _ _ h => .inr h)
  have f59 : Fr (fun k => k = q9 ∨ k = q9 + 1) w5 w9 := f58.trans fa (fun _ _ h => h.elim)
  have f39 : Fr no w3 w9 := F35.out.trans f59 (fun k hk e => by rcases e with e | e <;> omega)
  have hof : ∀ k, (Value.slice A1 f2.length f2.length).ownBlock = some k ∨ (Value.slice B1 t2.length t2.length).ownBlock = some k → w3.heap.size ≤ k ∧ k ≠ q9 ∧ k ≠ q9 + 1 ∧ k ≠ q11 := fun k hk => by
    have h1 := OFR.out k hk
    have h2 : k < w5.heap.size := by rcases hk with hk | hk; exact OA1.out.lt k hk; exact OB1.out.lt k hk
    omega
  have oA9 := OA1.out.kept f59 (fun k hk e => by have := hof k (.inl hk); rcases e with e | e <;> omega)
  have oB9 := OB1.out.kept f59 (fun k hk e => by have := hof k (.inr hk); rcases e with e | e <;> omega)
  have hd9 := HD3.out.kept0 f39
  have t9 := fa.heap (fs8.heap T7.out (fun e => n5 e)) (fun h => h)
  have u9 := fa.heap hg8 (fun h => h)
  have g9 := ((HG2.out.kept0 F67.out).kept fs8 (fun k hk e => by have h2 := HD3.out.rf.lt k (HBM.out k (.inl hk)); have e2 : k = q9 + 1 := e; omega) (fun k hk e => by have h2 := HD3.out.rf.lt k (HBM.out k (.inr hk)); have e2 : k = q9 + 1 := e; omega)).kept0 fa
  have hin := in_one hN9 oA9 oB9 (fun k hk => (hof k hk).2.2.2) ODJ.out HG2.out.lf HG2.out.lt
  have hil : ∀ k, InChangesF (.slice (some ⟨q11, 0, none⟩) 1 1) [⟨.slice A1 f2.length f2.length, .slice B1 t2.length t2.length, f2, t2, o2⟩] k → w3.heap.size ≤ k := fun k hk => by
    rcases hk with hk | ⟨y, hy, hk⟩
    · have e2 : q11 = k := by simpa [Value.ownBlock] using hk
      omega
    · cases List.mem_singleton.1 hy
      exact (hof k hk).1
  have hN := Lib.hid hin; have HIL := Lib.hid hil; have HD9 := Lib.hid hd9; have F39 := Lib.hid f39; have T9 := Lib.hid t9; have U9 := Lib.hid u9; have G9 := Lib.hid g9; have OA9 := Lib.hid oA9; have OB9 := Lib.hid oB9; have HOF := Lib.hid hof; have S39 := Lib.hid f39.size
  clear hin hil hd9 f39 t9 u9 g9 oA9 oB9 hof f58 f59 fa fs8 hg8 hN9 s3 s4 s6 s7 s8 hq9 hqa hq11'
  refine (bc_Changes w9 b _ _ _ _ HD9.out.bc (fun i => by have := HR.out i; omega) hN.out (by simp) (fun k hk e => by have h1 := HIL.out k hk; have h2 := HD3.out.bc.lt k e; omega)).mono ?_
  rintro e w10 hgr
  obtain ⟨rfl, Vz, Rz, hd10, _, hr10, fb10, hb10⟩ := HD9.out.book (by have := HB0.out; have := S39.out; omega) (fun k hk => by
    have h1 := HIL.out k hk
    have h2 := HB0.out; have h3 := F3.out.size; have h4 := HD.out.ul
    exact ⟨by omega, fun e => by have := HD3.out.bf.lt k e; omega, fun e => by have := HD3.out.rf.lt k e; omega, fun e => by have := h4 k e; omega⟩) hgr
  have hlb := HD3.out.bc.lt
  have t10 := fb10.heap T9.out (fun e => by have := hlb _ e; have := HQ9.out; omega)
  have u10 := fb10.heap U9.out (fun e => by have := hlb _ e; have := HQ9.out; omega)
  have oA10 := OA9.out.kept fb10 (fun k hk e => by have := hlb k e; have := (HOF.out k (.inl hk)).1; omega)
  have oB10 := OB9.out.kept fb10 (fun k hk e => by have := hlb k e; have := (HOF.out k (.inr hk)).1; omega)
  have g10 := G9.out.kept fb10 (fun k hk e => HD.out.d23 k (HBM.out k (.inl hk)) e) (fun k hk e => HD.out.d23 k (HBM.out k (.inr hk)) e)
  obtain ⟨a0, a1, a2, az, al⟩ := three_cells t10
  obtain ⟨d0, d1, d2, dz, dl⟩ := three_cells u10
  have HD10 := Lib.hid hd10; have HR10 := Lib.hid hr10; have FB10 := Lib.hid fb10; have HB10 := Lib.hid hb10; have G10 := Lib.hid g10
  have X10 := Lib.hid (show SpV.Good w10 ⟨.slice A1 f2.length f2.length, .slice B1 t2.length t2.length, f2, t2, o2⟩ from ⟨oA10.sl, oB10.sl, HG2.out.lf, HG2.out.lt⟩)
  clear hgr hd10 hr10 fb10 hb10 t10 u10 oA10 oB10 g10 hlb
  go_wp2_with fail
  refine (same_eq w10 _ _ _ _ f2 t2 o2 _ X10.out G10.out).mono ?_
  rintro e wz ⟨rfl, f11⟩
  have DZ := Lib.hid (HD10.out.kept0 f11)
  have FZ := Lib.hid (show Fr (DzB p lv uv l us g sv L b V R) w3 wz from ((F39.out.mono (fun _ _ h => h.elim)).trans (FB10.out.mono (fun _ _ h => h)) (fun k _ h => .inr (.inr h))).trans f11 (fun _ _ h => h.elim))
  have BZ := Lib.hid (show ∀ k, DzB p lv uv l us g sv L b Vz Rz k → DzB p lv uv l us g sv L b V R k ∨ w3.heap.size ≤ k from fun k hk => by
    rcases HB10.out k hk with h1 | h1 | h1
    · exact .inl h1
    · exact .inr (HIL.out k h1)
    · exact .inr (by have := S39.out; omega))
  have hus : us.length ≤ us.length + 1 := Nat.le_succ _
  have hRz : ∀ i, (Rz i).length ≤ (R i).length + 6 := fun i => by have h1 : (Rz i).length ≤ (R i).length + 3 := HR10.out i; omega
  have HUS := Lib.hid hus; have HRZ := Lib.hid hRz
  clear hus hRz f11 a0 a1 a2 az al d0 d1 d2 dz dl n5
  have f0z : Fr no w0 wz := (H0.out.trans F3.out (fun _ _ h => h)).trans FZ.out (fun k hk e => by have := (HD.out.b3 k e).2.1; omega)
  have F0Z := Lib.hid f0z
  have LKZ := Lib.hid (HLK.out.kept FZ.out (HNB.out gk HNE.out.2.1)); have LVZ := Lib.hid (HLV.out.kept FZ.out (HNB.out gv HNE.out.2.2))
  have hboxz := FZ.out.heap (F13.out.heap HN.out (fun h => h)) (HNB.out q8 HQ8.out)
  have HBX := Lib.hid hboxz
  clear f0z
  obtain ⟨c0, c1, c2, c3, c4, ql⟩ := five_cells hboxz
  clear hboxz
  go_wp2_with fail
  refine (whole_lent wz gk (.slice KA o.kb.length kc) o.kb o.kb LKZ.out (HK.out.kept0 F0Z.out) (by have := HS.out; omega) (by have := HS.out; omega)).mono ?_
  rintro e wa ⟨rfl, n1, rfl⟩
  rw [decide_eq_true rfl]
  clear c0 c1 c2 c3 c4 ql
  have hdr : Fr no wz (wz.drewN n1) := Fr.drewN _ _ _
  obtain ⟨c0, c1, c2, c3, c4, ql⟩ := five_cells (hdr.heap HBX.out (fun h => h))
  go_wp2_with fail
  refine (whole_lent (wz.drewN n1) gv (.slice VA o.vb.length vc) o.vb o.vb (LVZ.out.kept hdr (fun h => h)) ((HV.out.kept0 F0Z.out).kept0 hdr) (by have := HS.out; omega) (by have := HS.out; omega)).mono ?_
  rintro e wa ⟨rfl, n2, rfl⟩
  rw [decide_eq_true rfl]
  have hdr2 : Fr no wz ((wz.drewN n1).drewN n2) := hdr.moreN n2
  generalize (wz.drewN n1).drewN n2 = wb at hdr2 ⊢
  have FB := Lib.hid hdr2
  clear c0 c1 c2 c3 c4 ql hdr hdr2
  go_wp2_with fail
  refine (spoil_lent wb gk o.kb (LKZ.out.kept FB.out (fun h => h)) (by have := HS.out; omega)).mono ?_
  rintro e wc ⟨rfl, fc⟩
  have FC := Lib.hid fc; clear fc
  go_wp2_with fail
  refine (spoil_lent wc gv o.vb ((LVZ.out.kept FB.out (fun h => h)).kept FC.out (fun e => HNE.out.1 e.symm)) (by have := HS.out; omega)).mono ?_
  rintro e wd ⟨rfl, fd⟩
  have fbd : Fr (fun k => k = gk ∨ k = gv) wb wd := (FC.out.mono (fun _ _ h => .inl h)).trans fd (fun _ _ h => .inr h)
  have hdd := (DZ.out.kept0 FB.out).kept fbd (fun k hk e => by
    have h3 := HNE.out; have h4 := HG3.out
    rcases BZ.out k hk with h1 | h1
    · exact HNB.out k (by rcases e with e | e <;> omega) h1
    · rcases e with e | e <;> omega)
  have ftot : Fr (DzS w0.heap.size U) w wd := by
    have h5 := HD.out.ul
    refine (((F3.out.mono (fun _ _ h => h.elim)).trans FZ.out (fun k _ e => (HD.out.b3 k e).2)).trans FB.out (fun _ _ h => h.elim)).trans fbd (fun k hk e => ?_)
    have := HNE.out; rcases e with e | e <;> omega
  have DD := Lib.hid hdd; have FT := Lib.hid ftot
  clear fd fbd hdd ftot
  obtain ⟨b0, bz, bl⟩ := one_cell DD.out.rf.at_
  obtain ⟨SA, sc, hsv, _, _⟩ := DD.out.rf.row.form
  rw [hsv] at b0
  have HSV := Lib.hid hsv; clear hsv
  have e10 : ∀ n m : Nat, n = m → ((n : Int) == (m : Int)) = true := fun n m h => by simp [h]
  have e11 := e10 _ _ (by have := congrArg List.length DD.out.sy.now; simpa using this)
  have e12 := e10 _ _ DD.out.sy.1
  clear e10
  go_wp2_with fail
  refine wp_region_ord [0, 1, 2, 3, 4, 5, 7, 6, 8, 9, 10, 11, 12, 13, 15, 16, 17, 18, 19, 14, 20, 21, 22] (fun i => [Kd.p, Kd.p, Kd.p, Kd.p, Kd.p, Kd.p, Kd.e, Kd.p, Kd.e, Kd.p, Kd.p, Kd.p, Kd.p, Kd.p, Kd.g, Kd.p, Kd.p, Kd.p, Kd.l, Kd.p, Kd.p, Kd.p, Kd.p].getD i .e) (by kernel_rfl) (by kernel_rfl) ?_
  iterate 7
    first | (refine wpX_un rfl rfl ?_; go_simp) | first | refine wpX_pu rfl rfl rfl (by first | exact pu_move rfl | exact pu_assign rfl | exact pu_nilCheck rfl rfl | exact pu_binInt rfl rfl rfl | exact pu_conv rfl rfl (by kernel_rfl) | exact pu_fld rfl (by kernel_rfl) | exact pu_ix rfl rfl rfl (by kernel_rfl) | exact pu_unOp rfl | exact pu_binStr rfl rfl rfl | exact pu_len rfl rfl | exact pu_lens rfl rfl | exact pu_pick rfl | exact pu_slice rfl rfl) (fun K hK => ?_) | refine wpX_rd rfl rfl rfl (rd_load rfl) (fun K hK => ?_) | refine wpX_gr rfl rfl rfl (by first | exact gr_buildSlice rfl | exact gr_box rfl | exact gr_alloc rfl) (fun K hK => ?_) | refine wpX_ex rfl rfl rfl (fun K hK => ?_)
    try go_wp2
  refine wpX_ex rfl rfl rfl (fun K hK => ?_)
  go_wp2_with fail
  refine (blen_any wd.drew p _ _ _ _ (DD.out.kept0 (Fr.drew (Fr.refl no _))).bf).mono ?_
  rintro e we ⟨rfl, rfl⟩
  go_wp2_with fail
  refine wpX_ex rfl rfl rfl (fun K hK => ?_)
  go_wp2_with fail
  refine (rchanges_any wd.drew g _ _ (DD.out.kept0 (Fr.drew (Fr.refl no _))).rf (by have h1 := DD.out.sy.1; have h2 := HUS.out; omega)).mono ?_
  rintro e we ⟨ovc, rfl, h1, h2, fe⟩
  obtain ⟨CA, cc, rfl, _, _⟩ := h1.form
  have hdw := DD.out.kept0 ((Fr.drew (Fr.refl no wd)).trans fe (fun _ _ h => h))
  have FE := Lib.hid ((Fr.drew (Fr.refl no wd)).trans fe (fun _ _ h => h)); have DW := Lib.hid hdw
  obtain ⟨b0', bz', bl'⟩ := one_cell hdw.rf.at_
  rw [HSV.out] at b0'
  clear h1 h2 fe hdw b0 bz bl
  go_wp2_with fail
  iterate 10
    first | (refine wpX_un rfl rfl ?_; go_simp) | first | refine wpX_pu rfl rfl rfl (by first | exact pu_move rfl | exact pu_assign rfl | exact pu_nilCheck rfl rfl | exact pu_binInt rfl rfl rfl | exact pu_conv rfl rfl (by kernel_rfl) | exact pu_fld rfl (by kernel_rfl) | exact pu_ix rfl rfl rfl (by kernel_rfl) | exact pu_unOp rfl | exact pu_binStr rfl rfl rfl | exact pu_len rfl rfl | exact pu_lens rfl rfl | exact pu_pick rfl | exact pu_slice rfl rfl) (fun K hK => ?_) | refine wpX_rd rfl rfl rfl (rd_load rfl) (fun K hK => ?_) | refine wpX_gr rfl rfl rfl (by first | exact gr_buildSlice rfl | exact gr_box rfl | exact gr_alloc rfl) (fun K hK => ?_) | refine wpX_ex rfl rfl rfl (fun K hK => ?_)
    try go_wp2
  refine wpX_ca rfl rfl rfl (fun K hK => ?_)
  go_wp2_with fail
  refine (bmark_any we p _ _ _ _ DW.out.bf).mono ?_
  rintro e wf ⟨rfl, rfl⟩
  go_wp2_with fail
  refine ⟨⟨#[], _, (World.ext_self _).symm⟩, hK _ _ ?_⟩
  clear hK K
  iterate 3
    first | (refine wpX_un rfl rfl ?_; go_simp) | first | refine wpX_pu rfl rfl rfl (by first | exact pu_move rfl | exact pu_assign rfl | exact pu_nilCheck rfl rfl | exact pu_binInt rfl rfl rfl | exact pu_conv rfl rfl (by kernel_rfl) | exact pu_fld rfl (by kernel_rfl) | exact pu_ix rfl rfl rfl (by kernel_rfl) | exact pu_unOp rfl | exact pu_binStr rfl rfl rfl | exact pu_len rfl rfl | exact pu_lens rfl rfl | exact pu_pick rfl | exact pu_slice rfl rfl) (fun K hK => ?_) | refine wpX_rd rfl rfl rfl (rd_load rfl) (fun K hK => ?_) | refine wpX_gr rfl rfl rfl (by first | exact gr_buildSlice rfl | exact gr_box rfl | exact gr_alloc rfl) (fun K hK => ?_) | refine wpX_ex rfl rfl rfl (fun K hK => ?_)
    try go_wp2
  refine wpX_done ?_
  go_wp2
  go_ret
  exact ⟨rfl, _, _, _, _, _, _, _, _, DW.out, FT.out.trans FE.out (fun _ _ h => h.elim), HUS.out, HRZ.out⟩
end Go.Proofs.Ytdnohhlgaaihmaa
