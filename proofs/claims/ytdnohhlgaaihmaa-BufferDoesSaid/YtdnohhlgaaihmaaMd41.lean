import Derived.Test.YtdnohhlgaaihmaaMd40
import Derived.Test.YtdnohhlgaaihmaaMd36
import Derived.Test.YtdnohhlgaaihmaaMd37
import Derived.Test.YtdnohhlgaaihmaaMd38
import Derived.Test.YtdnohhlgaaihmaaMd39

/- law16: a call of a buffer, and of the document's: kind 7. (printed by mkdoes.py) -/
namespace Go.Proofs.Ytdnohhlgaaihmaa
open Go.RowKit

set_option maxRecDepth 100000 in
set_option maxHeartbeats 16000000 in
theorem does_seen (w0 w : World) (p g b : Nat) (lv uv sv ov : Value) (l L : List SpV) (us : List Und) (V : Nat → Value) (R : Nat → List Value) (U : Nat → Prop) (pr : List PrV) (o : OpB) (h0 : Fr no w0 w) (hd : Dz w p lv uv l us g sv L b V R U w0.heap.size)
    (hu : Pairs w ov pr) (hU : ∀ k, (ov.ownBlock = some k ∨ ∃ y ∈ pr, y.K.ownBlock = some k ∨ y.V.ownBlock = some k) → U k) (hRi : RisP pr) (_hpr : pr.length ≤ 200) (ho : o.Good w0) (hs : o.kb.length ≤ 30000 ∧ o.vb.length ≤ 30000) (hl : us.length ≤ 1000) (hR : ∀ i, (R i).length ≤ 50000) (hk : o.k % 8 = 7) :
    Calls Try.prog 34 #[.pointer (some ⟨p, 0, none⟩), .pointer (some ⟨g, 0, none⟩), ov, .agg #[.int .u8 o.k, o.K, o.V, .bool o.i, .int .i64 o.n], .pointer (some ⟨b, 0, none⟩)] w fun e w' => DoesP w w' p us g b R U w0.heap.size e := by
  obtain ⟨KA, kc, hKf, _, _⟩ := ho.K.form
  obtain ⟨VA, vc, hVf, _, _⟩ := ho.V.form
  obtain ⟨OA, oc, rfl, _, _⟩ := hu.sl.form
  have hlen := hd.len
  have hk256 := ho.k
  have hn0 := ho.n0; have hn1 := ho.n1
  have hoK := hKf ▸ ho.K; have hoV := hVf ▸ ho.V
  rw [hKf, hVf]
  have ek : (o.k : Int) % 8 = 7 := by omega
  have hk0 : (0 : Int) ≤ (o.k : Int) := by omega
  have H0 := Lib.hid h0; have HD := Lib.hid hd; have HU := Lib.hid hu; have HUU := Lib.hid hU; have HRI := Lib.hid hRi; have HK := Lib.hid hoK; have HV := Lib.hid hoV; have HS := Lib.hid hs; have HR := Lib.hid hR
  clear h0 hd hu hU hRi hoK hoV hs hR hKf hVf ho hk
  obtain ⟨w00, hw00⟩ : ∃ w00 : World, w00 = w := ⟨_, rfl⟩
  go_enter Try.func34, Try.ntmps34
  go_wp2_with fail
  have hN := heap_alloc_new w (.cells #[.int .u8 o.k, .slice KA o.kb.length kc, .slice VA o.vb.length vc, .bool o.i, .int .i64 o.n] 54)
  have hf := (Fr.refl no w).alloc (.cells #[.int .u8 o.k, .slice KA o.kb.length kc, .slice VA o.vb.length vc, .bool o.i, .int .i64 o.n] 54)
  generalize hq8 : w.heap.size = q8 at hN ⊢
  generalize w.alloc (.cells #[.int .u8 o.k, .slice KA o.kb.length kc, .slice VA o.vb.length vc, .bool o.i, .int .i64 o.n] 54) = w1 at hN hf ⊢
  have hq8' := Nat.le_of_eq hq8
  have HN := Lib.hid hN; have F1 := Lib.hid hf; have HQ8 := Lib.hid hq8'; clear hN hf hq8 hq8'
  obtain ⟨c0, c1, c2, c3, c4, ql⟩ := five_cells HN.out
  refine wp_region_ord [0, 1, 3, 4, 2, 5, 6, 7] (fun i => [Kd.p, Kd.l, Kd.g, Kd.p, Kd.l, Kd.e, Kd.p, Kd.p].getD i .e) (by kernel_rfl) (by kernel_rfl) ?_
  iterate 4
    first | refine wpX_pu rfl rfl rfl (by first | exact pu_move rfl | exact pu_assign rfl | exact pu_nilCheck rfl rfl | exact pu_binInt rfl rfl rfl | exact pu_conv rfl rfl (by kernel_rfl) | exact pu_fld rfl (by kernel_rfl) | exact pu_ix rfl rfl rfl (by kernel_rfl) | exact pu_unOp rfl | exact pu_binStr rfl rfl rfl | exact pu_len rfl rfl | exact pu_lens rfl rfl | exact pu_pick rfl | exact pu_slice rfl rfl) (fun K hK => ?_) | refine wpX_rd rfl rfl rfl (rd_load rfl) (fun K hK => ?_) | refine wpX_gr rfl rfl rfl (by first | exact gr_buildSlice rfl | exact gr_box rfl | exact gr_alloc rfl) (fun K hK => ?_) | refine wpX_ex rfl rfl rfl (fun K hK => ?_)
    try go_wp2
  refine wpX_ca rfl rfl rfl (fun K hK => ?_)
  go_wp2_with fail
  refine (lent_any _ (.slice KA o.kb.length kc) o.kb ((HK.out.kept0 (H0.out.trans F1.out (fun _ _ h => h))).kept0 (Fr.drew (Fr.refl no _))) (by have := HS.out; omega)).mono ?_
  rintro e w2 ⟨gk, rfl, hgk, hLk, f2⟩
  have hgk : w1.heap.size ≤ gk := hgk
  have hx2 := f2.ext
  have f12 := (Fr.drew (Fr.refl no w1)).trans f2 (fun _ _ h => h)
  have F2 := Lib.hid (F1.out.trans f12 (fun _ _ h => h)); have F12 := Lib.hid f12; have HLK := Lib.hid hLk; have HGK := Lib.hid hgk; have HX2 := Lib.hid hx2
  clear f2 f12 hLk hgk hx2 c0 c1 c2 c3 c4 ql
  refine ⟨?_, hK _ _ ?_⟩
  · obtain ⟨⟨xa, xb⟩, hext⟩ := HX2.out; exact ⟨xa, xb, hext⟩
  clear hK K HX2
  have hgkl : gk < w2.heap.size := (Array.getElem?_eq_some_iff.1 HLK.out).1
  have HGL := Lib.hid hgkl; clear hgkl
  refine wpX_ex rfl rfl rfl (fun K hK => ?_)
  go_wp2_with fail
  refine (lent_any _ (.slice VA o.vb.length vc) o.vb (HV.out.kept0 (H0.out.trans F2.out (fun _ _ h => h))) (by have := HS.out; omega)).mono ?_
  rintro e w3 ⟨gv, rfl, hgv, hLv, f3⟩
  have hne : gk ≠ gv ∧ w.heap.size ≤ gk ∧ w.heap.size ≤ gv := by have := HGL.out; have := HGK.out; have := F1.out.size; have := F12.out.size; omega
  have F3 := Lib.hid (F2.out.trans f3 (fun _ _ h => h)); have F13 := Lib.hid (F12.out.trans f3 (fun _ _ h => h)); have HLK := Lib.hid (HLK.out.kept f3 (fun h => h)); have HLV := Lib.hid hLv; have HNE := Lib.hid hne; have hg3 : gk < w3.heap.size ∧ gv < w3.heap.size := ⟨by have := f3.size; have := HGL.out; omega, (Array.getElem?_eq_some_iff.1 HLV.out).1⟩; have HG3 := Lib.hid hg3; clear hg3
  clear f3 hgv hLv hgk HGL HGK hne
  go_wp2_with fail
  iterate 2
    first | refine wpX_pu rfl rfl rfl (by first | exact pu_move rfl | exact pu_assign rfl | exact pu_nilCheck rfl rfl | exact pu_binInt rfl rfl rfl | exact pu_conv rfl rfl (by kernel_rfl) | exact pu_fld rfl (by kernel_rfl) | exact pu_ix rfl rfl rfl (by kernel_rfl) | exact pu_unOp rfl | exact pu_binStr rfl rfl rfl | exact pu_len rfl rfl | exact pu_lens rfl rfl | exact pu_pick rfl | exact pu_slice rfl rfl) (fun K hK => ?_) | refine wpX_rd rfl rfl rfl (rd_load rfl) (fun K hK => ?_) | refine wpX_gr rfl rfl rfl (by first | exact gr_buildSlice rfl | exact gr_box rfl | exact gr_alloc rfl) (fun K hK => ?_) | refine wpX_ex rfl rfl rfl (fun K hK => ?_)
    try go_wp2
  refine wpX_done ?_
  obtain ⟨c0, c1, c2, c3, c4, ql⟩ := five_cells (F13.out.heap HN.out (fun h => h))
  have HD3 := Lib.hid (HD.out.kept0 F3.out)
  have hb0 : w0.heap.size ≤ w3.heap.size := by have := H0.out.size; have := F3.out.size; omega
  have HB0 := Lib.hid hb0; clear hb0
  have hnb : ∀ k, w.heap.size ≤ k → ¬ DzB p lv uv l us g sv L b V R k := fun k hk e => by have := (HD.out.b3 k e).1; omega
  have HNB := Lib.hid hnb
  have hUl : ∀ k, U k ∨ SeF g sv L k → k < w3.heap.size := fun k hk => by
    rcases hk with hk | hk
    · have := HD3.out.ul k hk; omega
    · exact HD3.out.rf.lt k hk
  have HUL := Lib.hid hUl
  clear hnb hUl
  go_wp2_with fail
  refine (seen_any w3 g sv (.slice OA pr.length oc) L pr HD3.out.rf (by have := HD.out.sy.1; omega) (HU.out.kept0 F3.out) (by omega)).mono ?_
  rintro e w4 ⟨ov4, rfl, h1, h2, f4⟩
  have hlc := len_pr HD.out.sy
  have hsk := seen_cnt (chgL L) l pr (cnt_pr HD.out.sy.now.symm)
  have hsn : (seenL (chgL L) pr).length ≤ 1200 := by have := seenL_len (chgL L) pr; omega
  have hsg : ∀ y ∈ seenL (chgL L) pr, y.Good w4 := fun y hy => by
    rcases seenL_mem _ _ _ hy with h | ⟨x, hx, rfl⟩
    · exact ((HU.out.kept0 F3.out).kept0 f4).good y h
    · have hx := (chg_good HD3.out.rf x hx).kept0 f4
      exact ⟨hx.F, hx.T, hx.lf, hx.lt⟩
  have hsb : ∀ y ∈ seenL (chgL L) pr, ∀ k, y.K.ownBlock = some k ∨ y.V.ownBlock = some k → U k ∨ SeF g sv L k := fun y hy k hk => by
    rcases seenL_mem _ _ _ hy with h | ⟨x, hx, rfl⟩
    · exact .inl (HUU.out k (.inr ⟨y, h, hk⟩))
    · exact .inr (.inr (.inr ⟨x, mem_chg L x hx, hk⟩))
  have hsN := seeN_find HD.out.bf.ris HRI.out 1000000 (by omega) o.kb o.i
  have hsP := seeP_find HD.out.bf.ris HRI.out 1000000 (by omega) o.kb o.i
  have hrev : (seenL (chgL L) pr).reverse.map PrV.kv = (seenL l pr).reverse.map PrV.kv := by rw [List.map_reverse, List.map_reverse, hsk]
  rw [← find_kvs hsk (fun k => abv k o.kb o.i)] at hsN
  rw [← find_kvs hrev (fun k => bel k o.kb o.i)] at hsP
  clear hrev hsk hlc
  generalize seenL (chgL L) pr = S at h1 hsn hsg hsb hsN hsP
  obtain ⟨SA, sc, rfl, hsc, _⟩ := h1.sl.form
  have HSP := Lib.hid (show Pairs w4 (.slice SA S.length sc) S from ⟨h1.sl, hsg, by omega⟩)
  have HSB := Lib.hid hsb; have HSN := Lib.hid hsN; have HSPP := Lib.hid hsP; have F34 := Lib.hid f4
  have HN4 := Lib.hid (f4.heap (F13.out.heap HN.out (fun h => h)) (fun h => h)); have HD4 := Lib.hid (HD3.out.kept0 f4); have HU4 := Lib.hid ((HU.out.kept0 F3.out).kept0 f4)
  clear h1 h2 hsg hsb hsN hsP f4 hsn hsc c0 c1 c2 c3 c4 ql
  obtain ⟨c0, c1, c2, c3, c4, ql⟩ := five_cells HN4.out
  go_wp2_with fail
  have e5 := heap_alloc_new w4 (.cells #[.slice OA pr.length oc, .int .i64 1000000] 48)
  have a5 := (Fr.refl no w4).alloc (.cells #[.slice OA pr.length oc, .int .i64 1000000] 48)
  generalize hg1 : w4.heap.size = g1 at e5 ⊢
  generalize w4.alloc (.cells #[.slice OA pr.length oc, .int .i64 1000000] 48) = w5 at e5 a5 ⊢
  have hg1' := Nat.le_of_eq hg1
  have hb5 : Bel w5 g1 (.slice OA pr.length oc) pr 1000000 := ⟨e5, HU4.out.kept0 a5, fun e => by have := HUL.out g1 (.inl (HUU.out g1 (.inl e))); have := F34.out.size; omega, fun y hy => ⟨fun e => by have := HUL.out g1 (.inl (HUU.out g1 (.inr ⟨y, hy, .inl e⟩))); have := F34.out.size; omega, fun e => by have := HUL.out g1 (.inl (HUU.out g1 (.inr ⟨y, hy, .inr e⟩))); have := F34.out.size; omega⟩⟩
  have HB5 := Lib.hid hb5; have F35 := Lib.hid (F34.out.trans a5 (fun _ _ h => h)); have A5 := Lib.hid a5; have HG1 := Lib.hid hg1'
  clear hg1 hg1' e5 a5 hb5
  refine (bufn_any w5 p _ _ _ us g1 _ pr 1000000 _ o.kb o.i (HD3.out.kept0 F35.out).bf (by omega) (fun k hk e => by have := HD4.out.bf.lt k hk; have := HG1.out; omega) HB5.out (by omega) ((HLK.out.kept F35.out (fun h => h)).sl (by have := HS.out; omega)) (fun e => by have e2 : gk = g1 := (by simpa [Value.ownBlock] using e); have := HG3.out; have := HG1.out; have := F34.out.size; omega)).mono ?_
  rintro e w6 ⟨he, -, f6⟩
  rw [HSN.out] at he
  obtain ⟨A1, B1, k1, v1, i1, x1, rfl, hr1, oA1, oB1, on1, od1⟩ := he.own
  have f36 : Fr no w3 w6 := F35.out.trans f6 (fun k hk e => by have e2 : k = g1 := e; have := HG1.out; have := F34.out.size; omega)
  have f46 : Fr no w4 w6 := A5.out.trans f6 (fun k hk e => by have e2 : k = g1 := e; have := HG1.out; omega)
  have HS56 := Lib.hid f6.size; have F36 := Lib.hid f36; have F46 := Lib.hid f46; have HR1 := Lib.hid hr1; have OA1 := Lib.hid oA1; have OB1 := Lib.hid oB1; have ON1 := Lib.hid on1; have OD1 := Lib.hid od1
  clear he f6 f36 f46 hr1 oA1 oB1 on1 od1 c0 c1 c2 c3 c4 ql
  obtain ⟨c0, c1, c2, c3, c4, ql⟩ := five_cells (F46.out.heap HN4.out (fun h => h))
  go_wp2_with fail
  obtain ⟨e7, e8, f7⟩ := two_new w6 40 48 [.slice A1 k1.length k1.length, .slice B1 v1.length v1.length] [.slice OA pr.length oc, .int .i64 1000000]
  generalize hg2 : w6.heap.size = ga at e7 e8 ⊢
  generalize (w6.alloc (.cells #[.slice A1 k1.length k1.length, .slice B1 v1.length v1.length] 40)).alloc (.cells #[.slice OA pr.length oc, .int .i64 1000000] 48) = w7 at e7 e8 f7 ⊢
  have hg2' := Nat.le_of_eq hg2
  have f37 := F36.out.trans f7 (fun _ _ h => h)
  have hz36 := F36.out.size
  have hb7 : Bel w7 (ga + 1) (.slice OA pr.length oc) pr 1000000 := ⟨e8, (HU.out.kept0 F3.out).kept0 f37, fun e => by have := HUL.out (ga + 1) (.inl (HUU.out _ (.inl e))); omega, fun y hy => ⟨fun e => by have := HUL.out (ga + 1) (.inl (HUU.out _ (.inr ⟨y, hy, .inl e⟩))); omega, fun e => by have := HUL.out (ga + 1) (.inl (HUU.out _ (.inr ⟨y, hy, .inr e⟩))); omega⟩⟩
  have HB7 := Lib.hid hb7; have E7 := Lib.hid e7; have F67 := Lib.hid f7; have F37 := Lib.hid f37; have HGA := Lib.hid hg2'
  clear hg2 hg2' e7 e8 f7 f37 hb7 hz36
  refine (bufp_any w7 p _ _ _ us (ga + 1) _ pr 1000000 _ o.kb o.i (HD3.out.kept0 F37.out).bf (by omega) (fun k hk e => by have := HD3.out.bf.lt k hk; have := HGA.out; have := F36.out.size; omega) HB7.out (by omega) ((HLK.out.kept F37.out (fun h => h)).sl (by have := HS.out; omega)) (fun e => by have e2 : gk = ga + 1 := (by simpa [Value.ownBlock] using e); have := HG3.out; have := HGA.out; have := F36.out.size; omega)).mono ?_
  rintro e w8 ⟨he, -, f8⟩
  rw [HSPP.out] at he
  obtain ⟨A2, B2, k2, v2, i2, x2, rfl, hr2, oA2, oB2, on2, od2⟩ := he.own
  have f68 : Fr no w6 w8 := F67.out.trans f8 (fun k hk e => by have e2 : k = ga + 1 := e; have := HGA.out; omega)
  have e8a := f8.heap E7.out (fun e => by have e2 : ga = ga + 1 := e; omega)
  have F68 := Lib.hid f68; have F38 := Lib.hid (F36.out.trans f68 (fun _ _ h => h)); have F48 := Lib.hid (F46.out.trans f68 (fun _ _ h => h)); have E8 := Lib.hid e8a; have HR2 := Lib.hid hr2; have OA2 := Lib.hid oA2; have OB2 := Lib.hid oB2; have ON2 := Lib.hid on2; have OD2 := Lib.hid od2
  clear he f8 f68 hr2 oA2 oB2 on2 od2 c0 c1 c2 c3 c4 ql e8a
  obtain ⟨c0, c1, c2, c3, c4, ql⟩ := five_cells (F48.out.heap HN4.out (fun h => h))
  go_wp2_with fail
  have e9 := heap_alloc_new w8 (.cells #[.slice A2 k2.length k2.length, .slice B2 v2.length v2.length] 40)
  have a9 := (Fr.refl no w8).alloc (.cells #[.slice A2 k2.length k2.length, .slice B2 v2.length v2.length] 40)
  generalize hg3 : w8.heap.size = gb at e9 ⊢
  generalize w8.alloc (.cells #[.slice A2 k2.length k2.length, .slice B2 v2.length v2.length] 40) = w9 at e9 a9 ⊢
  have hg3' := Nat.le_of_eq hg3
  have E9 := Lib.hid e9; have F89 := Lib.hid a9; have HGB := Lib.hid hg3'
  clear hg3 hg3' e9 a9
  refine (after_any w9 _ _ S o.kb o.i (HSP.out.kept0 (F48.out.trans F89.out (fun _ _ h => h))) (HK.out.kept0 (((H0.out.trans F3.out (fun _ _ h => h)).trans F38.out (fun _ _ h => h)).trans F89.out (fun _ _ h => h)))).mono ?_
  rintro e wa ⟨rfl, fa⟩
  obtain ⟨A3, B3, k3, v3, ac3, bc3, i3, hE, hr3, hg3, hb3⟩ := pairE_form (w := wa) (r := S.find? fun y => abv y.k o.kb o.i) (fun y hy => (HSP.out.kept0 ((F48.out.trans F89.out (fun _ _ h => h)).trans fa (fun _ _ h => h))).good y (List.mem_of_find?_eq_some hy))
  rw [hE]
  have hrr := hr3.symm.trans HR1.out
  simp only [Prod.mk.injEq] at hrr
  obtain ⟨rfl, rfl, rfl, rfl⟩ := hrr
  have hbu3 : ∀ k, ((Value.slice A3 k3.length ac3).ownBlock = some k ∨ (Value.slice B3 v3.length bc3).ownBlock = some k) → U k ∨ SeF g sv L k := fun k hk => by
    obtain ⟨y, hy, hk2⟩ := hb3 k hk
    exact HSB.out y (List.mem_of_find?_eq_some hy) k hk2
  have F8a := Lib.hid (F89.out.trans fa (fun _ _ h => h)); have G3 := Lib.hid hg3; have U3 := Lib.hid hbu3; have E9a := Lib.hid (fa.heap E9.out (fun h => h))
  clear hE hr3 hg3 hb3 hbu3 fa c0 c1 c2 c3 c4 ql
  obtain ⟨c0, c1, c2, c3, c4, ql⟩ := five_cells ((F48.out.trans F8a.out (fun _ _ h => h)).heap HN4.out (fun h => h))
  go_wp2_with fail
  have eb := heap_alloc_new wa (.cells #[.slice A3 k3.length ac3, .slice B3 v3.length bc3] 40)
  have ab := (Fr.refl no wa).alloc (.cells #[.slice A3 k3.length ac3, .slice B3 v3.length bc3] 40)
  generalize hg4 : wa.heap.size = gc at eb ⊢
  generalize wa.alloc (.cells #[.slice A3 k3.length ac3, .slice B3 v3.length bc3] 40) = wb at eb ab ⊢
  have hg4' := Nat.le_of_eq hg4
  have EB := Lib.hid eb; have Fab := Lib.hid ab; have HGC := Lib.hid hg4'; have F8b := Lib.hid (F8a.out.trans ab (fun _ _ h => h))
  clear hg4 hg4' eb ab
  refine (before_any wb _ _ S o.kb o.i (HSP.out.kept0 (F48.out.trans F8b.out (fun _ _ h => h))) (HK.out.kept0 (((H0.out.trans F3.out (fun _ _ h => h)).trans F38.out (fun _ _ h => h)).trans F8b.out (fun _ _ h => h)))).mono ?_
  rintro e wc ⟨rfl, fc⟩
  obtain ⟨A4, B4, k4, v4, ac4, bc4, i4, hE, hr4, hg4, hb4⟩ := pairE_form (w := wc) (r := S.reverse.find? fun y => bel y.k o.kb o.i) (fun y hy => (HSP.out.kept0 ((F48.out.trans F8b.out (fun _ _ h => h)).trans fc (fun _ _ h => h))).good y (List.mem_reverse.1 (List.mem_of_find?_eq_some hy)))
  rw [hE]
  have hrr := hr4.symm.trans HR2.out
  simp only [Prod.mk.injEq] at hrr
  obtain ⟨rfl, rfl, rfl, rfl⟩ := hrr
  have hbu4 : ∀ k, ((Value.slice A4 k4.length ac4).ownBlock = some k ∨ (Value.slice B4 v4.length bc4).ownBlock = some k) → U k ∨ SeF g sv L k := fun k hk => by
    obtain ⟨y, hy, hk2⟩ := hb4 k hk
    exact HSB.out y (List.mem_reverse.1 (List.mem_of_find?_eq_some hy)) k hk2
  have F8c := Lib.hid (F8b.out.trans fc (fun _ _ h => h)); have G4 := Lib.hid hg4; have U4 := Lib.hid hbu4
  have ebc := fc.heap EB.out (fun h => h)
  have eac := F8c.out.heap E8.out (fun h => h)
  have e9c := (Fab.out.trans fc (fun _ _ h => h)).heap E9a.out (fun h => h)
  have g3c := G3.out.kept0 (Fab.out.trans fc (fun _ _ h => h))
  have EBC := Lib.hid ebc; have EAC := Lib.hid eac; have E9C := Lib.hid e9c; have G3C := Lib.hid g3c
  clear hE hr4 hg4 hb4 hbu4 fc ebc eac e9c g3c c0 c1 c2 c3 c4 ql
  obtain ⟨c0, c1, cz, cl⟩ := two_cells EAC.out
  obtain ⟨d0, d1, dz, dl⟩ := two_cells E9C.out
  go_wp2_with fail
  obtain ⟨ed, ee, fd⟩ := two_new wc 40 40 [.slice A4 k4.length ac4, .slice B4 v4.length bc4] [.slice A1 k3.length k3.length, .slice B1 v3.length v3.length, .slice A2 k4.length k4.length, .slice B2 v4.length v4.length]
  generalize hg5 : wc.heap.size = gd at ed ee ⊢
  generalize (wc.alloc (.cells #[.slice A4 k4.length ac4, .slice B4 v4.length bc4] 40)).alloc (.cells #[.slice A1 k3.length k3.length, .slice B1 v3.length v3.length, .slice A2 k4.length k4.length, .slice B2 v4.length v4.length] 40) = wd at ed ee fd ⊢
  have hg5' := Nat.le_of_eq hg5
  have hs38 := F38.out.size; have hs8c := F8c.out.size; have hs36 := F36.out.size; have hs68 := F68.out.size; have hs37 := F37.out.size; have hs67 := F67.out.size; have hs34 := F34.out.size; have hs35 := F35.out.size
  have hs56 := HS56.out
  clear hg5 c0 c1 cz cl d0 d1 dz dl
  have f3d := (F38.out.trans F8c.out (fun _ _ h => h)).trans fd (fun _ _ h => h)
  have f6d := (F68.out.trans F8c.out (fun _ _ h => h)).trans fd (fun _ _ h => h)
  have f8d := F8c.out.trans fd (fun _ _ h => h)
  have hin := in_two (a := w3.heap.size) (b := w6.heap.size) (c := w8.heap.size) ee (OA1.out.kept0 f6d) (OB1.out.kept0 f6d) (OA2.out.kept0 f8d) (OB2.out.kept0 f8d) (fun k hk => by have := ON1.out k hk; omega) (fun k hk => by have := ON2.out k hk; omega) (by omega) OD1.out OD2.out ⟨G3.out.lk, G3.out.lv⟩ ⟨G4.out.lk, G4.out.lv⟩ hs68
  have hil : ∀ k, InPairsF (.slice (some ⟨gd + 1, 0, none⟩) 2 2) [⟨.slice A1 k3.length k3.length, .slice B1 v3.length v3.length, k3, v3, false⟩, ⟨.slice A2 k4.length k4.length, .slice B2 v4.length v4.length, k4, v4, false⟩] k → w3.heap.size ≤ k := fun k hk => by
    rcases hk with hk | ⟨y, hy, hk⟩
    · have e2 : gd + 1 = k := by simpa [Value.ownBlock] using hk
      omega
    · rcases List.mem_cons.1 hy with rfl | hy
      · have := ON1.out k hk; omega
      · cases List.mem_singleton.1 hy; have := ON2.out k hk; omega
  have hd13 := HD3.out.kept0 f3d
  have HIN := Lib.hid hin; have HIL := Lib.hid hil; have HDD := Lib.hid hd13; have F3D := Lib.hid f3d; have F6D := Lib.hid f6d; have F8D := Lib.hid f8d
  have EBD := Lib.hid (fd.heap EBC.out (fun h => h)); have EAD := Lib.hid (fd.heap EAC.out (fun h => h)); have E9D := Lib.hid (fd.heap E9C.out (fun h => h)); have EDD := Lib.hid ed
  have G3D := Lib.hid (G3C.out.kept0 fd); have G4D := Lib.hid (G4.out.kept0 fd)
  have HSZ := Lib.hid (show w3.heap.size ≤ ga ∧ w3.heap.size ≤ gb ∧ w3.heap.size ≤ gc ∧ w3.heap.size ≤ gd ∧ w3.heap.size ≤ wd.heap.size from ⟨by have := HGA.out; omega, by have := HGB.out; omega, by have := HGC.out; have := F8a.out.size; omega, by omega, by have := f3d.size; omega⟩)
  clear hin hil hd13 f3d f6d f8d ed ee fd hs38 hs8c hs36 hs68 hs37 hs67 hs34 hs35 hs56 hg5'
  refine (bc_Pairs wd b _ _ _ _ HDD.out.bc (fun i => by have := HR.out i; omega) HIN.out (by simp) (fun k hk e => by have h1 := HIL.out k hk; have h2 := HD3.out.bc.lt k e; omega)).mono ?_
  rintro e we hgr
  obtain ⟨rfl, Vz, Rz, hde, _, hre, fbe, hbe⟩ := HDD.out.book (by have := HB0.out; have := HSZ.out; omega) (fun k hk => by
    have h1 := HIL.out k hk
    have h2 := HB0.out; have h3 := F3.out.size; have h4 := HD.out.ul
    exact ⟨by omega, fun e => by have := HD3.out.bf.lt k e; omega, fun e => by have := HD3.out.rf.lt k e; omega, fun e => by have := h4 k e; omega⟩) hgr
  have hlb := HD3.out.bc.lt
  have eae := fbe.heap EAD.out (fun e => by have := hlb _ e; have := HSZ.out; omega)
  have e9e := fbe.heap E9D.out (fun e => by have := hlb _ e; have := HSZ.out; omega)
  have ebe := fbe.heap EBD.out (fun e => by have := hlb _ e; have := HSZ.out; omega)
  have ede := fbe.heap EDD.out (fun e => by have := hlb _ e; have := HSZ.out; omega)
  have hub : ∀ k, U k ∨ SeF g sv L k → ¬ BcF b V R k := fun k hk e => by
    rcases hk with hk | hk
    · exact HD.out.u3 k e hk
    · exact HD.out.d23 k hk e
  have g1e : PrV.Good we ⟨.slice A1 k3.length k3.length, .slice B1 v3.length v3.length, k3, v3⟩ := ⟨((OA1.out.kept0 F6D.out).kept fbe (fun k hk e => by have := hlb k e; have := (ON1.out k (.inl hk)).1; have := F35.out.size; omega)).sl, ((OB1.out.kept0 F6D.out).kept fbe (fun k hk e => by have := hlb k e; have := (ON1.out k (.inr hk)).1; have := F35.out.size; omega)).sl, G3.out.lk, G3.out.lv⟩
  have g2e : PrV.Good we ⟨.slice A2 k4.length k4.length, .slice B2 v4.length v4.length, k4, v4⟩ := ⟨((OA2.out.kept0 F8D.out).kept fbe (fun k hk e => by have := hlb k e; have := (ON2.out k (.inl hk)).1; have := F37.out.size; omega)).sl, ((OB2.out.kept0 F8D.out).kept fbe (fun k hk e => by have := hlb k e; have := (ON2.out k (.inr hk)).1; have := F37.out.size; omega)).sl, G4.out.lk, G4.out.lv⟩
  have g3e := G3D.out.kept fbe (fun k hk e => hub k (U3.out k (.inl hk)) e) (fun k hk e => hub k (U3.out k (.inr hk)) e)
  have g4e := G4D.out.kept fbe (fun k hk e => hub k (U4.out k (.inl hk)) e) (fun k hk e => hub k (U4.out k (.inr hk)) e)
  obtain ⟨c0, c1, cz, cl⟩ := two_cells eae
  obtain ⟨d0, d1, dz, dl⟩ := two_cells e9e
  obtain ⟨y0, y1, yz, yl⟩ := two_cells ebe
  obtain ⟨z0, z1, zz, zl⟩ := two_cells ede
  have HDE := Lib.hid hde; have HRE := Lib.hid hre; have FBE := Lib.hid fbe; have HBE := Lib.hid hbe; have G1E := Lib.hid g1e; have G2E := Lib.hid g2e; have G3E := Lib.hid g3e; have G4E := Lib.hid g4e
  clear hgr hde hre fbe hbe eae e9e ebe ede hub g1e g2e g3e g4e hlb
  go_wp2_with fail
  obtain ⟨ex, ey, fx⟩ := two_new we 40 40 [.slice A1 k3.length k3.length, .slice B1 v3.length v3.length, .slice A2 k4.length k4.length, .slice B2 v4.length v4.length] [.slice A3 k3.length ac3, .slice B3 v3.length bc3, .slice A4 k4.length ac4, .slice B4 v4.length bc4]
  generalize we.heap.size = gx at ex ey ⊢
  generalize (we.alloc (.cells #[.slice A1 k3.length k3.length, .slice B1 v3.length v3.length, .slice A2 k4.length k4.length, .slice B2 v4.length v4.length] 40)).alloc (.cells #[.slice A3 k3.length ac3, .slice B3 v3.length bc3, .slice A4 k4.length ac4, .slice B4 v4.length bc4] 40) = wf at ex ey fx ⊢
  have P1 := Lib.hid (pair_two ex (G1E.out.kept0 fx) (G2E.out.kept0 fx)); have P2 := Lib.hid (pair_two ey (G3E.out.kept0 fx) (G4E.out.kept0 fx)); have FX := Lib.hid fx
  clear ex ey fx c0 c1 cz cl d0 d1 dz dl y0 y1 yz yl z0 z1 zz zl
  refine (samep_any wf _ _ _ _ P1.out P2.out).mono ?_
  rintro e wz ⟨rfl, fz⟩
  rw [decide_eq_true (show ([⟨.slice A1 k3.length k3.length, .slice B1 v3.length v3.length, k3, v3⟩, ⟨.slice A2 k4.length k4.length, .slice B2 v4.length v4.length, k4, v4⟩] : List PrV).map PrV.kv = ([⟨.slice A3 k3.length ac3, .slice B3 v3.length bc3, k3, v3⟩, ⟨.slice A4 k4.length ac4, .slice B4 v4.length bc4, k4, v4⟩] : List PrV).map PrV.kv from rfl)]
  have fez := FX.out.trans fz (fun _ _ h => h)
  have DZ := Lib.hid (HDE.out.kept0 fez)
  have FZ := Lib.hid (show Fr (DzB p lv uv l us g sv L b V R) w3 wz from ((F3D.out.mono (fun _ _ h => h.elim)).trans (FBE.out.mono (fun _ _ h => h)) (fun k _ h => .inr (.inr h))).trans fez (fun _ _ h => h.elim))
  have BZ := Lib.hid (show ∀ k, DzB p lv uv l us g sv L b Vz Rz k → DzB p lv uv l us g sv L b V R k ∨ w3.heap.size ≤ k from fun k hk => by
    rcases HBE.out k hk with h1 | h1 | h1
    · exact .inl h1
    · exact .inr (HIL.out k h1)
    · exact .inr (by have := HSZ.out; omega))
  have HUS := Lib.hid (show us.length ≤ us.length + 1 from Nat.le_succ _)
  have HRZ := Lib.hid (show ∀ i, (Rz i).length ≤ (R i).length + 6 from fun i => by have h1 : (Rz i).length ≤ (R i).length + 5 := HRE.out i; omega)
  clear fz fez
  have f0z : Fr no w0 wz := (H0.out.trans F3.out (fun _ _ h => h)).trans FZ.out (fun k hk e => by have := (HD.out.b3 k e).2.1; omega)
  have F0Z := Lib.hid f0z
  have LKZ := Lib.hid (HLK.out.kept FZ.out (HNB.out gk HNE.out.2.1)); have LVZ := Lib.hid (HLV.out.kept FZ.out (HNB.out gv HNE.out.2.2))
  have hboxz := FZ.out.heap (F13.out.heap HN.out (fun h => h)) (HNB.out q8 HQ8.out)
  have HBX := Lib.hid hboxz
  clear f0z
  obtain ⟨c0, c1, c2, c3, c4, ql⟩ := five_cells hboxz
  clear hboxz
  go_wp2_with fail
  refine (whole_lent wz gk (.slice KA o.kb.length kc) o.kb o.kb LKZ.out (HK.out.kept0 F0Z.out) (by have := HS.out; omega) (by have := HS.out; omega)).mono ?_
  rintro e wa ⟨rfl, n1, rfl⟩
  rw [decide_eq_true rfl]
  clear c0 c1 c2 c3 c4 ql
  have hdr : Fr no wz (wz.drewN n1) := Fr.drewN _ _ _
  obtain ⟨c0, c1, c2, c3, c4, ql⟩ := five_cells (hdr.heap HBX.out (fun h => h))
  go_wp2_with fail
  refine (whole_lent (wz.drewN n1) gv (.slice VA o.vb.length vc) o.vb o.vb (LVZ.out.kept hdr (fun h => h)) ((HV.out.kept0 F0Z.out).kept0 hdr) (by have := HS.out; omega) (by have := HS.out; omega)).mono ?_
  rintro e wa ⟨rfl, n2, rfl⟩
  rw [decide_eq_true rfl]
  have hdr2 : Fr no wz ((wz.drewN n1).drewN n2) := hdr.moreN n2
  generalize (wz.drewN n1).drewN n2 = wb at hdr2 ⊢
  have FB := Lib.hid hdr2
  clear c0 c1 c2 c3 c4 ql hdr hdr2
  go_wp2_with fail
  refine (spoil_lent wb gk o.kb (LKZ.out.kept FB.out (fun h => h)) (by have := HS.out; omega)).mono ?_
  rintro e wc ⟨rfl, fc⟩
  have FC := Lib.hid fc; clear fc
  go_wp2_with fail
  refine (spoil_lent wc gv o.vb ((LVZ.out.kept FB.out (fun h => h)).kept FC.out (fun e => HNE.out.1 e.symm)) (by have := HS.out; omega)).mono ?_
  rintro e wd ⟨rfl, fd⟩
  have fbd : Fr (fun k => k = gk ∨ k = gv) wb wd := (FC.out.mono (fun _ _ h => .inl h)).trans fd (fun _ _ h => .inr h)
  have hdd := (DZ.out.kept0 FB.out).kept fbd (fun k hk e => by
    have h3 := HNE.out; have h4 := HG3.out
    rcases BZ.out k hk with h1 | h1
    · exact HNB.out k (by rcases e with e | e <;> omega) h1
    · rcases e with e | e <;> omega)
  have ftot : Fr (DzS w0.heap.size U) w wd := by
    have h5 := HD.out.ul
    refine (((F3.out.mono (fun _ _ h => h.elim)).trans FZ.out (fun k _ e => (HD.out.b3 k e).2)).trans FB.out (fun _ _ h => h.elim)).trans fbd (fun k hk e => ?_)
    have := HNE.out; rcases e with e | e <;> omega
  have DD := Lib.hid hdd; have FT := Lib.hid ftot
  clear fd fbd hdd ftot
  obtain ⟨b0, bz, bl⟩ := one_cell DD.out.rf.at_
  obtain ⟨SA, sc, hsv, _, _⟩ := DD.out.rf.row.form
  rw [hsv] at b0
  have HSV := Lib.hid hsv; clear hsv
  have e10 : ∀ n m : Nat, n = m → ((n : Int) == (m : Int)) = true := fun n m h => by simp [h]
  have e11 := e10 _ _ (by have := congrArg List.length DD.out.sy.now; simpa using this)
  have e12 := e10 _ _ DD.out.sy.1
  clear e10
  go_wp2_with fail
  refine wp_region_ord [0, 1, 2, 3, 4, 5, 7, 6, 8, 9, 10, 11, 12, 13, 15, 16, 17, 18, 19, 14, 20, 21, 22] (fun i => [Kd.p, Kd.p, Kd.p, Kd.p, Kd.p, Kd.p, Kd.e, Kd.p, Kd.e, Kd.p, Kd.p, Kd.p, Kd.p, Kd.p, Kd.g, Kd.p, Kd.p, Kd.p, Kd.l, Kd.p, Kd.p, Kd.p, Kd.p].getD i .e) (by kernel_rfl) (by kernel_rfl) ?_
  iterate 7
    first | (refine wpX_un rfl rfl ?_; go_simp) | first | refine wpX_pu rfl rfl rfl (by first | exact pu_move rfl | exact pu_assign rfl | exact pu_nilCheck rfl rfl | exact pu_binInt rfl rfl rfl | exact pu_conv rfl rfl (by kernel_rfl) | exact pu_fld rfl (by kernel_rfl) | exact pu_ix rfl rfl rfl (by kernel_rfl) | exact pu_unOp rfl | exact pu_binStr rfl rfl rfl | exact pu_len rfl rfl | exact pu_lens rfl rfl | exact pu_pick rfl | exact pu_slice rfl rfl) (fun K hK => ?_) | refine wpX_rd rfl rfl rfl (rd_load rfl) (fun K hK => ?_) | refine wpX_gr rfl rfl rfl (by first | exact gr_buildSlice rfl | exact gr_box rfl | exact gr_alloc rfl) (fun K hK => ?_) | refine wpX_ex rfl rfl rfl (fun K hK => ?_)
    try go_wp2
  refine wpX_ex rfl rfl rfl (fun K hK => ?_)
  go_wp2_with fail
  refine (blen_any wd.drew p _ _ _ _ (DD.out.kept0 (Fr.drew (Fr.refl no _))).bf).mono ?_
  rintro e we ⟨rfl, rfl⟩
  go_wp2_with fail
  refine wpX_ex rfl rfl rfl (fun K hK => ?_)
  go_wp2_with fail
  refine (rchanges_any wd.drew g _ _ (DD.out.kept0 (Fr.drew (Fr.refl no _))).rf (by have h1 := DD.out.sy.1; have h2 := HUS.out; omega)).mono ?_
  rintro e we ⟨ovc, rfl, h1, h2, fe⟩
  obtain ⟨CA, cc, rfl, _, _⟩ := h1.form
  have hdw := DD.out.kept0 ((Fr.drew (Fr.refl no wd)).trans fe (fun _ _ h => h))
  have FE := Lib.hid ((Fr.drew (Fr.refl no wd)).trans fe (fun _ _ h => h)); have DW := Lib.hid hdw
  obtain ⟨b0', bz', bl'⟩ := one_cell hdw.rf.at_
  rw [HSV.out] at b0'
  clear h1 h2 fe hdw b0 bz bl
  go_wp2_with fail
  iterate 10
    first | (refine wpX_un rfl rfl ?_; go_simp) | first | refine wpX_pu rfl rfl rfl (by first | exact pu_move rfl | exact pu_assign rfl | exact pu_nilCheck rfl rfl | exact pu_binInt rfl rfl rfl | exact pu_conv rfl rfl (by kernel_rfl) | exact pu_fld rfl (by kernel_rfl) | exact pu_ix rfl rfl rfl (by kernel_rfl) | exact pu_unOp rfl | exact pu_binStr rfl rfl rfl | exact pu_len rfl rfl | exact pu_lens rfl rfl | exact pu_pick rfl | exact pu_slice rfl rfl) (fun K hK => ?_) | refine wpX_rd rfl rfl rfl (rd_load rfl) (fun K hK => ?_) | refine wpX_gr rfl rfl rfl (by first | exact gr_buildSlice rfl | exact gr_box rfl | exact gr_alloc rfl) (fun K hK => ?_) | refine wpX_ex rfl rfl rfl (fun K hK => ?_)
    try go_wp2
  refine wpX_ca rfl rfl rfl (fun K hK => ?_)
  go_wp2_with fail
  refine (bmark_any we p _ _ _ _ DW.out.bf).mono ?_
  rintro e wf ⟨rfl, rfl⟩
  go_wp2_with fail
  refine ⟨⟨#[], _, (World.ext_self _).symm⟩, hK _ _ ?_⟩
  clear hK K
  iterate 3
    first | (refine wpX_un rfl rfl ?_; go_simp) | first | refine wpX_pu rfl rfl rfl (by first | exact pu_move rfl | exact pu_assign rfl | exact pu_nilCheck rfl rfl | exact pu_binInt rfl rfl rfl | exact pu_conv rfl rfl (by kernel_rfl) | exact pu_fld rfl (by kernel_rfl) | exact pu_ix rfl rfl rfl (by kernel_rfl) | exact pu_unOp rfl | exact pu_binStr rfl rfl rfl | exact pu_len rfl rfl | exact pu_lens rfl rfl | exact pu_pick rfl | exact pu_slice rfl rfl) (fun K hK => ?_) | refine wpX_rd rfl rfl rfl (rd_load rfl) (fun K hK => ?_) | refine wpX_gr rfl rfl rfl (by first | exact gr_buildSlice rfl | exact gr_box rfl | exact gr_alloc rfl) (fun K hK => ?_) | refine wpX_ex rfl rfl rfl (fun K hK => ?_)
    try go_wp2
  refine wpX_done ?_
  go_wp2
  go_ret
  exact ⟨rfl, _, _, _, _, _, _, _, _, DW.out, FT.out.trans FE.out (fun _ _ h => h.elim), HUS.out, HRZ.out⟩
end Go.Proofs.Ytdnohhlgaaihmaa

/- law16: a call of a buffer and of the document's, of any kind. -/
namespace Go.Proofs.Ytdnohhlgaaihmaa
open Go.RowKit

theorem does_any (w0 w : World) (p g b : Nat) (lv uv sv ov : Value) (l L : List SpV) (us : List Und) (V : Nat → Value) (R : Nat → List Value) (U : Nat → Prop) (pr : List PrV) (o : OpB) (h0 : Fr no w0 w) (hd : Dz w p lv uv l us g sv L b V R U w0.heap.size)
    (hu : Pairs w ov pr) (hU : ∀ k, (ov.ownBlock = some k ∨ ∃ y ∈ pr, y.K.ownBlock = some k ∨ y.V.ownBlock = some k) → U k) (hRi : RisP pr) (hpr : pr.length ≤ 200) (ho : o.Good w0) (hs : o.kb.length ≤ 30000 ∧ o.vb.length ≤ 30000) (hl : us.length ≤ 1000) (hR : ∀ i, (R i).length ≤ 50000) :
    Calls Try.prog 34 #[.pointer (some ⟨p, 0, none⟩), .pointer (some ⟨g, 0, none⟩), ov, .agg #[.int .u8 o.k, o.K, o.V, .bool o.i, .int .i64 o.n], .pointer (some ⟨b, 0, none⟩)] w fun e w' => DoesP w w' p us g b R U w0.heap.size e := by
  have h8 : o.k % 8 = 0 ∨ o.k % 8 = 1 ∨ o.k % 8 = 2 ∨ o.k % 8 = 3 ∨ o.k % 8 = 4 ∨ o.k % 8 = 5 ∨ o.k % 8 = 6 ∨ o.k % 8 = 7 := by omega
  rcases h8 with h | h | h | h | h | h | h | h
  · exact does_put w0 w p g b lv uv sv ov l L us V R U pr o h0 hd hu hU hRi hpr ho hs hl hR h
  · exact does_put1 w0 w p g b lv uv sv ov l L us V R U pr o h0 hd hu hU hRi hpr ho hs hl hR h
  · exact does_del w0 w p g b lv uv sv ov l L us V R U pr o h0 hd hu hU hRi hpr ho hs hl hR h
  · exact does_get w0 w p g b lv uv sv ov l L us V R U pr o h0 hd hu hU hRi hpr ho hs hl hR h
  · exact does_next w0 w p g b lv uv sv ov l L us V R U pr o h0 hd hu hU hRi hpr ho hs hl hR h
  · exact does_prev w0 w p g b lv uv sv ov l L us V R U pr o h0 hd hu hU hRi hpr ho hs hl hR h
  · exact does_back w0 w p g b lv uv sv ov l L us V R U pr o h0 hd hu hU hRi hpr ho hs hl hR h
  · exact does_seen w0 w p g b lv uv sv ov l L us V R U pr o h0 hd hu hU hRi hpr ho hs hl hR h
end Go.Proofs.Ytdnohhlgaaihmaa
