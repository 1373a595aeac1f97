/- law16: BufferWalks, from what came in. -/
import Derived.Test.YtdnohhlgaaihmaaWalkP16
import Derived.Test.YtdnohhlgaaihmaaErrs
import Derived.Test.YtdnohhlgaaihmaaFork
namespace Go.Proofs.Ytdnohhlgaaihmaa
open Go.RowKit

theorem slCut {w : World} {sz : Nat} {b o n c lo m : Nat} {xs : List Value} (h : Sl w sz (.slice (some ⟨b, o, none⟩) n c) n xs) (hl : lo + m ≤ n) : Sl w sz (.slice (some ⟨b, o + lo * sz, none⟩) m (c - lo)) m ((xs.drop (lo * sz)).take (m * sz)) := by
  obtain ⟨h1, h2⟩ := h
  have hm : lo * sz + m * sz ≤ n * sz := by rw [← Nat.add_mul]; exact Nat.mul_le_mul_right _ hl
  refine ⟨by rw [List.length_take, List.length_drop]; omega, ?_⟩
  rcases h2 with ⟨A, h2, h3⟩ | ⟨b', o', c', h2, h3, h4, h5⟩
  · simp only [Value.slice.injEq] at h2
    by_cases hm0 : m = 0
    · subst hm0; exact .inl ⟨_, by rw [show c - lo = 0 by omega], rfl⟩
    · omega
  · simp only [Value.slice.injEq, Option.some.injEq, Addr.mk.injEq, and_true, true_and] at h2
    obtain ⟨⟨rfl, rfl⟩, rfl⟩ := h2
    refine .inr ⟨b, o + lo * sz, c - lo, rfl, by omega, by omega, fun j u hj => ?_⟩
    rw [List.getElem?_take] at hj
    split at hj
    · rw [List.getElem?_drop] at hj
      have := h5 _ _ hj
      rw [show o + lo * sz + j = o + (lo * sz + j) by omega]; exact this
    · cases hj

theorem flat_one2 (l : List PrV) (j : Nat) (h : j < l.length) : ((l.flatMap PrV.cells).drop (j * 2)).take (1 * 2) = [l[j]].flatMap PrV.cells := by
  induction l generalizing j with
  | nil => simp at h
  | cons y l ih =>
    rcases j with _ | j
    · simp [PrV.cells]
    · have := ih j (by simpa using h)
      rw [show (j + 1) * 2 = j * 2 + 2 by omega]
      simpa [PrV.cells] using this

theorem find_kv {S S' : List PrV} (h : S.map PrV.kv = S'.map PrV.kv) (p : List UInt8 → Bool) : (S.find? fun y => p y.k).map PrV.kv = (S'.find? fun y => p y.k).map PrV.kv := by
  have key : ∀ S : List PrV, (S.find? fun y => p y.k).map PrV.kv = (S.map PrV.kv).find? fun z => p z.1 := fun S => by
    induction S with
    | nil => rfl
    | cons y S ih =>
      rw [List.map_cons, List.find?_cons, List.find?_cons]
      show (match p y.k with | true => some y | false => S.find? fun y => p y.k).map PrV.kv = match p y.k with | true => some y.kv | false => (S.map PrV.kv).find? fun z => p z.1
      cases p y.k
      · exact ih
      · rfl
  rw [key, key, h]

set_option maxRecDepth 100000 in
set_option maxHeartbeats 16000000 in
theorem walks_walk (w : World) (U X : Value) (ps : List PrV) (l : List OpB) (hu : Pairs w U ps) (hps : ps.length ≤ 200) (hx : OpsB w X l) (ho : over16 l = false) :
    Calls Try.prog 3 #[U, X] w fun e w' => e = .returned (.bool true) ∧ Fr no w w' := by
  obtain ⟨n1, n2⟩ := over16_short ho
  obtain ⟨UA, Uc, rfl, hUc, _⟩ := hu.sl.form
  obtain ⟨A, c, rfl, hc1, _⟩ := hx.sl.form
  have d1 : decide ((200 : Int) < (ps.length : Int)) = false := decide_eq_false (by omega)
  have HU := Lib.hid hu; have HX := Lib.hid hx; have HO := Lib.hid ho; have HS := Lib.hid n2; clear hu hx ho n2
  go_enter Try.func3, Try.ntmps3
  go_wp2_with fail
  refine (much16_any w _ l HX.out).mono ?_
  rintro e w1 ⟨rfl, f1⟩
  rw [HO.out]
  have F1 := Lib.hid f1; clear f1
  go_wp2_with fail
  refine (filled16_any w1 _ l (HX.out.kept0 F1.out) n1 HS.out).mono ?_
  rintro e w2 ⟨p, lv, sl, uv, us, rfl, hb, -, hus⟩
  have HB := Lib.hid hb; clear hb
  have hsl := HB.out.len
  go_wp2_with fail
  refine (known16_any w2).mono ?_
  rintro e w3 ⟨rfl, f3⟩
  have F3 := Lib.hid ((F1.out.trans HB.out.fr (fun _ _ h => h)).trans f3 (fun _ _ h => h)); have HB3 := Lib.hid (HB.out.bf.kept0 f3); clear f3
  go_wp2_with fail
  refine (rising_any w3 _ ps (HU.out.kept0 F3.out) (by omega)).mono ?_
  rintro e w4 ⟨ov, L0, rfl, hpt, hLl, -, f4⟩
  have hR : (riseL L0).length ≤ 200 := by have := riseL_len L0; omega
  have hRr := rise_risP L0
  generalize riseL L0 = R at hpt hR hRr
  obtain ⟨OA, oc, rfl, _, _⟩ := hpt.row.sl.form
  have F4 := Lib.hid (F3.out.trans f4 (fun _ _ h => h)); have HB4 := Lib.hid (HB3.out.kept0 f4); have HPT := Lib.hid hpt; have HRR := Lib.hid hRr; clear f4 hpt hLl hRr
  go_wp2_with fail
  have e1 := heap_alloc_new w4 (.cells #[.slice none 0 0] 32)
  have a1 := (Fr.refl no w4).alloc (.cells #[.slice none 0 0] 32)
  generalize hg : w4.heap.size = g at e1 ⊢
  generalize w4.alloc (.cells #[.slice none 0 0] 32) = w5 at e1 a1 ⊢
  have hg1 := Nat.le_of_eq hg; have hg2 := Nat.le_of_eq hg.symm
  have A45 := Lib.hid a1; have F5 := Lib.hid (F4.out.trans a1 (fun _ _ h => h)); have HB5 := Lib.hid (HB4.out.kept0 a1); have HPT5 := Lib.hid (HPT.out.kept0 a1); have HN := Lib.hid e1; have HG := Lib.hid (And.intro hg1 hg2)
  clear hg hg1 hg2 e1 a1
  refine (changes_any w5 p lv uv sl us HB5.out (by omega)).mono ?_
  rintro e w6 ⟨A6, os, rfl, ht, hpr, f6⟩
  have hol : os.length = sl.length := by have := congrArg List.length hpr; simpa using this
  have hos : os.length ≤ 300 := by omega
  have HT := Lib.hid ht; have HPR := Lib.hid hpr; have HOL := Lib.hid hol; have F6 := Lib.hid f6; have HB6 := Lib.hid (HB5.out.kept0 f6)
  have HGO := Lib.hid (ht.goods hpr HB5.out.good)
  clear ht hpr f6 hol
  go_wp2
  go_loopw [9] (fun i wr => ∃ (j : Nat) (sv : Value) (L : List SpV), j ≤ os.length ∧ i = .int .i64 j ∧ Rf wr g sv L ∧ L.map SpV.cnt = (os.take j).map SpV.cnt ∧ (∀ q, SeF g sv L q → q = g ∨ w6.heap.size ≤ q) ∧ Fr (fun q => q = g) w6 wr) (fun i _ => os.length - (intOf i).toNat)
  case atStart =>
    refine ⟨0, .slice none 0 0, [], Nat.zero_le _, rfl, ⟨F6.out.heap HN.out (fun h => h), ow_nil _ _ _, (fun _ h => nomatch h), by simp [Value.ownBlock], (fun _ h => nomatch h)⟩, rfl, fun q hq => ?_, Fr.refl _ _⟩
    rcases hq with rfl | hk | ⟨_, h, _⟩
    · exact .inl rfl
    · simp [Value.ownBlock] at hk
    · cases h
  case round =>
    obtain ⟨j, sv, L, hj, rfl, hrf, hLc, hnew, hf⟩ := hrel
    have hLj : L.length = j := by have := congrArg List.length hLc; simpa [Nat.min_eq_left hj] using this
    have hl5 : L.length ≤ 100000 := by omega
    have HR := Lib.hid hrf; have HLC := Lib.hid hLc; have HNEW := Lib.hid hnew; have HF := Lib.hid hf; have HLJ := Lib.hid hLj
    clear hrf hLc hnew hf hLj
    by_cases hlt : j < os.length
    · obtain ⟨b, o, hA, q0, q1, q2⟩ := Spans.at HT.out.row.sl j hlt
      subst hA
      have hg := HGO.out os[j] (List.getElem_mem _)
      obtain ⟨FA, hFA⟩ := (HT.out.form os[j] (List.getElem_mem _)).1
      obtain ⟨TA, hTA⟩ := (HT.out.form os[j] (List.getElem_mem _)).2
      have hbg : ¬ b = g := fun e => by
        have := HT.out.new g (.inl (by rw [← e]; rfl)); have := (Array.getElem?_eq_some_iff.1 HN.out).1; omega
      have hsF : ∀ q, os[j].F.ownBlock = some q → ¬ q = g := fun q hq e => by
        have := HT.out.new q (.inr ⟨os[j], List.getElem_mem _, .inl hq⟩); have := (Array.getElem?_eq_some_iff.1 HN.out).1; omega
      have hsT : ∀ q, os[j].T.ownBlock = some q → ¬ q = g := fun q hq e => by
        have := HT.out.new q (.inr ⟨os[j], List.getElem_mem _, .inr hq⟩); have := (Array.getElem?_eq_some_iff.1 HN.out).1; omega
      have sF := hg.F.kept HF.out hsF
      have sT := hg.T.kept HF.out hsT
      have lF := hg.lf; have lT := hg.lt
      rw [hFA] at q0 sF; rw [hTA] at q1 sT
      have q0 := HF.out.cell q0 hbg; have q1 := HF.out.cell q1 hbg; have q2 := HF.out.cell q2 hbg
      have hq := World.block_lt_of_cell? _ _ q0
      have SF := Lib.hid sF; have ST := Lib.hid sT
      clear hg hFA hTA hbg hsF hsT sF sT
      rcases hbo : os[j].o with _ | _
      · rw [hbo] at q2
        have HBO := Lib.hid hbo; clear hbo
        go_wp2_with fail
        refine wp_region_ord (List.range 12) (fun i => [Kd.p, Kd.p, Kd.p, Kd.p, Kd.p, Kd.l, Kd.p, Kd.p, Kd.p, Kd.p, Kd.l, Kd.e].getD i .e) (by kernel_rfl) (by kernel_rfl) ?_
        iterate 11
          first | refine wpX_pu rfl rfl rfl (by first | exact pu_move rfl | exact pu_assign rfl | exact pu_nilCheck rfl rfl | exact pu_binInt rfl rfl rfl | exact pu_conv rfl rfl (by kernel_rfl) | exact pu_fld rfl (by kernel_rfl) | exact pu_ix rfl rfl rfl (by kernel_rfl) | exact pu_unOp rfl | exact pu_binStr rfl rfl rfl | exact pu_len rfl rfl | exact pu_lens rfl rfl | exact pu_pick rfl | exact pu_slice rfl rfl) (fun K hK => ?_) | refine wpX_rd rfl rfl rfl (rd_load rfl) (fun K hK => ?_) | refine wpX_gr rfl rfl rfl (by first | exact gr_buildSlice rfl | exact gr_box rfl | exact gr_alloc rfl) (fun K hK => ?_) | refine wpX_ex rfl rfl rfl (fun K hK => ?_)
          try go_wp2
        refine wpX_ex rfl rfl rfl (fun K hK => ?_)
        go_wp2_with fail
        refine (rput_any _ g sv _ _ L os[j].f os[j].t (HR.out.kept0 (by (repeat first | exact Fr.refl _ _ | exact Fr.drewN _ _ _ | apply Fr.drew | apply Fr.alloc | apply Fr.setAt | apply Fr.moreN))) (SF.out.kept0 (by (repeat first | exact Fr.refl _ _ | exact Fr.drewN _ _ _ | apply Fr.drew | apply Fr.alloc | apply Fr.setAt | apply Fr.moreN))) (ST.out.kept0 (by (repeat first | exact Fr.refl _ _ | exact Fr.drewN _ _ _ | apply Fr.drew | apply Fr.alloc | apply Fr.setAt | apply Fr.moreN))) lF lT hl5).mono ?_
        rintro e w8 ⟨rfl, sv', F, T, h1, h2, h3⟩
        have hbo := HBO.out
        have hcnt : (L ++ [(⟨F, T, os[j].f, os[j].t, false⟩ : SpV)]).map SpV.cnt = (os.take (j + 1)).map SpV.cnt := by
          rw [List.map_append, HLC.out, List.take_succ_eq_append_getElem (by omega), List.map_append]
          congr 1
          simp [SpV.cnt, hbo]
        have hf5 : Fr (fun q => q = g) w6 w8 := (Fr.drew HF.out).trans h2 (fun k hk e => by
          rcases e with e | e
          · exact e
          · rcases HNEW.out k (.inr (.inl e)) with h | h; exact h; omega)
        have hn5 : ∀ k, SeF g sv' (L ++ [⟨F, T, os[j].f, os[j].t, false⟩]) k → k = g ∨ w6.heap.size ≤ k := fun k hk => by
          rcases h3 k hk with e | ⟨e, _⟩
          · exact HNEW.out k e
          · have := HF.out.size; have h4 : wr.drew.heap.size = wr.heap.size := rfl; exact .inr (by omega)
        have H1 := Lib.hid h1; have HF5 := Lib.hid hf5; have HN5 := Lib.hid hn5; have HCN := Lib.hid hcnt; clear h1 h2 h3 hf5 hn5 hcnt hbo
        go_wp2_with fail
        refine wpX_done ?_
        go_wp2
        go_roundw
        case rel => exact ⟨j + 1, sv', L ++ [⟨F, T, os[j].f, os[j].t, false⟩], hlt, by go_num, H1.out, HCN.out, HN5.out, HF5.out⟩
        case measure => simp [intOf]; omega
      · rw [hbo] at q2
        have HBO := Lib.hid hbo; clear hbo
        go_wp2_with fail
        refine (rdel_any _ g sv _ L os[j].f (HR.out.kept0 (by (repeat first | exact Fr.refl _ _ | exact Fr.drewN _ _ _ | apply Fr.drew | apply Fr.alloc | apply Fr.setAt | apply Fr.moreN))) (SF.out.kept0 (by (repeat first | exact Fr.refl _ _ | exact Fr.drewN _ _ _ | apply Fr.drew | apply Fr.alloc | apply Fr.setAt | apply Fr.moreN))) lF hl5).mono ?_
        rintro e w8 ⟨rfl, sv', F, T, h1, h2, h3⟩
        have hbo := HBO.out
        have hcnt : (L ++ [(⟨F, T, os[j].f, [], true⟩ : SpV)]).map SpV.cnt = (os.take (j + 1)).map SpV.cnt := by
          rw [List.map_append, HLC.out, List.take_succ_eq_append_getElem (by omega), List.map_append]
          congr 1
          simp [SpV.cnt, hbo]
        have hf5 : Fr (fun q => q = g) w6 w8 := HF.out.trans h2 (fun k hk e => by
          rcases e with e | e
          · exact e
          · rcases HNEW.out k (.inr (.inl e)) with h | h; exact h; omega)
        have hn5 : ∀ k, SeF g sv' (L ++ [⟨F, T, os[j].f, [], true⟩]) k → k = g ∨ w6.heap.size ≤ k := fun k hk => by
          rcases h3 k hk with e | ⟨e, _⟩
          · exact HNEW.out k e
          · have := HF.out.size; exact .inr (by omega)
        have H1 := Lib.hid h1; have HF5 := Lib.hid hf5; have HN5 := Lib.hid hn5; have HCN := Lib.hid hcnt; clear h1 h2 h3 hf5 hn5 hcnt hbo
        go_wp2
        go_roundw
        case rel => exact ⟨j + 1, sv', L ++ [⟨F, T, os[j].f, [], true⟩], hlt, by go_num, H1.out, HCN.out, HN5.out, HF5.out⟩
        case measure => simp [intOf]; omega
    · obtain rfl : j = os.length := by omega
      have hrl := ris_of_pr HPR.out HB5.out.ris
      have hLc : L.map SpV.cnt = os.map SpV.cnt := by rw [HLC.out, List.take_of_length_le (Nat.le_refl _)]
      have hLr : Ris L := ris_cnt hLc.symm hrl
      have hoc : os.map SpV.cnt = sl.map SpV.cnt := by
        have e : SpV.cnt = fun x : SpV => (x.f, if x.o then [] else x.t, x.o) := rfl
        have := congrArg (List.map (fun y : List UInt8 × List UInt8 × Bool => (y.1, if y.2.2 then [] else y.2.1, y.2.2))) HPR.out
        rw [e]
        simpa [List.map_map, Function.comp_def] using this
      have hskv := seen_cnt L sl R (hLc.trans hoc)
      have hsr := (seenL_spec L R hLr HRR.out).1
      have hlj := HLJ.out
      have hslen : (seenL L R).length ≤ 500 := by have := seenL_len L R; omega
      have hg12 := HG.out
      have f4r : Fr no w4 wr := ((A45.out.trans F6.out (fun _ _ h => h)).trans HF.out (fun q hq e => by have e2 : q = g := e; omega))
      have F4R := Lib.hid f4r
      have HSK := Lib.hid hskv; have HSR := Lib.hid hsr; have HLR := Lib.hid hLr
      clear hrl hLc hoc hskv hsr hg12 f4r hLr
      go_wp2_with fail
      refine (seen_any wr g sv (.slice OA R.length oc) L R HR.out hl5 ((HPT.out.pairs (by omega)).kept0 F4R.out) (by omega)).mono ?_
      rintro e w7 ⟨ov2, rfl, h1, h2, h3⟩
      rw [chg_ris HLR.out] at h1
      have hSg : ∀ y ∈ seenL L R, y.Good w7 := fun y hy => by
        rcases seenL_mem _ _ _ hy with h | ⟨x, hx, rfl⟩
        · exact ((HPT.out.pairs (by omega)).kept0 (F4R.out.trans h3 (fun _ _ h => h))).good y h
        · have hx := (HR.out.good x hx).kept0 h3
          exact ⟨hx.F, hx.T, hx.lf, hx.lt⟩
      have HSR := HSR; have HSK := HSK
      generalize seenL L R = S at h1 HSK HSR hslen hSg
      obtain ⟨SA, sc, rfl, hsc, _⟩ := h1.sl.form
      have hSP : Pairs w7 (.slice SA S.length sc) S := ⟨h1.sl, hSg, by omega⟩
      have HSP := Lib.hid hSP; have F7 := Lib.hid ((F4.out.trans F4R.out (fun _ _ h => h)).trans h3 (fun _ _ h => h)); have F47 := Lib.hid (F4R.out.trans h3 (fun _ _ h => h))
      have HB7 := Lib.hid (HB4.out.kept0 (F4R.out.trans h3 (fun _ _ h => h))); have HPT7 := Lib.hid (HPT.out.kept0 (F4R.out.trans h3 (fun _ _ h => h)))
      clear h1 h2 h3 hSg hSP
      go_wp2
      go_loopw [11, 12, 13] (fun fv bv iv wq => ∃ (j : Nat) (FA : Option Addr) (fc : Nat) (fb : List UInt8) (b : Bool), j ≤ S.length + 1 ∧ iv = .int .i64 j ∧ fv = .slice FA fb.length fc ∧ bv = .bool b ∧ Sl wq 1 (.slice FA fb.length fc) fb.length (bvs fb) ∧ (∀ q, (Value.slice FA fb.length fc).ownBlock = some q → q < wq.heap.size) ∧ ((j = 0 ∧ fb = [] ∧ b = true) ∨ (∃ i, j = i + 1 ∧ b = false ∧ ∃ hi : i < S.length, fb = S[i].k) ∨ j = S.length + 1) ∧ Fr no w7 wq) (fun _ _ iv _ => S.length + 1 - (intOf iv).toNat)
      case atStart => exact ⟨0, none, 0, [], true, by omega, rfl, rfl, rfl, ⟨rfl, .inl ⟨none, rfl, rfl⟩⟩, fun q hq => by simp [Value.ownBlock] at hq, .inl ⟨rfl, rfl, rfl⟩, Fr.refl _ _⟩
      case round =>
        obtain ⟨j, FA, fc, fb, b, hj, rfl, rfl, rfl, hFS, hFl, hcond, hfq⟩ := hrel
        have HFS := Lib.hid hFS; have HFL := Lib.hid hFl; have HCO := Lib.hid hcond; have HFQ := Lib.hid hfq; clear hFS hFl hcond hfq
        by_cases hle : j ≤ S.length
        · go_wp2_with fail
          have hco : (j = 0 ∧ fb = [] ∧ b = true) ∨ ∃ i, j = i + 1 ∧ b = false ∧ ∃ hi : i < S.length, fb = S[i].k := by rcases HCO.out with h | h | h; exact .inl h; exact .inr h; omega
          have hsee := seeN_find HB7.out.ris HRR.out 1000000 (by omega) fb b
          rw [← find_kv HSK.out (fun k => abv k fb b), walkN HSR.out j fb b hco] at hsee
          have HSEE := Lib.hid hsee; clear hco hsee
          have e1 := heap_alloc_new wr (.cells #[.slice OA R.length oc, .int .i64 1000000] 48)
          have a1 := (Fr.refl no wr).alloc (.cells #[.slice OA R.length oc, .int .i64 1000000] 48)
          generalize hgq : wr.heap.size = gq at e1 ⊢
          generalize wr.alloc (.cells #[.slice OA R.length oc, .int .i64 1000000] 48) = wa at e1 a1 ⊢
          have hgq1 := Nat.le_of_eq hgq; have hgq2 := Nat.le_of_eq hgq.symm
          have fwa : Fr no w7 wa := HFQ.out.trans a1 (fun _ _ h => h)
          have s7 := HFQ.out.size
          have hbq : Bel wa gq (.slice OA R.length oc) R 1000000 := ⟨e1, (HPT7.out.pairs (by omega)).kept0 fwa, fun e => by have := HPT7.out.new gq (.inl e); omega, fun y hy => ⟨fun e => by have := HPT7.out.new gq (.inr ⟨y, hy, .inl e⟩); omega, fun e => by have := HPT7.out.new gq (.inr ⟨y, hy, .inr e⟩); omega⟩⟩
          have hbf : ∀ q, BfF p lv sl uv us q → q ≠ gq := fun q hq => by have := HB7.out.lt q hq; omega
          have hfg : (Value.slice FA fb.length fc).ownBlock ≠ some gq := fun e => by have := HFL.out gq e; omega
          have HGQ := Lib.hid (And.intro hgq1 hgq2); have FWA := Lib.hid fwa; have A1 := Lib.hid a1; have HBQ := Lib.hid hbq; have HBFQ := Lib.hid hbf; have HFG := Lib.hid hfg; have S7 := Lib.hid s7
          clear e1 a1 hgq hgq1 hgq2 fwa hbq hbf hfg s7
          refine (bufn_any wa p lv uv sl us gq (.slice OA R.length oc) R 1000000 (.slice FA fb.length fc) fb b (HB7.out.kept0 FWA.out) (by omega) HBFQ.out HBQ.out (by omega) (HFS.out.kept0 A1.out) HFG.out).mono ?_
          rintro e wb ⟨he, -, fb1⟩
          rw [HSEE.out] at he
          obtain ⟨PK, PV, pk, pv, pkc, pvc, pis, pc, rfl, hres, h1, h2, h3⟩ := he.form
          have fqb : Fr no wr wb := A1.out.trans fb1 (fun q hq e => by have e2 : q = gq := e; have := HGQ.out; omega)
          have FQB := Lib.hid fqb; have FWA7 := Lib.hid (HFQ.out.trans fqb (fun _ _ h => h)); have PK1 := Lib.hid h1; have PV1 := Lib.hid h2; have PN := Lib.hid h3
          clear he h1 h2 h3 fqb fb1
          by_cases hlt : j < S.length
          · rw [List.getElem?_eq_getElem hlt] at hres
            simp only [Option.map_some, resN, PrV.kv, Prod.mk.injEq] at hres
            obtain ⟨rfl, rfl, hpk, hpv⟩ := hres
            have HPK := Lib.hid (And.intro hpk hpv); clear hpk hpv
            obtain ⟨sb, so, _, _, _, _, hSA, -⟩ := HSP.out.at j hlt
            subst hSA
            have hcj : ¬ sc = j := by omega
            have d5 : decide (j < S.length) = true := decide_eq_true hlt
            go_wp2_with fail
            have e3 := heap_alloc_new wb (.cells #[.slice PK pk.length pkc, .slice PV pv.length pvc] 40)
            have a3 := (Fr.refl no wb).alloc (.cells #[.slice PK pk.length pkc, .slice PV pv.length pvc] 40)
            generalize wb.heap.size = gp at e3 ⊢
            generalize wb.alloc (.cells #[.slice PK pk.length pkc, .slice PV pv.length pvc] 40) = wc at e3 a3 ⊢
            obtain ⟨c0, c1, z3, l3⟩ := two_cells e3
            have A3 := Lib.hid a3; have E3 := Lib.hid e3; clear a3 e3
            refine wp_region_ord [0, 1, 2, 3, 4, 5, 6, 7, 8, 9, 10, 11, 12, 13, 15, 16, 17, 18, 19, 14, 20, 21, 22, 23] (fun i => [Kd.p, Kd.p, Kd.p, Kd.p, Kd.p, Kd.p, Kd.p, Kd.p, Kd.p, Kd.p, Kd.p, Kd.p, Kd.p, Kd.l, Kd.g, Kd.p, Kd.p, Kd.p, Kd.p, Kd.p, Kd.e, Kd.p, Kd.p, Kd.p].getD i .e) (by kernel_rfl) (by kernel_rfl) ?_
            iterate 8
              first | (refine wpX_un rfl rfl ?_; go_simp) | first | refine wpX_pu rfl rfl rfl (by first | exact pu_move rfl | exact pu_assign rfl | exact pu_nilCheck rfl rfl | exact pu_binInt rfl rfl rfl | exact pu_conv rfl rfl (by kernel_rfl) | exact pu_fld rfl (by kernel_rfl) | exact pu_ix rfl rfl rfl (by kernel_rfl) | exact pu_unOp rfl | exact pu_binStr rfl rfl rfl | exact pu_len rfl rfl | exact pu_lens rfl rfl | exact pu_pick rfl | exact pu_slice rfl rfl) (fun K hK => ?_) | refine wpX_rd rfl rfl rfl (rd_load rfl) (fun K hK => ?_) | refine wpX_gr rfl rfl rfl (by first | exact gr_buildSlice rfl | exact gr_box rfl | exact gr_alloc rfl) (fun K hK => ?_) | refine wpX_ex rfl rfl rfl (fun K hK => ?_)
              try go_wp2
            refine wpX_pv (.bool false) rfl rfl rfl (fun w' => by go_simp) ?_
            go_simp
            iterate 11
              first | (refine wpX_un rfl rfl ?_; go_simp) | first | refine wpX_pu rfl rfl rfl (by first | exact pu_move rfl | exact pu_assign rfl | exact pu_nilCheck rfl rfl | exact pu_binInt rfl rfl rfl | exact pu_conv rfl rfl (by kernel_rfl) | exact pu_fld rfl (by kernel_rfl) | exact pu_ix rfl rfl rfl (by kernel_rfl) | exact pu_unOp rfl | exact pu_binStr rfl rfl rfl | exact pu_len rfl rfl | exact pu_lens rfl rfl | exact pu_pick rfl | exact pu_slice rfl rfl) (fun K hK => ?_) | refine wpX_rd rfl rfl rfl (rd_load rfl) (fun K hK => ?_) | refine wpX_gr rfl rfl rfl (by first | exact gr_buildSlice rfl | exact gr_box rfl | exact gr_alloc rfl) (fun K hK => ?_) | refine wpX_ex rfl rfl rfl (fun K hK => ?_)
              try go_wp2
            refine wpX_ex rfl rfl rfl (fun K hK => ?_)
            go_wp2_with fail
            have hcut := slCut (lo := j) (m := 1) HSP.out.sl (by omega)
            rw [flat_one2 S j hlt] at hcut
            have fwc : Fr no w7 wc := FWA7.out.trans A3.out (fun _ _ h => h)
            refine (samep_any _ _ _ [⟨.slice PK pk.length pkc, .slice PV pv.length pvc, pk, pv⟩] [S[j]] (pair_one (w := (wc.alloc (.cells #[.slice PK pk.length pkc, .slice PV pv.length pvc] 40)).drew) (heap_alloc_new wc _) ((PK1.out.kept0 A3.out).kept0 (by (repeat first | exact Fr.refl _ _ | exact Fr.drewN _ _ _ | apply Fr.drew | apply Fr.alloc | apply Fr.setAt | apply Fr.moreN))) ((PV1.out.kept0 A3.out).kept0 (by (repeat first | exact Fr.refl _ _ | exact Fr.drewN _ _ _ | apply Fr.drew | apply Fr.alloc | apply Fr.setAt | apply Fr.moreN))) (by rw [← HPK.out.1]; exact (HSP.out.good S[j] (List.getElem_mem _)).lk) (by rw [← HPK.out.2]; exact (HSP.out.good S[j] (List.getElem_mem _)).lv))
              ⟨(hcut.kept0 fwc).kept0 (by (repeat first | exact Fr.refl _ _ | exact Fr.drewN _ _ _ | apply Fr.drew | apply Fr.alloc | apply Fr.setAt | apply Fr.moreN)), fun y hy => by rw [List.mem_singleton.1 hy]; exact ((HSP.out.good S[j] (List.getElem_mem _)).kept0 fwc).kept0 (by (repeat first | exact Fr.refl _ _ | exact Fr.drewN _ _ _ | apply Fr.drew | apply Fr.alloc | apply Fr.setAt | apply Fr.moreN)), by simp⟩).mono ?_
            rintro e wd ⟨rfl, fd⟩
            rw [show decide ([(⟨.slice PK pk.length pkc, .slice PV pv.length pvc, pk, pv⟩ : PrV)].map PrV.kv = [S[j]].map PrV.kv) = true by refine decide_eq_true ?_; show [(pk, pv)] = [(S[j].k, S[j].v)]; rw [HPK.out.1, HPK.out.2]]
            have fcd : Fr no wc wd := (by (repeat first | exact Fr.refl _ _ | exact Fr.drewN _ _ _ | apply Fr.drew | apply Fr.alloc | apply Fr.setAt | apply Fr.moreN) : Fr no wc (wc.alloc (.cells #[.slice PK pk.length pkc, .slice PV pv.length pvc] 40)).drew).trans fd (fun _ _ h => h)
            obtain ⟨c0, c1, z3, l3⟩ := two_cells (fcd.heap E3.out (fun h => h))
            have hpl : ∀ q, (Value.slice PK pk.length pkc).ownBlock = some q → q < wd.heap.size := fun q hq => by have := PN.out q (.inl hq); have := A3.out.size; have := fcd.size; omega
            have FD := Lib.hid (fwc.trans fcd (fun _ _ h => h)); have PKD := Lib.hid ((PK1.out.kept0 A3.out).kept0 fcd); have HPL := Lib.hid hpl; clear fd fcd fwc hcut hpl
            go_wp2_with fail
            iterate 3
              first | (refine wpX_un rfl rfl ?_; go_simp) | first | refine wpX_pu rfl rfl rfl (by first | exact pu_move rfl | exact pu_assign rfl | exact pu_nilCheck rfl rfl | exact pu_binInt rfl rfl rfl | exact pu_conv rfl rfl (by kernel_rfl) | exact pu_fld rfl (by kernel_rfl) | exact pu_ix rfl rfl rfl (by kernel_rfl) | exact pu_unOp rfl | exact pu_binStr rfl rfl rfl | exact pu_len rfl rfl | exact pu_lens rfl rfl | exact pu_pick rfl | exact pu_slice rfl rfl) (fun K hK => ?_) | refine wpX_rd rfl rfl rfl (rd_load rfl) (fun K hK => ?_) | refine wpX_gr rfl rfl rfl (by first | exact gr_buildSlice rfl | exact gr_box rfl | exact gr_alloc rfl) (fun K hK => ?_) | refine wpX_ex rfl rfl rfl (fun K hK => ?_)
              try go_wp2
            refine wpX_done ?_
            go_wp2
            go_roundw
            case rel => exact ⟨j + 1, PK, pkc, pk, false, by omega, by go_num, rfl, rfl, PKD.out, HPL.out, .inr (.inl ⟨j, rfl, rfl, hlt, HPK.out.1.symm⟩), FD.out⟩
            case measure => simp [intOf]; omega
          · obtain rfl : j = S.length := by omega
            rw [List.getElem?_eq_none (Nat.le_refl _)] at hres
            simp only [Option.map_none, resN, Prod.mk.injEq] at hres
            obtain ⟨rfl, rfl, hpk, hpv⟩ := hres
            have HPK := Lib.hid (And.intro hpk hpv); clear hpk hpv
            have d5 : decide (S.length < S.length) = false := decide_eq_false (by omega)
            go_wp2_with fail
            have e3 := heap_alloc_new wb (.cells #[.slice PK pk.length pkc, .slice PV pv.length pvc] 40)
            have a3 := (Fr.refl no wb).alloc (.cells #[.slice PK pk.length pkc, .slice PV pv.length pvc] 40)
            generalize wb.heap.size = gp at e3 ⊢
            generalize wb.alloc (.cells #[.slice PK pk.length pkc, .slice PV pv.length pvc] 40) = wc at e3 a3 ⊢
            obtain ⟨c0, c1, z3, l3⟩ := two_cells e3
            have hpl : ∀ q, (Value.slice PK pk.length pkc).ownBlock = some q → q < wc.heap.size := fun q hq => by have := PN.out q (.inl hq); have := a3.size; omega
            have A3 := Lib.hid a3; have HPL := Lib.hid hpl; clear a3 e3 hpl
            refine wp_region_ord [0, 1, 2, 3, 4, 5, 6, 7, 8, 9, 10, 11, 12, 13, 15, 16, 17, 18, 19, 14, 20, 21, 22, 23] (fun i => [Kd.p, Kd.p, Kd.p, Kd.p, Kd.p, Kd.p, Kd.p, Kd.p, Kd.p, Kd.p, Kd.p, Kd.p, Kd.p, Kd.l, Kd.g, Kd.p, Kd.p, Kd.p, Kd.p, Kd.p, Kd.e, Kd.p, Kd.p, Kd.p].getD i .e) (by kernel_rfl) (by kernel_rfl) ?_
            iterate 8
              first | (refine wpX_un rfl rfl ?_; go_simp) | first | refine wpX_pu rfl rfl rfl (by first | exact pu_move rfl | exact pu_assign rfl | exact pu_nilCheck rfl rfl | exact pu_binInt rfl rfl rfl | exact pu_conv rfl rfl (by kernel_rfl) | exact pu_fld rfl (by kernel_rfl) | exact pu_ix rfl rfl rfl (by kernel_rfl) | exact pu_unOp rfl | exact pu_binStr rfl rfl rfl | exact pu_len rfl rfl | exact pu_lens rfl rfl | exact pu_pick rfl | exact pu_slice rfl rfl) (fun K hK => ?_) | refine wpX_rd rfl rfl rfl (rd_load rfl) (fun K hK => ?_) | refine wpX_gr rfl rfl rfl (by first | exact gr_buildSlice rfl | exact gr_box rfl | exact gr_alloc rfl) (fun K hK => ?_) | refine wpX_ex rfl rfl rfl (fun K hK => ?_)
              try go_wp2
            refine wpX_pv (.bool false) rfl rfl rfl (fun w' => by go_simp) ?_
            go_simp
            iterate 15
              first | (refine wpX_un rfl rfl ?_; go_simp) | first | refine wpX_pu rfl rfl rfl (by first | exact pu_move rfl | exact pu_assign rfl | exact pu_nilCheck rfl rfl | exact pu_binInt rfl rfl rfl | exact pu_conv rfl rfl (by kernel_rfl) | exact pu_fld rfl (by kernel_rfl) | exact pu_ix rfl rfl rfl (by kernel_rfl) | exact pu_unOp rfl | exact pu_binStr rfl rfl rfl | exact pu_len rfl rfl | exact pu_lens rfl rfl | exact pu_pick rfl | exact pu_slice rfl rfl) (fun K hK => ?_) | refine wpX_rd rfl rfl rfl (rd_load rfl) (fun K hK => ?_) | refine wpX_gr rfl rfl rfl (by first | exact gr_buildSlice rfl | exact gr_box rfl | exact gr_alloc rfl) (fun K hK => ?_) | refine wpX_ex rfl rfl rfl (fun K hK => ?_)
              try go_wp2
            refine wpX_done ?_
            go_wp2
            go_roundw
            case rel => exact ⟨S.length + 1, PK, pkc, pk, false, by omega, by go_num, rfl, rfl, (PK1.out.kept0 A3.out).kept0 (by (repeat first | exact Fr.refl _ _ | exact Fr.drewN _ _ _ | apply Fr.drew | apply Fr.alloc | apply Fr.setAt | apply Fr.moreN)), HPL.out, .inr (.inr rfl), Fr.drew (FWA7.out.trans A3.out (fun _ _ h => h))⟩
            case measure => simp [intOf]
        · obtain rfl : j = S.length + 1 := by omega
          have F8 := Lib.hid (F7.out.trans HFQ.out (fun _ _ h => h)); have HB8 := Lib.hid (HB7.out.kept0 HFQ.out); have HPT8 := Lib.hid (HPT7.out.kept0 HFQ.out); have HSP8 := Lib.hid (HSP.out.kept0 HFQ.out)
          clear HFQ HFS HFL HCO HSP HB7 HPT7 F7
          obtain ⟨w8, rfl⟩ : ∃ w8 : World, w8 = wr := ⟨_, rfl⟩
          go_wp2
          go_loopw [11, 12, 17] (fun fv bv iv wq => ∃ (j : Nat) (FA : Option Addr) (fc : Nat) (fb : List UInt8) (b : Bool), j ≤ S.length + 1 ∧ iv = .int .i64 ((j : Int) - 1) ∧ fv = .slice FA fb.length fc ∧ bv = .bool b ∧ Sl wq 1 (.slice FA fb.length fc) fb.length (bvs fb) ∧ (∀ q, (Value.slice FA fb.length fc).ownBlock = some q → q < wq.heap.size) ∧ ((j = S.length + 1 ∧ fb = [] ∧ b = true) ∨ (b = false ∧ ∃ hi : j - 1 < S.length, fb = S[j - 1].k) ∨ j = 0) ∧ Fr no w8 wq) (fun _ _ iv _ => (intOf iv + 1).toNat)
          case atStart => exact ⟨S.length + 1, none, 0, [], true, by omega, by first | rfl | go_num | (congr 1; omega), rfl, rfl, ⟨rfl, .inl ⟨none, rfl, rfl⟩⟩, fun q hq => by simp [Value.ownBlock] at hq, .inl ⟨rfl, rfl, rfl⟩, Fr.refl _ _⟩
          case round =>
            obtain ⟨j, FA, fc, fb, b, hj, rfl, rfl, rfl, hFS, hFl, hcond, hfq⟩ := hrel
            have HFS := Lib.hid hFS; have HFL := Lib.hid hFl; have HCO := Lib.hid hcond; have HFQ := Lib.hid hfq; clear hFS hFl hcond hfq
            rcases j with _ | n
            · rw [show (((0 : Nat) : Int) - 1) = -1 from rfl]
              go_wp2
              go_ret
              exact ⟨rfl, F8.out.trans HFQ.out (fun _ _ h => h)⟩
            · rw [show (((n + 1 : Nat) : Int) - 1) = (n : Int) by omega]
              have hn : n ≤ S.length := by omega
              go_wp2_with fail
              have hco : (n = S.length ∧ fb = [] ∧ b = true) ∨ (b = false ∧ ∃ hi : n < S.length, fb = S[n].k) := by
                rcases HCO.out with ⟨h1, h2⟩ | h | h
                · exact .inl ⟨by omega, h2⟩
                · exact .inr h
                · omega
              have hsee := seeP_find HB8.out.ris HRR.out 1000000 (by omega) fb b
              have hrev : S.reverse.map PrV.kv = (seenL sl R).reverse.map PrV.kv := by rw [List.map_reverse, List.map_reverse, HSK.out]
              rw [← find_kv hrev (fun k => bel k fb b), walkP HSR.out n hn fb b hco] at hsee
              have HSEE := Lib.hid hsee; clear hco hsee hrev
              have e1 := heap_alloc_new wr (.cells #[.slice OA R.length oc, .int .i64 1000000] 48)
              have a1 := (Fr.refl no wr).alloc (.cells #[.slice OA R.length oc, .int .i64 1000000] 48)
              generalize hgq : wr.heap.size = gq at e1 ⊢
              generalize wr.alloc (.cells #[.slice OA R.length oc, .int .i64 1000000] 48) = wa at e1 a1 ⊢
              have hgq1 := Nat.le_of_eq hgq; have hgq2 := Nat.le_of_eq hgq.symm
              have fwa : Fr no w8 wa := HFQ.out.trans a1 (fun _ _ h => h)
              have s7 := HFQ.out.size
              have hbq : Bel wa gq (.slice OA R.length oc) R 1000000 := ⟨e1, (HPT8.out.pairs (by omega)).kept0 fwa, fun e => by have := HPT8.out.new gq (.inl e); omega, fun y hy => ⟨fun e => by have := HPT8.out.new gq (.inr ⟨y, hy, .inl e⟩); omega, fun e => by have := HPT8.out.new gq (.inr ⟨y, hy, .inr e⟩); omega⟩⟩
              have hbf : ∀ q, BfF p lv sl uv us q → q ≠ gq := fun q hq => by have := HB8.out.lt q hq; omega
              have hfg : (Value.slice FA fb.length fc).ownBlock ≠ some gq := fun e => by have := HFL.out gq e; omega
              have HGQ := Lib.hid (And.intro hgq1 hgq2); have FWA := Lib.hid fwa; have A1 := Lib.hid a1; have HBQ := Lib.hid hbq; have HBFQ := Lib.hid hbf; have HFG := Lib.hid hfg; have S8 := Lib.hid s7
              clear e1 a1 hgq hgq1 hgq2 fwa hbq hbf hfg s7
              refine (bufp_any wa p lv uv sl us gq (.slice OA R.length oc) R 1000000 (.slice FA fb.length fc) fb b (HB8.out.kept0 FWA.out) (by omega) HBFQ.out HBQ.out (by omega) (HFS.out.kept0 A1.out) HFG.out).mono ?_
              rintro e wb ⟨he, -, fb1⟩
              rw [HSEE.out] at he
              obtain ⟨PK, PV, pk, pv, pkc, pvc, pis, pc, rfl, hres, h1, h2, h3⟩ := he.form
              have fqb : Fr no wr wb := A1.out.trans fb1 (fun q hq e => by have e2 : q = gq := e; have := HGQ.out; omega)
              have FQB := Lib.hid fqb; have FWA8 := Lib.hid (HFQ.out.trans fqb (fun _ _ h => h)); have PK1 := Lib.hid h1; have PV1 := Lib.hid h2; have PN := Lib.hid h3
              clear he h1 h2 h3 fqb fb1
              rcases n with _ | m
              · rw [if_pos rfl] at hres
                simp only [Option.map_none, resN, Prod.mk.injEq] at hres
                obtain ⟨rfl, rfl, hpk, hpv⟩ := hres
                have HPK := Lib.hid (And.intro hpk hpv); clear hpk hpv
                rw [show ((0 : Nat) : Int) = 0 from rfl]
                go_wp2_with fail
                have e3 := heap_alloc_new wb (.cells #[.slice PK pk.length pkc, .slice PV pv.length pvc] 40)
                have a3 := (Fr.refl no wb).alloc (.cells #[.slice PK pk.length pkc, .slice PV pv.length pvc] 40)
                generalize wb.heap.size = gp at e3 ⊢
                generalize wb.alloc (.cells #[.slice PK pk.length pkc, .slice PV pv.length pvc] 40) = wc at e3 a3 ⊢
                obtain ⟨c0, c1, z3, l3⟩ := two_cells e3
                have hpl : ∀ q, (Value.slice PK pk.length pkc).ownBlock = some q → q < wc.heap.size := fun q hq => by have := PN.out q (.inl hq); have := a3.size; omega
                have A3 := Lib.hid a3; have HPL := Lib.hid hpl; clear a3 e3 hpl
                refine wp_region_ord [0, 1, 2, 3, 4, 5, 6, 7, 8, 9, 10, 11, 13, 14, 15, 16, 17, 12, 18, 19, 20, 21] (fun i => [Kd.p, Kd.p, Kd.p, Kd.p, Kd.p, Kd.p, Kd.p, Kd.p, Kd.p, Kd.p, Kd.p, Kd.l, Kd.g, Kd.p, Kd.p, Kd.p, Kd.p, Kd.p, Kd.e, Kd.p, Kd.p, Kd.p].getD i .e) (by kernel_rfl) (by kernel_rfl) ?_
                iterate 6
                  first | (refine wpX_un rfl rfl ?_; go_simp) | first | refine wpX_pu rfl rfl rfl (by first | exact pu_move rfl | exact pu_assign rfl | exact pu_nilCheck rfl rfl | exact pu_binInt rfl rfl rfl | exact pu_conv rfl rfl (by kernel_rfl) | exact pu_fld rfl (by kernel_rfl) | exact pu_ix rfl rfl rfl (by kernel_rfl) | exact pu_unOp rfl | exact pu_binStr rfl rfl rfl | exact pu_len rfl rfl | exact pu_lens rfl rfl | exact pu_pick rfl | exact pu_slice rfl rfl) (fun K hK => ?_) | refine wpX_rd rfl rfl rfl (rd_load rfl) (fun K hK => ?_) | refine wpX_gr rfl rfl rfl (by first | exact gr_buildSlice rfl | exact gr_box rfl | exact gr_alloc rfl) (fun K hK => ?_) | refine wpX_ex rfl rfl rfl (fun K hK => ?_)
                  try go_wp2
                refine wpX_pv (.bool false) rfl rfl rfl (fun w' => by go_simp) ?_
                go_simp
                iterate 15
                  first | (refine wpX_un rfl rfl ?_; go_simp) | first | refine wpX_pu rfl rfl rfl (by first | exact pu_move rfl | exact pu_assign rfl | exact pu_nilCheck rfl rfl | exact pu_binInt rfl rfl rfl | exact pu_conv rfl rfl (by kernel_rfl) | exact pu_fld rfl (by kernel_rfl) | exact pu_ix rfl rfl rfl (by kernel_rfl) | exact pu_unOp rfl | exact pu_binStr rfl rfl rfl | exact pu_len rfl rfl | exact pu_lens rfl rfl | exact pu_pick rfl | exact pu_slice rfl rfl) (fun K hK => ?_) | refine wpX_rd rfl rfl rfl (rd_load rfl) (fun K hK => ?_) | refine wpX_gr rfl rfl rfl (by first | exact gr_buildSlice rfl | exact gr_box rfl | exact gr_alloc rfl) (fun K hK => ?_) | refine wpX_ex rfl rfl rfl (fun K hK => ?_)
                  try go_wp2
                refine wpX_done ?_
                go_wp2
                go_roundw
                case rel => (repeat apply Exists.intro); exact ⟨⟨0, PK, pkc, pk, false, by omega, by first | rfl | go_num, rfl, rfl, (PK1.out.kept0 A3.out).kept0 (by (repeat first | exact Fr.refl _ _ | exact Fr.drewN _ _ _ | apply Fr.drew | apply Fr.alloc | apply Fr.setAt | apply Fr.moreN)), HPL.out, .inr (.inr rfl), Fr.drew (FWA8.out.trans A3.out (fun _ _ h => h))⟩, rfl⟩
                case measure => simp [intOf]
              · have hlt : m < S.length := by omega
                rw [if_neg (by omega), show m + 1 - 1 = m by omega, List.getElem?_eq_getElem hlt] at hres
                rw [show ((m + 1 : Nat) : Int) = (m : Int) + 1 by omega]
                simp only [Option.map_some, resN, PrV.kv, Prod.mk.injEq] at hres
                obtain ⟨rfl, rfl, hpk, hpv⟩ := hres
                have HPK := Lib.hid (And.intro hpk hpv); clear hpk hpv
                obtain ⟨sb, so, _, _, _, _, hSA, -⟩ := HSP8.out.at m hlt
                subst hSA
                have hcj : ¬ sc = m := by omega
                have d5 : decide ((0 : Int) < (m : Int) + 1) = true := decide_eq_true (by omega)
                go_wp2_with fail
                have e3 := heap_alloc_new wb (.cells #[.slice PK pk.length pkc, .slice PV pv.length pvc] 40)
                have a3 := (Fr.refl no wb).alloc (.cells #[.slice PK pk.length pkc, .slice PV pv.length pvc] 40)
                generalize wb.heap.size = gp at e3 ⊢
                generalize wb.alloc (.cells #[.slice PK pk.length pkc, .slice PV pv.length pvc] 40) = wc at e3 a3 ⊢
                obtain ⟨c0, c1, z3, l3⟩ := two_cells e3
                have A3 := Lib.hid a3; have E3 := Lib.hid e3; clear a3 e3
                refine wp_region_ord [0, 1, 2, 3, 4, 5, 6, 7, 8, 9, 10, 11, 13, 14, 15, 16, 17, 12, 18, 19, 20, 21] (fun i => [Kd.p, Kd.p, Kd.p, Kd.p, Kd.p, Kd.p, Kd.p, Kd.p, Kd.p, Kd.p, Kd.p, Kd.l, Kd.g, Kd.p, Kd.p, Kd.p, Kd.p, Kd.p, Kd.e, Kd.p, Kd.p, Kd.p].getD i .e) (by kernel_rfl) (by kernel_rfl) ?_
                iterate 6
                  first | (refine wpX_un rfl rfl ?_; go_simp) | first | refine wpX_pu rfl rfl rfl (by first | exact pu_move rfl | exact pu_assign rfl | exact pu_nilCheck rfl rfl | exact pu_binInt rfl rfl rfl | exact pu_conv rfl rfl (by kernel_rfl) | exact pu_fld rfl (by kernel_rfl) | exact pu_ix rfl rfl rfl (by kernel_rfl) | exact pu_unOp rfl | exact pu_binStr rfl rfl rfl | exact pu_len rfl rfl | exact pu_lens rfl rfl | exact pu_pick rfl | exact pu_slice rfl rfl) (fun K hK => ?_) | refine wpX_rd rfl rfl rfl (rd_load rfl) (fun K hK => ?_) | refine wpX_gr rfl rfl rfl (by first | exact gr_buildSlice rfl | exact gr_box rfl | exact gr_alloc rfl) (fun K hK => ?_) | refine wpX_ex rfl rfl rfl (fun K hK => ?_)
                  try go_wp2
                refine wpX_pv (.bool false) rfl rfl rfl (fun w' => by go_simp) ?_
                go_simp
                iterate 11
                  first | (refine wpX_un rfl rfl ?_; go_simp) | first | refine wpX_pu rfl rfl rfl (by first | exact pu_move rfl | exact pu_assign rfl | exact pu_nilCheck rfl rfl | exact pu_binInt rfl rfl rfl | exact pu_conv rfl rfl (by kernel_rfl) | exact pu_fld rfl (by kernel_rfl) | exact pu_ix rfl rfl rfl (by kernel_rfl) | exact pu_unOp rfl | exact pu_binStr rfl rfl rfl | exact pu_len rfl rfl | exact pu_lens rfl rfl | exact pu_pick rfl | exact pu_slice rfl rfl) (fun K hK => ?_) | refine wpX_rd rfl rfl rfl (rd_load rfl) (fun K hK => ?_) | refine wpX_gr rfl rfl rfl (by first | exact gr_buildSlice rfl | exact gr_box rfl | exact gr_alloc rfl) (fun K hK => ?_) | refine wpX_ex rfl rfl rfl (fun K hK => ?_)
                  try go_wp2
                refine wpX_ex rfl rfl rfl (fun K hK => ?_)
                go_wp2_with fail
                have hcut := slCut (lo := m) (m := 1) HSP8.out.sl (by omega)
                rw [flat_one2 S m hlt] at hcut
                have fwc : Fr no w8 wc := FWA8.out.trans A3.out (fun _ _ h => h)
                refine (samep_any _ _ _ [⟨.slice PK pk.length pkc, .slice PV pv.length pvc, pk, pv⟩] [S[m]] (pair_one (w := (wc.alloc (.cells #[.slice PK pk.length pkc, .slice PV pv.length pvc] 40)).drew) (heap_alloc_new wc _) ((PK1.out.kept0 A3.out).kept0 (by (repeat first | exact Fr.refl _ _ | exact Fr.drewN _ _ _ | apply Fr.drew | apply Fr.alloc | apply Fr.setAt | apply Fr.moreN))) ((PV1.out.kept0 A3.out).kept0 (by (repeat first | exact Fr.refl _ _ | exact Fr.drewN _ _ _ | apply Fr.drew | apply Fr.alloc | apply Fr.setAt | apply Fr.moreN))) (by rw [← HPK.out.1]; exact (HSP8.out.good S[m] (List.getElem_mem _)).lk) (by rw [← HPK.out.2]; exact (HSP8.out.good S[m] (List.getElem_mem _)).lv))
                  ⟨(hcut.kept0 fwc).kept0 (by (repeat first | exact Fr.refl _ _ | exact Fr.drewN _ _ _ | apply Fr.drew | apply Fr.alloc | apply Fr.setAt | apply Fr.moreN)), fun y hy => by rw [List.mem_singleton.1 hy]; exact ((HSP8.out.good S[m] (List.getElem_mem _)).kept0 fwc).kept0 (by (repeat first | exact Fr.refl _ _ | exact Fr.drewN _ _ _ | apply Fr.drew | apply Fr.alloc | apply Fr.setAt | apply Fr.moreN)), by simp⟩).mono ?_
                rintro e wd ⟨rfl, fd⟩
                rw [show decide ([(⟨.slice PK pk.length pkc, .slice PV pv.length pvc, pk, pv⟩ : PrV)].map PrV.kv = [S[m]].map PrV.kv) = true by refine decide_eq_true ?_; show [(pk, pv)] = [(S[m].k, S[m].v)]; rw [HPK.out.1, HPK.out.2]]
                have fcd : Fr no wc wd := (by (repeat first | exact Fr.refl _ _ | exact Fr.drewN _ _ _ | apply Fr.drew | apply Fr.alloc | apply Fr.setAt | apply Fr.moreN) : Fr no wc (wc.alloc (.cells #[.slice PK pk.length pkc, .slice PV pv.length pvc] 40)).drew).trans fd (fun _ _ h => h)
                obtain ⟨c0, c1, z3, l3⟩ := two_cells (fcd.heap E3.out (fun h => h))
                have hpl : ∀ q, (Value.slice PK pk.length pkc).ownBlock = some q → q < wd.heap.size := fun q hq => by have := PN.out q (.inl hq); have := A3.out.size; have := fcd.size; omega
                have FD := Lib.hid (fwc.trans fcd (fun _ _ h => h)); have PKD := Lib.hid ((PK1.out.kept0 A3.out).kept0 fcd); have HPL := Lib.hid hpl; clear fd fcd fwc hcut hpl
                go_wp2_with fail
                iterate 3
                  first | (refine wpX_un rfl rfl ?_; go_simp) | first | refine wpX_pu rfl rfl rfl (by first | exact pu_move rfl | exact pu_assign rfl | exact pu_nilCheck rfl rfl | exact pu_binInt rfl rfl rfl | exact pu_conv rfl rfl (by kernel_rfl) | exact pu_fld rfl (by kernel_rfl) | exact pu_ix rfl rfl rfl (by kernel_rfl) | exact pu_unOp rfl | exact pu_binStr rfl rfl rfl | exact pu_len rfl rfl | exact pu_lens rfl rfl | exact pu_pick rfl | exact pu_slice rfl rfl) (fun K hK => ?_) | refine wpX_rd rfl rfl rfl (rd_load rfl) (fun K hK => ?_) | refine wpX_gr rfl rfl rfl (by first | exact gr_buildSlice rfl | exact gr_box rfl | exact gr_alloc rfl) (fun K hK => ?_) | refine wpX_ex rfl rfl rfl (fun K hK => ?_)
                  try go_wp2
                refine wpX_done ?_
                go_wp2
                go_roundw
                case rel => (repeat apply Exists.intro); exact ⟨⟨m + 1, PK, pkc, pk, false, by omega, by first | go_num | (congr 1; omega), rfl, rfl, PKD.out, HPL.out, .inr (.inl ⟨rfl, hlt, HPK.out.1.symm⟩), FD.out⟩, rfl⟩
                case measure => simp [intOf]; omega
end Go.Proofs.Ytdnohhlgaaihmaa
