/- law17: filled. -/
import Derived.Test.YtdnohhlgaaihmaaSpanL
import Derived.Test.YtdnohhlgaaihmaaSpanM
namespace Go.Proofs.Ytdnohhlgaaihmaa
open Go.RowKit

theorem Spans.one {w : World} {A : Option Addr} {n c : Nat} {l : List SpV} (h : Sl w 3 (.slice A n c) l.length (l.flatMap SpV.cells)) (j : Nat) (hj : j < l.length) :
    ∃ b o, A = some ⟨b, o, none⟩ ∧ n = l.length ∧ n ≤ c ∧ c ≤ maxLen ∧ Sl w 3 (.slice (some ⟨b, o + j * 3, none⟩) 1 (c - j)) 1 l[j].cells := by
  obtain ⟨b, o, hA, q0, q1, q2⟩ := Spans.at h j hj
  rcases h.2 with ⟨_, h1⟩ | ⟨b', o', cap, h1, h2, h3, _⟩
  · omega
  · cases h1
    cases hA
    refine ⟨b, o, rfl, rfl, h2, h3, rfl, .inr ⟨b, o + j * 3, c - j, rfl, by omega, by omega, fun i u hu => ?_⟩⟩
    rcases i with _ | _ | _ | i
    · cases hu; exact q0
    · cases hu; exact q1
    · cases hu; exact q2
    · simp [SpV.cells] at hu

theorem both_new {w w1 w2 : World} {p : Nat} {ks : List Kv} {l : List SpV} (hp : w.heap.size ≤ p) (hs : Se w1 p (.slice none 0 0) []) (f : Fr no w w1) (h2 : w2 = w1.alloc (.cells #[.slice none 0 0] 156)) :
    Both w w2 p w1.heap.size (Added ks l 0) (Added ks l 0) 0 no := by
  subst h2
  have hpl : p < w1.heap.size := hs.lt p (.inl rfl)
  have e1 : ∀ k, SeF p (.slice none 0 0) [] k → k = p := by
    rintro k (h | h | ⟨x, hx, _⟩)
    · exact h
    · simp [Value.ownBlock] at h
    · cases hx
  have e2 : ∀ k, SeF w1.heap.size (.slice none 0 0) [] k → k = w1.heap.size := by
    rintro k (h | h | ⟨x, hx, _⟩)
    · exact h
    · simp [Value.ownBlock] at h
    · cases hx
  have hz := f.size
  refine ⟨_, _, .slice none 0 0, [], ⟨f.trans ((Fr.refl no w1).alloc _) (fun _ _ h => h), hs.kept0 ((Fr.refl no w1).alloc _), trivial, fun k => ⟨fun h => (SpV.Mem.nil h).elim, fun h => (Added.zero ks l k h).elim⟩, Nat.le_refl _, fun k hk => by rw [e1 k hk]; exact hp, fun k hk => ?_⟩,
    ⟨f.trans ((Fr.refl no w1).alloc _) (fun _ _ h => h), ⟨heap_alloc_new _ _, ow_nil _ _ _, (fun x hx => nomatch hx), by simp [Value.ownBlock], (fun x hx => nomatch hx)⟩, (fun x hx => nomatch hx), fun k => ⟨fun h => (SpV.Mem.nil h).elim, fun h => (Added.zero ks l k h).elim⟩, Nat.le_refl _, fun k hk => by rw [e2 k hk]; exact hz, fun k hk => ?_⟩⟩
  · rcases hk with hk | hk
    · exact hk.elim
    · rw [e2 k hk]
      exact ⟨fun h => by have := e1 _ h; omega, hz, by rw [World.size_alloc]; omega⟩
  · rcases hk with hk | hk
    · exact hk.elim
    · rw [e1 k hk]
      exact ⟨fun h => by have := e2 _ h; omega, hp, by rw [World.size_alloc]; omega⟩

set_option maxRecDepth 100000 in
set_option maxHeartbeats 4000000 in
theorem filled_any (w : World) (X Y : Value) (ks : List Kv) (l : List SpV) (hx : Keys w X ks) (hy : SpIn w Y l) (hk1 : ks.length ≤ 300) (hl1 : l.length ≤ 300) (hk2 : ∀ x ∈ ks, x.b.length ≤ 20000) (hl2 : ∀ x ∈ l, x.f.length ≤ 20000 ∧ x.t.length ≤ 20000) :
    Calls Try.prog 40 #[X, Y] w fun e w' => ∃ p q, e = .returned (.tuple #[.pointer (some ⟨p, 0, none⟩), .pointer (some ⟨q, 0, none⟩), .bool true]) ∧ Both w w' p q (AllIn ks l) (AllIn ks l) 1200 no := by
  obtain ⟨A, c, rfl, hc1, hc2⟩ := hx.sl.form
  obtain ⟨B, d, rfl, hd1, hd2⟩ := hy.sl.form
  have HX := Lib.hid hx; have HY := Lib.hid hy; have HK2 := Lib.hid hk2; have HL2 := Lib.hid hl2; clear hx hy hk2 hl2 hc2 hd2
  go_enter Try.func40, Try.ntmps40
  go_wp2_with fail
  refine (rnew_any _).mono ?_
  rintro e w1 ⟨p, rfl, hp, hs, hf⟩
  have HB0 := Lib.hid (both_new (ks := ks) (l := l) hp hs hf rfl)
  clear hp hs hf
  go_wp2_with fail
  generalize w1.heap.size = q at HB0 ⊢
  go_loopw [9, 10, 11, 12] (fun v i _ _ wr => ∃ j : Nat, v = .bool true ∧ i = .int .i64 j ∧ j ≤ 300 ∧ Both w wr p q (Added ks l j) (Added ks l j) (4 * j) no) (fun _ i _ _ _ => 300 - (intOf i).toNat)
  case atStart => exact ⟨0, rfl, rfl, by omega, HB0.out⟩
  case round =>
    obtain ⟨j, rfl, rfl, hj, hb⟩ := hrel
    have HB := Lib.hid hb; clear hb
    by_cases h1 : j < ks.length
    · by_cases h2 : j < l.length
      · obtain ⟨kb, ko, hA, q0⟩ := Keys.at HX.out j h1
        obtain ⟨VA, vc, hV, _, _⟩ := (HX.out.good ks[j] (List.getElem_mem _)).1.form
        have hkl := HK2.out ks[j] (List.getElem_mem _)
        have hkv := (HX.out.good ks[j] (List.getElem_mem _)).1
        rw [hV] at q0 hkv
        subst hA
        have Q0 := Lib.hid q0; have HKV := Lib.hid hkv; have HKL := Lib.hid hkl; clear q0 hkv hV hkl
        have q1 := HB.out.fr.cell Q0.out (fun h => h)
        go_wp2_with fail
        refine (lent_any _ _ ks[j].b (HKV.out.kept0 HB.out.fr) (by have := HKL.out; omega)).mono ?_
        rintro e w2 ⟨g, rfl, h3, h4, h5⟩
        have hbg := HB.out.gets (G := fun k => k = g) h5 (fun k hk => by subst hk; exact ⟨h3, (Array.getElem?_eq_some_iff.1 h4).1⟩)
        have HB2 := Lib.hid hbg; have HG := Lib.hid h4; clear h3 h4 h5 hbg q1
        go_wp2_with fail
        refine (both_key w w2 p q _ _ _ _ _ ks[j].b HB2.out (HG.out.sl (by have := HKL.out; omega)) (by have := HKL.out; omega) (by omega)).mono ?_
        rintro e w3 ⟨rfl, h3, h4⟩
        have HB3 := Lib.hid h3; have HG3 := Lib.hid (HG.out.kept h4 (fun h => h.2 rfl)); clear h3 h4
        have q1 := HB3.out.fr.cell Q0.out (fun h => h)
        go_wp2_with fail
        refine (both_rkey w w3 p q _ _ _ _ _ ks[j].b HB3.out (HKV.out.kept0 HB3.out.fr) (by have := HKL.out; omega) (by omega)).mono ?_
        rintro e w4 ⟨rfl, h3, h4⟩
        have HB4 := Lib.hid h3; have HG4 := Lib.hid (HG3.out.kept h4 (fun h => h.2 rfl)); clear h3 h4 q1
        have q1 := HB4.out.fr.cell Q0.out (fun h => h)
        go_wp2_with fail
        refine (whole_lent _ g _ ks[j].b ks[j].b HG4.out (HKV.out.kept0 HB4.out.fr) (by have := HKL.out; omega) (by have := HKL.out; omega)).mono ?_
        rintro e w5 ⟨rfl, n1, rfl⟩
        rw [decide_eq_true rfl]
        have HB5 := Lib.hid (HB4.out.kept0 (Fr.drewN no w4 n1)); have HG5 := Lib.hid (HG4.out.kept (Fr.drewN no w4 n1) (fun h => h)); clear q1
        go_wp2_with fail
        refine (spoil_lent _ g ks[j].b HG5.out (by have := HKL.out; omega)).mono ?_
        rintro e w6 ⟨rfl, f6⟩
        have HB6 := Lib.hid (HB5.out.spoil f6); clear f6
        obtain ⟨sb, so, hB, q0, q1, q2⟩ := Spans.at HY.out.sl j h2
        obtain ⟨sb', so', hB', hdn, hdl, hdm, hone⟩ := Spans.one HY.out.sl j h2
        subst hB
        obtain ⟨rfl, rfl⟩ : sb = sb' ∧ so = so' := by simpa using hB'
        clear hB' hdn
        obtain ⟨hl3, hl4⟩ := HL2.out l[j] (List.getElem_mem _)
        have hgo : l[j].Good w := ⟨(HY.out.raw l[j] (List.getElem_mem _)).F, (HY.out.raw l[j] (List.getElem_mem _)).T, by omega, by omega⟩
        obtain ⟨FA, fc, hF, _, _⟩ := hgo.F.form
        obtain ⟨TA, tc, hT, _, _⟩ := hgo.T.form
        have hgo2 : SpV.Good w ⟨.slice FA l[j].f.length fc, .slice TA l[j].t.length tc, l[j].f, l[j].t, l[j].o⟩ := ⟨hF ▸ hgo.F, hT ▸ hgo.T, hgo.lf, hgo.lt⟩
        rw [hF] at q0; rw [hT] at q1
        have Q0 := Lib.hid q0; have Q1 := Lib.hid q1; have Q2 := Lib.hid q2; have HGO := Lib.hid hgo; have HG2 := Lib.hid hgo2; have HONE := Lib.hid hone; have HLL := Lib.hid (And.intro hl3 hl4)
        clear q0 q1 q2 hgo hgo2 hone hF hT hl3 hl4
        have hne : ¬ d = j := by omega
        go_wp2_with fail
        refine (lentsp_any _ _ l[j] (HONE.out.kept0 HB6.out.fr) (HGO.out.kept0 HB6.out.fr)).mono ?_
        rintro e w7 ⟨g, gF, gT, gM, rfl, hl, a1, a2, a3, a4, a5, f7⟩
        have hbg := HB6.out.gets (G := fun k => k = g ∨ k = gF ∨ k = gT ∨ k = gM) f7 (fun k hk => by rcases hk with rfl | rfl | rfl | rfl <;> omega)
        obtain ⟨c0, c1, c2, _, _⟩ := hl.cells
        have HB7 := Lib.hid hbg; have HL := Lib.hid hl; have HN := Lib.hid (And.intro a2 a3); clear hbg hl a1 a2 a3 a4 a5 f7
        go_wp2_with fail
        refine (both_span w w7 p q _ _ _ _ ⟨.slice (some ⟨gF, 0, none⟩) l[j].f.length (l[j].f.length + 2), .slice (some ⟨gT, 0, none⟩) l[j].t.length (l[j].t.length + 2), l[j].f, l[j].t, l[j].o⟩ HB7.out ⟨HL.out.F.sl (by have := HLL.out; omega), HL.out.T.sl (by have := HLL.out; omega), by have := HLL.out; simp only []; omega, by have := HLL.out; simp only []; omega⟩ (by omega)).mono ?_
        rintro e w8 ⟨rfl, h3, h4⟩
        have HB8 := Lib.hid h3; have HL8 := Lib.hid (HL.out.kept h4 (fun k hk h => h.2 hk)); clear h3 h4 c0 c1 c2
        have q0 := HB8.out.fr.cell Q0.out (fun h => h); have q1 := HB8.out.fr.cell Q1.out (fun h => h); have q2 := HB8.out.fr.cell Q2.out (fun h => h)
        go_wp2_with fail
        refine (both_rspan w w8 p q _ _ _ _ ⟨.slice FA l[j].f.length fc, .slice TA l[j].t.length tc, l[j].f, l[j].t, l[j].o⟩ HB8.out (HG2.out.kept0 HB8.out.fr) (by omega)).mono ?_
        rintro e w9 ⟨rfl, h3, h4⟩
        have HB9 := Lib.hid h3; have HL9 := Lib.hid (HL8.out.kept h4 (fun k hk h => h.2 hk)); clear h3 h4 q0 q1 q2
        go_wp2_with fail
        refine (wholesp_any _ g gF gT gM _ l[j] HL9.out (HONE.out.kept0 HB9.out.fr) (HGO.out.kept0 HB9.out.fr)).mono ?_
        rintro e w10 ⟨rfl, f10⟩
        have HB10 := Lib.hid (HB9.out.kept0 f10); have HL10 := Lib.hid (HL9.out.kept0 f10); clear f10
        go_wp2_with fail
        refine (spoilsp_any _ g gF gT gM l[j] HL10.out (by have := HLL.out; omega) (by have := HLL.out; omega) HN.out.1 HN.out.2).mono ?_
        rintro e w11 ⟨rfl, f11⟩
        have HB11 := Lib.hid (HB10.out.spoil (f11.mono fun k _ hk => by rcases hk with e | e | e; exact .inl e; exact .inr (.inl e); exact .inr (.inr (.inl e)))); clear f11
        go_wp2
        go_roundw
        case rel => exact ⟨j + 1, rfl, by first | rfl | go_num, by omega, (HB11.out.turn (fun k => by rw [Added.succ]; simp [List.getElem?_eq_getElem h1, List.getElem?_eq_getElem h2, SpV.mem, SpV.upto]; try exact or_left_comm) (fun k => by rw [Added.succ]; simp [List.getElem?_eq_getElem h1, List.getElem?_eq_getElem h2, SpV.mem, SpV.upto]; try exact or_left_comm)).more (by omega)⟩
        case measure => simp [intOf]; omega
      · have h2n : l.length ≤ j := by omega
        obtain ⟨kb, ko, hA, q0⟩ := Keys.at HX.out j h1
        obtain ⟨VA, vc, hV, _, _⟩ := (HX.out.good ks[j] (List.getElem_mem _)).1.form
        have hkl := HK2.out ks[j] (List.getElem_mem _)
        have hkv := (HX.out.good ks[j] (List.getElem_mem _)).1
        rw [hV] at q0 hkv
        subst hA
        have Q0 := Lib.hid q0; have HKV := Lib.hid hkv; have HKL := Lib.hid hkl; clear q0 hkv hV hkl
        have q1 := HB.out.fr.cell Q0.out (fun h => h)
        go_wp2_with fail
        refine (lent_any _ _ ks[j].b (HKV.out.kept0 HB.out.fr) (by have := HKL.out; omega)).mono ?_
        rintro e w2 ⟨g, rfl, h3, h4, h5⟩
        have hbg := HB.out.gets (G := fun k => k = g) h5 (fun k hk => by subst hk; exact ⟨h3, (Array.getElem?_eq_some_iff.1 h4).1⟩)
        have HB2 := Lib.hid hbg; have HG := Lib.hid h4; clear h3 h4 h5 hbg q1
        go_wp2_with fail
        refine (both_key w w2 p q _ _ _ _ _ ks[j].b HB2.out (HG.out.sl (by have := HKL.out; omega)) (by have := HKL.out; omega) (by omega)).mono ?_
        rintro e w3 ⟨rfl, h3, h4⟩
        have HB3 := Lib.hid h3; have HG3 := Lib.hid (HG.out.kept h4 (fun h => h.2 rfl)); clear h3 h4
        have q1 := HB3.out.fr.cell Q0.out (fun h => h)
        go_wp2_with fail
        refine (both_rkey w w3 p q _ _ _ _ _ ks[j].b HB3.out (HKV.out.kept0 HB3.out.fr) (by have := HKL.out; omega) (by omega)).mono ?_
        rintro e w4 ⟨rfl, h3, h4⟩
        have HB4 := Lib.hid h3; have HG4 := Lib.hid (HG3.out.kept h4 (fun h => h.2 rfl)); clear h3 h4 q1
        have q1 := HB4.out.fr.cell Q0.out (fun h => h)
        go_wp2_with fail
        refine (whole_lent _ g _ ks[j].b ks[j].b HG4.out (HKV.out.kept0 HB4.out.fr) (by have := HKL.out; omega) (by have := HKL.out; omega)).mono ?_
        rintro e w5 ⟨rfl, n1, rfl⟩
        rw [decide_eq_true rfl]
        have HB5 := Lib.hid (HB4.out.kept0 (Fr.drewN no w4 n1)); have HG5 := Lib.hid (HG4.out.kept (Fr.drewN no w4 n1) (fun h => h)); clear q1
        go_wp2_with fail
        refine (spoil_lent _ g ks[j].b HG5.out (by have := HKL.out; omega)).mono ?_
        rintro e w6 ⟨rfl, f6⟩
        have HB6 := Lib.hid (HB5.out.spoil f6); clear f6
        go_wp2
        go_roundw
        case rel => exact ⟨j + 1, rfl, by first | rfl | go_num, by omega, (HB6.out.turn (fun k => by rw [Added.succ]; simp [List.getElem?_eq_getElem h1, List.getElem?_eq_none h2n, SpV.mem, SpV.upto]; try exact or_left_comm) (fun k => by rw [Added.succ]; simp [List.getElem?_eq_getElem h1, List.getElem?_eq_none h2n, SpV.mem, SpV.upto]; try exact or_left_comm)).more (by omega)⟩
        case measure => simp [intOf]; omega
    · by_cases h2 : j < l.length
      · have h1n : ks.length ≤ j := by omega
        obtain ⟨sb, so, hB, q0, q1, q2⟩ := Spans.at HY.out.sl j h2
        obtain ⟨sb', so', hB', hdn, hdl, hdm, hone⟩ := Spans.one HY.out.sl j h2
        subst hB
        obtain ⟨rfl, rfl⟩ : sb = sb' ∧ so = so' := by simpa using hB'
        clear hB' hdn
        obtain ⟨hl3, hl4⟩ := HL2.out l[j] (List.getElem_mem _)
        have hgo : l[j].Good w := ⟨(HY.out.raw l[j] (List.getElem_mem _)).F, (HY.out.raw l[j] (List.getElem_mem _)).T, by omega, by omega⟩
        obtain ⟨FA, fc, hF, _, _⟩ := hgo.F.form
        obtain ⟨TA, tc, hT, _, _⟩ := hgo.T.form
        have hgo2 : SpV.Good w ⟨.slice FA l[j].f.length fc, .slice TA l[j].t.length tc, l[j].f, l[j].t, l[j].o⟩ := ⟨hF ▸ hgo.F, hT ▸ hgo.T, hgo.lf, hgo.lt⟩
        rw [hF] at q0; rw [hT] at q1
        have Q0 := Lib.hid q0; have Q1 := Lib.hid q1; have Q2 := Lib.hid q2; have HGO := Lib.hid hgo; have HG2 := Lib.hid hgo2; have HONE := Lib.hid hone; have HLL := Lib.hid (And.intro hl3 hl4)
        clear q0 q1 q2 hgo hgo2 hone hF hT hl3 hl4
        have hne : ¬ d = j := by omega
        go_wp2_with fail
        refine (lentsp_any _ _ l[j] (HONE.out.kept0 HB.out.fr) (HGO.out.kept0 HB.out.fr)).mono ?_
        rintro e w7 ⟨g, gF, gT, gM, rfl, hl, a1, a2, a3, a4, a5, f7⟩
        have hbg := HB.out.gets (G := fun k => k = g ∨ k = gF ∨ k = gT ∨ k = gM) f7 (fun k hk => by rcases hk with rfl | rfl | rfl | rfl <;> omega)
        obtain ⟨c0, c1, c2, _, _⟩ := hl.cells
        have HB7 := Lib.hid hbg; have HL := Lib.hid hl; have HN := Lib.hid (And.intro a2 a3); clear hbg hl a1 a2 a3 a4 a5 f7
        go_wp2_with fail
        refine (both_span w w7 p q _ _ _ _ ⟨.slice (some ⟨gF, 0, none⟩) l[j].f.length (l[j].f.length + 2), .slice (some ⟨gT, 0, none⟩) l[j].t.length (l[j].t.length + 2), l[j].f, l[j].t, l[j].o⟩ HB7.out ⟨HL.out.F.sl (by have := HLL.out; omega), HL.out.T.sl (by have := HLL.out; omega), by have := HLL.out; simp only []; omega, by have := HLL.out; simp only []; omega⟩ (by omega)).mono ?_
        rintro e w8 ⟨rfl, h3, h4⟩
        have HB8 := Lib.hid h3; have HL8 := Lib.hid (HL.out.kept h4 (fun k hk h => h.2 hk)); clear h3 h4 c0 c1 c2
        have q0 := HB8.out.fr.cell Q0.out (fun h => h); have q1 := HB8.out.fr.cell Q1.out (fun h => h); have q2 := HB8.out.fr.cell Q2.out (fun h => h)
        go_wp2_with fail
        refine (both_rspan w w8 p q _ _ _ _ ⟨.slice FA l[j].f.length fc, .slice TA l[j].t.length tc, l[j].f, l[j].t, l[j].o⟩ HB8.out (HG2.out.kept0 HB8.out.fr) (by omega)).mono ?_
        rintro e w9 ⟨rfl, h3, h4⟩
        have HB9 := Lib.hid h3; have HL9 := Lib.hid (HL8.out.kept h4 (fun k hk h => h.2 hk)); clear h3 h4 q0 q1 q2
        go_wp2_with fail
        refine (wholesp_any _ g gF gT gM _ l[j] HL9.out (HONE.out.kept0 HB9.out.fr) (HGO.out.kept0 HB9.out.fr)).mono ?_
        rintro e w10 ⟨rfl, f10⟩
        have HB10 := Lib.hid (HB9.out.kept0 f10); have HL10 := Lib.hid (HL9.out.kept0 f10); clear f10
        go_wp2_with fail
        refine (spoilsp_any _ g gF gT gM l[j] HL10.out (by have := HLL.out; omega) (by have := HLL.out; omega) HN.out.1 HN.out.2).mono ?_
        rintro e w11 ⟨rfl, f11⟩
        have HB11 := Lib.hid (HB10.out.spoil (f11.mono fun k _ hk => by rcases hk with e | e | e; exact .inl e; exact .inr (.inl e); exact .inr (.inr (.inl e)))); clear f11
        go_wp2
        go_roundw
        case rel => exact ⟨j + 1, rfl, by first | rfl | go_num, by omega, (HB11.out.turn (fun k => by rw [Added.succ]; simp [List.getElem?_eq_none h1n, List.getElem?_eq_getElem h2, SpV.mem, SpV.upto]; try exact or_left_comm) (fun k => by rw [Added.succ]; simp [List.getElem?_eq_none h1n, List.getElem?_eq_getElem h2, SpV.mem, SpV.upto]; try exact or_left_comm)).more (by omega)⟩
        case measure => simp [intOf]; omega
      · go_wp2
        refine bodyPost_ret (results_tmp3 rfl _ _ _) rfl ?_
        exact ⟨p, q, rfl, (HB.out.turn (fun k => Added.all (by omega) (by omega) k) (fun k => Added.all (by omega) (by omega) k)).more (by omega)⟩
end Go.Proofs.Ytdnohhlgaaihmaa
