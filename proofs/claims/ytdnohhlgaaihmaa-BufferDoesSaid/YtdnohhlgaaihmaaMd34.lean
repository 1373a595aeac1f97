import Derived.Test.YtdnohhlgaaihmaaMd32
import Derived.Test.YtdnohhlgaaihmaaMd33
import Derived.Test.YtdnohhlgaaihmaaMd21
import Derived.Test.YtdnohhlgaaihmaaMd22
import Derived.Test.YtdnohhlgaaihmaaMd24
import Derived.Test.YtdnohhlgaaihmaaMd30

/- law16: BufferErrors, from what came in. -/
namespace Go.Proofs.Ytdnohhlgaaihmaa
open Go.RowKit

theorem riseL_len (L : List SpV) : (riseL L).length ≤ L.length := by
  unfold riseL
  have h1 := seenL_len (chgL L) []
  have h2 := chg_len L
  simp at h1
  omega

theorem TolC.goods {w0 w w1 : World} {ov : Value} {os l : List SpV} (h : TolC w0 w ov os) (hp : os.map (fun x => (x.f, x.t, x.o)) = l.map (fun x => (x.f, x.t, x.o))) (hg : ∀ x ∈ l, x.Good w1) : ∀ x ∈ os, x.Good w := by
  intro x hx
  have : (x.f, x.t, x.o) ∈ l.map (fun x => (x.f, x.t, x.o)) := hp ▸ List.mem_map.2 ⟨x, hx, rfl⟩
  obtain ⟨y, hy, e⟩ := List.mem_map.1 this
  simp only [Prod.mk.injEq] at e
  have := hg y hy
  exact ⟨(h.own x hx).1.sl, (h.own x hx).2.sl, by rw [← e.1]; exact this.lf, by rw [← e.2.1]; exact this.lt⟩

set_option maxRecDepth 100000 in
set_option maxHeartbeats 16000000 in
theorem errs_walk (w : World) (U X K : Value) (ps : List PrV) (l : List OpB) (k : List UInt8) (i : Bool) (n : Nat) (hu : Pairs w U ps) (hps : ps.length ≤ 200) (hx : OpsB w X l) (ho : over16 l = false)
    (hK : Sl w 1 K k.length (bvs k)) (hk : k.length ≤ 3000) (hKl : ∀ q, K.ownBlock = some q → q < w.heap.size) (hn : n < 256) :
    Calls Try.prog 4 #[U, X, K, .bool i, .int .u8 n] w fun e w' => e = .returned (.bool true) ∧ Fr no w w' := by
  obtain ⟨n1, n2⟩ := over16_short ho
  obtain ⟨UA, Uc, rfl, hUc, _⟩ := hu.sl.form
  obtain ⟨A, c, rfl, hc1, _⟩ := hx.sl.form
  obtain ⟨KA, Kc, rfl, hKc, _⟩ := hK.form
  have d1 : decide ((200 : Int) < (ps.length : Int)) = false := decide_eq_false (by omega)
  have d2 : decide ((3000 : Int) < (k.length : Int)) = false := decide_eq_false (by omega)
  have hn0 : (0 : Int) ≤ (n : Int) := by omega
  obtain ⟨m, hm⟩ : ∃ m : Nat, (n : Int) % 8 = m := ⟨n % 8, by omega⟩
  have hm8 : m < 8 := by omega
  have HU := Lib.hid hu; have HX := Lib.hid hx; have HO := Lib.hid ho; have HS := Lib.hid n2; have HK := Lib.hid hK; have HKL := Lib.hid hKl; clear hu hx ho n2 hK hKl
  go_enter Try.func4, Try.ntmps4
  go_wp2_with fail
  refine (much16_any w _ l HX.out).mono ?_
  rintro e w1 ⟨rfl, f1⟩
  rw [HO.out]
  have F1 := Lib.hid f1; clear f1
  go_wp2_with fail
  refine (filled16_any w1 _ l (HX.out.kept0 F1.out) n1 HS.out).mono ?_
  rintro e w2 ⟨p, lv, sl, uv, us, rfl, hb, -, hus⟩
  have HB := Lib.hid hb; clear hb
  have hsl := HB.out.len
  go_wp2_with fail
  refine (known16_any w2).mono ?_
  rintro e w3 ⟨rfl, f3⟩
  have F3 := Lib.hid ((F1.out.trans HB.out.fr (fun _ _ h => h)).trans f3 (fun _ _ h => h)); have HB3 := Lib.hid (HB.out.bf.kept0 f3); clear f3
  go_wp2_with fail
  refine (rising_any w3 _ ps (HU.out.kept0 F3.out) (by omega)).mono ?_
  rintro e w4 ⟨ov, L, rfl, hpt, hLl, -, f4⟩
  have hR : (riseL L).length ≤ 200 := by have := riseL_len L; omega
  have hRr := rise_risP L
  have HB4r := HB3.out.ris
  generalize riseL L = R at hpt hR hRr
  obtain ⟨OA, oc, rfl, _, _⟩ := hpt.row.sl.form
  have hne := seeN_some sl R 1000000 (by omega) k i
  have hq : (seeN sl R 1000000 k i).1 < 1000000 ∧ (∀ n, n < 1000000 - (seeN sl R 1000000 k i).1 → seeN sl R n k i = (0, none)) ∧ ∀ n, 1000000 - (seeN sl R 1000000 k i).1 ≤ n → seeN sl R n k i = (n - (1000000 - (seeN sl R 1000000 k i).1), (seeN sl R 1000000 k i).2) := thr_ask sl _ _ (askN R) 1000000 k i hne
  obtain ⟨m2, r2, hm2⟩ : ∃ m2 r2, seeN sl R 1000000 k i = (m2, some r2) := by
    rcases h : seeN sl R 1000000 k i with ⟨m2, _ | r2⟩
    · rw [h] at hne; exact (hne rfl).elim
    · exact ⟨m2, r2, rfl⟩
  have hlr : ∀ x y, r2 = some (x, y) → x.length ≤ 140737488351232 ∧ y.length ≤ 140737488351232 := by
    intro x y e
    have hs := seeN_find HB4r hRr 1000000 (by omega) k i
    rw [hm2, e] at hs
    simp only [Option.some.injEq] at hs
    obtain ⟨z, hz, hzk⟩ := Option.map_eq_some_iff.1 hs.symm
    have hzm := List.mem_of_find?_eq_some hz
    simp only [PrV.kv, Prod.mk.injEq] at hzk
    rw [← hzk.1, ← hzk.2]
    rcases seenL_mem _ _ _ hzm with h | ⟨u, hu, rfl⟩
    · exact ⟨(hpt.good z h).lk, (hpt.good z h).lv⟩
    · exact ⟨(HB3.out.good u hu).lf, (HB3.out.good u hu).lt⟩
  have HLR := Lib.hid hlr; clear hlr
  rw [hm2] at hq
  obtain ⟨hm2l, hqa, hqb⟩ := hq
  replace hm2l : m2 < 1000000 := hm2l
  have HQA := Lib.hid hqa; have HQB := Lib.hid hqb; have HM2 := Lib.hid hm2
  clear hne hqa hqb hm2 hRr HB4r
  have F4 := Lib.hid (F3.out.trans f4 (fun _ _ h => h)); have HB4 := Lib.hid (HB3.out.kept0 f4); have HPT := Lib.hid hpt; clear f4 hpt hLl
  go_wp2_with fail
  refine (changes_any w4 p lv uv sl us HB4.out (by omega)).mono ?_
  rintro e w5 ⟨A5, os, rfl, ht, hpr, f5⟩
  have F5 := Lib.hid (F4.out.trans f5 (fun _ _ h => h)); have HB5 := Lib.hid (HB4.out.kept0 f5); have HPT5 := Lib.hid (HPT.out.kept0 f5); have HT := Lib.hid ht; have HPR := Lib.hid hpr
  clear f5 ht hpr
  go_wp2_with fail
  have e1 := heap_alloc_new w5 (.cells #[.slice OA R.length oc, .int .i64 m] 48)
  have e2 := heap_alloc_new (w5.alloc (.cells #[.slice OA R.length oc, .int .i64 m] 48)) (.cells #[.slice OA R.length oc, .int .i64 1000000] 48)
  have a1 := (Fr.refl no w5).alloc (.cells #[.slice OA R.length oc, .int .i64 m] 48)
  have a2 := (Fr.refl no (w5.alloc (.cells #[.slice OA R.length oc, .int .i64 m] 48))).alloc (.cells #[.slice OA R.length oc, .int .i64 1000000] 48)
  have e1 := a2.heap e1 (fun h => h)
  have a12 := a1.trans a2 (fun _ _ h => h)
  rw [World.size_alloc] at e2
  clear a1 a2
  generalize hg : w5.heap.size = g at e1 e2 ⊢
  generalize (w5.alloc (.cells #[.slice OA R.length oc, .int .i64 m] 48)).alloc (.cells #[.slice OA R.length oc, .int .i64 1000000] 48) = w6 at e1 e2 a12 ⊢
  have hg1 := Nat.le_of_eq hg; have hg2 := Nat.le_of_eq hg.symm
  have hpn := HPT5.out.new
  have F6 := Lib.hid (F5.out.trans a12 (fun _ _ h => h))
  have hbx : Bel w6 g (.slice OA R.length oc) R m := ⟨e1, (HPT5.out.pairs (by omega)).kept0 a12, fun e => by have := hpn g (.inl e); omega, fun y hy => ⟨fun e => by have := hpn g (.inr ⟨y, hy, .inl e⟩); omega, fun e => by have := hpn g (.inr ⟨y, hy, .inr e⟩); omega⟩⟩
  have hby : Bel w6 (g + 1) (.slice OA R.length oc) R 1000000 := ⟨e2, (HPT5.out.pairs (by omega)).kept0 a12, fun e => by have := hpn (g + 1) (.inl e); omega, fun y hy => ⟨fun e => by have := hpn (g + 1) (.inr ⟨y, hy, .inl e⟩); omega, fun e => by have := hpn (g + 1) (.inr ⟨y, hy, .inr e⟩); omega⟩⟩
  have hbf : ∀ q, BfF p lv sl uv us q → q < g := fun q hq => by have := HB5.out.lt q hq; omega
  have hkg : ∀ q, (Value.slice KA k.length Kc).ownBlock = some q → q < g := fun q hq => by have := HKL.out q hq; have := F5.out.size; omega
  have HBX := Lib.hid hbx; have HBY := Lib.hid hby; have HBF := Lib.hid hbf; have HKG := Lib.hid hkg; have A12 := Lib.hid a12; have HG := Lib.hid (And.intro hg1 hg2); have HB6 := Lib.hid (HB5.out.kept0 a12)
  have hw6 : g + 1 < w6.heap.size := (Array.getElem?_eq_some_iff.1 e2).1
  have HW6 := Lib.hid hw6
  have hpb : ∀ q, ((Value.slice OA R.length oc).ownBlock = some q ∨ ∃ y ∈ R, y.K.ownBlock = some q ∨ y.V.ownBlock = some q) → q < g := fun q hq => by have := hpn q hq; omega
  have HPB := Lib.hid hpb; clear hpb
  clear e1 e2 a12 hpn hbx hby hbf hkg hg hg1 hg2 hw6
  refine (bufn_any w6 p lv uv sl us g (.slice OA R.length oc) R m (.slice KA k.length Kc) k i HB6.out (by omega) (fun q hq => by have := HBF.out q hq; omega) HBX.out (by omega) (HK.out.kept0 F6.out) (fun e => by have := HKG.out g e; omega)).mono ?_
  rintro e w7 ⟨he, hbe, f7⟩
  obtain ⟨PK, PV, pk, pv, pkc, pvc, pis, pc, rfl, hres, h1, h2, h3⟩ := he.form
  have BE7 := Lib.hid hbe; have F7 := Lib.hid f7; have RX := Lib.hid hres; have PK1 := Lib.hid h1; have PV1 := Lib.hid h2; have PN := Lib.hid h3
  clear he hbe f7 hres h1 h2 h3
  go_wp2_with fail
  have e3 := heap_alloc_new w7 (.cells #[.slice PK pk.length pkc, .slice PV pv.length pvc] 40)
  have a8 := (Fr.refl no w7).alloc (.cells #[.slice PK pk.length pkc, .slice PV pv.length pvc] 40)
  generalize hg : w7.heap.size = g3 at e3 ⊢
  generalize w7.alloc (.cells #[.slice PK pk.length pkc, .slice PV pv.length pvc] 40) = w8 at e3 a8 ⊢
  have hg1 := Nat.le_of_eq hg; have hg2 := Nat.le_of_eq hg.symm
  have f68 : Fr (fun q => q = g) w6 w8 := F7.out.trans a8 (fun _ _ h => h.elim)
  have F68 := Lib.hid f68; have A8 := Lib.hid a8; have E3 := Lib.hid e3; have HG3 := Lib.hid (And.intro hg1 hg2)
  clear hg hg1 hg2 f68 a8 e3
  have hby8 := HBY.out.keptS F68.out (by show ¬ g + 1 = g; omega) (fun q hq e => by have := HPB.out q hq; have e2 : q = g := e; omega)
  have HBY8 := Lib.hid hby8; clear hby8
  refine (bufn_any w8 p lv uv sl us (g + 1) (.slice OA R.length oc) R 1000000 (.slice KA k.length Kc) k i (HB6.out.kept F68.out (fun q hq e => by have := HBF.out q hq; have e2 : q = g := e; omega)) (by omega) (fun q hq => by have := HBF.out q hq; omega) HBY8.out (by omega) ((HK.out.kept0 F6.out).kept F68.out (fun q hq e => by have := HKG.out q hq; have e2 : q = g := e; omega)) (fun e => by have := HKG.out (g + 1) e; omega)).mono ?_
  rintro e w9 ⟨he, hbe, f9⟩
  rw [HM2.out] at he hbe
  obtain ⟨QK, QV, qk, qv, qkc, qvc, qis, qc, rfl, hres, h1, h2, h3⟩ := he.form
  obtain rfl : qc = 0 := by rcases r2 with _ | ⟨a, b⟩ <;> simp [resN] at hres <;> omega
  have BE9 := Lib.hid hbe; have F9 := Lib.hid f9; have RY := Lib.hid hres; have QK1 := Lib.hid h1; have QV1 := Lib.hid h2; have QN := Lib.hid h3
  clear he hbe f9 hres h1 h2 h3
  obtain ⟨-, y1, -, -⟩ := two_cells BE9.out.at_
  have hy9 := World.block_lt_of_cell? _ _ y1
  have hw9 : 1000000 - (m2 : Int) = ((1000000 - m2 : Nat) : Int) := by omega
  have d3 : decide (((1000000 - m2 : Nat) : Int) < 1) = false := decide_eq_false (by omega)
  go_wp2_with fail
  have e4 := heap_alloc_new w9 (.cells #[.slice QK qk.length qkc, .slice QV qv.length qvc] 40)
  have a10 := (Fr.refl no w9).alloc (.cells #[.slice QK qk.length qkc, .slice QV qv.length qvc] 40)
  generalize hg : w9.heap.size = g4 at e4 hy9 ⊢
  generalize w9.alloc (.cells #[.slice QK qk.length qkc, .slice QV qv.length qvc] 40) = w10 at e4 a10 ⊢
  have hg1 := Nat.le_of_eq hg; have hg2 := Nat.le_of_eq hg.symm
  have f610 : Fr (fun q => q = g ∨ q = g + 1) w6 w10 := ((F68.out.mono (fun _ _ h => .inl h)).trans F9.out (fun _ _ h => .inr h)).trans a10 (fun _ _ h => h.elim)
  have F610 := Lib.hid f610; have A10 := Lib.hid a10; have E4 := Lib.hid e4; have HG4 := Lib.hid (And.intro hg1 hg2)
  clear hg hg1 hg2 f610 a10 e4
  have hb10 := HB6.out.kept F610.out (fun q hq e => by have := HBF.out q hq; rcases e with e | e <;> omega)
  have HB10 := Lib.hid hb10; clear hb10
  refine (changes_any w10 p lv uv sl us HB10.out (by omega)).mono ?_
  rintro e w11 ⟨A11, os2, rfl, ht, hpr, f11⟩
  have hpe : os.map SpV.pr = os2.map SpV.pr := HPR.out.trans hpr.symm
  have F11 := Lib.hid f11; have HT2 := Lib.hid ht; have HPR2 := Lib.hid hpr; have HPE := Lib.hid hpe; clear f11 ht hpr hpe
  go_wp2_with fail
  have hg12 := HG.out
  have f5_11 : Fr no w5 w11 := ((A12.out.trans F610.out (S := no) (fun q hq e => by rcases e with e | e <;> omega)).trans F11.out (fun _ _ h => h))
  have f7_11 : Fr (fun q => q = g + 1) w7 w11 := ((A8.out.mono (fun _ _ h => h.elim)).trans F9.out (fun _ _ h => h)).trans (A10.out.trans F11.out (fun _ _ h => h)) (fun _ _ h => h.elim)
  have f8_11 : Fr (fun q => q = g + 1) w8 w11 := F9.out.trans (A10.out.trans F11.out (fun _ _ h => h)) (fun _ _ h => h.elim)
  have f9_11 : Fr no w9 w11 := A10.out.trans F11.out (fun _ _ h => h)
  have fw_11 : Fr no w w11 := F5.out.trans f5_11 (fun _ _ h => h)
  have hs6 := HW6.out; have hs7 := F7.out.size
  have x3 := f8_11.heap E3.out (by have := HG3.out; show ¬ g3 = g + 1; omega)
  have x4 := F11.out.heap E4.out (fun h => h)
  have xg := f7_11.heap BE7.out.at_ (by show ¬ g = g + 1; omega)
  have k1 := PK1.out.kept f7_11 (fun q hq e => by have := PN.out q (.inl hq); have e2 : q = g + 1 := e; omega)
  have k2 := PV1.out.kept f7_11 (fun q hq e => by have := PN.out q (.inr hq); have e2 : q = g + 1 := e; omega)
  have k3 := QK1.out.kept0 f9_11
  have k4 := QV1.out.kept0 f9_11
  refine (samech_any w11 _ _ os os2 (HT.out.row.sl.kept0 f5_11) HT2.out.row.sl (fun z hz => (HT.out.goods HPR.out HB4.out.good z hz).kept0 f5_11) (HT2.out.goods HPR2.out HB10.out.good) (by have := congrArg List.length HPR.out; simp at this; omega)).mono ?_
  rintro e w12 ⟨rfl, f12⟩
  rw [decide_eq_true HPE.out]
  obtain ⟨c0, c1, z3, l3⟩ := two_cells (f12.heap x3 (fun h => h))
  obtain ⟨c2, c3, z4, l4⟩ := two_cells (f12.heap x4 (fun h => h))
  have XG := Lib.hid (f12.heap xg (fun h => h)); have K1 := Lib.hid (k1.kept0 f12); have K2 := Lib.hid (k2.kept0 f12); have K3 := Lib.hid (k3.kept0 f12); have K4 := Lib.hid (k4.kept0 f12); have FW := Lib.hid (fw_11.trans f12 (fun _ _ h => h))
  clear f5_11 f7_11 f8_11 f9_11 fw_11 hs6 hs7 x3 x4 xg k1 k2 k3 k4 hg12 f12
  by_cases hlt : m < 1000000 - m2
  · have d4 : decide (m < 1000000 - m2) = true := decide_eq_true hlt
    have hxa := HQA.out m hlt
    have rx := RX.out
    have xg := XG.out
    rw [hxa] at rx xg
    simp only [resN, Prod.mk.injEq] at rx
    obtain ⟨rfl, rfl, hpk, hpv⟩ := rx
    have HPK := Lib.hid (And.intro hpk hpv); have XG0 := Lib.hid xg; clear xg hxa hpk hpv hlt
    go_wp2_with fail
    obtain ⟨t1, t2, t3⟩ := two_has w12 (.slice PK pk.length pkc) (.slice PV pv.length pvc) (.slice none 0 0) (.slice none 0 0)
    have T3 := Lib.hid t3
    refine (samep_any _ _ _ [⟨.slice PK pk.length pkc, .slice PV pv.length pvc, pk, pv⟩] [⟨.slice none 0 0, .slice none 0 0, [], []⟩] (pair_one t1 (K1.out.kept0 t3) (K2.out.kept0 t3) (by rw [← HPK.out.1]; simp) (by rw [← HPK.out.2]; simp))
      (pair_one t2 ⟨rfl, .inl ⟨none, rfl, rfl⟩⟩ ⟨rfl, .inl ⟨none, rfl, rfl⟩⟩ (by simp) (by simp))).mono ?_
    rintro e w13 ⟨rfl, f13⟩
    rw [show decide ([(⟨.slice PK pk.length pkc, .slice PV pv.length pvc, pk, pv⟩ : PrV)].map PrV.kv = [(⟨.slice none 0 0, .slice none 0 0, [], []⟩ : PrV)].map PrV.kv) = true by refine decide_eq_true ?_; show [(pk, pv)] = [([], [])]; rw [← HPK.out.1, ← HPK.out.2]]
    obtain ⟨-, g1, -, -⟩ := two_cells (f13.heap (T3.out.heap XG0.out (fun h => h)) (fun h => h))
    have FW2 := Lib.hid ((FW.out.trans T3.out (fun _ _ h => h)).trans f13 (fun _ _ h => h))
    clear t1 t2 t3 f13
    go_wp2
    go_ret
    exact ⟨rfl, FW2.out⟩
  · have d4 : decide (m < 1000000 - m2) = false := decide_eq_false hlt
    have hxa := HQB.out m (by omega)
    have rx := RX.out
    have ry := RY.out
    rw [hxa] at rx
    simp only [] at rx
    rw [ry] at rx
    simp only [Prod.mk.injEq] at rx
    obtain ⟨rfl, rfl, hpk, hpv⟩ := rx
    have hll : qk.length ≤ 140737488351232 ∧ qv.length ≤ 140737488351232 := by
      have hb : ∀ x y, r2 = some (x, y) → x.length ≤ 140737488351232 ∧ y.length ≤ 140737488351232 := HLR.out
      rcases r2 with _ | ⟨x, y⟩
      · simp only [resN, Prod.mk.injEq] at ry; obtain ⟨-, -, rfl, rfl⟩ := ry; simp
      · simp only [resN, Prod.mk.injEq] at ry; obtain ⟨-, -, rfl, rfl⟩ := ry; exact hb _ _ rfl
    have HPK := Lib.hid (And.intro hpk hpv); have HLL := Lib.hid hll; clear ry hxa hpk hpv hlt hll
    cases qis
    all_goals
      go_wp2_with fail
      obtain ⟨t1, t2, t3⟩ := two_has w12 (.slice PK pk.length pkc) (.slice PV pv.length pvc) (.slice QK qk.length qkc) (.slice QV qv.length qvc)
      have T3 := Lib.hid t3
      refine (samep_any _ _ _ [⟨.slice PK pk.length pkc, .slice PV pv.length pvc, pk, pv⟩] [⟨.slice QK qk.length qkc, .slice QV qv.length qvc, qk, qv⟩] (pair_one t1 (K1.out.kept0 t3) (K2.out.kept0 t3) (by rw [← HPK.out.1]; exact HLL.out.1) (by rw [← HPK.out.2]; exact HLL.out.2))
        (pair_one t2 (K3.out.kept0 t3) (K4.out.kept0 t3) HLL.out.1 HLL.out.2)).mono ?_
      rintro e w13 ⟨rfl, f13⟩
      rw [show decide ([(⟨.slice PK pk.length pkc, .slice PV pv.length pvc, pk, pv⟩ : PrV)].map PrV.kv = [(⟨.slice QK qk.length qkc, .slice QV qv.length qvc, qk, qv⟩ : PrV)].map PrV.kv) = true by refine decide_eq_true ?_; show [(pk, pv)] = [(qk, qv)]; rw [HPK.out.1, HPK.out.2]]
      have FW2 := Lib.hid ((FW.out.trans T3.out (fun _ _ h => h)).trans f13 (fun _ _ h => h))
      clear t1 t2 t3 f13
      go_wp2
      go_ret
      exact ⟨rfl, FW2.out⟩

set_option maxRecDepth 100000 in
set_option maxHeartbeats 4000000 in
theorem errs_over (w : World) (U X K : Value) (n : Nat) (xs : List Value) (l : List OpB) (k : List UInt8) (i : Bool) (z : Nat) (hu : Sl w 2 U n xs) (hx : OpsB w X l) (hK : Sl w 1 K k.length (bvs k)) (h : over16 l = true ∨ 200 < n ∨ 3000 < k.length) :
    Calls Try.prog 4 #[U, X, K, .bool i, .int .u8 z] w fun e w' => e = .returned (.bool true) ∧ Fr no w w' := by
  obtain ⟨UA, Uc, rfl, hUc, hUm⟩ := hu.form
  obtain ⟨A, c, rfl, hc1, _⟩ := hx.sl.form
  obtain ⟨KA, Kc, rfl, hKc, hKm⟩ := hK.form
  unfold maxLen at hUm hKm
  have HX := Lib.hid hx; clear hu hx hK
  rcases ho : over16 l with _ | _
  · have HO := Lib.hid ho; clear ho
    have h : 200 < n ∨ 3000 < k.length := by rcases h with h | h; rw [HO.out] at h; cases h; exact h
    by_cases h1 : 200 < n
    · have d1 : decide ((200 : Int) < (n : Int)) = true := decide_eq_true (by omega)
      clear h h1
      go_enter Try.func4, Try.ntmps4
      go_wp2_with fail
      refine (much16_any w _ l HX.out).mono ?_
      rintro e w1 ⟨rfl, f1⟩
      rw [HO.out]
      have F1 := Lib.hid f1; clear f1
      go_wp2
      go_ret
      exact ⟨rfl, F1.out⟩
    · have d1 : decide ((200 : Int) < (n : Int)) = false := decide_eq_false (by omega)
      have d2 : decide ((3000 : Int) < (k.length : Int)) = true := decide_eq_true (by omega)
      clear h h1
      go_enter Try.func4, Try.ntmps4
      go_wp2_with fail
      refine (much16_any w _ l HX.out).mono ?_
      rintro e w1 ⟨rfl, f1⟩
      rw [HO.out]
      have F1 := Lib.hid f1; clear f1
      go_wp2
      go_ret
      exact ⟨rfl, F1.out⟩
  · have HO := Lib.hid ho; clear ho h
    go_enter Try.func4, Try.ntmps4
    go_wp2_with fail
    refine (much16_any w _ l HX.out).mono ?_
    rintro e w1 ⟨rfl, f1⟩
    rw [HO.out]
    have F1 := Lib.hid f1; clear f1
    go_wp2
    go_ret
    exact ⟨rfl, F1.out⟩
end Go.Proofs.Ytdnohhlgaaihmaa

/- law16: the buffer and the document's, side by side: the same is said, at each mark. -/
namespace Go.Proofs.Ytdnohhlgaaihmaa
open Go.RowKit

theorem posK_pr {l l' : List SpV} (h : l.map SpV.pr = l'.map SpV.pr) (k : List UInt8) : posK l k = posK l' k := by
  induction l generalizing l' with
  | nil => cases l' with
    | nil => rfl
    | cons y l' => simp at h
  | cons x l ih => cases l' with
    | nil => simp at h
    | cons y l' =>
      simp only [List.map_cons, List.cons.injEq] at h
      have e : x.f = y.f := (pr_inj.1 h.1).1
      unfold posK
      rw [List.takeWhile_cons, List.takeWhile_cons, e]
      have := ih h.2
      unfold posK at this
      split
      · simp [this]
      · rfl
theorem saidK_pr {l l' : List SpV} (h : l.map SpV.pr = l'.map SpV.pr) (k : List UInt8) : saidK l k = saidK l' k := by
  unfold saidK
  rw [posK_pr h k]
  have e : ∀ i : Nat, (l[i]?).map SpV.pr = (l'[i]?).map SpV.pr := fun i => by rw [← List.getElem?_map, ← List.getElem?_map, h]
  have := e (posK l' k)
  rcases h1 : l[posK l' k]? with _ | x
  · rw [h1] at this
    rcases h2 : l'[posK l' k]? with _ | y
    · rfl
    · rw [h2] at this; simp at this
  · rw [h1] at this
    rcases h2 : l'[posK l' k]? with _ | y
    · rw [h2] at this; simp at this
    · rw [h2] at this
      simp only [Option.map_some, Option.some.injEq] at this
      show decide (cb x.f k = 0) = decide (cb y.f k = 0)
      rw [(pr_inj.1 this).1]
theorem sayL_pr {l l' : List SpV} {x x' : SpV} (h : l.map SpV.pr = l'.map SpV.pr) (hx : x.pr = x'.pr) : (sayL l x).map SpV.pr = (sayL l' x').map SpV.pr := by
  have e : x.f = x'.f := (pr_inj.1 hx).1
  unfold sayL
  rw [e, saidK_pr h, posK_pr h]
  split
  · rw [List.map_set, List.map_set, h, hx]
  · rw [List.map_append, List.map_append, List.map_cons, List.map_cons, List.map_take, List.map_take, List.map_drop, List.map_drop, h, hx]

/-- At each mark the two say the same. -/
def Sync (us : List Und) (l L : List SpV) : Prop := us.length = L.length ∧ ∀ k, k ≤ us.length → (backs (us.take k) l).map SpV.pr = (chgL (L.take (L.length - k))).map SpV.pr
theorem Sync.now {us : List Und} {l L : List SpV} (h : Sync us l L) : l.map SpV.pr = (chgL L).map SpV.pr := by
  have := h.2 0 (Nat.zero_le _)
  simpa [backs] using this
theorem Sync.nil : Sync [] [] [] := ⟨rfl, fun k hk => by
  obtain rfl : k = 0 := by simpa using hk
  rfl⟩
theorem Sync.said {us : List Und} {l L : List SpV} {u : Und} {x x' : SpV} (h : Sync us l L) (hu : u.back (sayL l x) = l) (hx : x.pr = x'.pr) : Sync (u :: us) (sayL l x) (L ++ [x']) := by
  refine ⟨by simp [h.1], fun k hk => ?_⟩
  rcases k with _ | k
  · show (sayL l x).map SpV.pr = _
    rw [Nat.sub_zero, List.take_of_length_le (Nat.le_refl _)]
    unfold chgL
    rw [List.foldl_append]
    exact sayL_pr h.now hx
  · show (backs (us.take k) (u.back (sayL l x))).map SpV.pr = _
    rw [hu, h.2 k (by simpa using hk)]
    congr 2
    rw [List.length_append, List.length_singleton, show L.length + 1 - (k + 1) = L.length - k by omega, List.take_append_of_le_length (by omega)]
theorem Sync.back {us : List Und} {l L : List SpV} (h : Sync us l L) (m : Nat) (hm : m ≤ L.length) : Sync (us.drop (us.length - m)) (backs (us.take (us.length - m)) l) (L.take m) := by
  have h1 := h.1
  refine ⟨by rw [List.length_drop, List.length_take]; omega, fun k hk => ?_⟩
  rw [List.length_drop] at hk
  have e : backs ((us.drop (us.length - m)).take k) (backs (us.take (us.length - m)) l) = backs (us.take (us.length - m + k)) l := by
    unfold backs
    rw [List.take_add, List.foldl_append]
  rw [e, h.2 _ (by omega), List.length_take, List.take_take]
  congr 3
  omega

theorem getK_last (L : List SpV) (k : List UInt8) : getK (chgL L) k = L.reverse.find? fun y => decide (y.f = k) := by
  have key : ∀ j, j ≤ L.length → getK (chgL (L.take j)) k = (L.take j).reverse.find? fun y => decide (y.f = k) := by
    intro j
    induction j with
    | zero => intro _; rfl
    | succ j ih =>
      intro hj
      rw [chgL_succ L j (by omega), get_say _ (ris_chg _) k, List.take_succ_eq_append_getElem (by omega), List.reverse_append, ih (by omega)]
      show _ = (match decide (L[j].f = k) with | true => some L[j] | false => (L.take j).reverse.find? fun y => decide (y.f = k))
      by_cases h : L[j].f = k <;> simp [h]
  have := key L.length (Nat.le_refl _)
  rwa [List.take_of_length_le (Nat.le_refl _)] at this

theorem find_pr {l l' : List SpV} (h : l.map SpV.pr = l'.map SpV.pr) (p : List UInt8 → Bool) : (l.find? fun y => p y.f).map SpV.pr = (l'.find? fun y => p y.f).map SpV.pr := by
  have key : ∀ S : List SpV, (S.find? fun y => p y.f).map SpV.pr = (S.map SpV.pr).find? fun z => p z.1 := fun S => by
    induction S with
    | nil => rfl
    | cons y S ih =>
      rw [List.map_cons, List.find?_cons, List.find?_cons]
      show (match p y.f with | true => some y | false => S.find? fun y => p y.f).map SpV.pr = match p y.f with | true => some y.pr | false => (S.map SpV.pr).find? fun z => p z.1
      cases p y.f
      · exact ih
      · rfl
  rw [key, key, h]
theorem nextR_find {l : List SpV} (h : Ris l) (f : List UInt8) (i : Bool) : nextR l f i = l.find? fun y => abv y.f f i := by
  unfold nextR
  refine (find_at _ l (nextI l f i) (fun j hj hn => ?_) (fun hj => (nextI_iff h f i _ hj).1 (Nat.le_refl _))).symm
  cases hq : abv l[j].f f i
  · rfl
  · have := (nextI_iff h f i j hj).2 hq; omega
theorem prevR_find {l : List SpV} (h : Ris l) (f : List UInt8) (i : Bool) : prevR l f i = l.reverse.find? fun y => bel y.f f i := by
  unfold prevR
  have hb := prevI_le l f i
  split
  · rename_i hn
    refine (List.find?_eq_none.2 fun y hy => ?_).symm
    obtain ⟨j, hj, rfl⟩ := List.getElem_of_mem (List.mem_reverse.1 hy)
    intro hq
    have := (prevI_iff h f i j hj).2 hq; omega
  · rename_i hn
    obtain ⟨j, hj⟩ : ∃ j : Nat, prevI l f i = j := ⟨(prevI l f i).toNat, by omega⟩
    rw [hj, Int.toNat_natCast]
    have hlt : j < l.length := by omega
    rw [find_at (fun y : SpV => bel y.f f i) l.reverse (l.length - 1 - j) (fun m hm hn => ?_) (fun hm => ?_), List.getElem?_reverse (by omega)]
    · congr 1; omega
    · rw [List.getElem_reverse]
      simp only [List.length_reverse] at hm
      cases hq : bel l[l.length - 1 - m].f f i
      · rfl
      · have := (prevI_iff h f i _ (by omega)).2 hq; omega
    · rw [List.getElem_reverse]
      have e : l.length - 1 - (l.length - 1 - j) = j := by omega
      simp only [e]
      exact (prevI_iff h f i j hlt).1 (by omega)

/-- What is handed out of a change, in one form. -/
theorem ChgOut.form {w w' : World} {r : Option SpV} {e : Ending} (h : ChgOut w w' r e) : ∃ (A B : Option Addr) (f t : List UInt8) (o is : Bool), e = .returned (.tuple #[.agg #[.slice A f.length f.length, .slice B t.length t.length, .bool o], .bool is]) ∧
    (r.map SpV.pr).getD ([], [], false) = (f, t, o) ∧ is = r.isSome ∧ Ow w' 5 1 (.slice A f.length f.length) f.length (bvs f) ∧ Ow w' 5 1 (.slice B t.length t.length) t.length (bvs t) ∧
    (∀ k, (Value.slice A f.length f.length).ownBlock = some k ∨ (Value.slice B t.length t.length).ownBlock = some k → w.heap.size ≤ k) ∧ (∀ k, (Value.slice A f.length f.length).ownBlock = some k → (Value.slice B t.length t.length).ownBlock ≠ some k) ∧ Fr no w w' := by
  rcases h with ⟨rfl, rfl, hf⟩ | ⟨y, rfl, F, T, rfl, hc⟩
  · exact ⟨none, none, [], [], false, false, rfl, rfl, rfl, ⟨rfl, .inl ⟨rfl, rfl⟩⟩, ⟨rfl, .inl ⟨rfl, rfl⟩⟩, fun k hk => by rcases hk with hk | hk <;> simp [Value.ownBlock] at hk, fun k hk => by simp [Value.ownBlock] at hk, hf⟩
  · obtain ⟨A, hA⟩ := hc.fF; obtain ⟨B, hB⟩ := hc.fT
    subst hA; subst hB
    exact ⟨A, B, y.f, y.t, y.o, true, rfl, rfl, rfl, hc.oF, hc.oT, fun k hk => by rcases hk with hk | hk; exact hc.nF k hk; exact hc.nT k hk, hc.ne, hc.fr⟩
theorem gotten_out {w w' : World} {l : List SpV} {k : List UInt8} {e : Ending} (hr : Ris l) (h : Gotten w w' l k e) : ChgOut w w' (getK l k) e := by
  rcases h with ⟨h1, h2, h3⟩ | ⟨h1, h2, F, T, h3, h4⟩
  · exact .inl ⟨find_none ((said_iff hr k).1 h1), h2, h3⟩
  · have e : getK l k = some l[posK l k] := by
      obtain ⟨_, h5⟩ := said_at h2
      have hm := ris_find hr (List.getElem_mem h1)
      rw [h5] at hm
      exact hm
    exact .inr ⟨_, e, F, T, h3, h4⟩

set_option maxRecDepth 100000 in
set_option maxHeartbeats 4000000 in
theorem rback_any (w : World) (p : Nat) (sv : Value) (L : List SpV) (m : Nat) (hs : Rf w p sv L) (hm : m ≤ L.length) :
    Calls Try.prog 78 #[.pointer (some ⟨p, 0, none⟩), .int .i64 m] w fun e w' => e = .returned (.int .i64 0) ∧ ∃ sv', Rf w' p sv' (L.take m) ∧ (∀ k, SeF p sv' (L.take m) k → SeF p sv L k) ∧ Fr (fun k => k = p) w w' := by
  obtain ⟨A, c, rfl, hc1, hcm⟩ := hs.row.form
  obtain ⟨s0, sz0, sl0⟩ := one_cell hs.at_
  have d1 : decide ((m : Int) < 0) = false := decide_eq_false (by omega)
  have d2 : decide (L.length < m) = false := decide_eq_false (by omega)
  unfold maxLen at hcm
  have HS := Lib.hid hs; clear hs
  go_enter Try.func78, Try.ntmps78
  go_wp2
  go_ret
  have hs := HS.out
  have f1 : Fr (fun k => k = p) w (w.setCell ⟨p, 0, none⟩ (.slice A m m)) := Fr.setCell (Fr.refl (fun k => k = p) w) ⟨p, 0, none⟩ _ (fun _ => rfl)
  have hob : (Value.slice A m m).ownBlock = (Value.slice A L.length c).ownBlock := by cases A <;> rfl
  refine ⟨rfl, .slice A m m, ⟨hp_same hs.at_ 0 (.slice A m m), ?_, fun x hx => ?_, by rw [hob]; exact hs.ne, fun x hx k hk => ?_⟩, fun k hk => ?_, f1⟩
  · have h0 := hs.row
    have h1 : Ow w 36 3 (.slice A m m) m ((L.flatMap SpV.cells).take (m * 3)) := by
      refine ⟨by rw [List.length_take, h0.1]; omega, ?_⟩
      rcases h0.2 with ⟨h1, h2⟩ | ⟨g, cap, cur, h1, h2, h3, h4, h5, h6⟩
      · simp only [Value.slice.injEq] at h1
        obtain ⟨rfl, h7, rfl⟩ := h1
        obtain rfl : m = 0 := by omega
        exact .inl ⟨rfl, rfl⟩
      · simp only [Value.slice.injEq] at h1
        obtain ⟨rfl, -, rfl⟩ := h1
        refine .inr ⟨g, m, cur, rfl, h2, Nat.le_refl _, by omega, by omega, ?_⟩
        rw [← h6, List.take_take, Nat.min_eq_left (by omega)]
    rw [flat_take3] at h1
    have h2 := h1.kept f1 (fun k hk e => by rw [hob] at hk; exact hs.ne (by rw [← e]; exact hk))
    rw [List.length_take, Nat.min_eq_left hm]
    exact h2
  · have hx := List.mem_of_mem_take hx
    have hg := hs.good x hx
    exact ⟨hg.F.kept f1 (fun k hk => (hs.apart x hx k (.inl hk)).1), hg.T.kept f1 (fun k hk => (hs.apart x hx k (.inr hk)).1), hg.lf, hg.lt⟩
  · have := hs.apart x (List.mem_of_mem_take hx) k hk
    exact ⟨this.1, by rw [hob]; exact this.2.1, Nat.lt_of_lt_of_le this.2.2 f1.size⟩
  · rcases hk with h | h | ⟨x, hx, h⟩
    · exact .inl h
    · exact .inr (.inl (by rw [← hob]; exact h))
    · exact .inr (.inr ⟨x, List.mem_of_mem_take hx, h⟩)

set_option maxRecDepth 100000 in
set_option maxHeartbeats 4000000 in
theorem rback_err (w : World) (p : Nat) (sv : Value) (L : List SpV) (m : Int) (hs : Rf w p sv L) (hm : m < 0 ∨ (L.length : Int) < m) (h1 : -9223372036854775808 ≤ m) (h2 : m ≤ 9223372036854775807) :
    Calls Try.prog 78 #[.pointer (some ⟨p, 0, none⟩), .int .i64 m] w fun e w' => e = .returned (.int .i64 1) ∧ w' = w := by
  obtain ⟨A, c, rfl, hnc, hcm⟩ := hs.row.form
  obtain ⟨b0, bz, blt⟩ := one_cell hs.at_
  unfold maxLen at hcm
  clear hs
  by_cases h0 : m < 0
  · have d1 : decide (m < 0) = true := decide_eq_true h0
    go_enter Try.func78, Try.ntmps78
    go_wp2
    go_ret
    exact ⟨rfl, rfl⟩
  · have d1 : decide (m < 0) = false := decide_eq_false h0
    have d2 : decide ((L.length : Int) < m) = true := decide_eq_true (by omega)
    have d3 : (0 : Int) ≤ m := by omega
    clear hm h0
    go_enter Try.func78, Try.ntmps78
    go_wp2
    go_ret
    exact ⟨rfl, rfl⟩

theorem two_chg (w : World) (a b : List Value) : Has ((w.alloc (.cells a.toArray 36)).alloc (.cells b.toArray 36)) w.heap.size 36 a ∧
    Has ((w.alloc (.cells a.toArray 36)).alloc (.cells b.toArray 36)) (w.heap.size + 1) 36 b ∧ Fr no w ((w.alloc (.cells a.toArray 36)).alloc (.cells b.toArray 36)) := by
  have a1 := (Fr.refl no w).alloc (.cells a.toArray 36)
  have a2 := (Fr.refl no (w.alloc (.cells a.toArray 36))).alloc (.cells b.toArray 36)
  have e1 := heap_alloc_new w (.cells a.toArray 36)
  have e2 := heap_alloc_new (w.alloc (.cells a.toArray 36)) (.cells b.toArray 36)
  rw [World.size_alloc] at e2
  exact ⟨a2.heap e1 (fun h => h), e2, a1.trans a2 (fun _ _ h => h)⟩

set_option maxRecDepth 100000 in
set_option maxHeartbeats 4000000 in
/-- Two changes that are the same, both there or not. -/
theorem same_eq (w : World) (F T F2 T2 : Value) (f t : List UInt8) (o is : Bool) (hx : SpV.Good w ⟨F, T, f, t, o⟩) (hy : SpV.Good w ⟨F2, T2, f, t, o⟩) :
    Calls Try.prog 77 #[.agg #[F, T, .bool o], .bool is, .agg #[F2, T2, .bool o], .bool is] w fun e w' => e = .returned (.bool true) ∧ Fr no w w' := by
  obtain ⟨A1, c1, hF, _, _⟩ := hx.F.form
  obtain ⟨A2, c2, hT, _, _⟩ := hx.T.form
  obtain ⟨A3, c3, hF2, _, _⟩ := hy.F.form
  obtain ⟨A4, c4, hT2, _, _⟩ := hy.T.form
  simp only at hF hT hF2 hT2
  subst hF; subst hT; subst hF2; subst hT2
  have HX := Lib.hid hx; have HY := Lib.hid hy; clear hx hy
  go_enter Try.func77, Try.ntmps77
  cases is
  all_goals
    go_wp2_with fail
    obtain ⟨t1, t2, t3⟩ := two_chg ((w.alloc (.cells #[.slice A1 f.length c1, .slice A2 t.length c2, .bool o] 36)).alloc (.cells #[.slice A3 f.length c3, .slice A4 t.length c4, .bool o] 36)) [.slice A1 f.length c1, .slice A2 t.length c2, .bool o] [.slice A3 f.length c3, .slice A4 t.length c4, .bool o]
    have f0 : Fr no w ((w.alloc (.cells #[.slice A1 f.length c1, .slice A2 t.length c2, .bool o] 36)).alloc (.cells #[.slice A3 f.length c3, .slice A4 t.length c4, .bool o] 36)) := ((Fr.refl no w).alloc _).alloc _
    rw [World.size_alloc, World.size_alloc] at t1 t2
    have f3 := f0.trans t3 (fun _ _ h => h)
    have F3 := Lib.hid f3
    refine (samech_any _ _ _ [⟨.slice A1 f.length c1, .slice A2 t.length c2, f, t, o⟩] [⟨.slice A3 f.length c3, .slice A4 t.length c4, f, t, o⟩] (one_chg t1 rfl) (one_chg t2 rfl) (fun z hz => by rw [List.mem_singleton.1 hz]; exact HX.out.kept0 f3) (fun z hz => by rw [List.mem_singleton.1 hz]; exact HY.out.kept0 f3) (by simp)).mono ?_
    rintro e w5 ⟨rfl, f5⟩
    rw [show decide ([(⟨.slice A1 f.length c1, .slice A2 t.length c2, f, t, o⟩ : SpV)].map SpV.pr = [(⟨.slice A3 f.length c3, .slice A4 t.length c4, f, t, o⟩ : SpV)].map SpV.pr) = true from decide_eq_true rfl]
    have F5 := Lib.hid (F3.out.trans f5 (fun _ _ h => h))
    clear t1 t2 t3 f0 f3 f5
    go_wp2
    go_ret
    exact ⟨rfl, F5.out⟩
end Go.Proofs.Ytdnohhlgaaihmaa
