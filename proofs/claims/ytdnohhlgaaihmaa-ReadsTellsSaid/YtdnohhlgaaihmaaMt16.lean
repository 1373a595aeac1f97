import Derived.Test.YtdnohhlgaaihmaaMt15

/- law17: what came in, one by one; a set of its own. -/
namespace Go.Proofs.Ytdnohhlgaaihmaa
open Go.RowKit

/-- Keys and spans that are looked at. -/
structure Ins (w : World) (X Y : Value) (ks : List Kv) (l : List SpV) : Prop where
  keys : Keys w X ks
  spans : SpIn w Y l
  nk : ks.length ≤ 300
  nl : l.length ≤ 300
  bk : ∀ x ∈ ks, x.b.length ≤ 20000
  bl : ∀ x ∈ l, x.f.length ≤ 20000 ∧ x.t.length ≤ 20000

theorem over_keys {ks : List Kv} (h : over17 ks.length (ks.map fun k => k.b.length) = false) : ks.length ≤ 300 ∧ ∀ x ∈ ks, x.b.length ≤ 20000 := by
  unfold over17 at h
  simp only [Bool.or_eq_false_iff, decide_eq_false_iff_not] at h
  refine ⟨by omega, fun x hx => ?_⟩
  have := le_sum17 (List.mem_map_of_mem (f := fun k : Kv => k.b.length) hx)
  omega
theorem over_spans {l : List SpV} (h : over17 l.length (l.map fun k => k.f.length + k.t.length) = false) : l.length ≤ 300 ∧ ∀ x ∈ l, x.f.length ≤ 20000 ∧ x.t.length ≤ 20000 := by
  unfold over17 at h
  simp only [Bool.or_eq_false_iff, decide_eq_false_iff_not] at h
  refine ⟨by omega, fun x hx => ?_⟩
  have := le_sum17 (List.mem_map_of_mem (f := fun k : SpV => k.f.length + k.t.length) hx)
  omega

/-- One key that came in. -/
theorem key_in {w : World} {A : Option Addr} {n c : Nat} {ks : List Kv} (h : Keys w (.slice A n c) ks) (j : Nat) (hj : j < ks.length) :
    ∃ b o VA vc, A = some ⟨b, o, none⟩ ∧ ks[j].V = .slice VA ks[j].b.length vc ∧ w.cell? ⟨b, o + j, none⟩ = some (.slice VA ks[j].b.length vc) ∧ Sl w 1 (.slice VA ks[j].b.length vc) ks[j].b.length (bvs ks[j].b) := by
  obtain ⟨kb, ko, hA, q0⟩ := Keys.at h j hj
  have hkv := (h.good ks[j] (List.getElem_mem _)).1
  obtain ⟨VA, vc, hV, _, _⟩ := hkv.form
  rw [hV] at q0 hkv
  exact ⟨kb, ko, VA, vc, hA, hV, q0, hkv⟩

/-- One span that came in. -/
theorem span_in {w : World} {A : Option Addr} {n c : Nat} {l : List SpV} (h : SpIn w (.slice A n c) l) (hb : ∀ x ∈ l, x.f.length ≤ 20000 ∧ x.t.length ≤ 20000) (j : Nat) (hj : j < l.length) :
    ∃ b o FA fc TA tc, A = some ⟨b, o, none⟩ ∧ w.cell? ⟨b, o + j * 3, none⟩ = some (.slice FA l[j].f.length fc) ∧ w.cell? ⟨b, o + j * 3 + 1, none⟩ = some (.slice TA l[j].t.length tc) ∧ w.cell? ⟨b, o + j * 3 + 2, none⟩ = some (.bool l[j].o) ∧
      SpV.Good w ⟨.slice FA l[j].f.length fc, .slice TA l[j].t.length tc, l[j].f, l[j].t, l[j].o⟩ := by
  obtain ⟨sb, so, hB, q0, q1, q2⟩ := Spans.at h.sl j hj
  obtain ⟨h1, h2⟩ := hb l[j] (List.getElem_mem _)
  have hr := h.raw l[j] (List.getElem_mem _)
  obtain ⟨FA, fc, hF, _, _⟩ := hr.F.form
  obtain ⟨TA, tc, hT, _, _⟩ := hr.T.form
  rw [hF] at q0; rw [hT] at q1
  exact ⟨sb, so, FA, fc, TA, tc, hB, q0, q1, q2, ⟨hF ▸ hr.F, hT ▸ hr.T, by simp only []; omega, by simp only []; omega⟩⟩

/-- A new set. -/
theorem one_new {w w1 : World} {p : Nat} (hp : w.heap.size ≤ p) (hs : Se w1 p (.slice none 0 0) []) (f : Fr no w w1) : One w w1 p (.slice none 0 0) [] (fun _ => False) 0 no :=
  ⟨f, hs, trivial, fun k => ⟨fun h => SpV.Mem.nil h, fun h => h.elim⟩, Nat.le_refl _, (fun k hk => by
    rcases hk with h | h | ⟨x, hx, _⟩
    · omega
    · simp [Value.ownBlock] at h
    · cases hx), fun k h => h.elim⟩

/-- A set of its own. -/
def Lone (w wr : World) (p : Nat) (M : List UInt8 → Prop) (n : Nat) : Prop := ∃ sv l, One w wr p sv l M n no
theorem Lone.fr {w wr : World} {p : Nat} {M : List UInt8 → Prop} {n : Nat} (h : Lone w wr p M n) : Fr no w wr := by obtain ⟨_, _, h⟩ := h; exact h.fr
theorem Lone.kept0 {w wr w1 : World} {p : Nat} {M : List UInt8 → Prop} {n : Nat} (h : Lone w wr p M n) (f : Fr no wr w1) : Lone w w1 p M n := by obtain ⟨sv, l, h⟩ := h; exact ⟨sv, l, h.kept0 f⟩
theorem Lone.turn {w wr : World} {p : Nat} {M M' : List UInt8 → Prop} {n m : Nat} (h : Lone w wr p M n) (hm : ∀ k, M k ↔ M' k) (hn : n ≤ m) : Lone w wr p M' m := by
  obtain ⟨sv, l, h⟩ := h; exact ⟨sv, l, { h.turn hm with len := Nat.le_trans h.len hn }⟩
theorem Both.lone {w wr : World} {p q : Nat} {M1 M2 : List UInt8 → Prop} {n : Nat} {G : Nat → Prop} (h : Both w wr p q M1 M2 n G) : Lone w wr p M1 n := by
  obtain ⟨sv, l, rv, rl, h1, _⟩ := h; exact ⟨sv, l, h1.gets (fun k h => h.elim)⟩
theorem lone_span (w wr : World) (p : Nat) (M : List UInt8 → Prop) (n : Nat) (x : SpV) (h : Lone w wr p M n) (hx : x.Good wr) (hn : n ≤ 100000) :
    Calls Try.prog 43 #[.pointer (some ⟨p, 0, none⟩), .agg #[x.F, x.T, .bool x.o]] wr fun e w' => e = .returned (.tuple #[]) ∧ Lone w w' p (fun k => x.mem k ∨ M k) (n + 1) := by
  obtain ⟨sv, l, h1⟩ := h
  refine (span_any wr p sv l x h1.se hx (Nat.le_trans h1.len hn)).mono fun e w' hs => ?_
  obtain ⟨h0, sv', l', h2, _⟩ := h1.spanned hs
  exact ⟨h0, sv', l', h2⟩
theorem lone_key (w wr : World) (p : Nat) (M : List UInt8 → Prop) (n : Nat) (K : Value) (b : List UInt8) (h : Lone w wr p M n) (hK : Sl wr 1 K b.length (bvs b)) (hb : b.length ≤ 100000000) (hn : n ≤ 100000) :
    Calls Try.prog 44 #[.pointer (some ⟨p, 0, none⟩), K] wr fun e w' => e = .returned (.tuple #[]) ∧ Lone w w' p (fun k => b = k ∨ M k) (n + 1) := by
  obtain ⟨sv, l, h1⟩ := h
  refine (key_any wr p sv K l b h1.se hK hb (Nat.le_trans h1.len hn)).mono fun e w' hs => ?_
  obtain ⟨h0, sv', l', h2, _⟩ := h1.spanned hs
  exact ⟨h0, sv', l', h2.turn fun k => or_congr (key_mem K K b k) Iff.rfl⟩
theorem lone_has (w wr : World) (p : Nat) (M : List UInt8 → Prop) (n : Nat) (K : Value) (k : List UInt8) (h : Lone w wr p M n) (hK : Sl wr 1 K k.length (bvs k)) (hn : n ≤ 100000) :
    Calls Try.prog 48 #[.pointer (some ⟨p, 0, none⟩), K] wr fun e w' => (∃ b, e = .returned (.bool b) ∧ (b = true ↔ M k)) ∧ Fr no wr w' := by
  obtain ⟨sv, l, h1⟩ := h
  refine (has_any wr p sv K l k h1.se hK (Nat.le_trans h1.len hn)).mono fun e w' hs => ?_
  exact ⟨⟨_, hs.1, by rw [hasV_mem h1.norm, h1.mem]⟩, hs.2⟩

/-- Just this is put in. -/
theorem drop_mem (l : List SpV) (m : Nat) (hm : m < l.length) (k : List UInt8) : SpV.mem l[m] k ∨ SpV.Mem (l.drop (m + 1)) k ↔ SpV.Mem (l.drop m) k := by
  rw [List.drop_eq_getElem_cons hm, SpV.Mem.cons]
def KMem (ks : List Kv) (k : List UInt8) : Prop := ∃ x ∈ ks, x.b = k
theorem drop_kmem (l : List Kv) (m : Nat) (hm : m < l.length) (k : List UInt8) : l[m].b = k ∨ KMem (l.drop (m + 1)) k ↔ KMem (l.drop m) k := by
  have e : KMem (l[m] :: l.drop (m + 1)) k ↔ l[m].b = k ∨ KMem (l.drop (m + 1)) k := by unfold KMem; simp only [List.mem_cons, or_and_right, exists_or, exists_eq_left]
  rw [List.drop_eq_getElem_cons hm]
  exact e.symm
end Go.Proofs.Ytdnohhlgaaihmaa

/- law17: ReadsGrows, from what came in. -/
namespace Go.Proofs.Ytdnohhlgaaihmaa
open Go.RowKit

theorem take_mem (l : List SpV) (m : Nat) (hm : m < l.length) (k : List UInt8) : SpV.mem l[m] k ∨ SpV.Mem (l.take m) k ↔ SpV.Mem (l.take (m + 1)) k := by
  rw [List.take_succ_eq_append_getElem hm]
  unfold SpV.Mem
  simp only [List.mem_append, List.mem_singleton, or_and_right, exists_or, exists_eq_left]
  exact Or.comm

theorem lone_meets (w wr : World) (p : Nat) (M : List UInt8 → Prop) (n : Nat) (X : Value) (ks : List Kv) (h : Lone w wr p M n) (hX : Keys wr X ks) (hk : ks.length ≤ 140737488351232) (hn : n ≤ 100000) :
    Calls Try.prog 50 #[.pointer (some ⟨p, 0, none⟩), X] wr fun e w' => (∃ b, e = .returned (.bool b) ∧ (b = true ↔ ∃ x ∈ ks, M x.b)) ∧ Fr no wr w' := by
  obtain ⟨sv, l, h1⟩ := h
  refine (meets_any wr p sv X l ks h1.se hX (Nat.le_trans h1.len hn) hk).mono fun e w' hs => ?_
  refine ⟨⟨_, hs.1, ?_⟩, hs.2⟩
  simp only [List.any_eq_true]
  exact exists_congr fun x => and_congr Iff.rfl (by rw [hasV_mem h1.norm, h1.mem])

theorem bool_or {a b c : Bool} {A B C : Prop} (ha : a = true ↔ A) (hb : b = true ↔ B) (hc : c = true ↔ C) (h : C ↔ A ∨ B) : c = (a || b) := by
  rw [Bool.eq_iff_iff, hc, h, Bool.or_eq_true, ha, hb]

set_option maxRecDepth 100000 in
set_option maxHeartbeats 8000000 in
theorem grows_walk (w : World) (X Y Z V : Value) (ks : List Kv) (l more : List SpV) (asked : List Kv) (hk : Keys w X ks) (hn : ks.length ≤ reachBytes) (hl : SpIn w Y l) (hm : SpIn w Z more) (ha : Keys w V asked) (hna : asked.length ≤ reachBytes)
    (o1 : over17 ks.length (ks.map fun k => k.b.length) = false) (o2 : over17 l.length (l.map fun k => k.f.length + k.t.length) = false) (o3 : over17 more.length (more.map fun k => k.f.length + k.t.length) = false) (o4 : over17 asked.length (asked.map fun k => k.b.length) = false) :
    Calls Try.prog 11 #[X, Y, Z, V] w fun e w' => e = .returned (.bool true) ∧ Fr no w w' := by
  obtain ⟨k1, k2⟩ := over_keys o1
  obtain ⟨l1, l2⟩ := over_spans o2
  obtain ⟨m1, m2⟩ := over_spans o3
  obtain ⟨a1, a2⟩ := over_keys o4
  obtain ⟨C, cc, rfl, hc1, hc2⟩ := hm.sl.form
  obtain ⟨D, dc, rfl, hd1, hd2⟩ := ha.sl.form
  have HK := Lib.hid hk; have HL := Lib.hid hl; have HM := Lib.hid hm; have HA := Lib.hid ha
  have K2 := Lib.hid k2; have L2 := Lib.hid l2; have M2 := Lib.hid m2; have A2 := Lib.hid a2
  have O1 := Lib.hid o1; have O2 := Lib.hid o2; have O3 := Lib.hid o3; have O4 := Lib.hid o4
  clear hk hl hm ha k2 l2 m2 a2 o1 o2 o3 o4 hc2 hd2
  go_enter Try.func11, Try.ntmps11
  go_wp2_with fail
  refine (many_any w _ ks HK.out hn).mono ?_
  rintro e w1 ⟨rfl, f1⟩
  rw [O1.out]
  have F1 := Lib.hid f1; clear f1
  go_wp2_with fail
  refine (much_any w1 _ l (HL.out.kept0 F1.out)).mono ?_
  rintro e w2 ⟨rfl, f2⟩
  rw [O2.out]
  have F2 := Lib.hid (F1.out.trans f2 (fun _ _ h => h)); clear f2
  go_wp2_with fail
  refine (much_any w2 _ more (HM.out.kept0 F2.out)).mono ?_
  rintro e w3 ⟨rfl, f3⟩
  rw [O3.out]
  have F3 := Lib.hid (F2.out.trans f3 (fun _ _ h => h)); clear f3
  go_wp2_with fail
  refine (many_any w3 _ asked (HA.out.kept0 F3.out) hna).mono ?_
  rintro e w4 ⟨rfl, f4⟩
  rw [O4.out]
  have F4 := Lib.hid (F3.out.trans f4 (fun _ _ h => h)); clear f4
  go_wp2_with fail
  refine (known17 w4).mono ?_
  rintro e w5 ⟨rfl, f5⟩
  have F5 := Lib.hid (F4.out.trans f5 (fun _ _ h => h)); clear f5
  go_wp2_with fail
  refine (filled_any w5 _ _ ks l (HK.out.kept0 F5.out) (HL.out.kept0 F5.out) k1 l1 K2.out L2.out).mono ?_
  rintro e w6 ⟨pa, qa, rfl, hb⟩
  have HSA := Lib.hid hb.lone; have F6 := Lib.hid (F5.out.trans hb.fr (fun _ _ h => h)); clear hb
  go_wp2_with fail
  refine (filled_any w6 (.slice none 0 0) _ [] more ⟨⟨rfl, .inl ⟨none, rfl, rfl⟩⟩, (fun x hx => nomatch hx)⟩ (HM.out.kept0 F6.out) (by simp) m1 (fun x hx => nomatch hx) M2.out).mono ?_
  rintro e w7 ⟨pb, qb, rfl, hb⟩
  have HSB := Lib.hid hb.lone; have HSA7 := Lib.hid (HSA.out.kept0 hb.fr); have F7 := Lib.hid (F6.out.trans hb.fr (fun _ _ h => h)); clear hb
  go_wp2_with fail
  refine (filled_any w7 _ _ ks l (HK.out.kept0 F7.out) (HL.out.kept0 F7.out) k1 l1 K2.out L2.out).mono ?_
  rintro e w8 ⟨pc, qc, rfl, hb⟩
  have HSC := Lib.hid hb.lone; clear hb
  go_wp2
  go_loopw [18] (fun i wr => ∃ m : Nat, m ≤ more.length ∧ i = .int .i64 m ∧ Lone w7 wr pc (fun k => SpV.Mem (more.take m) k ∨ AllIn ks l k) (1200 + m)) (fun i _ => more.length - (intOf i).toNat)
  case atStart => exact ⟨0, Nat.zero_le _, rfl, HSC.out.turn (fun k => by simp [SpV.Mem]) (by omega)⟩
  case round =>
    obtain ⟨m, hm, rfl, ho⟩ := hrel
    have HO := Lib.hid ho; clear ho
    by_cases hlt : m < more.length
    · obtain ⟨b, o, FA, fc, TA, tc, rfl, q0, q1, q2, hg⟩ := span_in HM.out M2.out m hlt
      have hfw := F7.out.trans HO.out.fr (fun _ _ h => h)
      have q0 := hfw.cell q0 (fun h => h); have q1 := hfw.cell q1 (fun h => h); have q2 := hfw.cell q2 (fun h => h)
      have HG := Lib.hid (hg.kept0 hfw); clear hg hfw
      go_wp2_with fail
      refine (lone_span w7 wr pc _ _ _ HO.out HG.out (by omega)).mono ?_
      rintro e w9 ⟨rfl, h6⟩
      have H6 := Lib.hid h6; clear h6
      go_wp2
      go_roundw
      case rel => exact ⟨m + 1, by omega, by first | rfl | go_num, H6.out.turn (fun k => by rw [← take_mem more m hlt k, or_assoc]; rfl) (by omega)⟩
      case measure => simp [intOf]; omega
    · obtain rfl : m = more.length := by omega
      have HC := Lib.hid (HO.out.turn (M' := fun k => SpV.Mem more k ∨ AllIn ks l k) (m := 2000) (fun k => by rw [List.take_of_length_le (Nat.le_refl _)]) (by omega)); clear HO
      have HB9 := Lib.hid (HSB.out.kept0 HC.out.fr); have HA9 := Lib.hid (HSA7.out.kept0 HC.out.fr)
      have F9 := Lib.hid (F7.out.trans HC.out.fr (fun _ _ h => h))
      go_wp2
      go_loopw [19] (fun i wq => ∃ m : Nat, m ≤ asked.length ∧ i = .int .i64 m ∧ Fr no wr wq) (fun i _ => asked.length - (intOf i).toNat)
      case atStart => exact ⟨0, Nat.zero_le _, rfl, Fr.refl _ _⟩
      case round =>
        obtain ⟨m, hm, rfl, hf⟩ := hrel
        have HF := Lib.hid hf; clear hf
        by_cases hlt : m < asked.length
        · obtain ⟨b, o, VA, vc, rfl, _, q0, hg⟩ := key_in HA.out m hlt
          have hfw := F9.out.trans HF.out (fun _ _ h => h)
          have q0 := hfw.cell q0 (fun h => h)
          have HG := Lib.hid (hg.kept0 hfw); clear hg hfw
          go_wp2_with fail
          refine wp_region_ord [0, 1, 2, 3, 4, 6, 7, 8, 9, 10, 5, 11, 12, 13, 14, 15, 16, 17, 18, 19, 20] (fun i => [Kd.p, Kd.p, Kd.p, Kd.p, Kd.l, Kd.g, Kd.p, Kd.p, Kd.p, Kd.p, Kd.l, Kd.g, Kd.p, Kd.p, Kd.p, Kd.p, Kd.p, Kd.l, Kd.g, Kd.p, Kd.e].getD i .e) (by kernel_rfl) (by kernel_rfl) ?_
          iterate 10
            first | refine wpX_pu rfl rfl rfl (by first | exact pu_move rfl | exact pu_assign rfl | exact pu_nilCheck rfl rfl | exact pu_binInt rfl rfl rfl | exact pu_conv rfl rfl (by kernel_rfl) | exact pu_fld rfl (by kernel_rfl) | exact pu_ix rfl rfl rfl (by kernel_rfl) | exact pu_unOp rfl | exact pu_binStr rfl rfl rfl | exact pu_len rfl rfl | exact pu_lens rfl rfl | exact pu_pick rfl | exact pu_slice rfl rfl) (fun K hK => ?_) | refine wpX_rd rfl rfl rfl (rd_load rfl) (fun K hK => ?_) | refine wpX_gr rfl rfl rfl (by first | exact gr_buildSlice rfl | exact gr_box rfl | exact gr_alloc rfl) (fun K hK => ?_) | refine wpX_ex rfl rfl rfl (fun K hK => ?_)
            try go_wp2
          refine wpX_ca rfl rfl rfl (fun K hK => ?_)
          go_wp2_with fail
          refine (lone_has w7 _ pc _ _ _ asked[m].b (HC.out.kept0 (Fr.drew HF.out)) (HG.out.kept0 (Fr.drew (Fr.refl no _))) (by omega)).mono ?_
          rintro e w10 ⟨⟨bc, rfl, hbc⟩, f10⟩
          have g10 := (Fr.drew (Fr.refl no wr)).trans f10 (fun _ _ h => h)
          have BC := Lib.hid hbc; have F10 := Lib.hid g10; clear f10 g10 hbc
          go_wp2
          obtain ⟨⟨xa, xb⟩, hext⟩ := F10.out.ext
          refine ⟨⟨xa, xb, hext⟩, hK _ _ ?_⟩
          clear hK K hext xa xb
          refine wpX_ca rfl rfl rfl (fun K hK => ?_)
          go_wp2_with fail
          refine (lone_has w5 w10 pa _ _ _ asked[m].b (HA9.out.kept0 (HF.out.trans F10.out (fun _ _ h => h))) (HG.out.kept0 F10.out) (by omega)).mono ?_
          rintro e w11 ⟨⟨ba, rfl, hba⟩, f11⟩
          have BA := Lib.hid hba; have F11 := Lib.hid f11; clear f11 hba
          go_wp2
          obtain ⟨⟨xa, xb⟩, hext⟩ := F11.out.ext
          refine ⟨⟨xa, xb, hext⟩, hK _ _ ?_⟩
          clear hK K hext xa xb
          have F11b := Lib.hid (F10.out.trans F11.out (fun _ _ h => h))
          have q1 := F11b.out.cell q0 (fun h => h)
          cases ba with
          | true =>
            have hbb : bc = true := BC.out.2 (.inr (BA.out.1 rfl))
            subst hbb
            iterate 9
              first | (refine wpX_un rfl rfl ?_; go_simp) | first | refine wpX_pu rfl rfl rfl (by first | exact pu_move rfl | exact pu_assign rfl | exact pu_nilCheck rfl rfl | exact pu_binInt rfl rfl rfl | exact pu_conv rfl rfl (by kernel_rfl) | exact pu_fld rfl (by kernel_rfl) | exact pu_ix rfl rfl rfl (by kernel_rfl) | exact pu_unOp rfl | exact pu_binStr rfl rfl rfl | exact pu_len rfl rfl | exact pu_lens rfl rfl | exact pu_pick rfl | exact pu_slice rfl rfl) (fun K hK => ?_) | refine wpX_rd rfl rfl rfl (rd_load rfl) (fun K hK => ?_) | refine wpX_gr rfl rfl rfl (by first | exact gr_buildSlice rfl | exact gr_box rfl | exact gr_alloc rfl) (fun K hK => ?_) | refine wpX_ex rfl rfl rfl (fun K hK => ?_)
              try go_wp2
            refine wpX_done ?_
            go_wp2
            go_roundw
            case rel => exact ⟨m + 1, by omega, by first | rfl | go_num, HF.out.trans F11b.out (fun _ _ h => h)⟩
            case measure => simp [intOf]; omega
          | false =>
            iterate 6
              first | (refine wpX_un rfl rfl ?_; go_simp) | first | refine wpX_pu rfl rfl rfl (by first | exact pu_move rfl | exact pu_assign rfl | exact pu_nilCheck rfl rfl | exact pu_binInt rfl rfl rfl | exact pu_conv rfl rfl (by kernel_rfl) | exact pu_fld rfl (by kernel_rfl) | exact pu_ix rfl rfl rfl (by kernel_rfl) | exact pu_unOp rfl | exact pu_binStr rfl rfl rfl | exact pu_len rfl rfl | exact pu_lens rfl rfl | exact pu_pick rfl | exact pu_slice rfl rfl) (fun K hK => ?_) | refine wpX_rd rfl rfl rfl (rd_load rfl) (fun K hK => ?_) | refine wpX_gr rfl rfl rfl (by first | exact gr_buildSlice rfl | exact gr_box rfl | exact gr_alloc rfl) (fun K hK => ?_) | refine wpX_ex rfl rfl rfl (fun K hK => ?_)
              try go_wp2
            refine wpX_ca rfl rfl rfl (fun K hK => ?_)
            go_wp2_with fail
            refine (lone_has w6 w11 pb _ _ _ asked[m].b (HB9.out.kept0 (HF.out.trans F11b.out (fun _ _ h => h))) (HG.out.kept0 F11b.out) (by omega)).mono ?_
            rintro e w12 ⟨⟨bb, rfl, hbb⟩, f12⟩
            have hbc : bc = (false || bb) := bool_or BA.out hbb BC.out ⟨fun h => h.elim (fun h => .inr (.inr h)) .inl, fun h => h.elim .inr (fun h => h.elim (fun h => by obtain ⟨x, hx, _⟩ := h; cases hx) .inl)⟩
            rw [Bool.false_or] at hbc
            subst hbc
            have F12 := Lib.hid f12; clear f12 hbb
            go_wp2
            obtain ⟨⟨xa, xb⟩, hext⟩ := F12.out.ext
            refine ⟨⟨xa, xb, hext⟩, hK _ _ ?_⟩
            clear hK K hext xa xb
            cases bc <;>
            · iterate 2
                first | (refine wpX_un rfl rfl ?_; go_simp) | first | refine wpX_pu rfl rfl rfl (by first | exact pu_move rfl | exact pu_assign rfl | exact pu_nilCheck rfl rfl | exact pu_binInt rfl rfl rfl | exact pu_conv rfl rfl (by kernel_rfl) | exact pu_fld rfl (by kernel_rfl) | exact pu_ix rfl rfl rfl (by kernel_rfl) | exact pu_unOp rfl | exact pu_binStr rfl rfl rfl | exact pu_len rfl rfl | exact pu_lens rfl rfl | exact pu_pick rfl | exact pu_slice rfl rfl) (fun K hK => ?_) | refine wpX_rd rfl rfl rfl (rd_load rfl) (fun K hK => ?_) | refine wpX_gr rfl rfl rfl (by first | exact gr_buildSlice rfl | exact gr_box rfl | exact gr_alloc rfl) (fun K hK => ?_) | refine wpX_ex rfl rfl rfl (fun K hK => ?_)
                try go_wp2
              refine wpX_done ?_
              go_wp2
              go_roundw
              case rel => exact ⟨m + 1, by omega, by first | rfl | go_num, (HF.out.trans F11b.out (fun _ _ h => h)).trans F12.out (fun _ _ h => h)⟩
              case measure => simp [intOf]; omega
        · skip
          go_wp2_with fail
          refine (lone_meets w7 wr pc _ _ _ asked (HC.out.kept0 HF.out) (HA.out.kept0 (F9.out.trans HF.out (fun _ _ h => h))) (by omega) (by omega)).mono ?_
          rintro e w10 ⟨⟨bc, rfl, hbc⟩, f10⟩
          have BC := Lib.hid hbc; have F10 := Lib.hid (HF.out.trans f10 (fun _ _ h => h)); clear f10 hbc
          go_wp2_with fail
          refine (lone_meets w5 w10 pa _ _ _ asked (HA9.out.kept0 F10.out) (HA.out.kept0 (F9.out.trans F10.out (fun _ _ h => h))) (by omega) (by omega)).mono ?_
          rintro e w11 ⟨⟨ba, rfl, hba⟩, f11⟩
          have BA := Lib.hid hba; have F11 := Lib.hid (F10.out.trans f11 (fun _ _ h => h)); clear f11 hba
          cases ba with
          | true =>
            have hbb : bc = true := BC.out.2 (by obtain ⟨x, hx, h⟩ := BA.out.1 rfl; exact ⟨x, hx, .inr h⟩)
            subst hbb
            go_wp2
            go_ret
            exact ⟨rfl, F9.out.trans F11.out (fun _ _ h => h)⟩
          | false =>
            go_wp2_with fail
            refine (lone_meets w6 w11 pb _ _ _ asked (HB9.out.kept0 F11.out) (HA.out.kept0 (F9.out.trans F11.out (fun _ _ h => h))) (by omega) (by omega)).mono ?_
            rintro e w12 ⟨⟨bb, rfl, hbb⟩, f12⟩
            have hbc : bc = (false || bb) := bool_or BA.out hbb BC.out ⟨fun ⟨x, hx, h⟩ => h.elim (fun h => .inr ⟨x, hx, .inr h⟩) (fun h => .inl ⟨x, hx, h⟩), fun h => h.elim (fun ⟨x, hx, h⟩ => ⟨x, hx, .inr h⟩) (fun ⟨x, hx, h⟩ => h.elim (fun ⟨y, hy, _⟩ => by cases hy) (fun h => ⟨x, hx, .inl h⟩))⟩
            rw [Bool.false_or] at hbc
            subst hbc
            have F12 := Lib.hid f12; clear f12 hbb
            cases bc <;>
            · go_wp2
              go_ret
              exact ⟨rfl, (F9.out.trans F11.out (fun _ _ h => h)).trans F12.out (fun _ _ h => h)⟩

set_option maxRecDepth 100000 in
set_option maxHeartbeats 4000000 in
/-- Whatever comes in. -/
theorem grows_any (w : World) (X Y Z V : Value) (ks : List Kv) (l more : List SpV) (asked : List Kv) (hk : Keys w X ks) (hn : ks.length ≤ reachBytes) (hl : SpIn w Y l) (hm : SpIn w Z more) (ha : Keys w V asked) (hna : asked.length ≤ reachBytes) :
    Calls Try.prog 11 #[X, Y, Z, V] w fun e w' => e = .returned (.bool true) ∧ Fr no w w' := by
  cases o1 : over17 ks.length (ks.map fun k => k.b.length) with
  | true =>
    have O1 := Lib.hid o1; clear o1
    go_enter Try.func11, Try.ntmps11
    have F0 := Lib.hid (Fr.refl no w)
    go_wp2_with fail
    refine (many_any w X ks (hk.kept0 (F0.out)) hn).mono ?_
    rintro e w1 ⟨rfl, f⟩
    rw [O1.out]
    have F1 := Lib.hid (F0.out.trans f (fun _ _ h => h)); clear f
    go_wp2_with fail
    refine (known17 w1).mono ?_
    rintro e w9 ⟨rfl, f⟩
    have F9 := Lib.hid (F1.out.trans f (fun _ _ h => h)); clear f
    go_wp2
    go_ret
    exact ⟨rfl, F9.out⟩
  | false =>
    cases o2 : over17 l.length (l.map fun k => k.f.length + k.t.length) with
    | true =>
      have O1 := Lib.hid o1; clear o1
      have O2 := Lib.hid o2; clear o2
      go_enter Try.func11, Try.ntmps11
      have F0 := Lib.hid (Fr.refl no w)
      go_wp2_with fail
      refine (many_any w X ks (hk.kept0 (F0.out)) hn).mono ?_
      rintro e w1 ⟨rfl, f⟩
      rw [O1.out]
      have F1 := Lib.hid (F0.out.trans f (fun _ _ h => h)); clear f
      go_wp2_with fail
      refine (much_any w1 Y l (hl.kept0 (F1.out))).mono ?_
      rintro e w2 ⟨rfl, f⟩
      rw [O2.out]
      have F2 := Lib.hid (F1.out.trans f (fun _ _ h => h)); clear f
      go_wp2_with fail
      refine (known17 w2).mono ?_
      rintro e w9 ⟨rfl, f⟩
      have F9 := Lib.hid (F2.out.trans f (fun _ _ h => h)); clear f
      go_wp2
      go_ret
      exact ⟨rfl, F9.out⟩
    | false =>
      cases o3 : over17 more.length (more.map fun k => k.f.length + k.t.length) with
      | true =>
        have O1 := Lib.hid o1; clear o1
        have O2 := Lib.hid o2; clear o2
        have O3 := Lib.hid o3; clear o3
        go_enter Try.func11, Try.ntmps11
        have F0 := Lib.hid (Fr.refl no w)
        go_wp2_with fail
        refine (many_any w X ks (hk.kept0 (F0.out)) hn).mono ?_
        rintro e w1 ⟨rfl, f⟩
        rw [O1.out]
        have F1 := Lib.hid (F0.out.trans f (fun _ _ h => h)); clear f
        go_wp2_with fail
        refine (much_any w1 Y l (hl.kept0 (F1.out))).mono ?_
        rintro e w2 ⟨rfl, f⟩
        rw [O2.out]
        have F2 := Lib.hid (F1.out.trans f (fun _ _ h => h)); clear f
        go_wp2_with fail
        refine (much_any w2 Z more (hm.kept0 (F2.out))).mono ?_
        rintro e w3 ⟨rfl, f⟩
        rw [O3.out]
        have F3 := Lib.hid (F2.out.trans f (fun _ _ h => h)); clear f
        go_wp2_with fail
        refine (known17 w3).mono ?_
        rintro e w9 ⟨rfl, f⟩
        have F9 := Lib.hid (F3.out.trans f (fun _ _ h => h)); clear f
        go_wp2
        go_ret
        exact ⟨rfl, F9.out⟩
      | false =>
        cases o4 : over17 asked.length (asked.map fun k => k.b.length) with
        | true =>
          have O1 := Lib.hid o1; clear o1
          have O2 := Lib.hid o2; clear o2
          have O3 := Lib.hid o3; clear o3
          have O4 := Lib.hid o4; clear o4
          go_enter Try.func11, Try.ntmps11
          have F0 := Lib.hid (Fr.refl no w)
          go_wp2_with fail
          refine (many_any w X ks (hk.kept0 (F0.out)) hn).mono ?_
          rintro e w1 ⟨rfl, f⟩
          rw [O1.out]
          have F1 := Lib.hid (F0.out.trans f (fun _ _ h => h)); clear f
          go_wp2_with fail
          refine (much_any w1 Y l (hl.kept0 (F1.out))).mono ?_
          rintro e w2 ⟨rfl, f⟩
          rw [O2.out]
          have F2 := Lib.hid (F1.out.trans f (fun _ _ h => h)); clear f
          go_wp2_with fail
          refine (much_any w2 Z more (hm.kept0 (F2.out))).mono ?_
          rintro e w3 ⟨rfl, f⟩
          rw [O3.out]
          have F3 := Lib.hid (F2.out.trans f (fun _ _ h => h)); clear f
          go_wp2_with fail
          refine (many_any w3 V asked (ha.kept0 (F3.out)) hna).mono ?_
          rintro e w4 ⟨rfl, f⟩
          rw [O4.out]
          have F4 := Lib.hid (F3.out.trans f (fun _ _ h => h)); clear f
          go_wp2_with fail
          refine (known17 w4).mono ?_
          rintro e w9 ⟨rfl, f⟩
          have F9 := Lib.hid (F4.out.trans f (fun _ _ h => h)); clear f
          go_wp2
          go_ret
          exact ⟨rfl, F9.out⟩
        | false =>
          exact grows_walk w X Y Z V ks l more asked hk hn hl hm ha hna o1 o2 o3 o4
end Go.Proofs.Ytdnohhlgaaihmaa

/- law17: spans in order, as they are told; and reading within a drawn region. -/
namespace Go.Proofs.Ytdnohhlgaaihmaa
open Go.RowKit

theorem wpX_lv {P : Program} {ops : Array Oper} {Q : Exit → Act → World → Prop} {I : World → Prop} {kds : Nat → Kd} {i : Nat} {rest : List Nat} {a : Act} {w : World} {o : Oper} (v : Value) (hi : ops[i]? = some o) (hg : Region.wanted o (yielded ops a.tmps) = true) (hk : kds i = .l)
    (hv : ∀ e, (execOp a.eval o).run P (w.ext e) = .ok (.value v) (w.ext e))
    (h : wpX P ops Q I kds rest (a.put o.dst v) w) : wpX P ops Q I kds (i :: rest) a w := by
  refine wpX_step hi hg fun K hK => ?_
  rw [hk]
  refine ⟨v, fun e => ?_, hK _ _ h⟩
  unfold Oper.val
  rw [hv e]
  exact ⟨rfl, rfl⟩

/-- string(b). -/
theorem str_ext {P : Program} {w : World} {src dst e : TypeId} (hs : P.underlying src = some (.slice e)) (he : P.underlying e = some (.int .u8)) (hd : P.underlying dst = some .string) {v : Value} {n : Nat} {l : List UInt8}
    (hv : Sl w 1 v n (bvs l)) (x : Array Obj × Nat) : (convert src dst v).run P (w.ext x) = .ok (.string ⟨l.toArray⟩) (w.ext x) := run_str _ hs he hd (hv.kept0 (Fr.of_ext w x))

namespace SpV
theorem norm_pr : ∀ {os l : List SpV}, os.map pr = l.map pr → Norm l → Norm os
  | [], [], _, _ => trivial
  | [], _ :: _, h, _ => by simp at h
  | _ :: _, [], h, _ => by simp at h
  | x :: xs, y :: ys, h, hn => by
    simp only [List.map_cons, List.cons.injEq] at h
    obtain ⟨h1, h2⟩ := h
    obtain ⟨a, b, c⟩ := hn
    have e := h1
    simp only [pr, Prod.mk.injEq] at e
    refine ⟨⟨fun h => by rw [e.2.1]; exact a.open_ (by rw [← e.2.2]; exact h), fun h => by rw [e.1, e.2.1]; exact a.some_ (by rw [← e.2.2]; exact h)⟩, fun z hz => ?_, norm_pr h2 c⟩
    have : z.pr ∈ ys.map pr := h2 ▸ List.mem_map_of_mem hz
    obtain ⟨z', hz', e'⟩ := List.mem_map.1 this
    simp only [pr, Prod.mk.injEq] at e'
    obtain ⟨p1, p2⟩ := b z' hz'
    exact ⟨by rw [e.2.2]; exact p1, by rw [e.2.1, ← e'.1]; exact p2⟩
theorem mem_of_pr {os l : List SpV} (h : os.map pr = l.map pr) (k : List UInt8) (hm : Mem os k) : Mem l k := by
  obtain ⟨z, hz, h1⟩ := hm
  have : z.pr ∈ l.map pr := h ▸ List.mem_map_of_mem hz
  obtain ⟨z', hz', e'⟩ := List.mem_map.1 this
  exact ⟨z', hz', (mem_pr e' k).2 h1⟩
theorem Norm.next : ∀ {l : List SpV}, Norm l → ∀ i (h : i + 1 < l.length), l[i].o = false ∧ lt l[i].t l[i + 1].f
  | [], _, i, h => by simp at h
  | y :: ys, hn, 0, h => by
    obtain ⟨_, b, _⟩ := hn
    exact b _ (List.getElem_mem _)
  | y :: ys, hn, i + 1, h => by
    obtain ⟨_, _, c⟩ := hn
    exact Norm.next c i (by simpa using h)
theorem Norm.stop_at : ∀ {l : List SpV}, Norm l → ∀ i (h : i < l.length), l[i].o = false → ¬ Mem l l[i].t
  | [], _, i, h, _ => by simp at h
  | y :: ys, hn, 0, h, ho => hn.stop ho
  | y :: ys, hn, i + 1, h, ho => by
    have hn' := hn
    obtain ⟨a, b, c⟩ := hn
    have hi : i < ys.length := by simpa using h
    have ho' : ys[i].o = false := ho
    show ¬ Mem (y :: ys) ys[i].t
    rw [Mem.cons]
    rintro (⟨_, h2⟩ | h2)
    · obtain ⟨p1, p2⟩ := b ys[i] (List.getElem_mem _)
      rcases h2 with h2 | h2
      · rw [p1] at h2; cases h2
      · exact lt_irrefl (lt_trans (lt_trans h2 p2) ((c.ok _ (List.getElem_mem hi)).some_ ho'))
    · exact Norm.stop_at c i hi ho' h2
theorem take_one (l : List SpV) (m : Nat) (hm : m < l.length) (k : List UInt8) : Mem (l.take (m + 1)) k ↔ Mem (l.take m) k ∨ l[m].mem k := (take_mem l m hm k).symm.trans Or.comm
end SpV
end Go.Proofs.Ytdnohhlgaaihmaa
