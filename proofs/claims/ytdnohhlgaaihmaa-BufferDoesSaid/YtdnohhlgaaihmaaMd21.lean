import Derived.Test.YtdnohhlgaaihmaaMd20

/- What is seen through a buffer, step by step, is what lies below as it is changed. Plain. -/
namespace Go.Proofs.Ytdnohhlgaaihmaa
open Go.RowKit

/-- An order of keys, rising or falling. -/
structure KOrd (d : List UInt8 → List UInt8 → Int) : Prop where
  self : ∀ a, d a a = 0
  eq : ∀ {a b}, d a b = 0 → a = b
  swap : ∀ a b, d b a = - d a b
  trans : ∀ {a b c}, d a b ≤ 0 → d b c ≤ 0 → d a c ≤ 0 ∧ (d a b < 0 ∨ d b c < 0 → d a c < 0)
theorem kordN : KOrd cb := ⟨cb_self, cb_eq, cb_swap, cb_trans⟩
theorem kordP : KOrd (fun a b => cb b a) := ⟨cb_self, fun h => (cb_eq h).symm, fun a b => cb_swap b a, fun h1 h2 => ⟨(cb_trans h2 h1).1, fun h => (cb_trans h2 h1).2 h.symm⟩⟩

theorem find_min {α : Type} {d : List UInt8 → List UInt8 → Int} (hd : KOrd d) (g : α → List UInt8) (l : List α) (hl : l.Pairwise fun x y => d (g x) (g y) < 0) (p : α → Bool) (y : α) (hy : y ∈ l) (hp : p y = true) (hm : ∀ z ∈ l, p z = true → d (g y) (g z) ≤ 0) : l.find? p = some y := by
  induction l with
  | nil => cases hy
  | cons a l ih =>
    rw [List.pairwise_cons] at hl
    by_cases ha : p a = true
    · rw [List.find?_cons_of_pos ha]
      rcases List.mem_cons.1 hy with rfl | hy
      · rfl
      · have h1 := hl.1 y hy
        have h2 := hm a (List.mem_cons_self ..) ha
        have := hd.swap (g a) (g y)
        omega
    · rw [List.find?_cons_of_neg ha]
      rcases List.mem_cons.1 hy with rfl | hy
      · exact absurd hp ha
      · exact ih hl.2 hy (fun z hz => hm z (List.mem_cons_of_mem _ hz))
theorem find_is_min {α : Type} {d : List UInt8 → List UInt8 → Int} (hd : KOrd d) (g : α → List UInt8) (l : List α) (hl : l.Pairwise fun x y => d (g x) (g y) < 0) (p : α → Bool) (y : α) (h : l.find? p = some y) : ∀ z ∈ l, p z = true → d (g y) (g z) ≤ 0 := by
  induction l with
  | nil => cases h
  | cons a l ih =>
    rw [List.pairwise_cons] at hl
    intro z hz hp
    by_cases ha : p a = true
    · rw [List.find?_cons_of_pos ha] at h
      cases h
      rcases List.mem_cons.1 hz with rfl | hz
      · rw [hd.self]; omega
      · have := hl.1 z hz; omega
    · rw [List.find?_cons_of_neg ha] at h
      rcases List.mem_cons.1 hz with rfl | hz
      · exact absurd hp ha
      · exact ih hl.2 h z hz hp

theorem thr_spec {d : List UInt8 → List UInt8 → Int} (hd : KOrd d) (asq : List UInt8 → List UInt8 → Bool → Bool) (h1 : ∀ k f, asq k f false = decide (d f k < 0)) (h2 : ∀ k y f i, asq y f i = true → d y k < 0 → asq k f i = true)
    (sl : List SpV) (c : Option (List UInt8 × List UInt8)) (R : List PrV) (hR : R.Pairwise fun x y => d x.k y.k < 0) (f0 : List UInt8) (i0 : Bool) :
    ∀ (N : Nat) (f : List UInt8) (i : Bool), (∀ y ∈ R, saidK sl y.k = false → asq y.k f0 i0 = true → asq y.k f i = true) → (∀ k, asq k f i = true → asq k f0 i0 = true) →
      ∀ r, (thr sl c (fun x y => decide (d x y < 0)) (fun f i => (R.find? fun y => asq y.k f i).map fun z => (z.k, z.v)) N f i).2 = some r →
      (∀ kv, r = some kv → (c = some kv ∨ ∃ y ∈ R, saidK sl y.k = false ∧ asq y.k f0 i0 = true ∧ kv = (y.k, y.v)) ∧ (∀ y ∈ R, saidK sl y.k = false → asq y.k f0 i0 = true → d kv.1 y.k ≤ 0) ∧ ∀ ck, c = some ck → d kv.1 ck.1 ≤ 0) ∧
      (r = none → c = none ∧ ∀ y ∈ R, saidK sl y.k = false → asq y.k f0 i0 = false)
  | 0, f, i, _, _, r, h => by cases h
  | N + 1, f, i, hA, hB, r, h => by
    rcases ha : R.find? (fun y => asq y.k f i) with _ | y
    · have hn : ∀ y ∈ R, saidK sl y.k = false → asq y.k f0 i0 = false := fun y hy hs => by
        cases hq : asq y.k f0 i0
        · rfl
        · have := hA y hy hs hq
          have := List.find?_eq_none.1 ha y hy
          simp_all
      rw [show (thr sl c (fun x y => decide (d x y < 0)) (fun f i => (R.find? fun y => asq y.k f i).map fun z => (z.k, z.v)) (N + 1) f i).2 = some c by simp [thr, ha]] at h
      obtain rfl : c = r := Option.some.inj h
      exact ⟨fun kv hk => ⟨.inl hk, fun y hy hs hq => (by rw [hn y hy hs] at hq; cases hq), fun ck hc => (by rw [hk] at hc; cases hc; rw [hd.self]; omega)⟩, fun hc => ⟨hc, hn⟩⟩
    · have hym := List.mem_of_find?_eq_some ha
      have hyp : asq y.k f i = true := by have := List.find?_some ha; simpa using this
      have hmin := find_is_min hd PrV.k R hR _ y ha
      rw [thr_succ sl c _ _ N f i (kv := (y.k, y.v)) (by simp [ha])] at h
      by_cases hc : c.elim false (fun ck => !decide (d y.k ck.1 < 0)) = true
      · rw [if_pos hc] at h
        obtain rfl : c = r := Option.some.inj h
        rcases hcc : c with _ | ck
        · rw [hcc] at hc; cases hc
        · rw [hcc] at hc
          have hc : ¬ d y.k ck.1 < 0 := by simpa using hc
          refine ⟨fun kv hk => ?_, fun h => by cases h⟩
          cases hk
          refine ⟨.inl rfl, fun z hz hs hq => ?_, fun _ h => (by cases h; rw [hd.self]; omega)⟩
          have h3 := hmin z hz (hA z hz hs hq)
          have h4 := hd.swap y.k ck.1
          exact (hd.trans (b := y.k) (by omega) h3).1
      · rw [if_neg hc] at h
        by_cases hs : saidK sl y.k = true
        · rw [if_pos hs] at h
          refine thr_spec hd asq h1 h2 sl c R hR f0 i0 N y.k false (fun z hz hzs hq => ?_) (fun k hk => ?_) r h
          · have h3 := hmin z hz (hA z hz hzs hq)
            rw [h1]
            have : d y.k z.k ≠ 0 := fun e => by rw [hd.eq e, hzs] at hs; cases hs
            exact decide_eq_true (by omega)
          · rw [h1] at hk
            have hk := of_decide_eq_true hk
            exact h2 k y.k f0 i0 (hB _ hyp) hk
        · rw [if_neg hs] at h
          obtain rfl : some (y.k, y.v) = r := Option.some.inj h
          refine ⟨fun kv hk => ?_, fun h => by cases h⟩
          cases hk
          refine ⟨.inr ⟨y, hym, by simpa using hs, hB _ hyp, rfl⟩, fun z hz hzs hq => hmin z hz (hA z hz hzs hq), fun ck hck => ?_⟩
          rw [hck] at hc
          have : d y.k ck.1 < 0 := by simpa using hc
          show d y.k ck.1 ≤ 0
          omega

/-- What is seen, from the walk and from what is laid out. -/
theorem see_spec {d : List UInt8 → List UInt8 → Int} (hd : KOrd d) (asq : List UInt8 → List UInt8 → Bool → Bool) (h1 : ∀ k f, asq k f false = decide (d f k < 0)) (h2 : ∀ k y f i, asq y f i = true → d y k < 0 → asq k f i = true)
    (sl sl' : List SpV) (R S : List PrV) (hsl : sl'.Pairwise fun x y => d x.f y.f < 0) (hR : R.Pairwise fun x y => d x.k y.k < 0) (hS : S.Pairwise fun x y => d x.k y.k < 0)
    (hm : ∀ kv : List UInt8 × List UInt8, (∃ y ∈ S, y.kv = kv) ↔ (∃ y ∈ R, saidK sl y.k = false ∧ y.kv = kv) ∨ ∃ x ∈ sl', x.o = false ∧ (x.f, x.t) = kv) (N : Nat) (f : List UInt8) (i : Bool) (r)
    (h : (thr sl ((sl'.find? fun y => asq y.f f i && !y.o).map fun y => (y.f, y.t)) (fun x y => decide (d x y < 0)) (fun f i => (R.find? fun y => asq y.k f i).map fun z => (z.k, z.v)) N f i).2 = some r) :
    r = (S.find? fun y => asq y.k f i).map PrV.kv := by
  obtain ⟨s1, s2⟩ := thr_spec hd asq h1 h2 sl _ R hR f i N f i (fun _ _ _ h => h) (fun _ h => h) r h
  have hput : ∀ x ∈ sl', x.o = false → asq x.f f i = true → ∃ c, (sl'.find? fun y => asq y.f f i && !y.o) = some c ∧ d c.f x.f ≤ 0 := fun x hx ho hq => by
    rcases hc : sl'.find? (fun y => asq y.f f i && !y.o) with _ | c
    · have := List.find?_eq_none.1 hc x hx; simp_all
    · exact ⟨c, hc, find_is_min hd SpV.f sl' hsl _ c hc x hx (by simp [ho, hq])⟩
  rcases r with _ | kv
  · obtain ⟨hc, hn⟩ := s2 rfl
    have : (S.find? fun y => asq y.k f i) = none := by
      rw [List.find?_eq_none]
      intro z hz hq
      rcases (hm z.kv).1 ⟨z, hz, rfl⟩ with ⟨y, hy, hs, e⟩ | ⟨x, hx, ho, e⟩
      · have e1 : y.k = z.k := congrArg Prod.fst e
        have := hn y hy hs
        rw [e1] at this; rw [this] at hq; cases hq
      · have e1 : x.f = z.k := congrArg Prod.fst e
        obtain ⟨c, hc2, _⟩ := hput x hx ho (by rw [e1]; simpa using hq)
        rw [hc2] at hc; cases hc
    rw [this]; rfl
  · obtain ⟨s3, s4, s5⟩ := s1 kv rfl
    have hex : ∃ y ∈ S, y.kv = kv ∧ asq y.k f i = true := by
      rcases s3 with hc | ⟨y, hy, hs, hq, rfl⟩
      · obtain ⟨c, hc1, rfl⟩ := Option.map_eq_some_iff.1 hc
        have hcm := List.mem_of_find?_eq_some hc1
        have hcp := List.find?_some hc1
        simp only [Bool.and_eq_true, Bool.not_eq_true'] at hcp
        obtain ⟨z, hz, e⟩ := (hm (c.f, c.t)).2 (.inr ⟨c, hcm, hcp.2, rfl⟩)
        exact ⟨z, hz, e, by rw [show z.k = c.f from congrArg Prod.fst e]; exact hcp.1⟩
      · obtain ⟨z, hz, e⟩ := (hm y.kv).2 (.inl ⟨y, hy, hs, rfl⟩)
        exact ⟨z, hz, e, by rw [show z.k = y.k from congrArg Prod.fst e]; exact hq⟩
    obtain ⟨y, hy, e, hq⟩ := hex
    rw [find_min hd PrV.k S hS _ y hy hq (fun z hz hzq => ?_), ← e]
    · rfl
    · have e1 : y.k = kv.1 := congrArg Prod.fst e
      rw [e1]
      rcases (hm z.kv).1 ⟨z, hz, rfl⟩ with ⟨u, hu, hs, e2⟩ | ⟨x, hx, ho, e2⟩
      · have e3 : u.k = z.k := congrArg Prod.fst e2
        have := s4 u hu hs (by rw [e3]; exact hzq)
        rwa [e3] at this
      · have e3 : x.f = z.k := congrArg Prod.fst e2
        obtain ⟨c, hc2, hcd⟩ := hput x hx ho (by rw [e3]; exact hzq)
        have := s5 _ (by rw [hc2]; rfl)
        rw [← e3]
        exact (hd.trans this hcd).1

def RisP (l : List PrV) : Prop := l.Pairwise fun x y => lt x.k y.k

theorem said_iff {l : List SpV} (h : Ris l) (k : List UInt8) : saidK l k = false ↔ ∀ x ∈ l, x.f ≠ k := by
  constructor
  · intro hs x hx e
    subst e
    obtain ⟨i, hi, rfl⟩ := List.getElem_of_mem hx
    have hp : posK l l[i].f = i := posK_of (by omega) (fun m h1 h2 => by have := List.pairwise_iff_getElem.1 h m i h1 hi h2; exact this) (fun _ => by rw [cb_self]; omega)
    unfold saidK at hs
    rw [hp, List.getElem?_eq_getElem hi] at hs
    simp [cb_self] at hs
  · intro hn
    cases hs : saidK l k
    · rfl
    · obtain ⟨h1, h2⟩ := said_at hs
      exact (hn _ (List.getElem_mem h1) h2).elim

theorem seenL_spec : ∀ (c : List SpV) (l : List PrV), Ris c → RisP l → RisP (seenL c l) ∧ ∀ y, y ∈ seenL c l ↔ (y ∈ l ∧ ∀ x ∈ c, x.f ≠ y.k) ∨ ∃ x ∈ c, x.o = false ∧ y = PrV.of x
  | [], l, _, hl => ⟨by simpa [seenL] using hl, fun y => by simp [seenL]⟩
  | x :: c, l, hc, hl => by
    unfold Ris at hc
    rw [List.pairwise_cons] at hc
    obtain ⟨hx, hc⟩ := hc
    obtain ⟨l1, hl1⟩ : ∃ l1, l.takeWhile (fun y => decide (cb y.k x.f < 0)) = l1 := ⟨_, rfl⟩
    obtain ⟨l2, hl2⟩ : ∃ l2, l.dropWhile (fun y => decide (cb y.k x.f < 0)) = l2 := ⟨_, rfl⟩
    have e12 : l = l1 ++ l2 := by rw [← hl1, ← hl2, List.takeWhile_append_dropWhile]
    have q1 : ∀ y ∈ l1, lt y.k x.f := fun y hy => by
      rw [← hl1] at hy
      have := List.all_eq_true.1 (List.all_takeWhile (p := fun y : PrV => decide (cb y.k x.f < 0)) (l := l)) y hy
      simpa [lt] using this
    have q2 : RisP l1 ∧ RisP l2 := by
      unfold RisP at hl
      rw [e12, List.pairwise_append] at hl
      exact ⟨hl.1, hl.2.1⟩
    have q3 : ∀ y ∈ l2, le x.f y.k := by
      rcases l2 with _ | ⟨z, l2⟩
      · intro y hy; cases hy
      · have hz : ¬ cb z.k x.f < 0 := by
          have := List.head?_dropWhile_not (fun y : PrV => decide (cb y.k x.f < 0)) l
          rw [hl2] at this
          simpa using this
        have hz : le x.f z.k := not_lt hz
        intro y hy
        rcases List.mem_cons.1 hy with rfl | hy
        · exact hz
        · have := (List.pairwise_cons.1 q2.2).1 y hy
          exact le_trans hz (lt_le this)
    have q4 : RisP (dropEq x.f l2) ∧ (∀ y ∈ dropEq x.f l2, lt x.f y.k) ∧ ∀ y ∈ l2, y.k ≠ x.f → y ∈ dropEq x.f l2 := by
      rcases l2 with _ | ⟨z, l2⟩
      · exact ⟨List.Pairwise.nil, (fun _ h => by cases h), (fun _ h => by cases h)⟩
      · have hp := List.pairwise_cons.1 q2.2
        rw [show dropEq x.f (z :: l2) = if z.k = x.f then l2 else z :: l2 from rfl]
        split
        · rename_i hz
          exact ⟨hp.2, fun y hy => by rw [← hz]; exact hp.1 y hy, fun y hy hne => by
            rcases List.mem_cons.1 hy with rfl | hy
            · exact absurd hz hne
            · exact hy⟩
        · rename_i hz
          have hlt : lt x.f z.k := by
            have := q3 z (List.mem_cons_self ..)
            by_cases h : lt x.f z.k
            · exact h
            · exact absurd (le_antisymm (not_lt h) this) hz
          exact ⟨q2.2, fun y hy => by
            rcases List.mem_cons.1 hy with rfl | hy
            · exact hlt
            · exact lt_trans hlt (hp.1 y hy), fun y hy _ => hy⟩
    obtain ⟨i1, i2⟩ := seenL_spec c (dropEq x.f l2) hc q4.1
    have q5 : ∀ y ∈ seenL c (dropEq x.f l2), lt x.f y.k := fun y hy => by
      rcases (i2 y).1 hy with ⟨h, _⟩ | ⟨z, hz, _, rfl⟩
      · exact q4.2.1 y h
      · exact hx z hz
    have q6 : ∀ y ∈ putL x, y = PrV.of x ∧ x.o = false := fun y hy => by
      unfold putL at hy
      split at hy
      · cases hy
      · rename_i ho; exact ⟨List.mem_singleton.1 hy, by simpa using ho⟩
    have q7 : RisP (putL x) := by
      unfold putL RisP
      split <;> simp
    have es : seenL (x :: c) l = l1 ++ (putL x ++ seenL c (dropEq x.f l2)) := by rw [← hl1, ← hl2]; rfl
    rw [es]
    refine ⟨?_, fun y => ?_⟩
    · unfold RisP
      rw [List.pairwise_append, List.pairwise_append]
      refine ⟨q2.1, ⟨q7, i1, fun a ha b hb => ?_⟩, fun a ha b hb => ?_⟩
      · obtain ⟨rfl, _⟩ := q6 a ha
        exact q5 b hb
      · rcases List.mem_append.1 hb with hb | hb
        · obtain ⟨rfl, _⟩ := q6 b hb
          exact q1 a ha
        · exact lt_trans (q1 a ha) (q5 b hb)
    · rw [List.mem_append, List.mem_append, i2 y]
      constructor
      · rintro (h | h | ⟨h, h3⟩ | ⟨z, hz, ho, rfl⟩)
        · refine .inl ⟨by rw [e12]; exact List.mem_append_left _ h, fun z hz e => ?_⟩
          have h1 := q1 y h
          rcases List.mem_cons.1 hz with rfl | hz
          · rw [e] at h1; exact lt_irrefl h1
          · have := lt_trans h1 (hx z hz); rw [e] at this; exact lt_irrefl this
        · obtain ⟨rfl, ho⟩ := q6 y h
          exact .inr ⟨x, List.mem_cons_self .., ho, rfl⟩
        · refine .inl ⟨by rw [e12]; exact List.mem_append_right _ (dropEq_sub _ _ h), fun z hz e => ?_⟩
          rcases List.mem_cons.1 hz with rfl | hz
          · have := q4.2.1 y h; rw [e] at this; exact lt_irrefl this
          · exact h3 z hz e
        · exact .inr ⟨z, List.mem_cons_of_mem _ hz, ho, rfl⟩
      · rintro (⟨h, h3⟩ | ⟨z, hz, ho, rfl⟩)
        · rw [e12] at h
          rcases List.mem_append.1 h with h | h
          · exact .inl h
          · exact .inr (.inr (.inl ⟨q4.2.2 y h (fun e => h3 x (List.mem_cons_self ..) e.symm), fun z hz => h3 z (List.mem_cons_of_mem _ hz)⟩))
        · rcases List.mem_cons.1 hz with rfl | hz
          · exact .inr (.inl (by unfold putL; rw [ho]; simp))
          · exact .inr (.inr (.inr ⟨z, hz, ho, rfl⟩))

theorem abv_up (k y f : List UInt8) (i : Bool) (h : abv y f i = true) (hk : cb y k < 0) : abv k f i = true := by
  unfold abv at *
  have h1 := cb_swap k y; have h2 := cb_swap y f; have h3 := cb_swap k f
  simp only [Bool.or_eq_true, Bool.and_eq_true, decide_eq_true_eq] at *
  rcases h with h | ⟨_, rfl⟩
  · have := (cb_trans (a := f) (b := y) (c := k) (by omega) (by omega)).2 (.inl (by omega))
    exact .inl (by omega)
  · exact .inl (by omega)
theorem bel_up (k y f : List UInt8) (i : Bool) (h : bel y f i = true) (hk : cb k y < 0) : bel k f i = true := by
  unfold bel at *
  simp only [Bool.or_eq_true, Bool.and_eq_true, decide_eq_true_eq] at *
  rcases h with h | ⟨hi, rfl | rfl⟩
  · have := (cb_trans (a := k) (b := y) (c := f) (by omega) (by omega)).2 (.inl (by omega))
    exact .inl (by omega)
  · exact .inr ⟨hi, .inl rfl⟩
  · exact .inl (by omega)

theorem find_drop_false {α : Type} (p : α → Bool) : ∀ (l : List α) (n : Nat), (∀ j (h : j < l.length), j < n → p l[j] = false) → (l.drop n).find? p = l.find? p
  | [], n, _ => by simp
  | a :: l, 0, _ => rfl
  | a :: l, n + 1, h => by
    have h0 := h 0 (by simp) (by omega)
    rw [List.drop_succ_cons, find_drop_false p l n (fun j hj hn => by have := h (j + 1) (by simpa using hj) (by omega); simpa using this), List.find?_cons_of_neg (by simpa using h0)]
theorem find_congr_mem {α : Type} (p q : α → Bool) : ∀ (l : List α), (∀ y ∈ l, p y = q y) → l.find? p = l.find? q
  | [], _ => rfl
  | a :: l, h => by
    have h0 := h a (List.mem_cons_self ..)
    have ih := find_congr_mem p q l (fun y hy => h y (List.mem_cons_of_mem _ hy))
    rw [List.find?_cons, List.find?_cons, h0, ih]

theorem nextI_iff {l : List SpV} (h : Ris l) (f : List UInt8) (i : Bool) (j : Nat) (hj : j < l.length) : nextI l f i ≤ j ↔ abv l[j].f f i = true := by
  have hsw := cb_swap l[j].f f
  have a1 : posK l f ≤ j ↔ ¬ cb l[j].f f < 0 := by
    constructor
    · intro hp hc
      have hlt : posK l f < l.length := by omega
      exact posK_ge hlt (below_mono h hlt hj hp hc)
    · intro hc
      rcases Nat.lt_or_ge j (posK l f) with h1 | h1
      · exact absurd (posK_lt j hj h1) hc
      · exact h1
  have a2 : saidK l f = true → (j = posK l f ↔ l[j].f = f) := fun hs => by
    obtain ⟨h1, h2⟩ := said_at hs
    constructor
    · rintro rfl; exact h2
    · intro e
      rcases Nat.lt_trichotomy j (posK l f) with h3 | h3 | h3
      · have := posK_lt j hj h3; rw [e, cb_self] at this; omega
      · exact h3
      · have := List.pairwise_iff_getElem.1 h _ _ h1 hj h3
        rw [h2, e] at this; exact (lt_irrefl this).elim
  unfold nextI abv
  simp only [Bool.or_eq_true, Bool.and_eq_true, decide_eq_true_eq, Bool.not_eq_true']
  by_cases hs : saidK l f = true
  · have a2 := a2 hs
    cases i
    · rw [if_pos ⟨hs, rfl⟩]
      constructor
      · intro hp
        have h1 := a1.1 (by omega)
        have : cb l[j].f f ≠ 0 := fun e => by have := a2.2 (cb_eq e); omega
        exact .inl (by omega)
      · rintro (h1 | ⟨h1, _⟩)
        · have h2 := a1.2 (by omega)
          have : j ≠ posK l f := fun e => by have := a2.1 e; rw [this, cb_self] at h1; omega
          omega
        · cases h1
    · rw [if_neg (by simp)]
      rw [a1]
      constructor
      · intro hc
        by_cases h0 : cb l[j].f f = 0
        · exact .inr ⟨rfl, cb_eq h0⟩
        · exact .inl (by omega)
      · rintro (h1 | ⟨_, h1⟩)
        · omega
        · rw [h1, cb_self]; omega
  · rw [if_neg (fun h => hs h.1), a1]
    have hne : l[j].f ≠ f := (said_iff h f).1 (by simpa using hs) _ (List.getElem_mem _)
    constructor
    · intro hc
      have : cb l[j].f f ≠ 0 := fun e => hne (cb_eq e)
      exact .inl (by omega)
    · rintro (h1 | ⟨_, h1⟩)
      · omega
      · exact absurd h1 hne

theorem prevI_iff {l : List SpV} (h : Ris l) (f : List UInt8) (i : Bool) (j : Nat) (hj : j < l.length) : (j : Int) ≤ prevI l f i ↔ bel l[j].f f i = true := by
  have a1 : j < posK l f ↔ cb l[j].f f < 0 := by
    constructor
    · exact posK_lt j hj
    · intro hc
      rcases Nat.lt_or_ge j (posK l f) with h1 | h1
      · exact h1
      · have hlt : posK l f < l.length := by omega
        exact (posK_ge hlt (below_mono h hlt hj h1 hc)).elim
  have a2 : saidK l f = true → (j = posK l f ↔ l[j].f = f) := fun hs => by
    obtain ⟨h1, h2⟩ := said_at hs
    constructor
    · rintro rfl; exact h2
    · intro e
      rcases Nat.lt_trichotomy j (posK l f) with h3 | h3 | h3
      · have := posK_lt j hj h3; rw [e, cb_self] at this; omega
      · exact h3
      · have := List.pairwise_iff_getElem.1 h _ _ h1 hj h3
        rw [h2, e] at this; exact (lt_irrefl this).elim
  unfold prevI bel
  simp only [Bool.or_eq_true, Bool.and_eq_true, decide_eq_true_eq]
  by_cases hif : i = true ∧ f = []
  · rw [if_pos hif]
    exact ⟨fun _ => .inr ⟨hif.1, .inl hif.2⟩, fun _ => by omega⟩
  · rw [if_neg hif]
    by_cases hs : saidK l f = true
    · have a2 := a2 hs
      cases i
      · rw [if_neg (by simp)]
        constructor
        · intro hp; exact .inl (a1.1 (by omega))
        · rintro (h1 | ⟨h1, _⟩)
          · have := a1.2 h1; omega
          · cases h1
      · rw [if_pos ⟨hs, rfl⟩]
        constructor
        · intro hp
          by_cases e : j = posK l f
          · exact .inr ⟨rfl, .inr (a2.1 e)⟩
          · exact .inl (a1.1 (by omega))
        · rintro (h1 | ⟨_, h1 | h1⟩)
          · have := a1.2 h1; omega
          · exact absurd ⟨rfl, h1⟩ hif
          · have := a2.2 h1; omega
    · rw [if_neg (fun h => hs h.1)]
      have hne : l[j].f ≠ f := (said_iff h f).1 (by simpa using hs) _ (List.getElem_mem _)
      constructor
      · intro hp; exact .inl (a1.1 (by omega))
      · rintro (h1 | ⟨h0, h1 | h1⟩)
        · have := a1.2 h1; omega
        · exact absurd ⟨h0, h1⟩ hif
        · exact absurd h1 hne

theorem putN_find {l : List SpV} (h : Ris l) (f : List UInt8) (i : Bool) : putN l f i = l.find? fun y => abv y.f f i && !y.o := by
  unfold putN
  rw [find_congr_mem (fun y : SpV => !y.o) (fun y => abv y.f f i && !y.o) (l.drop (nextI l f i)) (fun y hy => by
    obtain ⟨j, hj, rfl⟩ := List.getElem_of_mem hy
    rw [List.getElem_drop]
    have := (nextI_iff h f i (nextI l f i + j) (by simp at hj; omega)).1 (by omega)
    rw [this]; simp)]
  refine find_drop_false _ l _ (fun j hj hn => ?_)
  cases hq : abv l[j].f f i
  · rfl
  · have := (nextI_iff h f i j hj).2 hq; omega
theorem putP_find {l : List SpV} (h : Ris l) (f : List UInt8) (i : Bool) : putP l f i = l.reverse.find? fun y => bel y.f f i && !y.o := by
  unfold putP
  have hb := prevI_le l f i
  obtain ⟨m, hm⟩ : ∃ m : Nat, prevI l f i + 1 = m := ⟨(prevI l f i + 1).toNat, by omega⟩
  rw [hm, Int.toNat_natCast]
  have hml : m ≤ l.length := by omega
  rw [find_congr_mem (fun y : SpV => !y.o) (fun y => bel y.f f i && !y.o) (l.take m).reverse (fun y hy => by
    obtain ⟨j, hj, rfl⟩ := List.getElem_of_mem (List.mem_reverse.1 hy)
    rw [List.getElem_take]
    have hj : j < m := by simp at hj; omega
    have := (prevI_iff h f i j (by omega)).1 (by omega)
    rw [this]; simp)]
  have e : (l.take m).reverse = l.reverse.drop (l.length - m) := by
    rw [List.drop_reverse]
    congr 2
    omega
  rw [e]
  refine find_drop_false _ l.reverse _ (fun j hj hn => ?_)
  rw [List.getElem_reverse]
  simp only [List.length_reverse] at hj
  cases hq : bel l[l.length - 1 - j].f f i
  · rfl
  · have := (prevI_iff h f i _ (by omega)).2 hq; omega

/-- What is seen is what lies below as it is changed. -/
theorem seeN_find {sl : List SpV} {R : List PrV} (h : Ris sl) (hR : RisP R) (N : Nat) (hN : R.length + 2 ≤ N) (f : List UInt8) (i : Bool) :
    (seeN sl R N f i).2 = some (((seenL sl R).find? fun y => abv y.k f i).map PrV.kv) := by
  obtain ⟨hS, hmem⟩ := seenL_spec sl R h hR
  rcases hr : (seeN sl R N f i).2 with _ | r
  · exact (seeN_some sl R N hN f i hr).elim
  congr 1
  unfold seeN at hr
  rw [putN_find h] at hr
  refine see_spec kordN abv (fun k f => by unfold abv; have := cb_swap f k; simp; omega) (fun k y f i h1 h2 => abv_up k y f i h1 h2) sl sl R (seenL sl R) h hR hS (fun kv => ?_) N f i r hr
  constructor
  · rintro ⟨y, hy, rfl⟩
    rcases (hmem y).1 hy with ⟨h1, h2⟩ | ⟨x, hx, ho, rfl⟩
    · exact .inl ⟨y, h1, (said_iff h _).2 h2, rfl⟩
    · exact .inr ⟨x, hx, ho, rfl⟩
  · rintro (⟨y, hy, hs, rfl⟩ | ⟨x, hx, ho, rfl⟩)
    · exact ⟨y, (hmem y).2 (.inl ⟨hy, (said_iff h _).1 hs⟩), rfl⟩
    · exact ⟨_, (hmem _).2 (.inr ⟨x, hx, ho, rfl⟩), rfl⟩
theorem seeP_find {sl : List SpV} {R : List PrV} (h : Ris sl) (hR : RisP R) (N : Nat) (hN : R.length + 2 ≤ N) (f : List UInt8) (i : Bool) :
    (seeP sl R N f i).2 = some (((seenL sl R).reverse.find? fun y => bel y.k f i).map PrV.kv) := by
  obtain ⟨hS, hmem⟩ := seenL_spec sl R h hR
  rcases hr : (seeP sl R N f i).2 with _ | r
  · exact (seeP_some sl R N hN f i hr).elim
  congr 1
  unfold seeP at hr
  rw [putP_find h] at hr
  have e1 : (fun x y : List UInt8 => decide (0 < cb x y)) = fun x y => decide (cb y x < 0) := by
    funext x y; have := cb_swap x y; simp; omega
  rw [e1] at hr
  have hr2 : (thr sl ((sl.reverse.find? fun y => bel y.f f i && !y.o).map fun y => (y.f, y.t)) (fun x y => decide (cb y x < 0)) (fun f i => (R.reverse.find? fun y => bel y.k f i).map fun z => (z.k, z.v)) N f i).2 = some r := hr
  refine see_spec kordP bel (fun k f => by unfold bel; simp) (fun k y f i h1 h2 => bel_up k y f i h1 h2) sl sl.reverse R.reverse (seenL sl R).reverse (List.pairwise_reverse.2 h) (List.pairwise_reverse.2 hR) (List.pairwise_reverse.2 hS) (fun kv => ?_) N f i r hr2
  simp only [List.mem_reverse]
  constructor
  · rintro ⟨y, hy, rfl⟩
    rcases (hmem y).1 hy with ⟨h1, h2⟩ | ⟨x, hx, ho, rfl⟩
    · exact .inl ⟨y, h1, (said_iff h _).2 h2, rfl⟩
    · exact .inr ⟨x, hx, ho, rfl⟩
  · rintro (⟨y, hy, hs, rfl⟩ | ⟨x, hx, ho, rfl⟩)
    · exact ⟨y, (hmem y).2 (.inl ⟨hy, (said_iff h _).1 hs⟩), rfl⟩
    · exact ⟨_, (hmem _).2 (.inr ⟨x, hx, ho, rfl⟩), rfl⟩
theorem rise_risP (L : List SpV) : RisP (riseL L) := (seenL_spec (chgL L) [] (ris_chg L) List.Pairwise.nil).1
end Go.Proofs.Ytdnohhlgaaihmaa
