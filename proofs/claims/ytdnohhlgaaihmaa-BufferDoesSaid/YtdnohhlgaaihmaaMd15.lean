import Derived.Test.YtdnohhlgaaihmaaMd14

/- package buffer: Next and Prev through a buffer. -/
namespace Go.Proofs.Ytdnohhlgaaihmaa
open Go.RowKit

/-- The first put behind a place. -/
def putN (l : List SpV) (f : List UInt8) (i : Bool) : Option SpV := (l.drop (nextI l f i)).find? fun y => !y.o
/-- The last put ahead of it. -/
def putP (l : List SpV) (f : List UInt8) (i : Bool) : Option SpV := (l.take (prevI l f i + 1).toNat).reverse.find? fun y => !y.o
/-- What is seen through a buffer. -/
def seeN (l : List SpV) (bl : List PrV) (n : Nat) (f : List UInt8) (i : Bool) := thr l ((putN l f i).map fun y => (y.f, y.t)) (fun x y => decide (cb x y < 0)) (askN bl) n f i
def seeP (l : List SpV) (bl : List PrV) (n : Nat) (f : List UInt8) (i : Bool) := thr l ((putP l f i).map fun y => (y.f, y.t)) (fun x y => decide (0 < cb x y)) (askP bl) n f i

theorem nextI_le (l : List SpV) (f : List UInt8) (i : Bool) : nextI l f i ≤ l.length := by
  unfold nextI
  have := posK_le l f
  split
  · rename_i h
    simp only [Bool.and_eq_true] at h
    obtain ⟨h1, _⟩ := said_at h.1; omega
  · exact this
theorem prevI_le (l : List SpV) (f : List UInt8) (i : Bool) : -1 ≤ prevI l f i ∧ prevI l f i + 1 ≤ l.length := by
  unfold prevI
  have := posK_le l f
  split
  · omega
  · split
    · rename_i h
      simp only [Bool.and_eq_true] at h
      obtain ⟨h1, _⟩ := said_at h.1; omega
    · omega

/-- A change that put tells, as through takes it. -/
theorem chg_form (r : Option SpV) : ∃ c : SpV, ∃ is : Bool, chgE r = .tuple #[.agg #[c.F, c.T, .bool c.o], .bool is] ∧ (r.map fun y => (y.f, y.t)) = (if is then some (c.f, c.t) else none) ∧ ((r = none ∧ c = ⟨.slice none 0 0, .slice none 0 0, [], [], false⟩) ∨ r = some c) := by
  cases r with
  | none => exact ⟨⟨.slice none 0 0, .slice none 0 0, [], [], false⟩, false, rfl, rfl, .inl ⟨rfl, rfl⟩⟩
  | some y => exact ⟨y, true, rfl, rfl, .inr rfl⟩

set_option maxRecDepth 100000 in
set_option maxHeartbeats 8000000 in
theorem bufn_any (w : World) (p : Nat) (lv uv : Value) (l : List SpV) (us : List Und) (b : Nat) (blv : Value) (bl : List PrV) (n : Nat) (F : Value) (f : List UInt8) (i : Bool) (hb : Bf w p lv l uv us) (hl : l.length ≤ 100000) (hbf : ∀ k, BfF p lv l uv us k → k ≠ b)
    (hbel : Bel w b blv bl n) (hn : n ≤ 140737488351232) (hF : Sl w 1 F f.length (bvs f)) (hFb : F.ownBlock ≠ some b) :
    Calls Try.prog 20 #[.pointer (some ⟨p, 0, none⟩), .func (.func 21) #[.pointer (some ⟨b, 0, none⟩)] #[], F, .bool i] w fun e w' =>
      ThrE w w' (seeN l bl n f i).2 e ∧ Bel w' b blv bl (seeN l bl n f i).1 ∧ Fr (fun k => k = b) w w' := by
  have HB := Lib.hid hb; have HBF := Lib.hid hbf; have HBEL := Lib.hid hbel; have HF := Lib.hid hF; have HFB := Lib.hid hFb
  clear hb hbf hbel hF hFb
  go_enter Try.func20, Try.ntmps20
  go_wp2_with fail
  have hN := heap_alloc_new w (.cells #[.slice none 0 0, .slice none 0 0] 40)
  have hf := (Fr.refl no w).alloc (.cells #[.slice none 0 0, .slice none 0 0] 40)
  generalize hg : w.heap.size = g at hN ⊢
  generalize w.alloc (.cells #[.slice none 0 0, .slice none 0 0] 40) = w1 at hN hf ⊢
  have hg2 := Nat.le_of_eq hg
  have HG := Lib.hid hg2; have HN := Lib.hid hN; have F1 := Lib.hid hf; clear hN hf hg hg2
  refine (bnexti_any w1 p lv uv F l us f i (HB.out.kept0 F1.out) (HF.out.kept0 F1.out) hl).mono ?_
  rintro e w2 ⟨rfl, f2⟩
  have F2 := Lib.hid (F1.out.trans f2 (fun _ _ h => h)); have HN := Lib.hid (f2.heap HN.out (fun h => h)); clear f2
  obtain ⟨J, hJJ⟩ : ∃ J, nextI l f i = J := ⟨_, rfl⟩
  have hJ : J ≤ l.length := hJJ ▸ nextI_le l f i
  rw [hJJ]
  have HJ := Lib.hid hJJ; clear hJJ
  go_wp2_with fail
  refine (putf_any w2 p lv uv l us J (HB.out.kept0 F2.out) hJ hl).mono ?_
  rintro e w3 ⟨rfl, f3⟩
  have F3 := Lib.hid (F2.out.trans f3 (fun _ _ h => h)); have HN := Lib.hid (f3.heap HN.out (fun h => h)); clear f3
  obtain ⟨c, is, hce, hcm, hcs⟩ := chg_form ((l.drop J).find? fun y => !y.o)
  rw [hce]
  have hcg : c.Good w3 ∧ ∀ k, BlC c k → k ≠ b := by
    rcases hcs with ⟨_, rfl⟩ | hcs
    · exact ⟨⟨⟨rfl, .inl ⟨none, rfl, rfl⟩⟩, ⟨rfl, .inl ⟨none, rfl, rfl⟩⟩, by simp, by simp⟩, fun k hk => by rcases hk with hk | hk <;> simp [Value.ownBlock] at hk⟩
    · have hm : c ∈ l := List.mem_of_mem_drop (List.mem_of_find?_eq_some hcs)
      exact ⟨(HB.out.kept0 F3.out).good c hm, fun k hk => HBF.out k (.inr (.inr (.inr (.inl ⟨c, hm, hk⟩))))⟩
  obtain ⟨hcg, hcb⟩ := hcg
  obtain ⟨cA, cAc, hcA, _, _⟩ := hcg.F.form
  obtain ⟨cB, cBc, hcB, _, _⟩ := hcg.T.form
  have hcg2 : SpV.Good w3 ⟨.slice cA c.f.length cAc, .slice cB c.t.length cBc, c.f, c.t, c.o⟩ := ⟨hcA ▸ hcg.F, hcB ▸ hcg.T, hcg.lf, hcg.lt⟩
  have hcb2 : ∀ k, BlC ⟨.slice cA c.f.length cAc, .slice cB c.t.length cBc, c.f, c.t, c.o⟩ k → k ≠ b := fun k hk => hcb k (by unfold BlC at hk ⊢; rw [hcA, hcB]; exact hk)
  rw [hcA, hcB]
  have HCG := Lib.hid hcg2; have HCB := Lib.hid hcb2; have HCM := Lib.hid hcm
  clear hcg hcb hcA hcB hcg2 hcb2 hce hcs hcm
  go_wp2_with fail
  have hal := (Fr.refl no w3).alloc (.cells #[.slice cA c.f.length cAc, .slice cB c.t.length cBc, .bool c.o] 36)
  generalize w3.alloc (.cells #[.slice cA c.f.length cAc, .slice cB c.t.length cBc, .bool c.o] 36) = w4 at hal ⊢
  have HAL := Lib.hid hal; clear hal
  have F4 := Lib.hid (F3.out.trans HAL.out (fun _ _ h => h)); have HN := Lib.hid (HAL.out.heap HN.out (fun h => h))
  have GL4 := Lib.hid (Array.getElem?_eq_some_iff.1 HN.out).1
  refine (thrn_any w4 p lv uv l us b blv bl n ⟨.slice cA c.f.length cAc, .slice cB c.t.length cBc, c.f, c.t, c.o⟩ is F f i (HB.out.kept0 F4.out) hl HBF.out (HBEL.out.kept0 F4.out) hn (HCG.out.kept0 HAL.out) HCB.out (HF.out.kept0 F4.out) HFB.out).mono ?_
  rintro e w5 ⟨he, hbe, hfr⟩
  have hsee : seeN l bl n f i = thr l (if is then some (c.f, c.t) else none) (fun x y => decide (cb x y < 0)) (askN bl) n f i := by unfold seeN putN; rw [HJ.out]; rw [← HCM.out]
  simp only at he hbe
  generalize thr l (if is then some (c.f, c.t) else none) (fun x y => decide (cb x y < 0)) (askN bl) n f i = R at he hbe hsee
  obtain ⟨m, r⟩ := R
  have HSEE := Lib.hid hsee
  simp only at he hbe
  have HBE := Lib.hid hbe; have HFR := Lib.hid hfr
  have hgb : ¬ g = b := by have := HG.out; have := (Array.getElem?_eq_some_iff.1 HBEL.out.at_).1; omega
  have HN := Lib.hid (hfr.heap HN.out hgb)
  have HGB := Lib.hid hgb
  clear hbe hfr hsee hgb
  obtain ⟨c0, c1, hz, hlt⟩ := two_cells HN.out
  have fin : ∀ (w6 : World), Fr (fun k => k = g) w5 w6 → Bel w6 b blv bl m ∧ Fr (fun k => k = b) w w6 := fun w6 fs => by
    have tot : Fr (fun k => k = b) w w6 := ((F4.out.mono (fun _ _ h => h.elim)).trans HFR.out (fun _ _ h => h)).trans fs (fun k hk e => by have := HG.out; omega)
    exact ⟨HBEL.out.upd tot (fs.heap HBE.out.at_ (fun e => HGB.out e.symm)), tot⟩
  have FIN := Lib.hid fin; clear fin
  rcases r with _ | _ | ⟨kk, vv⟩
  · obtain rfl := he
    go_wp2
    have hg3 := set2_row (a := .slice none 0 0) (b := .slice none 0 0) HN.out
    have fs := set2_fr w5 g (.slice none 0 0) (.slice none 0 0)
    rw [show (w5.setCell ⟨g, 0, none⟩ (.slice none 0 0)).setCell ⟨g, 1, none⟩ (.slice none 0 0) = set2 w5 g (.slice none 0 0) (.slice none 0 0) from rfl]
    generalize set2 w5 g (.slice none 0 0) (.slice none 0 0) = w6 at hg3 fs ⊢
    refine bodyPost_ret (results_cell_row3 rfl _ _ g _ #[.slice none 0 0, .slice none 0 0] (0, 0) _ rfl hg3 Try.underlying40 rfl (by kernel_rfl)) rfl ?_
    rw [HSEE.out]
    exact ⟨rfl, FIN.out w6 fs⟩
  · obtain rfl := he
    go_wp2
    have hg3 := set2_row (a := .slice none 0 0) (b := .slice none 0 0) HN.out
    have fs := set2_fr w5 g (.slice none 0 0) (.slice none 0 0)
    rw [show (w5.setCell ⟨g, 0, none⟩ (.slice none 0 0)).setCell ⟨g, 1, none⟩ (.slice none 0 0) = set2 w5 g (.slice none 0 0) (.slice none 0 0) from rfl]
    generalize set2 w5 g (.slice none 0 0) (.slice none 0 0) = w6 at hg3 fs ⊢
    refine bodyPost_ret (results_cell_row3 rfl _ _ g _ #[.slice none 0 0, .slice none 0 0] (0, 0) _ rfl hg3 Try.underlying40 rfl (by kernel_rfl)) rfl ?_
    rw [HSEE.out]
    exact ⟨rfl, FIN.out w6 fs⟩
  · obtain ⟨A5, A6, rfl, o1, o2, nw, ne⟩ := he
    have O1 := Lib.hid o1; have O2 := Lib.hid o2; have NW := Lib.hid nw; have NE := Lib.hid ne; clear o1 o2 nw ne
    go_wp2
    have hg3 := set2_row (a := .slice A5 kk.length kk.length) (b := .slice A6 vv.length vv.length) HN.out
    have fs := set2_fr w5 g (.slice A5 kk.length kk.length) (.slice A6 vv.length vv.length)
    rw [show (w5.setCell ⟨g, 0, none⟩ (.slice A5 kk.length kk.length)).setCell ⟨g, 1, none⟩ (.slice A6 vv.length vv.length) = set2 w5 g (.slice A5 kk.length kk.length) (.slice A6 vv.length vv.length) from rfl]
    generalize set2 w5 g (.slice A5 kk.length kk.length) (.slice A6 vv.length vv.length) = w6 at hg3 fs ⊢
    refine bodyPost_ret (results_cell_row3 rfl _ _ g _ #[.slice A5 kk.length kk.length, .slice A6 vv.length vv.length] (0, 0) _ rfl hg3 Try.underlying40 rfl (by kernel_rfl)) rfl ?_
    have hg4 := HG.out
    have s4 := F4.out.size; have s0 := F1.out.size
    have hgl := GL4.out
    rw [HSEE.out]
    refine ⟨⟨A5, A6, rfl, O1.out.kept fs (fun k hk e => by have := NW.out k (.inl hk); have e2 : k = g := e; omega), O2.out.kept fs (fun k hk e => by have := NW.out k (.inr hk); have e2 : k = g := e; omega), fun k hk => by have := NW.out k hk; omega, NE.out⟩, FIN.out w6 fs⟩

set_option maxRecDepth 100000 in
set_option maxHeartbeats 8000000 in
theorem bufp_any (w : World) (p : Nat) (lv uv : Value) (l : List SpV) (us : List Und) (b : Nat) (blv : Value) (bl : List PrV) (n : Nat) (F : Value) (f : List UInt8) (i : Bool) (hb : Bf w p lv l uv us) (hl : l.length ≤ 100000) (hbf : ∀ k, BfF p lv l uv us k → k ≠ b)
    (hbel : Bel w b blv bl n) (hn : n ≤ 140737488351232) (hF : Sl w 1 F f.length (bvs f)) (hFb : F.ownBlock ≠ some b) :
    Calls Try.prog 23 #[.pointer (some ⟨p, 0, none⟩), .func (.func 24) #[.pointer (some ⟨b, 0, none⟩)] #[], F, .bool i] w fun e w' =>
      ThrE w w' (seeP l bl n f i).2 e ∧ Bel w' b blv bl (seeP l bl n f i).1 ∧ Fr (fun k => k = b) w w' := by
  have HB := Lib.hid hb; have HBF := Lib.hid hbf; have HBEL := Lib.hid hbel; have HF := Lib.hid hF; have HFB := Lib.hid hFb
  clear hb hbf hbel hF hFb
  go_enter Try.func23, Try.ntmps23
  go_wp2_with fail
  have hN := heap_alloc_new w (.cells #[.slice none 0 0, .slice none 0 0] 40)
  have hf := (Fr.refl no w).alloc (.cells #[.slice none 0 0, .slice none 0 0] 40)
  generalize hg : w.heap.size = g at hN ⊢
  generalize w.alloc (.cells #[.slice none 0 0, .slice none 0 0] 40) = w1 at hN hf ⊢
  have hg2 := Nat.le_of_eq hg
  have HG := Lib.hid hg2; have HN := Lib.hid hN; have F1 := Lib.hid hf; clear hN hf hg hg2
  refine (bprevi_any w1 p lv uv F l us f i (HB.out.kept0 F1.out) (HF.out.kept0 F1.out) hl).mono ?_
  rintro e w2 ⟨rfl, f2⟩
  have F2 := Lib.hid (F1.out.trans f2 (fun _ _ h => h)); have HN := Lib.hid (f2.heap HN.out (fun h => h)); clear f2
  obtain ⟨J, hJJ⟩ : ∃ J, (prevI l f i + 1).toNat = J := ⟨_, rfl⟩
  have hJ : J ≤ l.length := by have := prevI_le l f i; omega
  have hpj : prevI l f i = (J : Int) - 1 := by have := prevI_le l f i; omega
  rw [hpj]
  have HJ := Lib.hid hJJ; clear hJJ hpj
  go_wp2_with fail
  refine (putb_any w2 p lv uv l us J (HB.out.kept0 F2.out) hJ hl).mono ?_
  rintro e w3 ⟨rfl, f3⟩
  have F3 := Lib.hid (F2.out.trans f3 (fun _ _ h => h)); have HN := Lib.hid (f3.heap HN.out (fun h => h)); clear f3
  obtain ⟨c, is, hce, hcm, hcs⟩ := chg_form ((l.take J).reverse.find? fun y => !y.o)
  rw [hce]
  have hcg : c.Good w3 ∧ ∀ k, BlC c k → k ≠ b := by
    rcases hcs with ⟨_, rfl⟩ | hcs
    · exact ⟨⟨⟨rfl, .inl ⟨none, rfl, rfl⟩⟩, ⟨rfl, .inl ⟨none, rfl, rfl⟩⟩, by simp, by simp⟩, fun k hk => by rcases hk with hk | hk <;> simp [Value.ownBlock] at hk⟩
    · have hm : c ∈ l := List.mem_of_mem_take (List.mem_reverse.1 (List.mem_of_find?_eq_some hcs))
      exact ⟨(HB.out.kept0 F3.out).good c hm, fun k hk => HBF.out k (.inr (.inr (.inr (.inl ⟨c, hm, hk⟩))))⟩
  obtain ⟨hcg, hcb⟩ := hcg
  obtain ⟨cA, cAc, hcA, _, _⟩ := hcg.F.form
  obtain ⟨cB, cBc, hcB, _, _⟩ := hcg.T.form
  have hcg2 : SpV.Good w3 ⟨.slice cA c.f.length cAc, .slice cB c.t.length cBc, c.f, c.t, c.o⟩ := ⟨hcA ▸ hcg.F, hcB ▸ hcg.T, hcg.lf, hcg.lt⟩
  have hcb2 : ∀ k, BlC ⟨.slice cA c.f.length cAc, .slice cB c.t.length cBc, c.f, c.t, c.o⟩ k → k ≠ b := fun k hk => hcb k (by unfold BlC at hk ⊢; rw [hcA, hcB]; exact hk)
  rw [hcA, hcB]
  have HCG := Lib.hid hcg2; have HCB := Lib.hid hcb2; have HCM := Lib.hid hcm
  clear hcg hcb hcA hcB hcg2 hcb2 hce hcs hcm
  go_wp2_with fail
  have hal := (Fr.refl no w3).alloc (.cells #[.slice cA c.f.length cAc, .slice cB c.t.length cBc, .bool c.o] 36)
  generalize w3.alloc (.cells #[.slice cA c.f.length cAc, .slice cB c.t.length cBc, .bool c.o] 36) = w4 at hal ⊢
  have HAL := Lib.hid hal; clear hal
  have F4 := Lib.hid (F3.out.trans HAL.out (fun _ _ h => h)); have HN := Lib.hid (HAL.out.heap HN.out (fun h => h))
  have GL4 := Lib.hid (Array.getElem?_eq_some_iff.1 HN.out).1
  refine (thrp_any w4 p lv uv l us b blv bl n ⟨.slice cA c.f.length cAc, .slice cB c.t.length cBc, c.f, c.t, c.o⟩ is F f i (HB.out.kept0 F4.out) hl HBF.out (HBEL.out.kept0 F4.out) hn (HCG.out.kept0 HAL.out) HCB.out (HF.out.kept0 F4.out) HFB.out).mono ?_
  rintro e w5 ⟨he, hbe, hfr⟩
  have hsee : seeP l bl n f i = thr l (if is then some (c.f, c.t) else none) (fun x y => decide (0 < cb x y)) (askP bl) n f i := by unfold seeP putP; rw [HJ.out]; rw [← HCM.out]
  simp only at he hbe
  generalize thr l (if is then some (c.f, c.t) else none) (fun x y => decide (0 < cb x y)) (askP bl) n f i = R at he hbe hsee
  obtain ⟨m, r⟩ := R
  have HSEE := Lib.hid hsee
  simp only at he hbe
  have HBE := Lib.hid hbe; have HFR := Lib.hid hfr
  have hgb : ¬ g = b := by have := HG.out; have := (Array.getElem?_eq_some_iff.1 HBEL.out.at_).1; omega
  have HN := Lib.hid (hfr.heap HN.out hgb)
  have HGB := Lib.hid hgb
  clear hbe hfr hsee hgb
  obtain ⟨c0, c1, hz, hlt⟩ := two_cells HN.out
  have fin : ∀ (w6 : World), Fr (fun k => k = g) w5 w6 → Bel w6 b blv bl m ∧ Fr (fun k => k = b) w w6 := fun w6 fs => by
    have tot : Fr (fun k => k = b) w w6 := ((F4.out.mono (fun _ _ h => h.elim)).trans HFR.out (fun _ _ h => h)).trans fs (fun k hk e => by have := HG.out; omega)
    exact ⟨HBEL.out.upd tot (fs.heap HBE.out.at_ (fun e => HGB.out e.symm)), tot⟩
  have FIN := Lib.hid fin; clear fin
  rcases r with _ | _ | ⟨kk, vv⟩
  · obtain rfl := he
    go_wp2
    have hg3 := set2_row (a := .slice none 0 0) (b := .slice none 0 0) HN.out
    have fs := set2_fr w5 g (.slice none 0 0) (.slice none 0 0)
    rw [show (w5.setCell ⟨g, 0, none⟩ (.slice none 0 0)).setCell ⟨g, 1, none⟩ (.slice none 0 0) = set2 w5 g (.slice none 0 0) (.slice none 0 0) from rfl]
    generalize set2 w5 g (.slice none 0 0) (.slice none 0 0) = w6 at hg3 fs ⊢
    refine bodyPost_ret (results_cell_row3 rfl _ _ g _ #[.slice none 0 0, .slice none 0 0] (0, 0) _ rfl hg3 Try.underlying40 rfl (by kernel_rfl)) rfl ?_
    rw [HSEE.out]
    exact ⟨rfl, FIN.out w6 fs⟩
  · obtain rfl := he
    go_wp2
    have hg3 := set2_row (a := .slice none 0 0) (b := .slice none 0 0) HN.out
    have fs := set2_fr w5 g (.slice none 0 0) (.slice none 0 0)
    rw [show (w5.setCell ⟨g, 0, none⟩ (.slice none 0 0)).setCell ⟨g, 1, none⟩ (.slice none 0 0) = set2 w5 g (.slice none 0 0) (.slice none 0 0) from rfl]
    generalize set2 w5 g (.slice none 0 0) (.slice none 0 0) = w6 at hg3 fs ⊢
    refine bodyPost_ret (results_cell_row3 rfl _ _ g _ #[.slice none 0 0, .slice none 0 0] (0, 0) _ rfl hg3 Try.underlying40 rfl (by kernel_rfl)) rfl ?_
    rw [HSEE.out]
    exact ⟨rfl, FIN.out w6 fs⟩
  · obtain ⟨A5, A6, rfl, o1, o2, nw, ne⟩ := he
    have O1 := Lib.hid o1; have O2 := Lib.hid o2; have NW := Lib.hid nw; have NE := Lib.hid ne; clear o1 o2 nw ne
    go_wp2
    have hg3 := set2_row (a := .slice A5 kk.length kk.length) (b := .slice A6 vv.length vv.length) HN.out
    have fs := set2_fr w5 g (.slice A5 kk.length kk.length) (.slice A6 vv.length vv.length)
    rw [show (w5.setCell ⟨g, 0, none⟩ (.slice A5 kk.length kk.length)).setCell ⟨g, 1, none⟩ (.slice A6 vv.length vv.length) = set2 w5 g (.slice A5 kk.length kk.length) (.slice A6 vv.length vv.length) from rfl]
    generalize set2 w5 g (.slice A5 kk.length kk.length) (.slice A6 vv.length vv.length) = w6 at hg3 fs ⊢
    refine bodyPost_ret (results_cell_row3 rfl _ _ g _ #[.slice A5 kk.length kk.length, .slice A6 vv.length vv.length] (0, 0) _ rfl hg3 Try.underlying40 rfl (by kernel_rfl)) rfl ?_
    have hg4 := HG.out
    have s4 := F4.out.size; have s0 := F1.out.size
    have hgl := GL4.out
    rw [HSEE.out]
    refine ⟨⟨A5, A6, rfl, O1.out.kept fs (fun k hk e => by have := NW.out k (.inl hk); have e2 : k = g := e; omega), O2.out.kept fs (fun k hk e => by have := NW.out k (.inr hk); have e2 : k = g := e; omega), fun k hk => by have := NW.out k hk; omega, NE.out⟩, FIN.out w6 fs⟩
end Go.Proofs.Ytdnohhlgaaihmaa

/- codicilref16: the document's buffer: Put, Delete. -/
namespace Go.Proofs.Ytdnohhlgaaihmaa
open Go.RowKit

def SeF (p : Nat) (sv : Value) (l : List SpV) : Nat → Prop := fun k => k = p ∨ sv.ownBlock = some k ∨ ∃ x ∈ l, x.F.ownBlock = some k ∨ x.T.ownBlock = some k

/-- The document's buffer: all that was said, in order. -/
structure Rf (w : World) (p : Nat) (sv : Value) (l : List SpV) : Prop where
  at_ : w.heap[p]? = some (.cells #[sv] 32 (0, 0))
  row : Ow w 36 3 sv l.length (l.flatMap SpV.cells)
  good : ∀ x ∈ l, x.Good w
  ne : sv.ownBlock ≠ some p
  apart : ∀ x ∈ l, ∀ k, x.F.ownBlock = some k ∨ x.T.ownBlock = some k → k ≠ p ∧ sv.ownBlock ≠ some k ∧ k < w.heap.size
theorem Rf.kept {w w1 : World} {p : Nat} {sv : Value} {l : List SpV} {S : Nat → Prop} (h : Rf w p sv l) (f : Fr S w w1) (hn : Dj (SeF p sv l) S) : Rf w1 p sv l :=
  ⟨f.heap h.at_ (hn p (.inl rfl)), h.row.kept f (fun k hk => hn k (.inr (.inl hk))), fun x hx => (h.good x hx).kept f (fun k hk => hn k (.inr (.inr ⟨x, hx, .inl hk⟩))) (fun k hk => hn k (.inr (.inr ⟨x, hx, .inr hk⟩))), h.ne, fun x hx k hk => by obtain ⟨h1, h2, h3⟩ := h.apart x hx k hk; exact ⟨h1, h2, Nat.lt_of_lt_of_le h3 f.size⟩⟩
theorem Rf.kept0 {w w1 : World} {p : Nat} {sv : Value} {l : List SpV} (h : Rf w p sv l) (f : Fr no w w1) : Rf w1 p sv l := h.kept f (fun _ _ h => h)

theorem ref_fin {w W w10 : World} {p : Nat} {rv : Value} {rl : List SpV} {x : SpV} {A' : Option Addr} {N c' : Nat} (hN : N = rl.length + 1) (hs : Rf w p rv rl) (f0 : Fr no w W) (hx : x.Good W)
    (hnew : ∀ k, BlC x k → w.heap.size ≤ k ∧ k < W.heap.size) (ho : Ow w10 36 3 (.slice A' N c') N (rl.flatMap SpV.cells ++ x.cells))
    (f : Fr (fun k => rv.ownBlock = some k) W w10) (mv : Moved W w10 rv (.slice A' N c')) :
    Rf (w10.setCell ⟨p, 0, none⟩ (.slice A' N c')) p (.slice A' N c') (rl ++ [x]) ∧ Fr (fun k => k = p ∨ rv.ownBlock = some k) w (w10.setCell ⟨p, 0, none⟩ (.slice A' N c')) ∧
      ∀ k, SeF p (.slice A' N c') (rl ++ [x]) k → SeF p rv rl k ∨ (w.heap.size ≤ k ∧ k < (w10.setCell ⟨p, 0, none⟩ (.slice A' N c')).heap.size) := by
  have hpl := (one_cells hs.at_).2.2
  have hsz0 := f0.size
  have hsz1 := f.size
  have hs2 := hs.kept0 f0
  have hp2 := (one_cells hs2.at_).2.2
  have hne : (Value.slice A' N c').ownBlock ≠ some p := mv.not hp2 hs.ne
  have hbl : ∀ y ∈ rl ++ [x], ∀ k, y.F.ownBlock = some k ∨ y.T.ownBlock = some k → k ≠ p ∧ rv.ownBlock ≠ some k ∧ k < W.heap.size ∧ (SeF p rv rl k ∨ w.heap.size ≤ k) := fun y hy k hk => by
    rcases List.mem_append.1 hy with hy | hy
    · obtain ⟨h1, h2, h3⟩ := hs.apart y hy k hk
      exact ⟨h1, h2, by omega, .inl (.inr (.inr ⟨y, hy, hk⟩))⟩
    · cases List.mem_singleton.1 hy
      obtain ⟨h1, h2⟩ := hnew k hk
      exact ⟨by omega, fun e => by have := hs.row.lt k e; omega, h2, .inr h1⟩
  have fs : Fr (fun k => k = p ∨ rv.ownBlock = some k) W (w10.setCell ⟨p, 0, none⟩ (.slice A' N c')) := (f.mono (fun _ _ h => .inr h)).setCell _ _ (fun _ => .inl rfl)
  refine ⟨⟨?_, ?_, fun y hy => ?_, hne, fun y hy k hk => ?_⟩, ?_, fun k hk => ?_⟩
  · rw [hp_same (f.heap hs2.at_ hs.ne)]; simp
  · rw [List.length_append, List.length_singleton, ← hN, List.flatMap_append, show [x].flatMap SpV.cells = x.cells by simp]
    exact ho.kept (S := At p) ((Fr.refl (At p) w10).setAt _ _) (fun k hk e => hne (by rw [hk]; exact congrArg some e))
  · have hg : y.Good W := by
      rcases List.mem_append.1 hy with hy | hy
      · exact hs2.good y hy
      · cases List.mem_singleton.1 hy; exact hx
    exact hg.kept fs (fun k hk e => by obtain ⟨h1, h2, _⟩ := hbl y hy k (.inl hk); rcases e with e | e; exact h1 e; exact h2 e) (fun k hk e => by obtain ⟨h1, h2, _⟩ := hbl y hy k (.inr hk); rcases e with e | e; exact h1 e; exact h2 e)
  · obtain ⟨h1, h2, h3, _⟩ := hbl y hy k hk
    exact ⟨h1, mv.not h3 h2, by simp [World.setCell]; omega⟩
  · exact fr_sooner f0 fs
  · rcases hk with hk | hk | ⟨y, hy, hk⟩
    · exact .inl (.inl hk)
    · rcases mv.blk k hk with h | h
      · exact .inl (.inr (.inl h))
      · right; simp [World.setCell]; omega
    · obtain ⟨_, _, h3, h4⟩ := hbl y hy k hk
      rcases h4 with h4 | h4
      · exact .inl h4
      · right; simp [World.setCell]; omega

theorem ow_nil (w : World) (e : TypeId) (sz : Nat) : Ow w e sz (.slice none 0 0) 0 [] := ⟨by simp, .inl ⟨rfl, rfl⟩⟩

/-- A row appended to nil is a new one. -/
theorem nil_new {w w1 : World} {A : Option Addr} {N c n : Nat} (h : Stays w w1 (.slice none 0 0) (.slice A N c) n N) : ∀ k, (Value.slice A N c).ownBlock = some k → w.heap.size ≤ k ∧ k < w1.heap.size := fun k hk => by
  rcases stays_moved h with e | e
  · rw [e] at hk; simp [Value.ownBlock] at hk
  · exact e k hk

theorem own_new {w w1 w2 : World} {A B : Option Addr} {N M c d n : Nat} (h : ∀ k, (Value.slice A N c).ownBlock = some k → w.heap.size ≤ k) (hs : w.heap.size ≤ w1.heap.size) (m : Stays w1 w2 (.slice A N c) (.slice B M d) n M) : ∀ k, (Value.slice B M d).ownBlock = some k → w.heap.size ≤ k := fun k hk => by
  rcases stays_moved m with e | e
  · exact h k (e ▸ hk)
  · have := (e k hk).1; omega

theorem fr_nil {w w1 : World} (f : Fr (fun k => (Value.slice none 0 0).ownBlock = some k) w w1) : Fr no w w1 := f.mono (fun k _ h => by simp [Value.ownBlock] at h)


set_option maxRecDepth 100000 in
set_option maxHeartbeats 400000 in
theorem rcopied_any (w : World) (x : Value) (l : List UInt8) (hx : Sl w 1 x l.length (bvs l)) (hl : l.length ≤ 140737488351232) :
    Calls Try.prog 57 #[x] w fun e w' => ∃ A c, e = .returned (.slice A l.length c) ∧ Ow w' 5 1 (.slice A l.length c) l.length (bvs l) ∧ (∀ k, (Value.slice A l.length c).ownBlock = some k → w.heap.size ≤ k) ∧ Fr no w w' := by
  obtain ⟨A, c, rfl, _, _⟩ := hx.form
  have HX := Lib.hid hx; clear hx
  go_enter Try.func57, Try.ntmps57
  go_wp2_with (at_builtin; refine wpList_apo rfl (.tmp 4) (.tmp 5) 34 rfl tbB (ow_nil w _ 1) HX.out rfl rfl (bvs_one _) ?b1 ?b2 ?go)
  case b1 => simp [maxLen]; omega
  case b2 => omega
  case go =>
    intro B1 N1 d1 w1 hN ho _ hf hst
    obtain rfl : N1 = l.length := by omega
    have H1 := Lib.hid ho; have F1 := Lib.hid (fr_nil hf); have M1 := Lib.hid (nil_new hst); clear ho hf hst hN
    go_wp2
    go_ret
    exact ⟨B1, d1, rfl, by simpa using H1.out, fun k hk => (M1.out k hk).1, F1.out⟩

/-- What Put and Delete leave. -/
def Rsaid (w w' : World) (p : Nat) (sv : Value) (l : List SpV) (k v : List UInt8) (o : Bool) (e : Ending) : Prop :=
  e = .returned (.tuple #[]) ∧ ∃ sv' F T, Rf w' p sv' (l ++ [⟨F, T, k, v, o⟩]) ∧ Fr (fun k => k = p ∨ sv.ownBlock = some k) w w' ∧ ∀ j, SeF p sv' (l ++ [⟨F, T, k, v, o⟩]) j → SeF p sv l j ∨ (w.heap.size ≤ j ∧ j < w'.heap.size)

set_option maxRecDepth 100000 in
set_option maxHeartbeats 4000000 in
theorem rput_any (w : World) (p : Nat) (sv K V : Value) (l : List SpV) (k v : List UInt8) (hs : Rf w p sv l) (hK : Sl w 1 K k.length (bvs k)) (hV : Sl w 1 V v.length (bvs v)) (hk : k.length ≤ 140737488351232) (hv : v.length ≤ 140737488351232) (hl : l.length ≤ 100000) :
    Calls Try.prog 18 #[.pointer (some ⟨p, 0, none⟩), K, V] w fun e w' => Rsaid w w' p sv l k v false e := by
  obtain ⟨A, c, rfl, _, _⟩ := hK.form
  obtain ⟨B, d, rfl, _, _⟩ := hV.form
  obtain ⟨rA, rc, rfl, _, _⟩ := hs.row.form
  obtain ⟨e0, e1, e2⟩ := one_cells hs.at_
  have HS := Lib.hid hs; have HK := Lib.hid hK; have HV := Lib.hid hV; clear hs hK hV
  go_enter Try.func18, Try.ntmps18
  refine wp_region_ord [0, 1, 2, 3, 4, 5, 7, 6, 8, 9, 10, 11, 12, 13, 14] (fun i => [Kd.p, Kd.p, Kd.p, Kd.p, Kd.l, Kd.p, Kd.g, Kd.p, Kd.g, Kd.g, Kd.g, Kd.e, Kd.p, Kd.p, Kd.e].getD i .e) (by kernel_rfl) (by kernel_rfl) ?_
  iterate 7
    first | refine wpX_pu rfl rfl rfl (by first | exact pu_move rfl | exact pu_assign rfl | exact pu_nilCheck rfl rfl | exact pu_binInt rfl rfl rfl | exact pu_conv rfl rfl (by kernel_rfl) | exact pu_fld rfl (by kernel_rfl) | exact pu_ix rfl rfl rfl (by kernel_rfl) | exact pu_unOp rfl | exact pu_binStr rfl rfl rfl | exact pu_len rfl rfl | exact pu_lens rfl rfl | exact pu_pick rfl | exact pu_slice rfl rfl) (fun K hK => ?_) | refine wpX_rd rfl rfl rfl (rd_load rfl) (fun K hK => ?_) | refine wpX_gr rfl rfl rfl (by first | exact gr_buildSlice rfl | exact gr_box rfl | exact gr_alloc rfl) (fun K hK => ?_) | refine wpX_ex rfl rfl rfl (fun K hK => ?_)
    try go_wp2
  refine wpX_ca rfl rfl rfl (fun K hK => ?_)
  go_wp2_with fail
  refine (rcopied_any _ _ k (HK.out.kept0 (Fr.drew (Fr.refl no w))) hk).mono ?_
  rintro e w1 ⟨A1, d1, rfl, h1, h2, h3⟩
  have H1 := Lib.hid h1; have H2 := Lib.hid h2; have H3 := Lib.hid h3; clear h1 h2 h3
  go_wp2
  obtain ⟨⟨xa, xb⟩, hext⟩ := H3.out.ext
  refine ⟨⟨xa, xb, hext⟩, hK _ _ ?_⟩
  clear hK K hext xa xb
  refine wpX_ca rfl rfl rfl (fun K hK => ?_)
  go_wp2_with fail
  refine (rcopied_any _ _ v ((HV.out.kept0 (Fr.drew (Fr.refl no w))).kept0 H3.out) hv).mono ?_
  rintro e w2 ⟨A2, d2, rfl, h1, h2, h3⟩
  have G1 := Lib.hid h1; have G2 := Lib.hid h2; have G3 := Lib.hid h3; clear h1 h2 h3
  go_wp2
  obtain ⟨⟨xa, xb⟩, hext⟩ := G3.out.ext
  refine ⟨⟨xa, xb, hext⟩, hK _ _ ?_⟩
  clear hK K hext xa xb
  refine wpX_ca rfl rfl rfl (fun K hK => ?_)
  go_wp2
  refine ⟨⟨#[], _, (World.ext_self _).symm⟩, hK _ _ ?_⟩
  clear hK K
  refine wpX_gr rfl rfl rfl (gr_buildSlice rfl) (fun K hK => ?_)
  go_simp
  refine hK _ _ ?_
  clear hK K
  have hfw : Fr no w w2 := ((Fr.drew (Fr.refl no w)).trans H3.out (fun _ _ h => h)).trans G3.out (fun _ _ h => h)
  have HFW := Lib.hid hfw; clear hfw
  have hal := (Fr.refl no w2).alloc (.cells #[.slice A1 k.length d1, .slice A2 v.length d2, .bool false] 36)
  have hx := one_chg (w := w2.alloc (.cells #[.slice A1 k.length d1, .slice A2 v.length d2, .bool false] 36)) (heap_alloc_new w2 _ : Has _ w2.heap.size 36 [.slice A1 k.length d1, .slice A2 v.length d2, .bool false]) rfl
  have HAL := Lib.hid hal; have HXX := Lib.hid hx; clear hal hx
  refine wpX_ex rfl rfl rfl (fun K hK => ?_)
  refine wp_apo (.tmp 10) (.tmp 16) 30 rfl tbChange ((HS.out.row.kept0 HFW.out).kept0 HAL.out) HXX.out rfl rfl ?g0 ?g1 ?g2 ?go4
  case g0 => intro u hu; simp only [List.mem_cons, List.not_mem_nil, or_false] at hu; rcases hu with rfl | rfl | rfl <;> rfl
  case g1 => simp only [maxLen]; omega
  case g2 => omega
  case go4 =>
    intro B' N' d' w4 hN ho _ hf hst
    subst hN
    have sAL := HAL.out.size
    have fin := ref_fin (x := ⟨.slice A1 k.length d1, .slice A2 v.length d2, k, v, false⟩) rfl HS.out (HFW.out.trans HAL.out (fun _ _ h => h))
      ⟨((H1.out.kept0 G3.out).kept0 HAL.out).sl, (G1.out.kept0 HAL.out).sl, by simp only []; omega, by simp only []; omega⟩
      (fun j hj => hj.elim (fun h => by have h1 := H2.out j h; have h2 := H1.out.lt j h; have h3 := G3.out.size; have h4 : w.drew.heap.size = w.heap.size := rfl; omega) (fun h => by have h1 := G2.out j h; have h2 := G1.out.lt j h; have h3 := H3.out.size; have h4 : w.drew.heap.size = w.heap.size := rfl; omega)) ho hf (stays_moved hst)
    have c0 := hf.cell (a := ⟨p, 0, none⟩) (HAL.out.cell (HFW.out.cell e0 (fun h => h)) (fun h => h)) HS.out.ne
    have c1 := (hf.frozen (a := ⟨p, 0, none⟩) (by have := HFW.out.size; simp only []; omega) HS.out.ne).trans ((HAL.out.frozen (a := ⟨p, 0, none⟩) (by have := HFW.out.size; simp only []; omega) (fun h => h)).trans ((HFW.out.frozen (a := ⟨p, 0, none⟩) e2 (fun h => h)).trans (e1 0)))
    have HFIN := Lib.hid fin; clear fin ho hf hst
    go_simp
    refine hK _ _ ?_
    clear hK K
    iterate 3
      first | refine wpX_pu rfl rfl rfl (by first | exact pu_move rfl | exact pu_assign rfl | exact pu_nilCheck rfl rfl | exact pu_binInt rfl rfl rfl | exact pu_conv rfl rfl (by kernel_rfl) | exact pu_fld rfl (by kernel_rfl) | exact pu_ix rfl rfl rfl (by kernel_rfl) | exact pu_unOp rfl | exact pu_binStr rfl rfl rfl | exact pu_len rfl rfl | exact pu_lens rfl rfl | exact pu_pick rfl | exact pu_slice rfl rfl) (fun K hK => ?_) | refine wpX_rd rfl rfl rfl (rd_load rfl) (fun K hK => ?_) | refine wpX_gr rfl rfl rfl (by first | exact gr_buildSlice rfl | exact gr_box rfl | exact gr_alloc rfl) (fun K hK => ?_) | refine wpX_ex rfl rfl rfl (fun K hK => ?_)
      try go_wp2
    refine wpX_done ?_
    refine bodyPost_end (results_none rfl _ _ _) rfl ?_
    exact ⟨rfl, _, _, _, HFIN.out.1, HFIN.out.2.1, HFIN.out.2.2⟩

set_option maxRecDepth 100000 in
set_option maxHeartbeats 4000000 in
theorem rdel_any (w : World) (p : Nat) (sv K : Value) (l : List SpV) (k : List UInt8) (hs : Rf w p sv l) (hK : Sl w 1 K k.length (bvs k)) (hk : k.length ≤ 140737488351232) (hl : l.length ≤ 100000) :
    Calls Try.prog 17 #[.pointer (some ⟨p, 0, none⟩), K] w fun e w' => Rsaid w w' p sv l k [] true e := by
  obtain ⟨A, c, rfl, _, _⟩ := hK.form
  obtain ⟨rA, rc, rfl, _, _⟩ := hs.row.form
  obtain ⟨e0, e1, e2⟩ := one_cells hs.at_
  have HS := Lib.hid hs; have HK := Lib.hid hK; clear hs hK
  go_enter Try.func17, Try.ntmps17
  refine wp_region_ord (List.range 13) (fun i => [Kd.p, Kd.p, Kd.p, Kd.p, Kd.l, Kd.p, Kd.g, Kd.g, Kd.g, Kd.e, Kd.p, Kd.p, Kd.e].getD i .e) (by kernel_rfl) (by kernel_rfl) ?_
  iterate 6
    first | refine wpX_pu rfl rfl rfl (by first | exact pu_move rfl | exact pu_assign rfl | exact pu_nilCheck rfl rfl | exact pu_binInt rfl rfl rfl | exact pu_conv rfl rfl (by kernel_rfl) | exact pu_fld rfl (by kernel_rfl) | exact pu_ix rfl rfl rfl (by kernel_rfl) | exact pu_unOp rfl | exact pu_binStr rfl rfl rfl | exact pu_len rfl rfl | exact pu_lens rfl rfl | exact pu_pick rfl | exact pu_slice rfl rfl) (fun K hK => ?_) | refine wpX_rd rfl rfl rfl (rd_load rfl) (fun K hK => ?_) | refine wpX_gr rfl rfl rfl (by first | exact gr_buildSlice rfl | exact gr_box rfl | exact gr_alloc rfl) (fun K hK => ?_) | refine wpX_ex rfl rfl rfl (fun K hK => ?_)
    try go_wp2
  refine wpX_ca rfl rfl rfl (fun K hK => ?_)
  go_wp2_with fail
  refine (rcopied_any _ _ k (HK.out.kept0 (Fr.drew (Fr.refl no w))) hk).mono ?_
  rintro e w1 ⟨A1, d1, rfl, h1, h2, h3⟩
  have H1 := Lib.hid h1; have H2 := Lib.hid h2; have H3 := Lib.hid h3; clear h1 h2 h3
  go_wp2
  obtain ⟨⟨xa, xb⟩, hext⟩ := H3.out.ext
  refine ⟨⟨xa, xb, hext⟩, hK _ _ ?_⟩
  clear hK K hext xa xb
  refine wpX_ca rfl rfl rfl (fun K hK => ?_)
  go_wp2
  refine ⟨⟨#[], _, (World.ext_self _).symm⟩, hK _ _ ?_⟩
  clear hK K
  refine wpX_gr rfl rfl rfl (gr_buildSlice rfl) (fun K hK => ?_)
  go_simp
  refine hK _ _ ?_
  clear hK K
  have hfw : Fr no w w1 := (Fr.drew (Fr.refl no w)).trans H3.out (fun _ _ h => h)
  have HFW := Lib.hid hfw; clear hfw
  have hal := (Fr.refl no w1).alloc (.cells #[.slice A1 k.length d1, .slice none 0 0, .bool true] 36)
  have hx := one_chg (w := w1.alloc (.cells #[.slice A1 k.length d1, .slice none 0 0, .bool true] 36)) (heap_alloc_new w1 _ : Has _ w1.heap.size 36 [.slice A1 k.length d1, .slice none 0 0, .bool true]) rfl
  have HAL := Lib.hid hal; have HXX := Lib.hid hx; clear hal hx
  refine wpX_ex rfl rfl rfl (fun K hK => ?_)
  refine wp_apo (.tmp 8) (.tmp 12) 30 rfl tbChange ((HS.out.row.kept0 HFW.out).kept0 HAL.out) HXX.out rfl rfl ?g0 ?g1 ?g2 ?go4
  case g0 => intro u hu; simp only [List.mem_cons, List.not_mem_nil, or_false] at hu; rcases hu with rfl | rfl | rfl <;> rfl
  case g1 => simp only [maxLen]; omega
  case g2 => omega
  case go4 =>
    intro B' N' d' w4 hN ho _ hf hst
    subst hN
    have sAL := HAL.out.size
    have fin := ref_fin (x := ⟨.slice A1 k.length d1, .slice none 0 0, k, [], true⟩) rfl HS.out (HFW.out.trans HAL.out (fun _ _ h => h))
      ⟨(H1.out.kept0 HAL.out).sl, ⟨rfl, .inl ⟨none, rfl, rfl⟩⟩, by simp only []; omega, by simp⟩
      (fun j hj => hj.elim (fun h => by have h1 := H2.out j h; have h2 := H1.out.lt j h; have h4 : w.drew.heap.size = w.heap.size := rfl; omega) (fun h => by simp [Value.ownBlock] at h)) ho hf (stays_moved hst)
    have c0 := hf.cell (a := ⟨p, 0, none⟩) (HAL.out.cell (HFW.out.cell e0 (fun h => h)) (fun h => h)) HS.out.ne
    have c1 := (hf.frozen (a := ⟨p, 0, none⟩) (by have := HFW.out.size; simp only []; omega) HS.out.ne).trans ((HAL.out.frozen (a := ⟨p, 0, none⟩) (by have := HFW.out.size; simp only []; omega) (fun h => h)).trans ((HFW.out.frozen (a := ⟨p, 0, none⟩) e2 (fun h => h)).trans (e1 0)))
    have HFIN := Lib.hid fin; clear fin ho hf hst
    go_simp
    refine hK _ _ ?_
    clear hK K
    iterate 3
      first | refine wpX_pu rfl rfl rfl (by first | exact pu_move rfl | exact pu_assign rfl | exact pu_nilCheck rfl rfl | exact pu_binInt rfl rfl rfl | exact pu_conv rfl rfl (by kernel_rfl) | exact pu_fld rfl (by kernel_rfl) | exact pu_ix rfl rfl rfl (by kernel_rfl) | exact pu_unOp rfl | exact pu_binStr rfl rfl rfl | exact pu_len rfl rfl | exact pu_lens rfl rfl | exact pu_pick rfl | exact pu_slice rfl rfl) (fun K hK => ?_) | refine wpX_rd rfl rfl rfl (rd_load rfl) (fun K hK => ?_) | refine wpX_gr rfl rfl rfl (by first | exact gr_buildSlice rfl | exact gr_box rfl | exact gr_alloc rfl) (fun K hK => ?_) | refine wpX_ex rfl rfl rfl (fun K hK => ?_)
      try go_wp2
    refine wpX_done ?_
    refine bodyPost_end (results_none rfl _ _ _) rfl ?_
    exact ⟨rfl, _, _, _, HFIN.out.1, HFIN.out.2.1, HFIN.out.2.2⟩
end Go.Proofs.Ytdnohhlgaaihmaa
