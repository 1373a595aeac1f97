/- package buffer: Next and Prev through a buffer. -/
import Derived.Test.YtdnohhlgaaihmaaBuf12
namespace Go.Proofs.Ytdnohhlgaaihmaa
open Go.RowKit

/-- The first put behind a place. -/
def putN (l : List SpV) (f : List UInt8) (i : Bool) : Option SpV := (l.drop (nextI l f i)).find? fun y => !y.o
/-- The last put ahead of it. -/
def putP (l : List SpV) (f : List UInt8) (i : Bool) : Option SpV := (l.take (prevI l f i + 1).toNat).reverse.find? fun y => !y.o
/-- What is seen through a buffer. -/
def seeN (l : List SpV) (bl : List PrV) (n : Nat) (f : List UInt8) (i : Bool) := thr l ((putN l f i).map fun y => (y.f, y.t)) (fun x y => decide (cb x y < 0)) (askN bl) n f i
def seeP (l : List SpV) (bl : List PrV) (n : Nat) (f : List UInt8) (i : Bool) := thr l ((putP l f i).map fun y => (y.f, y.t)) (fun x y => decide (0 < cb x y)) (askP bl) n f i

theorem nextI_le (l : List SpV) (f : List UInt8) (i : Bool) : nextI l f i ≤ l.length := by
  unfold nextI
  have := posK_le l f
  split
  · rename_i h
    simp only [Bool.and_eq_true] at h
    obtain ⟨h1, _⟩ := said_at h.1; omega
  · exact this
theorem prevI_le (l : List SpV) (f : List UInt8) (i : Bool) : -1 ≤ prevI l f i ∧ prevI l f i + 1 ≤ l.length := by
  unfold prevI
  have := posK_le l f
  split
  · omega
  · split
    · rename_i h
      simp only [Bool.and_eq_true] at h
      obtain ⟨h1, _⟩ := said_at h.1; omega
    · omega

/-- A change that put tells, as through takes it. -/
theorem chg_form (r : Option SpV) : ∃ c : SpV, ∃ is : Bool, chgE r = .tuple #[.agg #[c.F, c.T, .bool c.o], .bool is] ∧ (r.map fun y => (y.f, y.t)) = (if is then some (c.f, c.t) else none) ∧ ((r = none ∧ c = ⟨.slice none 0 0, .slice none 0 0, [], [], false⟩) ∨ r = some c) := by
  cases r with
  | none => exact ⟨⟨.slice none 0 0, .slice none 0 0, [], [], false⟩, false, rfl, rfl, .inl ⟨rfl, rfl⟩⟩
  | some y => exact ⟨y, true, rfl, rfl, .inr rfl⟩

set_option maxRecDepth 100000 in
set_option maxHeartbeats 8000000 in
theorem bufn_any (w : World) (p : Nat) (lv uv : Value) (l : List SpV) (us : List Und) (b : Nat) (blv : Value) (bl : List PrV) (n : Nat) (F : Value) (f : List UInt8) (i : Bool) (hb : Bf w p lv l uv us) (hl : l.length ≤ 100000) (hbf : ∀ k, BfF p lv l uv us k → k ≠ b)
    (hbel : Bel w b blv bl n) (hn : n ≤ 140737488351232) (hF : Sl w 1 F f.length (bvs f)) (hFb : F.ownBlock ≠ some b) :
    Calls Try.prog 20 #[.pointer (some ⟨p, 0, none⟩), .func (.func 21) #[.pointer (some ⟨b, 0, none⟩)] #[], F, .bool i] w fun e w' =>
      ThrE w w' (seeN l bl n f i).2 e ∧ Bel w' b blv bl (seeN l bl n f i).1 ∧ Fr (fun k => k = b) w w' := by
  have HB := Lib.hid hb; have HBF := Lib.hid hbf; have HBEL := Lib.hid hbel; have HF := Lib.hid hF; have HFB := Lib.hid hFb
  clear hb hbf hbel hF hFb
  go_enter Try.func20, Try.ntmps20
  go_wp2_with fail
  have hN := heap_alloc_new w (.cells #[.slice none 0 0, .slice none 0 0] 40)
  have hf := (Fr.refl no w).alloc (.cells #[.slice none 0 0, .slice none 0 0] 40)
  generalize hg : w.heap.size = g at hN ⊢
  generalize w.alloc (.cells #[.slice none 0 0, .slice none 0 0] 40) = w1 at hN hf ⊢
  have hg2 := Nat.le_of_eq hg
  have HG := Lib.hid hg2; have HN := Lib.hid hN; have F1 := Lib.hid hf; clear hN hf hg hg2
  refine (bnexti_any w1 p lv uv F l us f i (HB.out.kept0 F1.out) (HF.out.kept0 F1.out) hl).mono ?_
  rintro e w2 ⟨rfl, f2⟩
  have F2 := Lib.hid (F1.out.trans f2 (fun _ _ h => h)); have HN := Lib.hid (f2.heap HN.out (fun h => h)); clear f2
  obtain ⟨J, hJJ⟩ : ∃ J, nextI l f i = J := ⟨_, rfl⟩
  have hJ : J ≤ l.length := hJJ ▸ nextI_le l f i
  rw [hJJ]
  have HJ := Lib.hid hJJ; clear hJJ
  go_wp2_with fail
  refine (putf_any w2 p lv uv l us J (HB.out.kept0 F2.out) hJ hl).mono ?_
  rintro e w3 ⟨rfl, f3⟩
  have F3 := Lib.hid (F2.out.trans f3 (fun _ _ h => h)); have HN := Lib.hid (f3.heap HN.out (fun h => h)); clear f3
  obtain ⟨c, is, hce, hcm, hcs⟩ := chg_form ((l.drop J).find? fun y => !y.o)
  rw [hce]
  have hcg : c.Good w3 ∧ ∀ k, BlC c k → k ≠ b := by
    rcases hcs with ⟨_, rfl⟩ | hcs
    · exact ⟨⟨⟨rfl, .inl ⟨none, rfl, rfl⟩⟩, ⟨rfl, .inl ⟨none, rfl, rfl⟩⟩, by simp, by simp⟩, fun k hk => by rcases hk with hk | hk <;> simp [Value.ownBlock] at hk⟩
    · have hm : c ∈ l := List.mem_of_mem_drop (List.mem_of_find?_eq_some hcs)
      exact ⟨(HB.out.kept0 F3.out).good c hm, fun k hk => HBF.out k (.inr (.inr (.inr (.inl ⟨c, hm, hk⟩))))⟩
  obtain ⟨hcg, hcb⟩ := hcg
  obtain ⟨cA, cAc, hcA, _, _⟩ := hcg.F.form
  obtain ⟨cB, cBc, hcB, _, _⟩ := hcg.T.form
  have hcg2 : SpV.Good w3 ⟨.slice cA c.f.length cAc, .slice cB c.t.length cBc, c.f, c.t, c.o⟩ := ⟨hcA ▸ hcg.F, hcB ▸ hcg.T, hcg.lf, hcg.lt⟩
  have hcb2 : ∀ k, BlC ⟨.slice cA c.f.length cAc, .slice cB c.t.length cBc, c.f, c.t, c.o⟩ k → k ≠ b := fun k hk => hcb k (by unfold BlC at hk ⊢; rw [hcA, hcB]; exact hk)
  rw [hcA, hcB]
  have HCG := Lib.hid hcg2; have HCB := Lib.hid hcb2; have HCM := Lib.hid hcm
  clear hcg hcb hcA hcB hcg2 hcb2 hce hcs hcm
  go_wp2_with fail
  have hal := (Fr.refl no w3).alloc (.cells #[.slice cA c.f.length cAc, .slice cB c.t.length cBc, .bool c.o] 36)
  generalize w3.alloc (.cells #[.slice cA c.f.length cAc, .slice cB c.t.length cBc, .bool c.o] 36) = w4 at hal ⊢
  have HAL := Lib.hid hal; clear hal
  have F4 := Lib.hid (F3.out.trans HAL.out (fun _ _ h => h)); have HN := Lib.hid (HAL.out.heap HN.out (fun h => h))
  have GL4 := Lib.hid (Array.getElem?_eq_some_iff.1 HN.out).1
  refine (thrn_any w4 p lv uv l us b blv bl n ⟨.slice cA c.f.length cAc, .slice cB c.t.length cBc, c.f, c.t, c.o⟩ is F f i (HB.out.kept0 F4.out) hl HBF.out (HBEL.out.kept0 F4.out) hn (HCG.out.kept0 HAL.out) HCB.out (HF.out.kept0 F4.out) HFB.out).mono ?_
  rintro e w5 ⟨he, hbe, hfr⟩
  have hsee : seeN l bl n f i = thr l (if is then some (c.f, c.t) else none) (fun x y => decide (cb x y < 0)) (askN bl) n f i := by unfold seeN putN; rw [HJ.out]; rw [← HCM.out]
  simp only at he hbe
  generalize thr l (if is then some (c.f, c.t) else none) (fun x y => decide (cb x y < 0)) (askN bl) n f i = R at he hbe hsee
  obtain ⟨m, r⟩ := R
  have HSEE := Lib.hid hsee
  simp only at he hbe
  have HBE := Lib.hid hbe; have HFR := Lib.hid hfr
  have hgb : ¬ g = b := by have := HG.out; have := (Array.getElem?_eq_some_iff.1 HBEL.out.at_).1; omega
  have HN := Lib.hid (hfr.heap HN.out hgb)
  have HGB := Lib.hid hgb
  clear hbe hfr hsee hgb
  obtain ⟨c0, c1, hz, hlt⟩ := two_cells HN.out
  have fin : ∀ (w6 : World), Fr (fun k => k = g) w5 w6 → Bel w6 b blv bl m ∧ Fr (fun k => k = b) w w6 := fun w6 fs => by
    have tot : Fr (fun k => k = b) w w6 := ((F4.out.mono (fun _ _ h => h.elim)).trans HFR.out (fun _ _ h => h)).trans fs (fun k hk e => by have := HG.out; omega)
    exact ⟨HBEL.out.upd tot (fs.heap HBE.out.at_ (fun e => HGB.out e.symm)), tot⟩
  have FIN := Lib.hid fin; clear fin
  rcases r with _ | _ | ⟨kk, vv⟩
  · obtain rfl := he
    go_wp2
    have hg3 := set2_row (a := .slice none 0 0) (b := .slice none 0 0) HN.out
    have fs := set2_fr w5 g (.slice none 0 0) (.slice none 0 0)
    rw [show (w5.setCell ⟨g, 0, none⟩ (.slice none 0 0)).setCell ⟨g, 1, none⟩ (.slice none 0 0) = set2 w5 g (.slice none 0 0) (.slice none 0 0) from rfl]
    generalize set2 w5 g (.slice none 0 0) (.slice none 0 0) = w6 at hg3 fs ⊢
    refine bodyPost_ret (results_cell_row3 rfl _ _ g _ #[.slice none 0 0, .slice none 0 0] (0, 0) _ rfl hg3 Try.underlying40 rfl (by kernel_rfl)) rfl ?_
    rw [HSEE.out]
    exact ⟨rfl, FIN.out w6 fs⟩
  · obtain rfl := he
    go_wp2
    have hg3 := set2_row (a := .slice none 0 0) (b := .slice none 0 0) HN.out
    have fs := set2_fr w5 g (.slice none 0 0) (.slice none 0 0)
    rw [show (w5.setCell ⟨g, 0, none⟩ (.slice none 0 0)).setCell ⟨g, 1, none⟩ (.slice none 0 0) = set2 w5 g (.slice none 0 0) (.slice none 0 0) from rfl]
    generalize set2 w5 g (.slice none 0 0) (.slice none 0 0) = w6 at hg3 fs ⊢
    refine bodyPost_ret (results_cell_row3 rfl _ _ g _ #[.slice none 0 0, .slice none 0 0] (0, 0) _ rfl hg3 Try.underlying40 rfl (by kernel_rfl)) rfl ?_
    rw [HSEE.out]
    exact ⟨rfl, FIN.out w6 fs⟩
  · obtain ⟨A5, A6, rfl, o1, o2, nw, ne⟩ := he
    have O1 := Lib.hid o1; have O2 := Lib.hid o2; have NW := Lib.hid nw; have NE := Lib.hid ne; clear o1 o2 nw ne
    go_wp2
    have hg3 := set2_row (a := .slice A5 kk.length kk.length) (b := .slice A6 vv.length vv.length) HN.out
    have fs := set2_fr w5 g (.slice A5 kk.length kk.length) (.slice A6 vv.length vv.length)
    rw [show (w5.setCell ⟨g, 0, none⟩ (.slice A5 kk.length kk.length)).setCell ⟨g, 1, none⟩ (.slice A6 vv.length vv.length) = set2 w5 g (.slice A5 kk.length kk.length) (.slice A6 vv.length vv.length) from rfl]
    generalize set2 w5 g (.slice A5 kk.length kk.length) (.slice A6 vv.length vv.length) = w6 at hg3 fs ⊢
    refine bodyPost_ret (results_cell_row3 rfl _ _ g _ #[.slice A5 kk.length kk.length, .slice A6 vv.length vv.length] (0, 0) _ rfl hg3 Try.underlying40 rfl (by kernel_rfl)) rfl ?_
    have hg4 := HG.out
    have s4 := F4.out.size; have s0 := F1.out.size
    have hgl := GL4.out
    rw [HSEE.out]
    refine ⟨⟨A5, A6, rfl, O1.out.kept fs (fun k hk e => by have := NW.out k (.inl hk); have e2 : k = g := e; omega), O2.out.kept fs (fun k hk e => by have := NW.out k (.inr hk); have e2 : k = g := e; omega), fun k hk => by have := NW.out k hk; omega, NE.out⟩, FIN.out w6 fs⟩

set_option maxRecDepth 100000 in
set_option maxHeartbeats 8000000 in
theorem bufp_any (w : World) (p : Nat) (lv uv : Value) (l : List SpV) (us : List Und) (b : Nat) (blv : Value) (bl : List PrV) (n : Nat) (F : Value) (f : List UInt8) (i : Bool) (hb : Bf w p lv l uv us) (hl : l.length ≤ 100000) (hbf : ∀ k, BfF p lv l uv us k → k ≠ b)
    (hbel : Bel w b blv bl n) (hn : n ≤ 140737488351232) (hF : Sl w 1 F f.length (bvs f)) (hFb : F.ownBlock ≠ some b) :
    Calls Try.prog 23 #[.pointer (some ⟨p, 0, none⟩), .func (.func 24) #[.pointer (some ⟨b, 0, none⟩)] #[], F, .bool i] w fun e w' =>
      ThrE w w' (seeP l bl n f i).2 e ∧ Bel w' b blv bl (seeP l bl n f i).1 ∧ Fr (fun k => k = b) w w' := by
  have HB := Lib.hid hb; have HBF := Lib.hid hbf; have HBEL := Lib.hid hbel; have HF := Lib.hid hF; have HFB := Lib.hid hFb
  clear hb hbf hbel hF hFb
  go_enter Try.func23, Try.ntmps23
  go_wp2_with fail
  have hN := heap_alloc_new w (.cells #[.slice none 0 0, .slice none 0 0] 40)
  have hf := (Fr.refl no w).alloc (.cells #[.slice none 0 0, .slice none 0 0] 40)
  generalize hg : w.heap.size = g at hN ⊢
  generalize w.alloc (.cells #[.slice none 0 0, .slice none 0 0] 40) = w1 at hN hf ⊢
  have hg2 := Nat.le_of_eq hg
  have HG := Lib.hid hg2; have HN := Lib.hid hN; have F1 := Lib.hid hf; clear hN hf hg hg2
  refine (bprevi_any w1 p lv uv F l us f i (HB.out.kept0 F1.out) (HF.out.kept0 F1.out) hl).mono ?_
  rintro e w2 ⟨rfl, f2⟩
  have F2 := Lib.hid (F1.out.trans f2 (fun _ _ h => h)); have HN := Lib.hid (f2.heap HN.out (fun h => h)); clear f2
  obtain ⟨J, hJJ⟩ : ∃ J, (prevI l f i + 1).toNat = J := ⟨_, rfl⟩
  have hJ : J ≤ l.length := by have := prevI_le l f i; omega
  have hpj : prevI l f i = (J : Int) - 1 := by have := prevI_le l f i; omega
  rw [hpj]
  have HJ := Lib.hid hJJ; clear hJJ hpj
  go_wp2_with fail
  refine (putb_any w2 p lv uv l us J (HB.out.kept0 F2.out) hJ hl).mono ?_
  rintro e w3 ⟨rfl, f3⟩
  have F3 := Lib.hid (F2.out.trans f3 (fun _ _ h => h)); have HN := Lib.hid (f3.heap HN.out (fun h => h)); clear f3
  obtain ⟨c, is, hce, hcm, hcs⟩ := chg_form ((l.take J).reverse.find? fun y => !y.o)
  rw [hce]
  have hcg : c.Good w3 ∧ ∀ k, BlC c k → k ≠ b := by
    rcases hcs with ⟨_, rfl⟩ | hcs
    · exact ⟨⟨⟨rfl, .inl ⟨none, rfl, rfl⟩⟩, ⟨rfl, .inl ⟨none, rfl, rfl⟩⟩, by simp, by simp⟩, fun k hk => by rcases hk with hk | hk <;> simp [Value.ownBlock] at hk⟩
    · have hm : c ∈ l := List.mem_of_mem_take (List.mem_reverse.1 (List.mem_of_find?_eq_some hcs))
      exact ⟨(HB.out.kept0 F3.out).good c hm, fun k hk => HBF.out k (.inr (.inr (.inr (.inl ⟨c, hm, hk⟩))))⟩
  obtain ⟨hcg, hcb⟩ := hcg
  obtain ⟨cA, cAc, hcA, _, _⟩ := hcg.F.form
  obtain ⟨cB, cBc, hcB, _, _⟩ := hcg.T.form
  have hcg2 : SpV.Good w3 ⟨.slice cA c.f.length cAc, .slice cB c.t.length cBc, c.f, c.t, c.o⟩ := ⟨hcA ▸ hcg.F, hcB ▸ hcg.T, hcg.lf, hcg.lt⟩
  have hcb2 : ∀ k, BlC ⟨.slice cA c.f.length cAc, .slice cB c.t.length cBc, c.f, c.t, c.o⟩ k → k ≠ b := fun k hk => hcb k (by unfold BlC at hk ⊢; rw [hcA, hcB]; exact hk)
  rw [hcA, hcB]
  have HCG := Lib.hid hcg2; have HCB := Lib.hid hcb2; have HCM := Lib.hid hcm
  clear hcg hcb hcA hcB hcg2 hcb2 hce hcs hcm
  go_wp2_with fail
  have hal := (Fr.refl no w3).alloc (.cells #[.slice cA c.f.length cAc, .slice cB c.t.length cBc, .bool c.o] 36)
  generalize w3.alloc (.cells #[.slice cA c.f.length cAc, .slice cB c.t.length cBc, .bool c.o] 36) = w4 at hal ⊢
  have HAL := Lib.hid hal; clear hal
  have F4 := Lib.hid (F3.out.trans HAL.out (fun _ _ h => h)); have HN := Lib.hid (HAL.out.heap HN.out (fun h => h))
  have GL4 := Lib.hid (Array.getElem?_eq_some_iff.1 HN.out).1
  refine (thrp_any w4 p lv uv l us b blv bl n ⟨.slice cA c.f.length cAc, .slice cB c.t.length cBc, c.f, c.t, c.o⟩ is F f i (HB.out.kept0 F4.out) hl HBF.out (HBEL.out.kept0 F4.out) hn (HCG.out.kept0 HAL.out) HCB.out (HF.out.kept0 F4.out) HFB.out).mono ?_
  rintro e w5 ⟨he, hbe, hfr⟩
  have hsee : seeP l bl n f i = thr l (if is then some (c.f, c.t) else none) (fun x y => decide (0 < cb x y)) (askP bl) n f i := by unfold seeP putP; rw [HJ.out]; rw [← HCM.out]
  simp only at he hbe
  generalize thr l (if is then some (c.f, c.t) else none) (fun x y => decide (0 < cb x y)) (askP bl) n f i = R at he hbe hsee
  obtain ⟨m, r⟩ := R
  have HSEE := Lib.hid hsee
  simp only at he hbe
  have HBE := Lib.hid hbe; have HFR := Lib.hid hfr
  have hgb : ¬ g = b := by have := HG.out; have := (Array.getElem?_eq_some_iff.1 HBEL.out.at_).1; omega
  have HN := Lib.hid (hfr.heap HN.out hgb)
  have HGB := Lib.hid hgb
  clear hbe hfr hsee hgb
  obtain ⟨c0, c1, hz, hlt⟩ := two_cells HN.out
  have fin : ∀ (w6 : World), Fr (fun k => k = g) w5 w6 → Bel w6 b blv bl m ∧ Fr (fun k => k = b) w w6 := fun w6 fs => by
    have tot : Fr (fun k => k = b) w w6 := ((F4.out.mono (fun _ _ h => h.elim)).trans HFR.out (fun _ _ h => h)).trans fs (fun k hk e => by have := HG.out; omega)
    exact ⟨HBEL.out.upd tot (fs.heap HBE.out.at_ (fun e => HGB.out e.symm)), tot⟩
  have FIN := Lib.hid fin; clear fin
  rcases r with _ | _ | ⟨kk, vv⟩
  · obtain rfl := he
    go_wp2
    have hg3 := set2_row (a := .slice none 0 0) (b := .slice none 0 0) HN.out
    have fs := set2_fr w5 g (.slice none 0 0) (.slice none 0 0)
    rw [show (w5.setCell ⟨g, 0, none⟩ (.slice none 0 0)).setCell ⟨g, 1, none⟩ (.slice none 0 0) = set2 w5 g (.slice none 0 0) (.slice none 0 0) from rfl]
    generalize set2 w5 g (.slice none 0 0) (.slice none 0 0) = w6 at hg3 fs ⊢
    refine bodyPost_ret (results_cell_row3 rfl _ _ g _ #[.slice none 0 0, .slice none 0 0] (0, 0) _ rfl hg3 Try.underlying40 rfl (by kernel_rfl)) rfl ?_
    rw [HSEE.out]
    exact ⟨rfl, FIN.out w6 fs⟩
  · obtain rfl := he
    go_wp2
    have hg3 := set2_row (a := .slice none 0 0) (b := .slice none 0 0) HN.out
    have fs := set2_fr w5 g (.slice none 0 0) (.slice none 0 0)
    rw [show (w5.setCell ⟨g, 0, none⟩ (.slice none 0 0)).setCell ⟨g, 1, none⟩ (.slice none 0 0) = set2 w5 g (.slice none 0 0) (.slice none 0 0) from rfl]
    generalize set2 w5 g (.slice none 0 0) (.slice none 0 0) = w6 at hg3 fs ⊢
    refine bodyPost_ret (results_cell_row3 rfl _ _ g _ #[.slice none 0 0, .slice none 0 0] (0, 0) _ rfl hg3 Try.underlying40 rfl (by kernel_rfl)) rfl ?_
    rw [HSEE.out]
    exact ⟨rfl, FIN.out w6 fs⟩
  · obtain ⟨A5, A6, rfl, o1, o2, nw, ne⟩ := he
    have O1 := Lib.hid o1; have O2 := Lib.hid o2; have NW := Lib.hid nw; have NE := Lib.hid ne; clear o1 o2 nw ne
    go_wp2
    have hg3 := set2_row (a := .slice A5 kk.length kk.length) (b := .slice A6 vv.length vv.length) HN.out
    have fs := set2_fr w5 g (.slice A5 kk.length kk.length) (.slice A6 vv.length vv.length)
    rw [show (w5.setCell ⟨g, 0, none⟩ (.slice A5 kk.length kk.length)).setCell ⟨g, 1, none⟩ (.slice A6 vv.length vv.length) = set2 w5 g (.slice A5 kk.length kk.length) (.slice A6 vv.length vv.length) from rfl]
    generalize set2 w5 g (.slice A5 kk.length kk.length) (.slice A6 vv.length vv.length) = w6 at hg3 fs ⊢
    refine bodyPost_ret (results_cell_row3 rfl _ _ g _ #[.slice A5 kk.length kk.length, .slice A6 vv.length vv.length] (0, 0) _ rfl hg3 Try.underlying40 rfl (by kernel_rfl)) rfl ?_
    have hg4 := HG.out
    have s4 := F4.out.size; have s0 := F1.out.size
    have hgl := GL4.out
    rw [HSEE.out]
    refine ⟨⟨A5, A6, rfl, O1.out.kept fs (fun k hk e => by have := NW.out k (.inl hk); have e2 : k = g := e; omega), O2.out.kept fs (fun k hk e => by have := NW.out k (.inr hk); have e2 : k = g := e; omega), fun k hk => by have := NW.out k hk; omega, NE.out⟩, FIN.out w6 fs⟩
end Go.Proofs.Ytdnohhlgaaihmaa
