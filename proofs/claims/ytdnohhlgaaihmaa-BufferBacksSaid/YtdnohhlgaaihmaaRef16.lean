/- codicilref16: the document's buffer: Put, Delete. -/
import Derived.Test.YtdnohhlgaaihmaaBuf13
namespace Go.Proofs.Ytdnohhlgaaihmaa
open Go.RowKit

def SeF (p : Nat) (sv : Value) (l : List SpV) : Nat → Prop := fun k => k = p ∨ sv.ownBlock = some k ∨ ∃ x ∈ l, x.F.ownBlock = some k ∨ x.T.ownBlock = some k

/-- The document's buffer: all that was said, in order. -/
structure Rf (w : World) (p : Nat) (sv : Value) (l : List SpV) : Prop where
  at_ : w.heap[p]? = some (.cells #[sv] 32 (0, 0))
  row : Ow w 36 3 sv l.length (l.flatMap SpV.cells)
  good : ∀ x ∈ l, x.Good w
  ne : sv.ownBlock ≠ some p
  apart : ∀ x ∈ l, ∀ k, x.F.ownBlock = some k ∨ x.T.ownBlock = some k → k ≠ p ∧ sv.ownBlock ≠ some k ∧ k < w.heap.size
theorem Rf.kept {w w1 : World} {p : Nat} {sv : Value} {l : List SpV} {S : Nat → Prop} (h : Rf w p sv l) (f : Fr S w w1) (hn : Dj (SeF p sv l) S) : Rf w1 p sv l :=
  ⟨f.heap h.at_ (hn p (.inl rfl)), h.row.kept f (fun k hk => hn k (.inr (.inl hk))), fun x hx => (h.good x hx).kept f (fun k hk => hn k (.inr (.inr ⟨x, hx, .inl hk⟩))) (fun k hk => hn k (.inr (.inr ⟨x, hx, .inr hk⟩))), h.ne, fun x hx k hk => by obtain ⟨h1, h2, h3⟩ := h.apart x hx k hk; exact ⟨h1, h2, Nat.lt_of_lt_of_le h3 f.size⟩⟩
theorem Rf.kept0 {w w1 : World} {p : Nat} {sv : Value} {l : List SpV} (h : Rf w p sv l) (f : Fr no w w1) : Rf w1 p sv l := h.kept f (fun _ _ h => h)

theorem ref_fin {w W w10 : World} {p : Nat} {rv : Value} {rl : List SpV} {x : SpV} {A' : Option Addr} {N c' : Nat} (hN : N = rl.length + 1) (hs : Rf w p rv rl) (f0 : Fr no w W) (hx : x.Good W)
    (hnew : ∀ k, BlC x k → w.heap.size ≤ k ∧ k < W.heap.size) (ho : Ow w10 36 3 (.slice A' N c') N (rl.flatMap SpV.cells ++ x.cells))
    (f : Fr (fun k => rv.ownBlock = some k) W w10) (mv : Moved W w10 rv (.slice A' N c')) :
    Rf (w10.setCell ⟨p, 0, none⟩ (.slice A' N c')) p (.slice A' N c') (rl ++ [x]) ∧ Fr (fun k => k = p ∨ rv.ownBlock = some k) w (w10.setCell ⟨p, 0, none⟩ (.slice A' N c')) ∧
      ∀ k, SeF p (.slice A' N c') (rl ++ [x]) k → SeF p rv rl k ∨ (w.heap.size ≤ k ∧ k < (w10.setCell ⟨p, 0, none⟩ (.slice A' N c')).heap.size) := by
  have hpl := (one_cells hs.at_).2.2
  have hsz0 := f0.size
  have hsz1 := f.size
  have hs2 := hs.kept0 f0
  have hp2 := (one_cells hs2.at_).2.2
  have hne : (Value.slice A' N c').ownBlock ≠ some p := mv.not hp2 hs.ne
  have hbl : ∀ y ∈ rl ++ [x], ∀ k, y.F.ownBlock = some k ∨ y.T.ownBlock = some k → k ≠ p ∧ rv.ownBlock ≠ some k ∧ k < W.heap.size ∧ (SeF p rv rl k ∨ w.heap.size ≤ k) := fun y hy k hk => by
    rcases List.mem_append.1 hy with hy | hy
    · obtain ⟨h1, h2, h3⟩ := hs.apart y hy k hk
      exact ⟨h1, h2, by omega, .inl (.inr (.inr ⟨y, hy, hk⟩))⟩
    · cases List.mem_singleton.1 hy
      obtain ⟨h1, h2⟩ := hnew k hk
      exact ⟨by omega, fun e => by have := hs.row.lt k e; omega, h2, .inr h1⟩
  have fs : Fr (fun k => k = p ∨ rv.ownBlock = some k) W (w10.setCell ⟨p, 0, none⟩ (.slice A' N c')) := (f.mono (fun _ _ h => .inr h)).setCell _ _ (fun _ => .inl rfl)
  refine ⟨⟨?_, ?_, fun y hy => ?_, hne, fun y hy k hk => ?_⟩, ?_, fun k hk => ?_⟩
  · rw [hp_same (f.heap hs2.at_ hs.ne)]; simp
  · rw [List.length_append, List.length_singleton, ← hN, List.flatMap_append, show [x].flatMap SpV.cells = x.cells by simp]
    exact ho.kept (S := At p) ((Fr.refl (At p) w10).setAt _ _) (fun k hk e => hne (by rw [hk]; exact congrArg some e))
  · have hg : y.Good W := by
      rcases List.mem_append.1 hy with hy | hy
      · exact hs2.good y hy
      · cases List.mem_singleton.1 hy; exact hx
    exact hg.kept fs (fun k hk e => by obtain ⟨h1, h2, _⟩ := hbl y hy k (.inl hk); rcases e with e | e; exact h1 e; exact h2 e) (fun k hk e => by obtain ⟨h1, h2, _⟩ := hbl y hy k (.inr hk); rcases e with e | e; exact h1 e; exact h2 e)
  · obtain ⟨h1, h2, h3, _⟩ := hbl y hy k hk
    exact ⟨h1, mv.not h3 h2, by simp [World.setCell]; omega⟩
  · exact fr_sooner f0 fs
  · rcases hk with hk | hk | ⟨y, hy, hk⟩
    · exact .inl (.inl hk)
    · rcases mv.blk k hk with h | h
      · exact .inl (.inr (.inl h))
      · right; simp [World.setCell]; omega
    · obtain ⟨_, _, h3, h4⟩ := hbl y hy k hk
      rcases h4 with h4 | h4
      · exact .inl h4
      · right; simp [World.setCell]; omega

theorem ow_nil (w : World) (e : TypeId) (sz : Nat) : Ow w e sz (.slice none 0 0) 0 [] := ⟨by simp, .inl ⟨rfl, rfl⟩⟩

/-- A row appended to nil is a new one. -/
theorem nil_new {w w1 : World} {A : Option Addr} {N c n : Nat} (h : Stays w w1 (.slice none 0 0) (.slice A N c) n N) : ∀ k, (Value.slice A N c).ownBlock = some k → w.heap.size ≤ k ∧ k < w1.heap.size := fun k hk => by
  rcases stays_moved h with e | e
  · rw [e] at hk; simp [Value.ownBlock] at hk
  · exact e k hk

theorem own_new {w w1 w2 : World} {A B : Option Addr} {N M c d n : Nat} (h : ∀ k, (Value.slice A N c).ownBlock = some k → w.heap.size ≤ k) (hs : w.heap.size ≤ w1.heap.size) (m : Stays w1 w2 (.slice A N c) (.slice B M d) n M) : ∀ k, (Value.slice B M d).ownBlock = some k → w.heap.size ≤ k := fun k hk => by
  rcases stays_moved m with e | e
  · exact h k (e ▸ hk)
  · have := (e k hk).1; omega

theorem fr_nil {w w1 : World} (f : Fr (fun k => (Value.slice none 0 0).ownBlock = some k) w w1) : Fr no w w1 := f.mono (fun k _ h => by simp [Value.ownBlock] at h)


set_option maxRecDepth 100000 in
set_option maxHeartbeats 400000 in
theorem rcopied_any (w : World) (x : Value) (l : List UInt8) (hx : Sl w 1 x l.length (bvs l)) (hl : l.length ≤ 140737488351232) :
    Calls Try.prog 57 #[x] w fun e w' => ∃ A c, e = .returned (.slice A l.length c) ∧ Ow w' 5 1 (.slice A l.length c) l.length (bvs l) ∧ (∀ k, (Value.slice A l.length c).ownBlock = some k → w.heap.size ≤ k) ∧ Fr no w w' := by
  obtain ⟨A, c, rfl, _, _⟩ := hx.form
  have HX := Lib.hid hx; clear hx
  go_enter Try.func57, Try.ntmps57
  go_wp2_with (at_builtin; refine wpList_apo rfl (.tmp 4) (.tmp 5) 34 rfl tbB (ow_nil w _ 1) HX.out rfl rfl (bvs_one _) ?b1 ?b2 ?go)
  case b1 => simp [maxLen]; omega
  case b2 => omega
  case go =>
    intro B1 N1 d1 w1 hN ho _ hf hst
    obtain rfl : N1 = l.length := by omega
    have H1 := Lib.hid ho; have F1 := Lib.hid (fr_nil hf); have M1 := Lib.hid (nil_new hst); clear ho hf hst hN
    go_wp2
    go_ret
    exact ⟨B1, d1, rfl, by simpa using H1.out, fun k hk => (M1.out k hk).1, F1.out⟩

/-- What Put and Delete leave. -/
def Rsaid (w w' : World) (p : Nat) (sv : Value) (l : List SpV) (k v : List UInt8) (o : Bool) (e : Ending) : Prop :=
  e = .returned (.tuple #[]) ∧ ∃ sv' F T, Rf w' p sv' (l ++ [⟨F, T, k, v, o⟩]) ∧ Fr (fun k => k = p ∨ sv.ownBlock = some k) w w' ∧ ∀ j, SeF p sv' (l ++ [⟨F, T, k, v, o⟩]) j → SeF p sv l j ∨ (w.heap.size ≤ j ∧ j < w'.heap.size)

set_option maxRecDepth 100000 in
set_option maxHeartbeats 4000000 in
theorem rput_any (w : World) (p : Nat) (sv K V : Value) (l : List SpV) (k v : List UInt8) (hs : Rf w p sv l) (hK : Sl w 1 K k.length (bvs k)) (hV : Sl w 1 V v.length (bvs v)) (hk : k.length ≤ 140737488351232) (hv : v.length ≤ 140737488351232) (hl : l.length ≤ 100000) :
    Calls Try.prog 18 #[.pointer (some ⟨p, 0, none⟩), K, V] w fun e w' => Rsaid w w' p sv l k v false e := by
  obtain ⟨A, c, rfl, _, _⟩ := hK.form
  obtain ⟨B, d, rfl, _, _⟩ := hV.form
  obtain ⟨rA, rc, rfl, _, _⟩ := hs.row.form
  obtain ⟨e0, e1, e2⟩ := one_cells hs.at_
  have HS := Lib.hid hs; have HK := Lib.hid hK; have HV := Lib.hid hV; clear hs hK hV
  go_enter Try.func18, Try.ntmps18
  refine wp_region_ord [0, 1, 2, 3, 4, 5, 7, 6, 8, 9, 10, 11, 12, 13, 14] (fun i => [Kd.p, Kd.p, Kd.p, Kd.p, Kd.l, Kd.p, Kd.g, Kd.p, Kd.g, Kd.g, Kd.g, Kd.e, Kd.p, Kd.p, Kd.e].getD i .e) (by kernel_rfl) (by kernel_rfl) ?_
  iterate 7
    first | refine wpX_pu rfl rfl rfl (by first | exact pu_move rfl | exact pu_assign rfl | exact pu_nilCheck rfl rfl | exact pu_binInt rfl rfl rfl | exact pu_conv rfl rfl (by kernel_rfl) | exact pu_fld rfl (by kernel_rfl) | exact pu_ix rfl rfl rfl (by kernel_rfl) | exact pu_unOp rfl | exact pu_binStr rfl rfl rfl | exact pu_len rfl rfl | exact pu_lens rfl rfl | exact pu_pick rfl | exact pu_slice rfl rfl) (fun K hK => ?_) | refine wpX_rd rfl rfl rfl (rd_load rfl) (fun K hK => ?_) | refine wpX_gr rfl rfl rfl (by first | exact gr_buildSlice rfl | exact gr_box rfl | exact gr_alloc rfl) (fun K hK => ?_) | refine wpX_ex rfl rfl rfl (fun K hK => ?_)
    try go_wp2
  refine wpX_ca rfl rfl rfl (fun K hK => ?_)
  go_wp2_with fail
  refine (rcopied_any _ _ k (HK.out.kept0 (Fr.drew (Fr.refl no w))) hk).mono ?_
  rintro e w1 ⟨A1, d1, rfl, h1, h2, h3⟩
  have H1 := Lib.hid h1; have H2 := Lib.hid h2; have H3 := Lib.hid h3; clear h1 h2 h3
  go_wp2
  obtain ⟨⟨xa, xb⟩, hext⟩ := H3.out.ext
  refine ⟨⟨xa, xb, hext⟩, hK _ _ ?_⟩
  clear hK K hext xa xb
  refine wpX_ca rfl rfl rfl (fun K hK => ?_)
  go_wp2_with fail
  refine (rcopied_any _ _ v ((HV.out.kept0 (Fr.drew (Fr.refl no w))).kept0 H3.out) hv).mono ?_
  rintro e w2 ⟨A2, d2, rfl, h1, h2, h3⟩
  have G1 := Lib.hid h1; have G2 := Lib.hid h2; have G3 := Lib.hid h3; clear h1 h2 h3
  go_wp2
  obtain ⟨⟨xa, xb⟩, hext⟩ := G3.out.ext
  refine ⟨⟨xa, xb, hext⟩, hK _ _ ?_⟩
  clear hK K hext xa xb
  refine wpX_ca rfl rfl rfl (fun K hK => ?_)
  go_wp2
  refine ⟨⟨#[], _, (World.ext_self _).symm⟩, hK _ _ ?_⟩
  clear hK K
  refine wpX_gr rfl rfl rfl (gr_buildSlice rfl) (fun K hK => ?_)
  go_simp
  refine hK _ _ ?_
  clear hK K
  have hfw : Fr no w w2 := ((Fr.drew (Fr.refl no w)).trans H3.out (fun _ _ h => h)).trans G3.out (fun _ _ h => h)
  have HFW := Lib.hid hfw; clear hfw
  have hal := (Fr.refl no w2).alloc (.cells #[.slice A1 k.length d1, .slice A2 v.length d2, .bool false] 36)
  have hx := one_chg (w := w2.alloc (.cells #[.slice A1 k.length d1, .slice A2 v.length d2, .bool false] 36)) (heap_alloc_new w2 _ : Has _ w2.heap.size 36 [.slice A1 k.length d1, .slice A2 v.length d2, .bool false]) rfl
  have HAL := Lib.hid hal; have HXX := Lib.hid hx; clear hal hx
  refine wpX_ex rfl rfl rfl (fun K hK => ?_)
  refine wp_apo (.tmp 10) (.tmp 16) 30 rfl tbChange ((HS.out.row.kept0 HFW.out).kept0 HAL.out) HXX.out rfl rfl ?g0 ?g1 ?g2 ?go4
  case g0 => intro u hu; simp only [List.mem_cons, List.not_mem_nil, or_false] at hu; rcases hu with rfl | rfl | rfl <;> rfl
  case g1 => simp only [maxLen]; omega
  case g2 => omega
  case go4 =>
    intro B' N' d' w4 hN ho _ hf hst
    subst hN
    have sAL := HAL.out.size
    have fin := ref_fin (x := ⟨.slice A1 k.length d1, .slice A2 v.length d2, k, v, false⟩) rfl HS.out (HFW.out.trans HAL.out (fun _ _ h => h))
      ⟨((H1.out.kept0 G3.out).kept0 HAL.out).sl, (G1.out.kept0 HAL.out).sl, by simp only []; omega, by simp only []; omega⟩
      (fun j hj => hj.elim (fun h => by have h1 := H2.out j h; have h2 := H1.out.lt j h; have h3 := G3.out.size; have h4 : w.drew.heap.size = w.heap.size := rfl; omega) (fun h => by have h1 := G2.out j h; have h2 := G1.out.lt j h; have h3 := H3.out.size; have h4 : w.drew.heap.size = w.heap.size := rfl; omega)) ho hf (stays_moved hst)
    have c0 := hf.cell (a := ⟨p, 0, none⟩) (HAL.out.cell (HFW.out.cell e0 (fun h => h)) (fun h => h)) HS.out.ne
    have c1 := (hf.frozen (a := ⟨p, 0, none⟩) (by have := HFW.out.size; simp only []; omega) HS.out.ne).trans ((HAL.out.frozen (a := ⟨p, 0, none⟩) (by have := HFW.out.size; simp only []; omega) (fun h => h)).trans ((HFW.out.frozen (a := ⟨p, 0, none⟩) e2 (fun h => h)).trans (e1 0)))
    have HFIN := Lib.hid fin; clear fin ho hf hst
    go_simp
    refine hK _ _ ?_
    clear hK K
    iterate 3
      first | refine wpX_pu rfl rfl rfl (by first | exact pu_move rfl | exact pu_assign rfl | exact pu_nilCheck rfl rfl | exact pu_binInt rfl rfl rfl | exact pu_conv rfl rfl (by kernel_rfl) | exact pu_fld rfl (by kernel_rfl) | exact pu_ix rfl rfl rfl (by kernel_rfl) | exact pu_unOp rfl | exact pu_binStr rfl rfl rfl | exact pu_len rfl rfl | exact pu_lens rfl rfl | exact pu_pick rfl | exact pu_slice rfl rfl) (fun K hK => ?_) | refine wpX_rd rfl rfl rfl (rd_load rfl) (fun K hK => ?_) | refine wpX_gr rfl rfl rfl (by first | exact gr_buildSlice rfl | exact gr_box rfl | exact gr_alloc rfl) (fun K hK => ?_) | refine wpX_ex rfl rfl rfl (fun K hK => ?_)
      try go_wp2
    refine wpX_done ?_
    refine bodyPost_end (results_none rfl _ _ _) rfl ?_
    exact ⟨rfl, _, _, _, HFIN.out.1, HFIN.out.2.1, HFIN.out.2.2⟩

set_option maxRecDepth 100000 in
set_option maxHeartbeats 4000000 in
theorem rdel_any (w : World) (p : Nat) (sv K : Value) (l : List SpV) (k : List UInt8) (hs : Rf w p sv l) (hK : Sl w 1 K k.length (bvs k)) (hk : k.length ≤ 140737488351232) (hl : l.length ≤ 100000) :
    Calls Try.prog 17 #[.pointer (some ⟨p, 0, none⟩), K] w fun e w' => Rsaid w w' p sv l k [] true e := by
  obtain ⟨A, c, rfl, _, _⟩ := hK.form
  obtain ⟨rA, rc, rfl, _, _⟩ := hs.row.form
  obtain ⟨e0, e1, e2⟩ := one_cells hs.at_
  have HS := Lib.hid hs; have HK := Lib.hid hK; clear hs hK
  go_enter Try.func17, Try.ntmps17
  refine wp_region_ord (List.range 13) (fun i => [Kd.p, Kd.p, Kd.p, Kd.p, Kd.l, Kd.p, Kd.g, Kd.g, Kd.g, Kd.e, Kd.p, Kd.p, Kd.e].getD i .e) (by kernel_rfl) (by kernel_rfl) ?_
  iterate 6
    first | refine wpX_pu rfl rfl rfl (by first | exact pu_move rfl | exact pu_assign rfl | exact pu_nilCheck rfl rfl | exact pu_binInt rfl rfl rfl | exact pu_conv rfl rfl (by kernel_rfl) | exact pu_fld rfl (by kernel_rfl) | exact pu_ix rfl rfl rfl (by kernel_rfl) | exact pu_unOp rfl | exact pu_binStr rfl rfl rfl | exact pu_len rfl rfl | exact pu_lens rfl rfl | exact pu_pick rfl | exact pu_slice rfl rfl) (fun K hK => ?_) | refine wpX_rd rfl rfl rfl (rd_load rfl) (fun K hK => ?_) | refine wpX_gr rfl rfl rfl (by first | exact gr_buildSlice rfl | exact gr_box rfl | exact gr_alloc rfl) (fun K hK => ?_) | refine wpX_ex rfl rfl rfl (fun K hK => ?_)
    try go_wp2
  refine wpX_ca rfl rfl rfl (fun K hK => ?_)
  go_wp2_with fail
  refine (rcopied_any _ _ k (HK.out.kept0 (Fr.drew (Fr.refl no w))) hk).mono ?_
  rintro e w1 ⟨A1, d1, rfl, h1, h2, h3⟩
  have H1 := Lib.hid h1; have H2 := Lib.hid h2; have H3 := Lib.hid h3; clear h1 h2 h3
  go_wp2
  obtain ⟨⟨xa, xb⟩, hext⟩ := H3.out.ext
  refine ⟨⟨xa, xb, hext⟩, hK _ _ ?_⟩
  clear hK K hext xa xb
  refine wpX_ca rfl rfl rfl (fun K hK => ?_)
  go_wp2
  refine ⟨⟨#[], _, (World.ext_self _).symm⟩, hK _ _ ?_⟩
  clear hK K
  refine wpX_gr rfl rfl rfl (gr_buildSlice rfl) (fun K hK => ?_)
  go_simp
  refine hK _ _ ?_
  clear hK K
  have hfw : Fr no w w1 := (Fr.drew (Fr.refl no w)).trans H3.out (fun _ _ h => h)
  have HFW := Lib.hid hfw; clear hfw
  have hal := (Fr.refl no w1).alloc (.cells #[.slice A1 k.length d1, .slice none 0 0, .bool true] 36)
  have hx := one_chg (w := w1.alloc (.cells #[.slice A1 k.length d1, .slice none 0 0, .bool true] 36)) (heap_alloc_new w1 _ : Has _ w1.heap.size 36 [.slice A1 k.length d1, .slice none 0 0, .bool true]) rfl
  have HAL := Lib.hid hal; have HXX := Lib.hid hx; clear hal hx
  refine wpX_ex rfl rfl rfl (fun K hK => ?_)
  refine wp_apo (.tmp 8) (.tmp 12) 30 rfl tbChange ((HS.out.row.kept0 HFW.out).kept0 HAL.out) HXX.out rfl rfl ?g0 ?g1 ?g2 ?go4
  case g0 => intro u hu; simp only [List.mem_cons, List.not_mem_nil, or_false] at hu; rcases hu with rfl | rfl | rfl <;> rfl
  case g1 => simp only [maxLen]; omega
  case g2 => omega
  case go4 =>
    intro B' N' d' w4 hN ho _ hf hst
    subst hN
    have sAL := HAL.out.size
    have fin := ref_fin (x := ⟨.slice A1 k.length d1, .slice none 0 0, k, [], true⟩) rfl HS.out (HFW.out.trans HAL.out (fun _ _ h => h))
      ⟨(H1.out.kept0 HAL.out).sl, ⟨rfl, .inl ⟨none, rfl, rfl⟩⟩, by simp only []; omega, by simp⟩
      (fun j hj => hj.elim (fun h => by have h1 := H2.out j h; have h2 := H1.out.lt j h; have h4 : w.drew.heap.size = w.heap.size := rfl; omega) (fun h => by simp [Value.ownBlock] at h)) ho hf (stays_moved hst)
    have c0 := hf.cell (a := ⟨p, 0, none⟩) (HAL.out.cell (HFW.out.cell e0 (fun h => h)) (fun h => h)) HS.out.ne
    have c1 := (hf.frozen (a := ⟨p, 0, none⟩) (by have := HFW.out.size; simp only []; omega) HS.out.ne).trans ((HAL.out.frozen (a := ⟨p, 0, none⟩) (by have := HFW.out.size; simp only []; omega) (fun h => h)).trans ((HFW.out.frozen (a := ⟨p, 0, none⟩) e2 (fun h => h)).trans (e1 0)))
    have HFIN := Lib.hid fin; clear fin ho hf hst
    go_simp
    refine hK _ _ ?_
    clear hK K
    iterate 3
      first | refine wpX_pu rfl rfl rfl (by first | exact pu_move rfl | exact pu_assign rfl | exact pu_nilCheck rfl rfl | exact pu_binInt rfl rfl rfl | exact pu_conv rfl rfl (by kernel_rfl) | exact pu_fld rfl (by kernel_rfl) | exact pu_ix rfl rfl rfl (by kernel_rfl) | exact pu_unOp rfl | exact pu_binStr rfl rfl rfl | exact pu_len rfl rfl | exact pu_lens rfl rfl | exact pu_pick rfl | exact pu_slice rfl rfl) (fun K hK => ?_) | refine wpX_rd rfl rfl rfl (rd_load rfl) (fun K hK => ?_) | refine wpX_gr rfl rfl rfl (by first | exact gr_buildSlice rfl | exact gr_box rfl | exact gr_alloc rfl) (fun K hK => ?_) | refine wpX_ex rfl rfl rfl (fun K hK => ?_)
      try go_wp2
    refine wpX_done ?_
    refine bodyPost_end (results_none rfl _ _ _) rfl ?_
    exact ⟨rfl, _, _, _, HFIN.out.1, HFIN.out.2.1, HFIN.out.2.2⟩
end Go.Proofs.Ytdnohhlgaaihmaa
