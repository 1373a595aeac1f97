/- codicilref17.Set: Key, Span. -/
import Derived.Test.YtdnohhlgaaihmaaSpanD
namespace Go.Proofs.Ytdnohhlgaaihmaa
open Go.RowKit

theorem less_cb (l k : List UInt8) : Op.bytesLess l k = decide (cb l k < 0) := by
  unfold cb
  induction l generalizing k with
  | nil => cases k <;> simp [Op.bytesLess, Lib.compareBytes]
  | cons a l ih =>
    cases k with
    | nil => simp [Op.bytesLess, Lib.compareBytes]
    | cons b k =>
      simp only [Op.bytesLess, Lib.compareBytes, ih]
      by_cases h1 : a < b
      · simp [h1]
      · by_cases h2 : b < a
        · have h3 : a ≠ b := fun e => by subst e; exact h1 h2
          simp [h1, h2, h3]
        · have h3 : a = b := UInt8.le_antisymm (UInt8.not_lt.1 h2) (UInt8.not_lt.1 h1)
          subst h3
          simp [h1]
theorem leq_cb (l k : List UInt8) : (Op.bytesLess l k || l == k) = decide (cb l k ≤ 0) := by
  rw [less_cb]
  have := cb_range l k
  by_cases h : l = k
  · subst h; simp [cb_self]
  · have h2 : cb l k ≠ 0 := fun e => h (cb_eq e)
    have h3 : (l == k) = false := by simpa using h
    rw [h3, Bool.or_false, decide_eq_decide]
    omega

@[go_sem] theorem strs_leq (t : TypeId) (l k : List UInt8) : binOp .leq t (.string ⟨l.toArray⟩) (.string ⟨k.toArray⟩) = pure (.bool (decide (cb l k ≤ 0))) := by
  simp only [binOp, Op.stringOp, ByteArray.toList_mk, leq_cb]
@[go_sem] theorem strs_gtr (t : TypeId) (l k : List UInt8) : binOp .gtr t (.string ⟨l.toArray⟩) (.string ⟨k.toArray⟩) = pure (.bool !(decide (cb l k ≤ 0))) := by
  simp only [binOp, Op.stringOp, ByteArray.toList_mk, leq_cb]
@[go_sem] theorem strs_geq (t : TypeId) (l k : List UInt8) : binOp .geq t (.string ⟨l.toArray⟩) (.string ⟨k.toArray⟩) = pure (.bool !(decide (cb l k < 0))) := by
  simp only [binOp, Op.stringOp, ByteArray.toList_mk, less_cb]
@[go_sem] theorem strs_lss (t : TypeId) (l k : List UInt8) : binOp .lss t (.string ⟨l.toArray⟩) (.string ⟨k.toArray⟩) = pure (.bool (decide (cb l k < 0))) := by
  simp only [binOp, Op.stringOp, ByteArray.toList_mk, less_cb]

/-- The document's set. -/
structure Rf (w : World) (p : Nat) (sv : Value) (l : List SpV) : Prop where
  at_ : w.heap[p]? = some (.cells #[sv] 156 (0, 0))
  row : Ow w 100 3 sv l.length (l.flatMap SpV.cells)
  good : ∀ x ∈ l, x.Good w
  ne : sv.ownBlock ≠ some p
  apart : ∀ x ∈ l, ∀ k, x.F.ownBlock = some k ∨ x.T.ownBlock = some k → k ≠ p ∧ sv.ownBlock ≠ some k ∧ k < w.heap.size
theorem Rf.kept {w w1 : World} {p : Nat} {sv : Value} {l : List SpV} {S : Nat → Prop} (h : Rf w p sv l) (f : Fr S w w1) (hn : Dj (SeF p sv l) S) : Rf w1 p sv l :=
  ⟨f.heap h.at_ (hn p (.inl rfl)), h.row.kept f (fun k hk => hn k (.inr (.inl hk))), fun x hx => (h.good x hx).kept f (fun k hk => hn k (.inr (.inr ⟨x, hx, .inl hk⟩))) (fun k hk => hn k (.inr (.inr ⟨x, hx, .inr hk⟩))), h.ne, fun x hx k hk => by obtain ⟨h1, h2, h3⟩ := h.apart x hx k hk; exact ⟨h1, h2, Nat.lt_of_lt_of_le h3 f.size⟩⟩
theorem Rf.kept0 {w w1 : World} {p : Nat} {sv : Value} {l : List SpV} (h : Rf w p sv l) (f : Fr no w w1) : Rf w1 p sv l := h.kept f (fun _ _ h => h)

/-- What the document's Key and Span leave. -/
def Refd (w w' : World) (p : Nat) (sv : Value) (l : List SpV) (x : SpV) (e : Ending) : Prop :=
  e = .returned (.tuple #[]) ∧ ∃ sv' l' F T, Rf w' p sv' l' ∧ (l' = l ∧ x.o = false ∧ cb x.t x.f ≤ 0 ∨ (x.o = true ∨ 0 < cb x.t x.f) ∧ l' = l ++ [⟨F, T, x.f, if x.o then [] else x.t, x.o⟩]) ∧
    Fr (fun k => k = p ∨ sv.ownBlock = some k) w w' ∧ ∀ k, SeF p sv' l' k → SeF p sv l k ∨ (w.heap.size ≤ k ∧ k < w'.heap.size)

theorem ref_fin {w W w10 : World} {p : Nat} {rv : Value} {rl : List SpV} {x : SpV} {A' : Option Addr} {N c' : Nat} (hN : N = rl.length + 1) (hs : Rf w p rv rl) (f0 : Fr no w W) (hx : x.Good W)
    (hnew : ∀ k, Bl x k → w.heap.size ≤ k ∧ k < W.heap.size) (ho : Ow w10 100 3 (.slice A' N c') N (rl.flatMap SpV.cells ++ x.cells))
    (f : Fr (fun k => rv.ownBlock = some k) W w10) (mv : Moved W w10 rv (.slice A' N c')) :
    Rf (w10.setCell ⟨p, 0, none⟩ (.slice A' N c')) p (.slice A' N c') (rl ++ [x]) ∧ Fr (fun k => k = p ∨ rv.ownBlock = some k) w (w10.setCell ⟨p, 0, none⟩ (.slice A' N c')) ∧
      ∀ k, SeF p (.slice A' N c') (rl ++ [x]) k → SeF p rv rl k ∨ (w.heap.size ≤ k ∧ k < (w10.setCell ⟨p, 0, none⟩ (.slice A' N c')).heap.size) := by
  have hpl := (one_cells hs.at_).2.2
  have hsz0 := f0.size
  have hsz1 := f.size
  have hs2 := hs.kept0 f0
  have hp2 := (one_cells hs2.at_).2.2
  have hne : (Value.slice A' N c').ownBlock ≠ some p := mv.not hp2 hs.ne
  have hbl : ∀ y ∈ rl ++ [x], ∀ k, y.F.ownBlock = some k ∨ y.T.ownBlock = some k → k ≠ p ∧ rv.ownBlock ≠ some k ∧ k < W.heap.size ∧ (SeF p rv rl k ∨ w.heap.size ≤ k) := fun y hy k hk => by
    rcases List.mem_append.1 hy with hy | hy
    · obtain ⟨h1, h2, h3⟩ := hs.apart y hy k hk
      exact ⟨h1, h2, by omega, .inl (.inr (.inr ⟨y, hy, hk⟩))⟩
    · cases List.mem_singleton.1 hy
      obtain ⟨h1, h2⟩ := hnew k hk
      exact ⟨by omega, fun e => by have := hs.row.lt k e; omega, h2, .inr h1⟩
  have fs : Fr (fun k => k = p ∨ rv.ownBlock = some k) W (w10.setCell ⟨p, 0, none⟩ (.slice A' N c')) := (f.mono (fun _ _ h => .inr h)).setCell _ _ (fun _ => .inl rfl)
  refine ⟨⟨?_, ?_, fun y hy => ?_, hne, fun y hy k hk => ?_⟩, ?_, fun k hk => ?_⟩
  · rw [hp_same (f.heap hs2.at_ hs.ne)]; simp
  · rw [List.length_append, List.length_singleton, ← hN, List.flatMap_append, show [x].flatMap SpV.cells = x.cells by simp]
    exact ho.kept (S := At p) ((Fr.refl (At p) w10).setAt _ _) (fun k hk e => hne (by rw [hk]; exact congrArg some e))
  · have hg : y.Good W := by
      rcases List.mem_append.1 hy with hy | hy
      · exact hs2.good y hy
      · cases List.mem_singleton.1 hy; exact hx
    exact hg.kept fs (fun k hk e => by obtain ⟨h1, h2, _⟩ := hbl y hy k (.inl hk); rcases e with e | e; exact h1 e; exact h2 e) (fun k hk e => by obtain ⟨h1, h2, _⟩ := hbl y hy k (.inr hk); rcases e with e | e; exact h1 e; exact h2 e)
  · obtain ⟨h1, h2, h3, _⟩ := hbl y hy k hk
    exact ⟨h1, mv.not h3 h2, by simp [World.setCell]; omega⟩
  · exact fr_sooner f0 fs
  · rcases hk with hk | hk | ⟨y, hy, hk⟩
    · exact .inl (.inl hk)
    · rcases mv.blk k hk with h | h
      · exact .inl (.inr (.inl h))
      · right; simp [World.setCell]; omega
    · obtain ⟨_, _, h3, h4⟩ := hbl y hy k hk
      rcases h4 with h4 | h4
      · exact .inl h4
      · right; simp [World.setCell]; omega

theorem ow_nil (w : World) (e : TypeId) (sz : Nat) : Ow w e sz (.slice none 0 0) 0 [] := ⟨by simp, .inl ⟨rfl, rfl⟩⟩

/-- A row appended to nil is a new one. -/
theorem nil_new {w w1 : World} {A : Option Addr} {N c n : Nat} (h : Stays w w1 (.slice none 0 0) (.slice A N c) n N) : ∀ k, (Value.slice A N c).ownBlock = some k → w.heap.size ≤ k ∧ k < w1.heap.size := fun k hk => by
  rcases stays_moved h with e | e
  · rw [e] at hk; simp [Value.ownBlock] at hk
  · exact e k hk

theorem own_new {w w1 w2 : World} {A B : Option Addr} {N M c d n : Nat} (h : ∀ k, (Value.slice A N c).ownBlock = some k → w.heap.size ≤ k) (hs : w.heap.size ≤ w1.heap.size) (m : Stays w1 w2 (.slice A N c) (.slice B M d) n M) : ∀ k, (Value.slice B M d).ownBlock = some k → w.heap.size ≤ k := fun k hk => by
  rcases stays_moved m with e | e
  · exact h k (e ▸ hk)
  · have := (e k hk).1; omega

theorem fr_nil {w w1 : World} (f : Fr (fun k => (Value.slice none 0 0).ownBlock = some k) w w1) : Fr no w w1 := f.mono (fun k _ h => by simp [Value.ownBlock] at h)

set_option maxRecDepth 100000 in
set_option maxHeartbeats 4000000 in
theorem rkey_any (w : World) (p : Nat) (sv K : Value) (l : List SpV) (k : List UInt8) (hs : Rf w p sv l) (hK : Sl w 1 K k.length (bvs k)) (hk : k.length ≤ 100000000) (hl : l.length ≤ 100000) :
    Calls Try.prog 106 #[.pointer (some ⟨p, 0, none⟩), K] w fun e w' => Refd w w' p sv l ⟨K, K, k, k ++ [0], false⟩ e := by
  obtain ⟨A, c, rfl, _, _⟩ := hK.form
  obtain ⟨rA, rc, rfl, _, _⟩ := hs.row.form
  have HS := Lib.hid hs; have HK := Lib.hid hK; clear hs hK
  go_enter Try.func106, Try.ntmps106
  go_wp2_with (at_builtin; refine wpList_apo rfl (.tmp 6) (.tmp 7) 34 rfl tbB (ow_nil w _ 1) HK.out rfl rfl (bvs_one _) ?b1 ?b2 ?go)
  case b1 => simp [maxLen]; omega
  case b2 => omega
  case go =>
    intro B1 N1 d1 w1 hN ho _ hf hst
    obtain rfl : N1 = k.length := by omega
    have H1 := Lib.hid ho; have F1 := Lib.hid (fr_nil hf); have M1 := Lib.hid (nil_new hst); clear ho hf hst hN
    go_wp2_with (at_builtin; refine wpList_apo rfl (.tmp 9) (.tmp 10) 34 rfl tbB (ow_nil w1 _ 1) (HK.out.kept0 F1.out) rfl rfl (bvs_one _) ?c1 ?c2 ?go2)
    case c1 => simp [maxLen]; omega
    case c2 => omega
    case go2 =>
      intro B2 N2 d2 w2 hN ho _ hf hst
      obtain rfl : N2 = k.length := by omega
      have H2 := Lib.hid ho; have F2 := Lib.hid (fr_nil hf); have M2 := Lib.hid (nil_new hst); clear ho hf hst hN
      go_wp2_with (at_builtin; refine wpList_apo rfl (.tmp 12) (.tmp 13) 34 rfl tbB (H2.out.kept0 ((Fr.refl no w2).alloc _)) (Sl.fresh w2 [0] 5 (by rfl) (by simp [maxLen])) rfl rfl (bvs_one _) ?e1 ?e2 ?go3)
      case e1 => simp [maxLen]; omega
      case e2 => simp; omega
      case go3 =>
        intro B3 N3 d3 w3 hN ho _ hf hst
        have hN : N3 = k.length + 1 := by simpa using hN
        subst hN
        have H3 := Lib.hid ho; have M3 := Lib.hid (own_new (fun k hk => (M2.out k hk).1) (by have := F2.out.size; simp; omega) hst)
        have F3 := Lib.hid (show Fr no w1 w3 from (F2.out.trans ((Fr.refl no w2).alloc _) (fun _ _ h => h)).trans hf (fun k hk h => by have := (M2.out k h).1; omega))
        clear ho hf hst
        have HS3 := Lib.hid ((HS.out.kept0 F1.out).kept0 F3.out)
        obtain ⟨e0, e1, e2⟩ := one_cells HS3.out.at_
        have hfa := (Fr.refl no w3).alloc (.cells #[.slice B1 k.length d1, .slice B3 (k.length + 1) d3, .bool false] 100)
        have HX := Lib.hid (one_span (heap_alloc_new w3 _ : Has (w3.alloc (.cells #[.slice B1 k.length d1, .slice B3 (k.length + 1) d3, .bool false] 100)) w3.heap.size 100 [.slice B1 k.length d1, .slice B3 (k.length + 1) d3, .bool false]) rfl)
        have HFA := Lib.hid hfa; clear hfa
        go_wp2_with (at_builtin; refine wpList_apo rfl (.tmp 19) (.tmp 23) 90 rfl tbSpan (HS3.out.row.kept0 HFA.out) HX.out rfl rfl ?g0 ?g1 ?g2 ?go4)
        case g0 => exact ⟨rfl, rfl, rfl⟩
        case g1 => simp only [maxLen]; omega
        case g2 => omega
        case go4 =>
          intro B N d w4 hN ho _ hf hst
          subst hN
          have fin := ref_fin (x := ⟨.slice B1 k.length d1, .slice B3 (k.length + 1) d3, k, k ++ [0], false⟩) rfl HS.out ((F1.out.trans F3.out (fun _ _ h => h)).trans HFA.out (fun _ _ h => h))
            ⟨((H1.out.kept0 F3.out).kept0 HFA.out).sl, by have := (H3.out.kept0 HFA.out).sl; rw [← bvs_append] at this; simpa using this, by simp only []; omega, by simp; omega⟩
            (fun j hj => hj.elim (fun h => by have := M1.out j h; have := F3.out.size; simp; omega) (fun h => by have := M3.out j h; have := H3.out.lt j h; have := F1.out.size; simp; omega)) ho hf (stays_moved hst)
          have c0 := hf.cell (a := ⟨p, 0, none⟩) (((HFA.out).cell e0 (fun h => h))) HS.out.ne
          have c1 := (hf.frozen (a := ⟨p, 0, none⟩) (by simp; omega) HS.out.ne).trans ((HFA.out.frozen (a := ⟨p, 0, none⟩) e2 (fun h => h)).trans (e1 0))
          have HFIN := Lib.hid fin; clear fin ho hf hst
          go_wp2
          refine bodyPost_end (results_none rfl _ _ _) rfl ?_
          exact ⟨rfl, _, _, _, _, HFIN.out.1, .inr ⟨.inr (by simp [cb_zero]), rfl⟩, HFIN.out.2.1, HFIN.out.2.2⟩
end Go.Proofs.Ytdnohhlgaaihmaa
