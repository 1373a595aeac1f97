/- reads.Set: New, Span, Key. -/
import Derived.Test.YtdnohhlgaaihmaaSpanO
import Derived.Test.YtdnohhlgaaihmaaSpanS
import Derived.Test.YtdnohhlgaaihmaaOwnBy
namespace Go.Proofs.Ytdnohhlgaaihmaa
open Go.RowKit

theorem span_any (w : World) (p : Nat) (sv : Value) (l : List SpV) (x : SpV) (hs : Se w p sv l) (hx : x.Good w) (hl : l.length ≤ 100000) :
    Calls Try.prog 43 #[.pointer (some ⟨p, 0, none⟩), .agg #[x.F, x.T, .bool x.o]] w fun e w' => Spanned w w' p sv l x e := by
  cases ho : x.o with
  | true => rw [← ho]; exact span_open w p sv l x hs hx ho hl
  | false =>
    rw [← ho]
    by_cases hc : 0 < cb x.t x.f
    · exact span_shut w p sv l x hs hx ho hc hl
    · exact span_none w p sv l x hs hx ho (by omega)

set_option maxRecDepth 100000 in
set_option maxHeartbeats 400000 in
theorem rnew_any (w : World) :
    Calls Try.prog 41 #[] w fun e w' => ∃ p, e = .returned (.pointer (some ⟨p, 0, none⟩)) ∧ w.heap.size ≤ p ∧ Se w' p (.slice none 0 0) [] ∧ Fr no w w' := by
  go_enter Try.func41, Try.ntmps41
  go_wp2
  go_ret
  refine ⟨_, rfl, Nat.le_refl _, ⟨heap_alloc_new _ _, ⟨rfl, .inl ⟨rfl, rfl⟩⟩, (fun x hx => nomatch hx), by simp [Value.ownBlock], (fun x hx => nomatch hx)⟩, (Fr.refl no w).alloc _⟩

theorem Spanned.sooner {w w1 w' : World} {p : Nat} {sv : Value} {l : List SpV} {x : SpV} {e : Ending} (f : Fr no w w1) (h : Spanned w1 w' p sv l x e) : Spanned w w' p sv l x e := by
  obtain ⟨h0, sv', l', F, T, h1, h2, h3, h4⟩ := h
  refine ⟨h0, sv', l', F, T, h1, h2, fr_sooner f h3, fun k hk => (h4 k hk).imp id fun h => ⟨?_, h.2⟩⟩
  have := f.size; omega

theorem cb_zero (k : List UInt8) : cb (k ++ [0]) k = 1 := by
  unfold cb
  induction k with
  | nil => rfl
  | cons a k ih => simp [Lib.compareBytes, ih]

set_option maxRecDepth 100000 in
set_option maxHeartbeats 400000 in
theorem key_any (w : World) (p : Nat) (sv K : Value) (l : List SpV) (k : List UInt8) (hs : Se w p sv l) (hK : Sl w 1 K k.length (bvs k)) (hk : k.length ≤ 100000000) (hl : l.length ≤ 100000) :
    Calls Try.prog 44 #[.pointer (some ⟨p, 0, none⟩), K] w fun e w' => Spanned w w' p sv l ⟨K, K, k, k ++ [0], false⟩ e := by
  obtain ⟨A, c, rfl, _, _⟩ := hK.form
  have HS := Lib.hid hs; have HK := Lib.hid hK; clear hs hK
  go_enter Try.func44, Try.ntmps44
  go_wp2_with fail
  refine (rown_any _ _ k HK.out (by omega)).mono ?_
  rintro e w1 ⟨A1, rfl, h1, h2, h3⟩
  have H1 := Lib.hid h1; have H2 := Lib.hid h2; have H3 := Lib.hid h3; clear h1 h2 h3
  go_wp2_with (at_builtin; refine wpList_apo rfl (.tmp 7) (.tmp 8) 34 rfl tbB (H1.out.kept0 ((Fr.refl no w1).alloc _)) (Sl.fresh w1 [0] 5 (by rfl) (by simp [maxLen])) rfl rfl (bvs_one _) ?b1 ?b2 ?go)
  case b1 => simp [maxLen]; omega
  case b2 => simp; omega
  case go =>
    intro B N d w2 hN ho _ hf2 hst
    subst hN
    have hf : Fr no w w2 := (H3.out.trans ((Fr.refl no w1).alloc _) (fun _ _ h => h)).trans hf2 (fun k hk h => by have := H2.out k h; omega)
    have HF := Lib.hid hf; have HO := Lib.hid ho; clear hf ho hf2 hst
    go_wp2_with fail
    refine (span_any w2 p sv l ⟨.slice A k.length c, .slice B (k.length + 1) d, k, k ++ [0], false⟩ (HS.out.kept0 HF.out) ⟨HK.out.kept0 HF.out, by have := HO.out.sl; rw [← bvs_append] at this; simpa using this, by simp only []; omega, by simp; omega⟩ hl).mono ?_
    rintro e w3 h
    have H := Lib.hid (h.sooner HF.out); clear h
    obtain rfl := H.out.1
    go_wp2
    refine bodyPost_end (results_none rfl _ _ _) rfl ?_
    exact H.out
end Go.Proofs.Ytdnohhlgaaihmaa
