/- law17: known. -/
import Derived.Test.YtdnohhlgaaihmaaSpanK
import Derived.Lib.SlBytesConst
namespace Go.Proofs.Ytdnohhlgaaihmaa
open Go.RowKit

/-- A key added: in any case it is. -/
theorem Spanned.key {w w' : World} {p : Nat} {sv : Value} {l : List SpV} {x : SpV} {e : Ending} (hx : x.o = true ∨ 0 < cb x.t x.f) (h : Spanned w w' p sv l x e) :
    e = .returned (.tuple #[]) ∧ ∃ sv' F T, Se w' p sv' (SpV.add l ⟨F, T, x.f, if x.o then [] else x.t, x.o⟩) ∧ Fr (fun k => k = p ∨ sv.ownBlock = some k) w w' ∧
      ∀ k, SeF p sv' (SpV.add l ⟨F, T, x.f, if x.o then [] else x.t, x.o⟩) k → SeF p sv l k ∨ (w.heap.size ≤ k ∧ k < w'.heap.size) := by
  obtain ⟨h0, sv', l', F, T, h1, h2, h3, h4⟩ := h
  rcases h2 with ⟨_, h5, h6⟩ | ⟨_, rfl⟩
  · exfalso
    rcases hx with h | h
    · rw [h] at h5; cases h5
    · omega
  · exact ⟨h0, sv', F, T, h1, h3, h4⟩

theorem known1 (F T : Value) : SpV.add [] ⟨F, T, [97], [97, 0], false⟩ = [⟨F, T, [97], [97, 0], false⟩] := rfl
theorem known2 (F T F2 T2 : Value) : SpV.add [⟨F, T, [97], [97, 0], false⟩] ⟨F2, T2, [99], [99, 0], false⟩ = [⟨F, T, [97], [97, 0], false⟩, ⟨F2, T2, [99], [99, 0], false⟩] := rfl
theorem known3 (F T F2 T2 F3 T3 : Value) : SpV.add [⟨F, T, [97], [97, 0], false⟩, ⟨F2, T2, [99], [99, 0], false⟩] ⟨F3, T3, [98], [100], false⟩ = [⟨F, T, [97], [97, 0], false⟩, ⟨F3, T3, [98], [100], false⟩] := rfl

theorem sl_const (w : World) (l : List UInt8) (mk : Nat × Nat) (hl : l.length ≤ maxLen) : Sl (w.alloc (.cells (bvs l).toArray 5 mk)) 1 (.slice (some ⟨w.heap.size, 0, none⟩) l.length l.length) l.length (bvs l) := by
  refine ⟨by simp [bvs_length], .inr ⟨w.heap.size, 0, _, rfl, Nat.le_refl _, hl, fun j u hu => ?_⟩⟩
  rw [Nat.zero_add, cell_of_row _ _ j _ _ mk (heap_alloc_new _ _)]
  simpa using hu

theorem nil_free {p : Nat} {w0 w w1 : World} (f : Fr (fun k => k = p ∨ (Value.slice none 0 0).ownBlock = some k) w w1) (h : w0.heap.size ≤ p) (f0 : Fr no w0 w) : Fr no w0 w1 :=
  f0.trans f (fun k hk e => by rcases e with e | e; omega; simp [Value.ownBlock] at e)

set_option maxRecDepth 100000 in
set_option maxHeartbeats 4000000 in
theorem known17 (w : World) :
    Calls Try.prog 42 #[] w fun e w' => e = .returned (.bool true) ∧ Fr no w w' := by
  go_enter Try.func42, Try.ntmps42
  go_wp2_with fail
  refine (rnew_any _).mono ?_
  rintro e w1 ⟨p, rfl, hp, hs, hf⟩
  have HS := Lib.hid hs; have HF := Lib.hid hf; have HP := Lib.hid hp; clear hs hf hp
  have hcv := Lib.run_convert_bytes_const (P := Try.prog) w1 34 5 #[.int .u8 97] 1 1 (by kernel_rfl) (by kernel_rfl)
  go_wp2_with fail
  refine (key_any (w1.alloc (.cells #[.int .u8 97] 5 (1, 2))) p (.slice none 0 0) (.slice (some ⟨w1.heap.size, 0, none⟩) 1 1) [] [97] (HS.out.kept0 ((Fr.refl no w1).alloc _)) (sl_const w1 [97] (1, 2) (by simp [maxLen])) (by simp) (by simp)).mono ?_
  rintro e w2 hk
  obtain ⟨rfl, s2, F1, T1, hs2, f2, m2⟩ := hk.key (.inr (show (0 : Int) < cb ([97] ++ [0]) [97] by decide))
  have hs2' : Se w2 p s2 [⟨F1, T1, [97], [97, 0], false⟩] := hs2
  have HS2 := Lib.hid hs2'
  have hw2 : Fr no w w2 := nil_free f2 (by have := HP.out; omega) (HF.out.trans ((Fr.refl no w1).alloc _) (fun _ _ h => h))
  have HF2 := Lib.hid hw2
  have HM2 := Lib.hid (show ∀ k, SeF p s2 [⟨F1, T1, [97], [97, 0], false⟩] k → w.heap.size ≤ k from fun k hk => by
    rcases m2 k hk with h | h
    · rcases h with h | h | ⟨x, hx, _⟩
      · have := HP.out; omega
      · simp [Value.ownBlock] at h
      · cases hx
    · exact Nat.le_trans HF.out.size (Nat.le_trans (((Fr.refl no w1).alloc _).size) h.1))
  clear hs2 hs2' f2 m2 hw2 hcv
  have hcv := Lib.run_convert_bytes_const (P := Try.prog) w2 34 5 #[.int .u8 99] 1 1 (by kernel_rfl) (by kernel_rfl)
  go_wp2_with fail
  refine (key_any (w2.alloc (.cells #[.int .u8 99] 5 (1, 2))) p s2 (.slice (some ⟨w2.heap.size, 0, none⟩) 1 1) _ [99] (HS2.out.kept0 ((Fr.refl no w2).alloc _)) (sl_const w2 [99] (1, 2) (by simp [maxLen])) (by simp) (by simp)).mono ?_
  rintro e w3 hk3
  obtain ⟨rfl, s3, F2, T2, hs3, f3, m3⟩ := hk3.key (.inr (show (0 : Int) < cb ([99] ++ [0]) [99] by decide))
  have hs3' : Se w3 p s3 [⟨F1, T1, [97], [97, 0], false⟩, ⟨F2, T2, [99], [99, 0], false⟩] := hs3
  have HS3 := Lib.hid hs3'
  have hw3 : Fr no w w3 := (HF2.out.trans ((Fr.refl no w2).alloc _) (fun _ _ h => h)).trans f3 (fun k hk e => by
    have := HM2.out k (by rcases e with e | e; exact .inl e; exact .inr (.inl e)); omega)
  have HF3 := Lib.hid hw3
  have HM3 := Lib.hid (show ∀ k, SeF p s3 [⟨F1, T1, [97], [97, 0], false⟩, ⟨F2, T2, [99], [99, 0], false⟩] k → w.heap.size ≤ k from fun k hk => by
    rcases m3 k hk with h | h
    · exact HM2.out k h
    · exact Nat.le_trans HF2.out.size (Nat.le_trans (((Fr.refl no w2).alloc _).size) h.1))
  clear hs3 hs3' f3 m3 hw3 hcv
  have hcv := Lib.run_convert_bytes_const (P := Try.prog) w3 34 5 #[.int .u8 98] 1 1 (by kernel_rfl) (by kernel_rfl)
  have hcv2 := Lib.run_convert_bytes_const (P := Try.prog) (w3.alloc (.cells #[.int .u8 98] 5 (1, 2))) 34 5 #[.int .u8 100] 1 1 (by kernel_rfl) (by kernel_rfl)
  have hsz : (w3.alloc (.cells #[.int .u8 98] 5 (1, 2))).heap.size = w3.heap.size + 1 := by simp only [World.alloc, Array.size_push]
  have hsl := sl_const (w3.alloc (.cells #[.int .u8 98] 5 (1, 2))) [100] (1, 2) (by simp [maxLen])
  rw [hsz] at hcv2 hsl
  have HSL := Lib.hid hsl; clear hsl hsz
  go_wp2_with fail
  refine (span_any ((w3.alloc (.cells #[.int .u8 98] 5 (1, 2))).alloc (.cells #[.int .u8 100] 5 (1, 2))) p s3 _ ⟨.slice (some ⟨w3.heap.size, 0, none⟩) 1 1, .slice (some ⟨w3.heap.size + 1, 0, none⟩) 1 1, [98], [100], false⟩ (HS3.out.kept0 (((Fr.refl no w3).alloc _).alloc _)) ⟨(sl_const w3 [98] (1, 2) (by simp [maxLen])).kept0 ((Fr.refl no _).alloc _), HSL.out, by simp, by simp⟩ (by simp)).mono ?_
  rintro e w4 hk4
  obtain ⟨rfl, s4, F3, T3, hs4, f4, m4⟩ := hk4.key (.inr (show (0 : Int) < cb [100] [98] by decide))
  have hs4' : Se w4 p s4 [⟨F1, T1, [97], [97, 0], false⟩, ⟨F3, T3, [98], [100], false⟩] := hs4
  have HS4 := Lib.hid hs4'
  have hw4 : Fr no w w4 := (HF3.out.trans (((Fr.refl no w3).alloc _).alloc _) (fun _ _ h => h)).trans f4 (fun k hk e => by
    have := HM3.out k (by rcases e with e | e; exact .inl e; exact .inr (.inl e)); omega)
  have HF4 := Lib.hid hw4
  clear hs4 hs4' f4 m4 hw4 hcv hcv2
  go_wp2_with fail
  refine (all_any w4 p s4 _ HS4.out (by simp)).mono ?_
  rintro e w5 ⟨A, os, he, ht, hpr, hf⟩
  obtain ⟨x, y, rfl, hx, hy⟩ : ∃ x y, os = [x, y] ∧ x.pr = ([97], [97, 0], false) ∧ y.pr = ([98], [100], false) := by
    rcases os with _ | ⟨x, _ | ⟨y, _ | ⟨z, zs⟩⟩⟩
    · simp at hpr
    · simp at hpr
    · simp only [List.map_cons, List.map_nil, List.cons.injEq, and_true] at hpr
      exact ⟨x, y, rfl, hpr.1, hpr.2⟩
    · simp at hpr
  obtain rfl : e = .returned (.slice A 2 2) := he
  obtain ⟨-, hxt, -⟩ : x.f = [97] ∧ x.t = [97, 0] ∧ x.o = false := by simpa [SpV.pr] using hx
  obtain ⟨-, hyt, -⟩ : y.f = [98] ∧ y.t = [100] ∧ y.o = false := by simpa [SpV.pr] using hy
  obtain ⟨XA, hXA⟩ := (ht.form x (by simp)).2
  obtain ⟨YA, hYA⟩ := (ht.form y (by simp)).2
  rw [hxt] at hXA; rw [hyt] at hYA
  replace hXA : x.T = .slice XA 2 2 := hXA
  replace hYA : y.T = .slice YA 1 1 := hYA
  have HT := Lib.hid ht; have HX := Lib.hid hXA; have HY := Lib.hid hYA; have HF5 := Lib.hid hf; have HXT := Lib.hid hxt; have HYT := Lib.hid hyt
  clear ht hpr hx hy hf hXA hYA hxt hyt
  have hcv := Lib.run_convert_bytes_const (P := Try.prog) w5 34 5 #[.int .u8 99] 1 1 (by kernel_rfl) (by kernel_rfl)
  go_wp2_with fail
  refine (has_any (w5.alloc (.cells #[.int .u8 99] 5 (1, 2))) p s4 (.slice (some ⟨w5.heap.size, 0, none⟩) 1 1) _ [99] (HS4.out.kept0 (HF5.out.trans ((Fr.refl no w5).alloc _) (fun _ _ h => h))) (sl_const w5 [99] (1, 2) (by simp [maxLen])) (by simp)).mono ?_
  rintro e w6 ⟨rfl, f6⟩
  have hw6 : Fr no w5 w6 := ((Fr.refl no w5).alloc _).trans f6 (fun _ _ h => h)
  have HF6 := Lib.hid hw6
  clear f6 hw6 hcv
  have e1 : hasV [⟨F1, T1, [97], [97, 0], false⟩, ⟨F3, T3, [98], [100], false⟩] [99] = true := rfl
  rw [e1]; clear e1
  have hcv := Lib.run_convert_bytes_const (P := Try.prog) w6 34 5 #[.int .u8 100] 1 1 (by kernel_rfl) (by kernel_rfl)
  go_wp2_with fail
  refine (has_any (w6.alloc (.cells #[.int .u8 100] 5 (1, 2))) p s4 (.slice (some ⟨w6.heap.size, 0, none⟩) 1 1) _ [100] (HS4.out.kept0 ((HF5.out.trans HF6.out (fun _ _ h => h)).trans ((Fr.refl no w6).alloc _) (fun _ _ h => h))) (sl_const w6 [100] (1, 2) (by simp [maxLen])) (by simp)).mono ?_
  rintro e w7 ⟨rfl, f7⟩
  have hw7 : Fr no w5 w7 := (HF6.out.trans ((Fr.refl no w6).alloc _) (fun _ _ h => h)).trans f7 (fun _ _ h => h)
  have HF7 := Lib.hid hw7
  clear f7 hw7 hcv
  have e1 : hasV [⟨F1, T1, [97], [97, 0], false⟩, ⟨F3, T3, [98], [100], false⟩] [100] = false := rfl
  rw [e1]; clear e1
  have ht7 := HT.out.kept0 HF7.out
  obtain ⟨b, o, hA, -, q0, -⟩ := Spans.at ht7.row.sl 0 (by simp)
  obtain ⟨b', o', hA', -, q1, -⟩ := Spans.at ht7.row.sl 1 (by simp)
  have hx7 := (ht7.own x (by simp)).2.sl
  have hy7 := (ht7.own y (by simp)).2.sl
  subst hA
  obtain ⟨rfl, rfl⟩ : b = b' ∧ o = o' := by simpa using hA'
  simp only [List.getElem_cons_zero, List.getElem_cons_succ] at q0 q1
  rw [HX.out] at q0 hx7; rw [HY.out] at q1 hy7
  rw [HXT.out] at hx7; rw [HYT.out] at hy7
  have hs1 : (convert 34 9 (.slice XA 2 2)).run Try.prog w7 = .ok (.string ⟨#[97, 0]⟩) w7 := run_str (P := Try.prog) w7 (src := 34) (dst := 9) (e := 5) (by kernel_rfl) (by kernel_rfl) (by kernel_rfl) hx7
  have hs2 : (convert 34 9 (.slice YA 1 1)).run Try.prog w7 = .ok (.string ⟨#[100]⟩) w7 := run_str (P := Try.prog) w7 (src := 34) (dst := 9) (e := 5) (by kernel_rfl) (by kernel_rfl) (by kernel_rfl) hy7
  clear hA' hx7 hy7 ht7
  go_wp2
  go_ret
  exact ⟨rfl, (HF4.out.trans HF5.out (fun _ _ h => h)).trans HF7.out (fun _ _ h => h)⟩
end Go.Proofs.Ytdnohhlgaaihmaa
