import Derived.Test.YtdnohhlgaaihmaaMd15
import Derived.Test.YtdnohhlgaaihmaaMd16
import Derived.Lib.SlBytesConst
import Derived.Deep.QuietTactic
import Derived.BigQuiet

/- law16: known. -/
namespace Go.Proofs.Ytdnohhlgaaihmaa
open Go.RowKit

theorem sl_const (w : World) (l : List UInt8) (mk : Nat × Nat) (hl : l.length ≤ maxLen) : Sl (w.alloc (.cells (bvs l).toArray 5 mk)) 1 (.slice (some ⟨w.heap.size, 0, none⟩) l.length l.length) l.length (bvs l) := by
  refine ⟨by simp [bvs_length], .inr ⟨w.heap.size, 0, _, rfl, Nat.le_refl _, hl, fun j u hu => ?_⟩⟩
  rw [Nat.zero_add, cell_of_row _ _ j _ _ mk (heap_alloc_new _ _)]
  simpa using hu

/-- A constant of one byte, laid. -/
def k1 (w : World) (u : UInt8) : World := w.alloc (.cells #[.int .u8 (u.toNat : Nat)] 5 (1, 2))
theorem k1_size (w : World) (u : UInt8) : (k1 w u).heap.size = w.heap.size + 1 := by unfold k1; rw [World.size_alloc]
theorem k1_fr (w : World) (u : UInt8) : Fr no w (k1 w u) := (Fr.refl no w).alloc _
theorem k1_sl (w : World) (u : UInt8) (m : Nat) (hm : w.heap.size = m) : Sl (k1 w u) 1 (.slice (some ⟨m, 0, none⟩) 1 1) 1 (bvs [u]) := by
  subst hm; exact sl_const w [u] (1, 2) (by simp [maxLen])
theorem k1_run (W : World) (u : UInt8) (m : Nat) (hm : W.heap.size = m) :
    (convert 34 34 (.slice (some ⟨m, 0, none⟩) 1 1)).run Try.prog (W.alloc (.cells #[.int .u8 (u.toNat : Nat)] 5)) = .ok (.slice (some ⟨m, 0, none⟩) 1 1) (k1 W u) := by
  subst hm
  exact Lib.run_convert_bytes_const (P := Try.prog) W 34 5 #[.int .u8 (u.toNat : Nat)] 1 1 (by kernel_rfl) (by kernel_rfl)

theorem see_known (F1 T1 F2 T2 F3 T3 K1 V1 K2 V2 K3 V3 : Value) : seeN [⟨F1, T1, [97], [50], false⟩, ⟨F2, T2, [98], [49], false⟩, ⟨F3, T3, [99], [], true⟩] [⟨K1, V1, [98], [53]⟩, ⟨K2, V2, [99], [54]⟩, ⟨K3, V3, [100], [55]⟩] 100 [98] false = (98, some (some ([100], [55]))) := rfl
theorem see_known2 (F1 T1 F2 T2 F3 T3 K1 V1 K2 V2 K3 V3 : Value) : seeP [⟨F1, T1, [97], [50], false⟩, ⟨F2, T2, [98], [49], false⟩, ⟨F3, T3, [99], [], true⟩] [⟨K1, V1, [98], [53]⟩, ⟨K2, V2, [99], [54]⟩, ⟨K3, V3, [100], [55]⟩] 98 [100] false = (96, some (some ([98], [49]))) := rfl
theorem say_known1 (F T : Value) : sayL [] ⟨F, T, [98], [49], false⟩ = [⟨F, T, [98], [49], false⟩] := rfl
theorem say_known2 (F T F2 T2 : Value) : sayL [⟨F, T, [98], [49], false⟩] ⟨F2, T2, [99], [], true⟩ = [⟨F, T, [98], [49], false⟩, ⟨F2, T2, [99], [], true⟩] := rfl
theorem say_known3 (F T F2 T2 F3 T3 : Value) : sayL [⟨F, T, [98], [49], false⟩, ⟨F2, T2, [99], [], true⟩] ⟨F3, T3, [97], [50], false⟩ = [⟨F3, T3, [97], [50], false⟩, ⟨F, T, [98], [49], false⟩, ⟨F2, T2, [99], [], true⟩] := rfl

set_option maxRecDepth 100000 in
set_option maxHeartbeats 8000000 in
theorem known16_any (w : World) :
    Calls Try.prog 14 #[] w fun e w' => e = .returned (.bool true) ∧ Fr no w w' := by
  go_enter Try.func14, Try.ntmps14
  go_wp2_with fail
  refine (bnew_any _).mono ?_
  rintro e w1 ⟨p, rfl, hp, hb, hf⟩
  have hb0 : Bs w w1 p (.slice none 0 0) [] (.slice none 0 0) [] := ⟨hf, hb, (fun k hk => by
    rcases hk with rfl | hk | hk | ⟨x, hx, _⟩ | ⟨x, hx, _⟩
    · exact hp
    · simp [Value.ownBlock] at hk
    · simp [Value.ownBlock] at hk
    · cases hx
    · cases hx), Nat.le_refl _⟩
  have HB := Lib.hid hb0; clear hp hb hf hb0
  have r1 : (convert 34 34 (.slice (some ⟨w1.heap.size, 0, none⟩) 1 1)).run Try.prog (w1.alloc (.cells #[.int .u8 98] 5)) = .ok (.slice (some ⟨w1.heap.size, 0, none⟩) 1 1) (k1 w1 98) := k1_run w1 98 _ rfl
  have r2 : (convert 34 34 (.slice (some ⟨(k1 w1 98).heap.size, 0, none⟩) 1 1)).run Try.prog ((k1 w1 98).alloc (.cells #[.int .u8 49] 5)) = .ok (.slice (some ⟨(k1 w1 98).heap.size, 0, none⟩) 1 1) (k1 (k1 w1 98) 49) := k1_run _ 49 _ rfl
  go_wp2_with fail
  refine (bput_any (k1 (k1 w1 98) 49) p _ _ (.slice (some ⟨w1.heap.size, 0, none⟩) 1 1) (.slice (some ⟨(k1 w1 98).heap.size, 0, none⟩) 1 1) [] [] [98] [49] ((HB.out.kept0 (k1_fr _ _)).kept0 (k1_fr _ _)).bf ((k1_sl w1 98 _ rfl).kept0 (k1_fr _ _)) (k1_sl _ 49 _ rfl) (by simp) (by simp) (by simp) (by simp)).mono ?_
  rintro e w2 hsd
  obtain ⟨rfl, lv2, uv2, u2, F1, T1, hb2, -⟩ := ((HB.out.kept0 (k1_fr w1 98)).kept0 (k1_fr _ 49)).said hsd
  have hb2' : Bs w w2 p lv2 [⟨F1, T1, [98], [49], false⟩] uv2 [u2] := hb2
  have HB2 := Lib.hid hb2'; clear hb2 hb2' hsd r1 r2
  have r1 : (convert 34 34 (.slice (some ⟨w2.heap.size, 0, none⟩) 1 1)).run Try.prog (w2.alloc (.cells #[.int .u8 99] 5)) = .ok (.slice (some ⟨w2.heap.size, 0, none⟩) 1 1) (k1 w2 99) := k1_run w2 99 _ rfl
  go_wp2_with fail
  refine (bdel_any (k1 w2 99) p _ _ (.slice (some ⟨w2.heap.size, 0, none⟩) 1 1) _ _ [99] (HB2.out.kept0 (k1_fr _ _)).bf (k1_sl w2 99 _ rfl) (by simp) (by simp) (by simp)).mono ?_
  rintro e w3 hsd
  obtain ⟨rfl, lv3, uv3, u3, F2, T2, hb3, -⟩ := (HB2.out.kept0 (k1_fr w2 99)).said hsd
  have hb3' : Bs w w3 p lv3 [⟨F1, T1, [98], [49], false⟩, ⟨F2, T2, [99], [], true⟩] uv3 [u3, u2] := hb3
  have HB3 := Lib.hid hb3'; clear hb3 hb3' hsd r1
  have r1 : (convert 34 34 (.slice (some ⟨w3.heap.size, 0, none⟩) 1 1)).run Try.prog (w3.alloc (.cells #[.int .u8 97] 5)) = .ok (.slice (some ⟨w3.heap.size, 0, none⟩) 1 1) (k1 w3 97) := k1_run w3 97 _ rfl
  have r2 : (convert 34 34 (.slice (some ⟨(k1 w3 97).heap.size, 0, none⟩) 1 1)).run Try.prog ((k1 w3 97).alloc (.cells #[.int .u8 50] 5)) = .ok (.slice (some ⟨(k1 w3 97).heap.size, 0, none⟩) 1 1) (k1 (k1 w3 97) 50) := k1_run _ 50 _ rfl
  go_wp2_with fail
  refine (bput_any (k1 (k1 w3 97) 50) p _ _ (.slice (some ⟨w3.heap.size, 0, none⟩) 1 1) (.slice (some ⟨(k1 w3 97).heap.size, 0, none⟩) 1 1) _ _ [97] [50] ((HB3.out.kept0 (k1_fr _ _)).kept0 (k1_fr _ _)).bf ((k1_sl w3 97 _ rfl).kept0 (k1_fr _ _)) (k1_sl _ 50 _ rfl) (by simp) (by simp) (by simp) (by simp)).mono ?_
  rintro e w4 hsd
  obtain ⟨rfl, lv4, uv4, u4, F3, T3, hb4, -⟩ := ((HB3.out.kept0 (k1_fr w3 97)).kept0 (k1_fr _ 50)).said hsd
  have hb4' : Bs w w4 p lv4 [⟨F3, T3, [97], [50], false⟩, ⟨F1, T1, [98], [49], false⟩, ⟨F2, T2, [99], [], true⟩] uv4 [u4, u3, u2] := hb4
  have HB4 := Lib.hid hb4'; clear hb4 hb4' hsd r1 r2
  have s0 : (convert 34 34 (.slice (some ⟨w4.heap.size, 0, none⟩) 1 1)).run Try.prog (w4.alloc (.cells #[.int .u8 98] 5)) = .ok (.slice (some ⟨w4.heap.size, 0, none⟩) 1 1) (k1 w4 98) := k1_run _ 98 _ rfl
  have s1 : (convert 34 34 (.slice (some ⟨(k1 w4 98).heap.size, 0, none⟩) 1 1)).run Try.prog ((k1 w4 98).alloc (.cells #[.int .u8 53] 5)) = .ok (.slice (some ⟨(k1 w4 98).heap.size, 0, none⟩) 1 1) (k1 (k1 w4 98) 53) := k1_run _ 53 _ rfl
  have s2 : (convert 34 34 (.slice (some ⟨(k1 (k1 w4 98) 53).heap.size, 0, none⟩) 1 1)).run Try.prog ((k1 (k1 w4 98) 53).alloc (.cells #[.int .u8 99] 5)) = .ok (.slice (some ⟨(k1 (k1 w4 98) 53).heap.size, 0, none⟩) 1 1) (k1 (k1 (k1 w4 98) 53) 99) := k1_run _ 99 _ rfl
  have s3 : (convert 34 34 (.slice (some ⟨(k1 (k1 (k1 w4 98) 53) 99).heap.size, 0, none⟩) 1 1)).run Try.prog ((k1 (k1 (k1 w4 98) 53) 99).alloc (.cells #[.int .u8 54] 5)) = .ok (.slice (some ⟨(k1 (k1 (k1 w4 98) 53) 99).heap.size, 0, none⟩) 1 1) (k1 (k1 (k1 (k1 w4 98) 53) 99) 54) := k1_run _ 54 _ rfl
  have s4 : (convert 34 34 (.slice (some ⟨(k1 (k1 (k1 (k1 w4 98) 53) 99) 54).heap.size, 0, none⟩) 1 1)).run Try.prog ((k1 (k1 (k1 (k1 w4 98) 53) 99) 54).alloc (.cells #[.int .u8 100] 5)) = .ok (.slice (some ⟨(k1 (k1 (k1 (k1 w4 98) 53) 99) 54).heap.size, 0, none⟩) 1 1) (k1 (k1 (k1 (k1 (k1 w4 98) 53) 99) 54) 100) := k1_run _ 100 _ rfl
  have s5 : (convert 34 34 (.slice (some ⟨(k1 (k1 (k1 (k1 (k1 w4 98) 53) 99) 54) 100).heap.size, 0, none⟩) 1 1)).run Try.prog ((k1 (k1 (k1 (k1 (k1 w4 98) 53) 99) 54) 100).alloc (.cells #[.int .u8 55] 5)) = .ok (.slice (some ⟨(k1 (k1 (k1 (k1 (k1 w4 98) 53) 99) 54) 100).heap.size, 0, none⟩) 1 1) (k1 (k1 (k1 (k1 (k1 (k1 w4 98) 53) 99) 54) 100) 55) := k1_run _ 55 _ rfl
  have hsz : (((k1 (k1 (k1 (k1 (k1 (k1 w4 98) 53) 99) 54) 100) 55).alloc (.cells #[.slice (some ⟨w4.heap.size, 0, none⟩) 1 1, .slice (some ⟨(k1 w4 98).heap.size, 0, none⟩) 1 1, .slice (some ⟨(k1 (k1 w4 98) 53).heap.size, 0, none⟩) 1 1, .slice (some ⟨(k1 (k1 (k1 w4 98) 53) 99).heap.size, 0, none⟩) 1 1, .slice (some ⟨(k1 (k1 (k1 (k1 w4 98) 53) 99) 54).heap.size, 0, none⟩) 1 1, .slice (some ⟨(k1 (k1 (k1 (k1 (k1 w4 98) 53) 99) 54) 100).heap.size, 0, none⟩) 1 1] 40)).alloc (.cells #[.slice (some ⟨(k1 (k1 (k1 (k1 (k1 (k1 w4 98) 53) 99) 54) 100) 55).heap.size, 0, none⟩) 3 3, .int .i64 100] 48)).heap.size = (k1 (k1 (k1 (k1 (k1 (k1 w4 98) 53) 99) 54) 100) 55).heap.size + 1 + 1 := by rw [World.size_alloc, World.size_alloc]
  have s6 : (convert 34 34 (.slice (some ⟨(k1 (k1 (k1 (k1 (k1 (k1 w4 98) 53) 99) 54) 100) 55).heap.size + 1 + 1, 0, none⟩) 1 1)).run Try.prog ((((k1 (k1 (k1 (k1 (k1 (k1 w4 98) 53) 99) 54) 100) 55).alloc (.cells #[.slice (some ⟨w4.heap.size, 0, none⟩) 1 1, .slice (some ⟨(k1 w4 98).heap.size, 0, none⟩) 1 1, .slice (some ⟨(k1 (k1 w4 98) 53).heap.size, 0, none⟩) 1 1, .slice (some ⟨(k1 (k1 (k1 w4 98) 53) 99).heap.size, 0, none⟩) 1 1, .slice (some ⟨(k1 (k1 (k1 (k1 w4 98) 53) 99) 54).heap.size, 0, none⟩) 1 1, .slice (some ⟨(k1 (k1 (k1 (k1 (k1 w4 98) 53) 99) 54) 100).heap.size, 0, none⟩) 1 1] 40)).alloc (.cells #[.slice (some ⟨(k1 (k1 (k1 (k1 (k1 (k1 w4 98) 53) 99) 54) 100) 55).heap.size, 0, none⟩) 3 3, .int .i64 100] 48)).alloc (.cells #[.int .u8 98] 5)) = .ok (.slice (some ⟨(k1 (k1 (k1 (k1 (k1 (k1 w4 98) 53) 99) 54) 100) 55).heap.size + 1 + 1, 0, none⟩) 1 1) (k1 (((k1 (k1 (k1 (k1 (k1 (k1 w4 98) 53) 99) 54) 100) 55).alloc (.cells #[.slice (some ⟨w4.heap.size, 0, none⟩) 1 1, .slice (some ⟨(k1 w4 98).heap.size, 0, none⟩) 1 1, .slice (some ⟨(k1 (k1 w4 98) 53).heap.size, 0, none⟩) 1 1, .slice (some ⟨(k1 (k1 (k1 w4 98) 53) 99).heap.size, 0, none⟩) 1 1, .slice (some ⟨(k1 (k1 (k1 (k1 w4 98) 53) 99) 54).heap.size, 0, none⟩) 1 1, .slice (some ⟨(k1 (k1 (k1 (k1 (k1 w4 98) 53) 99) 54) 100).heap.size, 0, none⟩) 1 1] 40)).alloc (.cells #[.slice (some ⟨(k1 (k1 (k1 (k1 (k1 (k1 w4 98) 53) 99) 54) 100) 55).heap.size, 0, none⟩) 3 3, .int .i64 100] 48)) 98) := k1_run (((k1 (k1 (k1 (k1 (k1 (k1 w4 98) 53) 99) 54) 100) 55).alloc (.cells #[.slice (some ⟨w4.heap.size, 0, none⟩) 1 1, .slice (some ⟨(k1 w4 98).heap.size, 0, none⟩) 1 1, .slice (some ⟨(k1 (k1 w4 98) 53).heap.size, 0, none⟩) 1 1, .slice (some ⟨(k1 (k1 (k1 w4 98) 53) 99).heap.size, 0, none⟩) 1 1, .slice (some ⟨(k1 (k1 (k1 (k1 w4 98) 53) 99) 54).heap.size, 0, none⟩) 1 1, .slice (some ⟨(k1 (k1 (k1 (k1 (k1 w4 98) 53) 99) 54) 100).heap.size, 0, none⟩) 1 1] 40)).alloc (.cells #[.slice (some ⟨(k1 (k1 (k1 (k1 (k1 (k1 w4 98) 53) 99) 54) 100) 55).heap.size, 0, none⟩) 3 3, .int .i64 100] 48)) 98 _ hsz
  go_wp2_with fail
  clear s0 s1 s2 s3 s4 s5 s6
  have hrow : (((k1 (k1 (k1 (k1 (k1 (k1 w4 98) 53) 99) 54) 100) 55).alloc (.cells #[.slice (some ⟨w4.heap.size, 0, none⟩) 1 1, .slice (some ⟨(k1 w4 98).heap.size, 0, none⟩) 1 1, .slice (some ⟨(k1 (k1 w4 98) 53).heap.size, 0, none⟩) 1 1, .slice (some ⟨(k1 (k1 (k1 w4 98) 53) 99).heap.size, 0, none⟩) 1 1, .slice (some ⟨(k1 (k1 (k1 (k1 w4 98) 53) 99) 54).heap.size, 0, none⟩) 1 1, .slice (some ⟨(k1 (k1 (k1 (k1 (k1 w4 98) 53) 99) 54) 100).heap.size, 0, none⟩) 1 1] 40)).alloc (.cells #[.slice (some ⟨(k1 (k1 (k1 (k1 (k1 (k1 w4 98) 53) 99) 54) 100) 55).heap.size, 0, none⟩) 3 3, .int .i64 100] 48)).heap[(k1 (k1 (k1 (k1 (k1 (k1 w4 98) 53) 99) 54) 100) 55).heap.size + 1]? = some (.cells #[.slice (some ⟨(k1 (k1 (k1 (k1 (k1 (k1 w4 98) 53) 99) 54) 100) 55).heap.size, 0, none⟩) 3 3, .int .i64 100] 48 (0, 0)) := heap_alloc2_new _ _ _
  have hhas : Has (((k1 (k1 (k1 (k1 (k1 (k1 w4 98) 53) 99) 54) 100) 55).alloc (.cells #[.slice (some ⟨w4.heap.size, 0, none⟩) 1 1, .slice (some ⟨(k1 w4 98).heap.size, 0, none⟩) 1 1, .slice (some ⟨(k1 (k1 w4 98) 53).heap.size, 0, none⟩) 1 1, .slice (some ⟨(k1 (k1 (k1 w4 98) 53) 99).heap.size, 0, none⟩) 1 1, .slice (some ⟨(k1 (k1 (k1 (k1 w4 98) 53) 99) 54).heap.size, 0, none⟩) 1 1, .slice (some ⟨(k1 (k1 (k1 (k1 (k1 w4 98) 53) 99) 54) 100).heap.size, 0, none⟩) 1 1] 40)).alloc (.cells #[.slice (some ⟨(k1 (k1 (k1 (k1 (k1 (k1 w4 98) 53) 99) 54) 100) 55).heap.size, 0, none⟩) 3 3, .int .i64 100] 48)) (k1 (k1 (k1 (k1 (k1 (k1 w4 98) 53) 99) 54) 100) 55).heap.size 40 [.slice (some ⟨w4.heap.size, 0, none⟩) 1 1, .slice (some ⟨(k1 w4 98).heap.size, 0, none⟩) 1 1, .slice (some ⟨(k1 (k1 w4 98) 53).heap.size, 0, none⟩) 1 1, .slice (some ⟨(k1 (k1 (k1 w4 98) 53) 99).heap.size, 0, none⟩) 1 1, .slice (some ⟨(k1 (k1 (k1 (k1 w4 98) 53) 99) 54).heap.size, 0, none⟩) 1 1, .slice (some ⟨(k1 (k1 (k1 (k1 (k1 w4 98) 53) 99) 54) 100).heap.size, 0, none⟩) 1 1] := ((Fr.refl no ((k1 (k1 (k1 (k1 (k1 (k1 w4 98) 53) 99) 54) 100) 55).alloc (.cells #[.slice (some ⟨w4.heap.size, 0, none⟩) 1 1, .slice (some ⟨(k1 w4 98).heap.size, 0, none⟩) 1 1, .slice (some ⟨(k1 (k1 w4 98) 53).heap.size, 0, none⟩) 1 1, .slice (some ⟨(k1 (k1 (k1 w4 98) 53) 99).heap.size, 0, none⟩) 1 1, .slice (some ⟨(k1 (k1 (k1 (k1 w4 98) 53) 99) 54).heap.size, 0, none⟩) 1 1, .slice (some ⟨(k1 (k1 (k1 (k1 (k1 w4 98) 53) 99) 54) 100).heap.size, 0, none⟩) 1 1] 40))).alloc (.cells #[.slice (some ⟨(k1 (k1 (k1 (k1 (k1 (k1 w4 98) 53) 99) 54) 100) 55).heap.size, 0, none⟩) 3 3, .int .i64 100] 48)).heap (heap_alloc_new (k1 (k1 (k1 (k1 (k1 (k1 w4 98) 53) 99) 54) 100) 55) (.cells #[.slice (some ⟨w4.heap.size, 0, none⟩) 1 1, .slice (some ⟨(k1 w4 98).heap.size, 0, none⟩) 1 1, .slice (some ⟨(k1 (k1 w4 98) 53).heap.size, 0, none⟩) 1 1, .slice (some ⟨(k1 (k1 (k1 w4 98) 53) 99).heap.size, 0, none⟩) 1 1, .slice (some ⟨(k1 (k1 (k1 (k1 w4 98) 53) 99) 54).heap.size, 0, none⟩) 1 1, .slice (some ⟨(k1 (k1 (k1 (k1 (k1 w4 98) 53) 99) 54) 100).heap.size, 0, none⟩) 1 1] 40)) (fun h => h)
  have hfr : Fr no w4 (((k1 (k1 (k1 (k1 (k1 (k1 w4 98) 53) 99) 54) 100) 55).alloc (.cells #[.slice (some ⟨w4.heap.size, 0, none⟩) 1 1, .slice (some ⟨(k1 w4 98).heap.size, 0, none⟩) 1 1, .slice (some ⟨(k1 (k1 w4 98) 53).heap.size, 0, none⟩) 1 1, .slice (some ⟨(k1 (k1 (k1 w4 98) 53) 99).heap.size, 0, none⟩) 1 1, .slice (some ⟨(k1 (k1 (k1 (k1 w4 98) 53) 99) 54).heap.size, 0, none⟩) 1 1, .slice (some ⟨(k1 (k1 (k1 (k1 (k1 w4 98) 53) 99) 54) 100).heap.size, 0, none⟩) 1 1] 40)).alloc (.cells #[.slice (some ⟨(k1 (k1 (k1 (k1 (k1 (k1 w4 98) 53) 99) 54) 100) 55).heap.size, 0, none⟩) 3 3, .int .i64 100] 48)) := ((((((((Fr.refl no w4).trans (k1_fr _ 98) (fun _ _ h => h)).trans (k1_fr _ 53) (fun _ _ h => h)).trans (k1_fr _ 99) (fun _ _ h => h)).trans (k1_fr _ 54) (fun _ _ h => h)).trans (k1_fr _ 100) (fun _ _ h => h)).trans (k1_fr _ 55) (fun _ _ h => h)).alloc (.cells #[.slice (some ⟨w4.heap.size, 0, none⟩) 1 1, .slice (some ⟨(k1 w4 98).heap.size, 0, none⟩) 1 1, .slice (some ⟨(k1 (k1 w4 98) 53).heap.size, 0, none⟩) 1 1, .slice (some ⟨(k1 (k1 (k1 w4 98) 53) 99).heap.size, 0, none⟩) 1 1, .slice (some ⟨(k1 (k1 (k1 (k1 w4 98) 53) 99) 54).heap.size, 0, none⟩) 1 1, .slice (some ⟨(k1 (k1 (k1 (k1 (k1 w4 98) 53) 99) 54) 100).heap.size, 0, none⟩) 1 1] 40)).alloc (.cells #[.slice (some ⟨(k1 (k1 (k1 (k1 (k1 (k1 w4 98) 53) 99) 54) 100) 55).heap.size, 0, none⟩) 3 3, .int .i64 100] 48)
  have hg6 : w4.heap.size + 6 = (k1 (k1 (k1 (k1 (k1 (k1 w4 98) 53) 99) 54) 100) 55).heap.size := by simp only [k1_size]
  have t0 : Sl (((k1 (k1 (k1 (k1 (k1 (k1 w4 98) 53) 99) 54) 100) 55).alloc (.cells #[.slice (some ⟨w4.heap.size, 0, none⟩) 1 1, .slice (some ⟨(k1 w4 98).heap.size, 0, none⟩) 1 1, .slice (some ⟨(k1 (k1 w4 98) 53).heap.size, 0, none⟩) 1 1, .slice (some ⟨(k1 (k1 (k1 w4 98) 53) 99).heap.size, 0, none⟩) 1 1, .slice (some ⟨(k1 (k1 (k1 (k1 w4 98) 53) 99) 54).heap.size, 0, none⟩) 1 1, .slice (some ⟨(k1 (k1 (k1 (k1 (k1 w4 98) 53) 99) 54) 100).heap.size, 0, none⟩) 1 1] 40)).alloc (.cells #[.slice (some ⟨(k1 (k1 (k1 (k1 (k1 (k1 w4 98) 53) 99) 54) 100) 55).heap.size, 0, none⟩) 3 3, .int .i64 100] 48)) 1 (.slice (some ⟨w4.heap.size, 0, none⟩) 1 1) 1 (bvs [98]) := (((((((k1_sl w4 98 _ rfl).kept0 (k1_fr _ _)).kept0 (k1_fr _ _)).kept0 (k1_fr _ _)).kept0 (k1_fr _ _)).kept0 (k1_fr _ _)).kept0 (((Fr.refl no _).alloc _).alloc _)); have t1 : Sl (((k1 (k1 (k1 (k1 (k1 (k1 w4 98) 53) 99) 54) 100) 55).alloc (.cells #[.slice (some ⟨w4.heap.size, 0, none⟩) 1 1, .slice (some ⟨(k1 w4 98).heap.size, 0, none⟩) 1 1, .slice (some ⟨(k1 (k1 w4 98) 53).heap.size, 0, none⟩) 1 1, .slice (some ⟨(k1 (k1 (k1 w4 98) 53) 99).heap.size, 0, none⟩) 1 1, .slice (some ⟨(k1 (k1 (k1 (k1 w4 98) 53) 99) 54).heap.size, 0, none⟩) 1 1, .slice (some ⟨(k1 (k1 (k1 (k1 (k1 w4 98) 53) 99) 54) 100).heap.size, 0, none⟩) 1 1] 40)).alloc (.cells #[.slice (some ⟨(k1 (k1 (k1 (k1 (k1 (k1 w4 98) 53) 99) 54) 100) 55).heap.size, 0, none⟩) 3 3, .int .i64 100] 48)) 1 (.slice (some ⟨(k1 w4 98).heap.size, 0, none⟩) 1 1) 1 (bvs [53]) := ((((((k1_sl (k1 w4 98) 53 _ rfl).kept0 (k1_fr _ _)).kept0 (k1_fr _ _)).kept0 (k1_fr _ _)).kept0 (k1_fr _ _)).kept0 (((Fr.refl no _).alloc _).alloc _)); have t2 : Sl (((k1 (k1 (k1 (k1 (k1 (k1 w4 98) 53) 99) 54) 100) 55).alloc (.cells #[.slice (some ⟨w4.heap.size, 0, none⟩) 1 1, .slice (some ⟨(k1 w4 98).heap.size, 0, none⟩) 1 1, .slice (some ⟨(k1 (k1 w4 98) 53).heap.size, 0, none⟩) 1 1, .slice (some ⟨(k1 (k1 (k1 w4 98) 53) 99).heap.size, 0, none⟩) 1 1, .slice (some ⟨(k1 (k1 (k1 (k1 w4 98) 53) 99) 54).heap.size, 0, none⟩) 1 1, .slice (some ⟨(k1 (k1 (k1 (k1 (k1 w4 98) 53) 99) 54) 100).heap.size, 0, none⟩) 1 1] 40)).alloc (.cells #[.slice (some ⟨(k1 (k1 (k1 (k1 (k1 (k1 w4 98) 53) 99) 54) 100) 55).heap.size, 0, none⟩) 3 3, .int .i64 100] 48)) 1 (.slice (some ⟨(k1 (k1 w4 98) 53).heap.size, 0, none⟩) 1 1) 1 (bvs [99]) := (((((k1_sl (k1 (k1 w4 98) 53) 99 _ rfl).kept0 (k1_fr _ _)).kept0 (k1_fr _ _)).kept0 (k1_fr _ _)).kept0 (((Fr.refl no _).alloc _).alloc _)); have t3 : Sl (((k1 (k1 (k1 (k1 (k1 (k1 w4 98) 53) 99) 54) 100) 55).alloc (.cells #[.slice (some ⟨w4.heap.size, 0, none⟩) 1 1, .slice (some ⟨(k1 w4 98).heap.size, 0, none⟩) 1 1, .slice (some ⟨(k1 (k1 w4 98) 53).heap.size, 0, none⟩) 1 1, .slice (some ⟨(k1 (k1 (k1 w4 98) 53) 99).heap.size, 0, none⟩) 1 1, .slice (some ⟨(k1 (k1 (k1 (k1 w4 98) 53) 99) 54).heap.size, 0, none⟩) 1 1, .slice (some ⟨(k1 (k1 (k1 (k1 (k1 w4 98) 53) 99) 54) 100).heap.size, 0, none⟩) 1 1] 40)).alloc (.cells #[.slice (some ⟨(k1 (k1 (k1 (k1 (k1 (k1 w4 98) 53) 99) 54) 100) 55).heap.size, 0, none⟩) 3 3, .int .i64 100] 48)) 1 (.slice (some ⟨(k1 (k1 (k1 w4 98) 53) 99).heap.size, 0, none⟩) 1 1) 1 (bvs [54]) := ((((k1_sl (k1 (k1 (k1 w4 98) 53) 99) 54 _ rfl).kept0 (k1_fr _ _)).kept0 (k1_fr _ _)).kept0 (((Fr.refl no _).alloc _).alloc _)); have t4 : Sl (((k1 (k1 (k1 (k1 (k1 (k1 w4 98) 53) 99) 54) 100) 55).alloc (.cells #[.slice (some ⟨w4.heap.size, 0, none⟩) 1 1, .slice (some ⟨(k1 w4 98).heap.size, 0, none⟩) 1 1, .slice (some ⟨(k1 (k1 w4 98) 53).heap.size, 0, none⟩) 1 1, .slice (some ⟨(k1 (k1 (k1 w4 98) 53) 99).heap.size, 0, none⟩) 1 1, .slice (some ⟨(k1 (k1 (k1 (k1 w4 98) 53) 99) 54).heap.size, 0, none⟩) 1 1, .slice (some ⟨(k1 (k1 (k1 (k1 (k1 w4 98) 53) 99) 54) 100).heap.size, 0, none⟩) 1 1] 40)).alloc (.cells #[.slice (some ⟨(k1 (k1 (k1 (k1 (k1 (k1 w4 98) 53) 99) 54) 100) 55).heap.size, 0, none⟩) 3 3, .int .i64 100] 48)) 1 (.slice (some ⟨(k1 (k1 (k1 (k1 w4 98) 53) 99) 54).heap.size, 0, none⟩) 1 1) 1 (bvs [100]) := (((k1_sl (k1 (k1 (k1 (k1 w4 98) 53) 99) 54) 100 _ rfl).kept0 (k1_fr _ _)).kept0 (((Fr.refl no _).alloc _).alloc _)); have t5 : Sl (((k1 (k1 (k1 (k1 (k1 (k1 w4 98) 53) 99) 54) 100) 55).alloc (.cells #[.slice (some ⟨w4.heap.size, 0, none⟩) 1 1, .slice (some ⟨(k1 w4 98).heap.size, 0, none⟩) 1 1, .slice (some ⟨(k1 (k1 w4 98) 53).heap.size, 0, none⟩) 1 1, .slice (some ⟨(k1 (k1 (k1 w4 98) 53) 99).heap.size, 0, none⟩) 1 1, .slice (some ⟨(k1 (k1 (k1 (k1 w4 98) 53) 99) 54).heap.size, 0, none⟩) 1 1, .slice (some ⟨(k1 (k1 (k1 (k1 (k1 w4 98) 53) 99) 54) 100).heap.size, 0, none⟩) 1 1] 40)).alloc (.cells #[.slice (some ⟨(k1 (k1 (k1 (k1 (k1 (k1 w4 98) 53) 99) 54) 100) 55).heap.size, 0, none⟩) 3 3, .int .i64 100] 48)) 1 (.slice (some ⟨(k1 (k1 (k1 (k1 (k1 w4 98) 53) 99) 54) 100).heap.size, 0, none⟩) 1 1) 1 (bvs [55]) := ((k1_sl (k1 (k1 (k1 (k1 (k1 w4 98) 53) 99) 54) 100) 55 _ rfl).kept0 (((Fr.refl no _).alloc _).alloc _))
  obtain ⟨K1, V1, K2, V2, K3, V3, hbel⟩ : ∃ K1 V1 K2 V2 K3 V3 : Value, Bel (((k1 (k1 (k1 (k1 (k1 (k1 w4 98) 53) 99) 54) 100) 55).alloc (.cells #[.slice (some ⟨w4.heap.size, 0, none⟩) 1 1, .slice (some ⟨(k1 w4 98).heap.size, 0, none⟩) 1 1, .slice (some ⟨(k1 (k1 w4 98) 53).heap.size, 0, none⟩) 1 1, .slice (some ⟨(k1 (k1 (k1 w4 98) 53) 99).heap.size, 0, none⟩) 1 1, .slice (some ⟨(k1 (k1 (k1 (k1 w4 98) 53) 99) 54).heap.size, 0, none⟩) 1 1, .slice (some ⟨(k1 (k1 (k1 (k1 (k1 w4 98) 53) 99) 54) 100).heap.size, 0, none⟩) 1 1] 40)).alloc (.cells #[.slice (some ⟨(k1 (k1 (k1 (k1 (k1 (k1 w4 98) 53) 99) 54) 100) 55).heap.size, 0, none⟩) 3 3, .int .i64 100] 48)) ((k1 (k1 (k1 (k1 (k1 (k1 w4 98) 53) 99) 54) 100) 55).heap.size + 1) (.slice (some ⟨(k1 (k1 (k1 (k1 (k1 (k1 w4 98) 53) 99) 54) 100) 55).heap.size, 0, none⟩) 3 3) [⟨K1, V1, [98], [53]⟩, ⟨K2, V2, [99], [54]⟩, ⟨K3, V3, [100], [55]⟩] 100 := by
    refine ⟨.slice (some ⟨w4.heap.size, 0, none⟩) 1 1, .slice (some ⟨(k1 w4 98).heap.size, 0, none⟩) 1 1, .slice (some ⟨(k1 (k1 w4 98) 53).heap.size, 0, none⟩) 1 1, .slice (some ⟨(k1 (k1 (k1 w4 98) 53) 99).heap.size, 0, none⟩) 1 1, .slice (some ⟨(k1 (k1 (k1 (k1 w4 98) 53) 99) 54).heap.size, 0, none⟩) 1 1, .slice (some ⟨(k1 (k1 (k1 (k1 (k1 w4 98) 53) 99) 54) 100).heap.size, 0, none⟩) 1 1, hrow, ⟨?_, ?_, by simp⟩, by simp [Value.ownBlock], ?_⟩
    · have := hhas.sl 2 0 3 3 (by simp) (Nat.le_refl _) (by simp [maxLen])
      simpa [PrV.cells] using this
    · intro y hy
      simp only [List.mem_cons, List.not_mem_nil, or_false] at hy
      rcases hy with rfl | rfl | rfl
      · exact ⟨t0, t1, by simp, by simp⟩
      · exact ⟨t2, t3, by simp, by simp⟩
      · exact ⟨t4, t5, by simp, by simp⟩
    · intro y hy
      simp only [List.mem_cons, List.not_mem_nil, or_false] at hy
      rcases hy with rfl | rfl | rfl <;> (simp only [Value.ownBlock, k1_size, ne_eq, Option.some.injEq]; constructor <;> omega)
  have hg6' : w4.heap.size ≤ (k1 (k1 (k1 (k1 (k1 (k1 w4 98) 53) 99) 54) 100) 55).heap.size := by omega
  clear t0 t1 t2 t3 t4 t5 hrow hhas hg6
  generalize (((k1 (k1 (k1 (k1 (k1 (k1 w4 98) 53) 99) 54) 100) 55).alloc (.cells #[.slice (some ⟨w4.heap.size, 0, none⟩) 1 1, .slice (some ⟨(k1 w4 98).heap.size, 0, none⟩) 1 1, .slice (some ⟨(k1 (k1 w4 98) 53).heap.size, 0, none⟩) 1 1, .slice (some ⟨(k1 (k1 (k1 w4 98) 53) 99).heap.size, 0, none⟩) 1 1, .slice (some ⟨(k1 (k1 (k1 (k1 w4 98) 53) 99) 54).heap.size, 0, none⟩) 1 1, .slice (some ⟨(k1 (k1 (k1 (k1 (k1 w4 98) 53) 99) 54) 100).heap.size, 0, none⟩) 1 1] 40)).alloc (.cells #[.slice (some ⟨(k1 (k1 (k1 (k1 (k1 (k1 w4 98) 53) 99) 54) 100) 55).heap.size, 0, none⟩) 3 3, .int .i64 100] 48)) = w5 at hfr hbel hsz ⊢
  generalize (k1 (k1 (k1 (k1 (k1 (k1 w4 98) 53) 99) 54) 100) 55).heap.size = g at hbel hg6' hsz ⊢
  generalize hbb : g + 1 = bb at hbel hsz ⊢
  have HBB := Lib.hid hbb; have HSZ := Lib.hid hsz; clear hbb hsz
  have F5 := Lib.hid hfr; have HBEL := Lib.hid hbel; have HG := Lib.hid hg6'; clear hfr hbel hg6'
  have hlen3 : ∀ k, BfF p lv4 [⟨F3, T3, [97], [50], false⟩, ⟨F1, T1, [98], [49], false⟩, ⟨F2, T2, [99], [], true⟩] uv4 [u4, u3, u2] k → k ≠ bb := fun k hk e => by
    have := HB4.out.bf.lt k hk; have := HG.out; have := HBB.out; omega
  have HL3 := Lib.hid hlen3; clear hlen3
  refine (bufn_any (k1 w5 98) p lv4 uv4 _ _ bb _ _ 100 (.slice (some ⟨bb + 1, 0, none⟩) 1 1) [98] false ((HB4.out.bf.kept0 F5.out).kept0 (k1_fr _ _)) (by simp) HL3.out (HBEL.out.kept0 (k1_fr _ _)) (by omega) (k1_sl w5 98 _ HSZ.out) (by simp [Value.ownBlock])).mono ?_
  rintro e w6 ⟨he, hbe, hfr⟩
  rw [see_known] at he hbe
  obtain ⟨A5, A6, he, o1, -, nw, -⟩ := he
  replace nw : ∀ k, (Value.slice A5 1 1).ownBlock = some k → (k1 w5 98).heap.size ≤ k := fun k hk => nw k (.inl hk)
  replace he : e = .returned (.tuple #[.agg #[.slice A5 1 1, .slice A6 1 1], .bool true, .int .u16 0]) := he
  replace o1 : Ow w6 5 1 (.slice A5 1 1) 1 (bvs [100]) := o1
  subst he
  have hf6 : Fr (fun k => k = bb) w5 w6 := (k1_fr w5 98).mono (fun _ _ h => h.elim) |>.trans hfr (fun _ _ h => h)
  have O1 := Lib.hid o1; have BE6 := Lib.hid hbe; have F6 := Lib.hid hf6; have NW := Lib.hid nw; clear o1 hbe hfr hf6 nw
  have s7 : (convert 34 34 (.slice (some ⟨w6.heap.size + 1, 0, none⟩) 1 1)).run Try.prog ((w6.alloc (.cells #[.slice A5 1 1, .slice A6 1 1] 40)).alloc (.cells #[.int .u8 100] 5)) = .ok (.slice (some ⟨w6.heap.size + 1, 0, none⟩) 1 1) (k1 (w6.alloc (.cells #[.slice A5 1 1, .slice A6 1 1] 40)) 100) := k1_run (w6.alloc (.cells #[.slice A5 1 1, .slice A6 1 1] 40)) 100 _ (World.size_alloc _ _)
  go_wp2_with fail
  clear s7
  have hx6 := heap_alloc_new w6 (.cells #[.slice A5 1 1, .slice A6 1 1] 40)
  have ha6 := (Fr.refl no w6).alloc (.cells #[.slice A5 1 1, .slice A6 1 1] 40)
  have hs7 := k1_sl (w6.alloc (.cells #[.slice A5 1 1, .slice A6 1 1] 40)) 100 (w6.heap.size + 1) (World.size_alloc _ _)
  have hz7 : (w6.alloc (.cells #[.slice A5 1 1, .slice A6 1 1] 40)).heap.size = w6.heap.size + 1 := World.size_alloc _ _
  generalize hgx : w6.heap.size = gx at hx6 hs7 hz7 ⊢
  generalize w6.alloc (.cells #[.slice A5 1 1, .slice A6 1 1] 40) = w7 at hx6 ha6 hs7 hz7 ⊢
  have hgx2 := Nat.le_of_eq hgx; have hgx3 := Nat.le_of_eq hgx.symm
  have X6 := Lib.hid hx6; have A67 := Lib.hid ha6; have S7 := Lib.hid hs7; have GX := Lib.hid (And.intro hgx2 hgx3); have Z7 := Lib.hid hz7
  clear hx6 ha6 hs7 hgx hgx2 hgx3 hz7
  have hb7 := ((HB4.out.bf.kept0 F5.out).kept F6.out HL3.out).kept0 A67.out
  have HB7 := Lib.hid hb7; clear hb7
  refine (bufp_any (k1 w7 100) p lv4 uv4 _ _ bb _ _ 98 (.slice (some ⟨gx + 1, 0, none⟩) 1 1) [100] false (HB7.out.kept0 (k1_fr _ _)) (by simp) HL3.out ((BE6.out.kept0 A67.out).kept0 (k1_fr _ _)) (by omega) S7.out (by
    have h5 := (Array.getElem?_eq_some_iff.1 BE6.out.at_).1; have := GX.out
    simp [Value.ownBlock]; omega)).mono ?_
  rintro e w8 ⟨he, hbe, hfr⟩
  rw [see_known2] at he
  obtain ⟨B5, B6, he, -, o2, -⟩ := he
  replace he : e = .returned (.tuple #[.agg #[.slice B5 1 1, .slice B6 1 1], .bool true, .int .u16 0]) := he
  replace o2 : Ow w8 5 1 (.slice B6 1 1) 1 (bvs [49]) := o2
  subst he
  have hf8 : Fr (fun k => k = bb) w7 w8 := (k1_fr w7 100).mono (fun _ _ h => h.elim) |>.trans hfr (fun _ _ h => h)
  have O2 := Lib.hid o2; have F8 := Lib.hid hf8; clear o2 hbe hfr hf8
  go_wp2_with fail
  have hy8 := heap_alloc_new w8 (.cells #[.slice B5 1 1, .slice B6 1 1] 40)
  have ha8 := (Fr.refl no w8).alloc (.cells #[.slice B5 1 1, .slice B6 1 1] 40)
  have hgxl := (Array.getElem?_eq_some_iff.1 X6.out).1
  have hbb5 := (Array.getElem?_eq_some_iff.1 HBEL.out.at_).1
  have s56 := F6.out.size
  have hgb : ¬ gx = bb := by have := GX.out; omega
  have hx9 := ha8.heap (F8.out.heap X6.out hgb) (fun h => h)
  have hb9 := (HB7.out.kept F8.out HL3.out).kept0 ha8
  have ho1 := ((O1.out.kept0 A67.out).kept F8.out (fun k hk e => by
    have := NW.out k hk; rw [k1_size] at this; have e2 : k = bb := e; omega)).kept0 ha8
  have ho2 := O2.out.kept0 ha8
  generalize hgy : w8.heap.size = gy at hy8 ⊢
  generalize w8.alloc (.cells #[.slice B5 1 1, .slice B6 1 1] 40) = w9 at hy8 ha8 hx9 hb9 ho1 ho2 ⊢
  have F89 := Lib.hid ha8; have X9 := Lib.hid hx9; have Y9 := Lib.hid hy8; have HB9 := Lib.hid hb9; have O19 := Lib.hid ho1; have O29 := Lib.hid ho2
  clear hy8 ha8 hgxl hbb5 s56 hgb hx9 hb9 ho1 ho2 hgy
  refine (blen_any w9 p _ uv4 _ _ HB9.out).mono ?_
  rintro e w9 ⟨he, rfl⟩
  obtain rfl : e = .returned (.int .i64 3) := he
  go_wp2_with fail
  refine (bmark_any w9 p lv4 _ _ _ HB9.out).mono ?_
  rintro e w9 ⟨he, rfl⟩
  obtain rfl : e = .returned (.int .i64 3) := he
  obtain ⟨c0, c1, _, _⟩ := two_cells X9.out
  obtain ⟨d0, d1, _, _⟩ := two_cells Y9.out
  have hs1 : (convert 34 9 (.slice A5 1 1)).run Try.prog w9 = .ok (.string ⟨#[100]⟩) w9 := run_str (P := Try.prog) w9 (src := 34) (dst := 9) (e := 5) (by kernel_rfl) (by kernel_rfl) (by kernel_rfl) O19.out.sl
  have hs2 : (convert 34 9 (.slice B6 1 1)).run Try.prog w9 = .ok (.string ⟨#[49]⟩) w9 := run_str (P := Try.prog) w9 (src := 34) (dst := 9) (e := 5) (by kernel_rfl) (by kernel_rfl) (by kernel_rfl) O29.out.sl
  go_wp2
  go_ret
  refine ⟨by first | rfl | simp, ?_⟩
  have hbw : w4.heap.size ≤ bb := by have := HG.out; have := HBB.out; omega
  have s4 := HB4.out.fr.size
  exact (((((HB4.out.fr.trans F5.out (fun _ _ h => h)).trans (S := no) F6.out (fun k hk e => by have e2 : k = bb := e; omega)).trans A67.out (fun _ _ h => h)).trans (S := no) F8.out (fun k hk e => by have e2 : k = bb := e; omega)).trans F89.out (fun _ _ h => h))
end Go.Proofs.Ytdnohhlgaaihmaa

/- law16: much. -/
namespace Go.Proofs.Ytdnohhlgaaihmaa
open Go.RowKit

theorem sum_take (l : List Nat) (j : Nat) (h : j < l.length) : (l.take (j + 1)).sum = (l.take j).sum + l[j] := by
  rw [List.take_succ_eq_append_getElem h, List.sum_append, List.sum_singleton]
theorem sum_le (l : List Nat) (j : Nat) : (l.take j).sum ≤ l.sum := by
  have h := congrArg List.sum (List.take_append_drop j l)
  rw [List.sum_append] at h
  omega
theorem wrap64_id17 (n : Int) (h : -9223372036854775808 ≤ n) (h2 : n ≤ 9223372036854775807) : wrap64 n = n := by unfold wrap64; omega

set_option maxRecDepth 100000 in
set_option maxHeartbeats 4000000 in
theorem much16_any (w : World) (x : Value) (ks : List OpB) (hx : OpsB w x ks) :
    Calls Try.prog 12 #[x] w fun e w' => e = .returned (.bool (over16 ks)) ∧ Fr no w w' := by
  obtain ⟨A, c, rfl, hc1, hc2⟩ := hx.sl.form
  have hn := hx.n
  simp only [reachBytes] at hn
  have HX := Lib.hid hx; clear hx hc2
  obtain ⟨ls, hls⟩ : ∃ ls, ls = ks.map fun o => o.kb.length / 8 + o.vb.length / 8 := ⟨_, rfl⟩
  have hov : over16 ks = (decide (3000 < ks.length + ls.sum) || decide (300 < ks.length)) := by rw [hls]; rfl
  have HOV := Lib.hid hov; clear hov
  have hll : ls.length = ks.length := by rw [hls]; simp
  have HLS := Lib.hid hls; have HLL := Lib.hid hll; clear hls hll
  go_enter Try.func12, Try.ntmps12
  go_wp2
  go_loopw [3, 4] (fun s i wr => ∃ j : Nat, j ≤ ks.length ∧ i = .int .i64 j ∧ s = .int .i64 ((ks.length + (ls.take j).sum : Nat) : Int) ∧ Fr no w wr) (fun s i _ => ks.length - (intOf i).toNat)
  case atStart => exact ⟨0, Nat.zero_le _, rfl, by simp, Fr.refl _ _⟩
  case round =>
    obtain ⟨j, hj, rfl, rfl, hf⟩ := hrel
    have HF := Lib.hid hf; clear hf
    obtain ⟨T, hT⟩ : ∃ T, T = ks.length + (ls.take j).sum := ⟨_, rfl⟩
    rw [← hT]
    have HT := Lib.hid hT; clear hT
    have fin : 3000 < T → over16 ks = true := fun h => by
      have := HT.out; have := sum_le ls j
      rw [HOV.out]; simp; omega
    have FIN := Lib.hid fin; clear fin
    by_cases hlt : j < ks.length
    · by_cases hb : T ≤ 3000
      · obtain ⟨b, o, KA, kc, VA, vc, rfl, _, _, q0, q1, _, _, _, _⟩ := (HX.out.kept0 HF.out).at j hlt
        have hbl := (HX.out.good ks[j] (List.getElem_mem _)).lk
        have hbt := (HX.out.good ks[j] (List.getElem_mem _)).lv
        have hq := World.block_lt_of_cell? wr _ q0
        have hjl : j < ls.length := by have := HLL.out; omega
        have hst := sum_take ls j hjl
        have hlj : ls[j] = ks[j].kb.length / 8 + ks[j].vb.length / 8 := by have := HLS.out; subst this; simp
        have w1 : IntKind.i64.wrap (((ks[j].kb.length : Int) / 8) + ((ks[j].vb.length : Int) / 8)) = ((ks[j].kb.length : Int) / 8) + ((ks[j].vb.length : Int) / 8) := IntWalk.i64_in _ (by simp only [reachBytes] at hbl hbt; omega)
        have w2 : IntKind.i64.wrap ((T : Int) + (((ks[j].kb.length : Int) / 8) + ((ks[j].vb.length : Int) / 8))) = (T : Int) + (((ks[j].kb.length : Int) / 8) + ((ks[j].vb.length : Int) / 8)) := IntWalk.i64_in _ (by simp only [reachBytes] at hbl hbt; omega)
        have HS := Lib.hid hst; have HB := Lib.hid hbl; have HBT := Lib.hid hbt; have HLJ := Lib.hid hlj; clear hst hbl hbt hlj
        go_wp2
        go_quiet (fail)
        go_wp2
        go_roundw
        case rel =>
          have hs := HS.out
          have hT := HT.out
          have hlj := HLJ.out
          refine ⟨j + 1, hlt, by go_num, ?_, HF.out.moreN _⟩
          have hb1 := HB.out; have hb2 := HBT.out
          simp only [reachBytes] at hb1 hb2
          rw [wrap64_id17 ((ks[j].kb.length : Int) / 8) (by omega) (by omega), wrap64_id17 ((ks[j].vb.length : Int) / 8) (by omega) (by omega), wrap64_id17 ((ks[j].kb.length : Int) / 8 + (ks[j].vb.length : Int) / 8) (by omega) (by omega), wrap64_id17 _ (by omega) (by omega)]
          congr 1
          omega
        case measure => simp [intOf]; omega
      · have hbb : ¬ ((T : Int) ≤ 3000) := by omega
        go_wp2
        go_ret
        rw [FIN.out (by omega)]
        exact ⟨by first | rfl | simp, HF.out⟩
    · obtain rfl : j = ks.length := by omega
      have hTs : T = ks.length + ls.sum := by have := HT.out; rw [List.take_of_length_le (by have := HLL.out; omega)] at this; exact this
      have HTS := Lib.hid hTs; clear hTs
      by_cases hb : T ≤ 3000
      · by_cases hb3 : 300 < ks.length
        · go_wp2
          go_ret
          have e : over16 ks = true := by rw [HOV.out]; simp; omega
          rw [e]
          exact ⟨by first | rfl | (simp; omega), HF.out⟩
        · go_wp2
          go_ret
          have e : over16 ks = false := by have := HTS.out; rw [HOV.out]; simp; omega
          rw [e]
          exact ⟨by first | rfl | (simp; omega), HF.out⟩
      · go_wp2
        go_ret
        rw [FIN.out (by omega)]
        exact ⟨by first | rfl | (simp; omega), HF.out⟩
end Go.Proofs.Ytdnohhlgaaihmaa
