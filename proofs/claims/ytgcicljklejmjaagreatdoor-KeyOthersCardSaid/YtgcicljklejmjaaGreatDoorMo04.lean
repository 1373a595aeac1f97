import Derived.Test.YtgcicljklejmjaaGreatDoorMb02
import Derived.Test.YtgcicljklejmjaaGreatDoorMo03
import Derived.Test.YtgcicljklejmjaaGreatDoorMb04
import Derived.Test.YtgcicljklejmjaaGreatDoorMo01
import Derived.Test.YtgcicljklejmjaaGreatDoorMb16
import Derived.Test.YtgcicljklejmjaaGreatDoorMb17
import Derived.Test.YtgcicljklejmjaaGreatDoorRows
import Derived.Test.YtgcicljklejmjaaGreatDoorCards
import Derived.Test.YtgcicljklejmjaaGreatDoorTie
import Derived.Test.YtgcicljklejmjaaGreatDoorMb15
import Derived.Test.YtgcicljklejmjaaGreatDoorMb07
import Derived.WalkKit
import Derived.ProofKit
import Derived.OpenShut
import Derived.ChangeOld
import Derived.Below
import Derived.SizedLaws
import Derived.Lib.LaidIn
import Derived.Lib.LaidU8T
import Derived.Deep.DeepHandedRow
import Derived.Deep.DeepWitnessRowRef
import Derived.SevenTiedAt

/- The owner's check on a list of bools that is not there. -/
namespace Go.Proofs.YtgcicljklejmjaaGreatDoor
open Go.RowKit

set_option maxRecDepth 100000 in
set_option maxHeartbeats 400000 in
theorem ownBools_nil (w : World) : Calls Tryz.prog 59 #[.slice none 0 0] w fun e w' => e = .returned (.bool true) ∧ Fr no w w' := by
  have tb : Tb Tryz.prog 50 23 (.slice none 0 0) 1 24 := ⟨by kernel_rfl, by kernel_rfl, rfl, by decide⟩
  obtain ⟨inf, hi, hz0, hz1, hz2⟩ := info_parts tb.info
  have hmk := run_make (P := Tryz.prog) w 50 23 inf (.slice none 0 0) tb.und hi hz0 .i64 .i64 0 0 (by omega) (by omega) (by omega) (by omega)
  obtain ⟨c, hc⟩ : ∃ c, c = madeCells (Value.slice none 0 0).cells ((0 : Int).toNat * inf.size) := ⟨_, rfl⟩
  rw [← hc] at hmk
  clear hc hi hz0 hz1 hz2 tb
  go_enter Tryz.func59, Tryz.ntmps59
  go_wp2
  go_loop [4] (fun i => i = .int .i64 0) (fun _ => 0)
  case atStart => rfl
  case round =>
    subst hrel
    go_wp2
    go_ret
    exact ⟨rfl, (Fr.refl no w).alloc _⟩
end Go.Proofs.YtgcicljklejmjaaGreatDoor

/- The owner's check of a whole book: one kind of lists behind the other. -/
namespace Go.Proofs.YtgcicljklejmjaaGreatDoor
open Go.RowKit

set_option maxRecDepth 100000 in
set_option maxHeartbeats 4000000 in
theorem own_all (b : Nat) (w : World) (F : Nat → Value) (I : Nat → World → Prop) (h0 : I 0 w) (hc : ∀ i w', i < 23 → I i w' → w'.cell? ⟨b, i, none⟩ = some (F i))
    (k0 : ∀ w', I 0 w' → Calls Tryz.prog 42 #[F 0] w' fun e w'' => e = .returned (.bool true) ∧ I 1 w'')
    (k1 : ∀ w', I 1 w' → Calls Tryz.prog 43 #[F 1] w' fun e w'' => e = .returned (.bool true) ∧ I 2 w'')
    (k2 : ∀ w', I 2 w' → Calls Tryz.prog 44 #[F 2] w' fun e w'' => e = .returned (.bool true) ∧ I 3 w'')
    (k3 : ∀ w', I 3 w' → Calls Tryz.prog 45 #[F 3] w' fun e w'' => e = .returned (.bool true) ∧ I 4 w'')
    (k4 : ∀ w', I 4 w' → Calls Tryz.prog 46 #[F 4] w' fun e w'' => e = .returned (.bool true) ∧ I 5 w'')
    (k5 : ∀ w', I 5 w' → Calls Tryz.prog 47 #[F 5] w' fun e w'' => e = .returned (.bool true) ∧ I 6 w'')
    (k6 : ∀ w', I 6 w' → Calls Tryz.prog 48 #[F 6] w' fun e w'' => e = .returned (.bool true) ∧ I 7 w'')
    (k7 : ∀ w', I 7 w' → Calls Tryz.prog 49 #[F 7] w' fun e w'' => e = .returned (.bool true) ∧ I 8 w'')
    (k8 : ∀ w', I 8 w' → Calls Tryz.prog 50 #[F 8] w' fun e w'' => e = .returned (.bool true) ∧ I 9 w'')
    (k9 : ∀ w', I 9 w' → Calls Tryz.prog 51 #[F 9] w' fun e w'' => e = .returned (.bool true) ∧ I 10 w'')
    (k10 : ∀ w', I 10 w' → Calls Tryz.prog 52 #[F 10] w' fun e w'' => e = .returned (.bool true) ∧ I 11 w'')
    (k11 : ∀ w', I 11 w' → Calls Tryz.prog 53 #[F 11] w' fun e w'' => e = .returned (.bool true) ∧ I 12 w'')
    (k12 : ∀ w', I 12 w' → Calls Tryz.prog 54 #[F 12] w' fun e w'' => e = .returned (.bool true) ∧ I 13 w'')
    (k13 : ∀ w', I 13 w' → Calls Tryz.prog 55 #[F 13] w' fun e w'' => e = .returned (.bool true) ∧ I 14 w'')
    (k14 : ∀ w', I 14 w' → Calls Tryz.prog 56 #[F 14] w' fun e w'' => e = .returned (.bool true) ∧ I 15 w'')
    (k15 : ∀ w', I 15 w' → Calls Tryz.prog 57 #[F 15] w' fun e w'' => e = .returned (.bool true) ∧ I 16 w'')
    (k16 : ∀ w', I 16 w' → Calls Tryz.prog 58 #[F 16] w' fun e w'' => e = .returned (.bool true) ∧ I 17 w'')
    (k17 : ∀ w', I 17 w' → Calls Tryz.prog 59 #[F 17] w' fun e w'' => e = .returned (.bool true) ∧ I 18 w'')
    (k18 : ∀ w', I 18 w' → Calls Tryz.prog 60 #[F 18] w' fun e w'' => e = .returned (.bool true) ∧ I 19 w'')
    (k19 : ∀ w', I 19 w' → Calls Tryz.prog 61 #[F 19] w' fun e w'' => e = .returned (.bool true) ∧ I 20 w'')
    (k20 : ∀ w', I 20 w' → Calls Tryz.prog 62 #[F 20] w' fun e w'' => e = .returned (.bool true) ∧ I 21 w'')
    (k21 : ∀ w', I 21 w' → Calls Tryz.prog 63 #[F 21] w' fun e w'' => e = .returned (.bool true) ∧ I 22 w'')
    (k22 : ∀ w', I 22 w' → Calls Tryz.prog 64 #[F 22] w' fun e w'' => e = .returned (.bool true) ∧ I 23 w'')
    : Calls Tryz.prog 17 #[.pointer (some ⟨b, 0, none⟩)] w fun e w' => e = .returned (.bool true) ∧ I 23 w' := by
  have HC := Lib.hid hc; clear hc
  have K0 := Lib.hid k0; clear k0
  have K1 := Lib.hid k1; clear k1
  have K2 := Lib.hid k2; clear k2
  have K3 := Lib.hid k3; clear k3
  have K4 := Lib.hid k4; clear k4
  have K5 := Lib.hid k5; clear k5
  have K6 := Lib.hid k6; clear k6
  have K7 := Lib.hid k7; clear k7
  have K8 := Lib.hid k8; clear k8
  have K9 := Lib.hid k9; clear k9
  have K10 := Lib.hid k10; clear k10
  have K11 := Lib.hid k11; clear k11
  have K12 := Lib.hid k12; clear k12
  have K13 := Lib.hid k13; clear k13
  have K14 := Lib.hid k14; clear k14
  have K15 := Lib.hid k15; clear k15
  have K16 := Lib.hid k16; clear k16
  have K17 := Lib.hid k17; clear k17
  have K18 := Lib.hid k18; clear k18
  have K19 := Lib.hid k19; clear k19
  have K20 := Lib.hid k20; clear k20
  have K21 := Lib.hid k21; clear k21
  have K22 := Lib.hid k22; clear k22
  have HI := Lib.hid h0; clear h0
  obtain ⟨F, rfl⟩ : ∃ G : Nat → Value, G = F := ⟨_, rfl⟩
  generalize hF0 : F 0 = v0 at K0
  generalize hF1 : F 1 = v1 at K1
  generalize hF2 : F 2 = v2 at K2
  generalize hF3 : F 3 = v3 at K3
  generalize hF4 : F 4 = v4 at K4
  generalize hF5 : F 5 = v5 at K5
  generalize hF6 : F 6 = v6 at K6
  generalize hF7 : F 7 = v7 at K7
  generalize hF8 : F 8 = v8 at K8
  generalize hF9 : F 9 = v9 at K9
  generalize hF10 : F 10 = v10 at K10
  generalize hF11 : F 11 = v11 at K11
  generalize hF12 : F 12 = v12 at K12
  generalize hF13 : F 13 = v13 at K13
  generalize hF14 : F 14 = v14 at K14
  generalize hF15 : F 15 = v15 at K15
  generalize hF16 : F 16 = v16 at K16
  generalize hF17 : F 17 = v17 at K17
  generalize hF18 : F 18 = v18 at K18
  generalize hF19 : F 19 = v19 at K19
  generalize hF20 : F 20 = v20 at K20
  generalize hF21 : F 21 = v21 at K21
  generalize hF22 : F 22 = v22 at K22
  have HF0 := Lib.hid hF0; clear hF0
  have HF1 := Lib.hid hF1; clear hF1
  have HF2 := Lib.hid hF2; clear hF2
  have HF3 := Lib.hid hF3; clear hF3
  have HF4 := Lib.hid hF4; clear hF4
  have HF5 := Lib.hid hF5; clear hF5
  have HF6 := Lib.hid hF6; clear hF6
  have HF7 := Lib.hid hF7; clear hF7
  have HF8 := Lib.hid hF8; clear hF8
  have HF9 := Lib.hid hF9; clear hF9
  have HF10 := Lib.hid hF10; clear hF10
  have HF11 := Lib.hid hF11; clear hF11
  have HF12 := Lib.hid hF12; clear hF12
  have HF13 := Lib.hid hF13; clear hF13
  have HF14 := Lib.hid hF14; clear hF14
  have HF15 := Lib.hid hF15; clear hF15
  have HF16 := Lib.hid hF16; clear hF16
  have HF17 := Lib.hid hF17; clear hF17
  have HF18 := Lib.hid hF18; clear hF18
  have HF19 := Lib.hid hF19; clear hF19
  have HF20 := Lib.hid hF20; clear hF20
  have HF21 := Lib.hid hF21; clear hF21
  have HF22 := Lib.hid hF22; clear hF22
  have c := HC.out 0 w (by omega) HI.out
  rw [HF0.out] at c
  go_enter Tryz.func17, Tryz.ntmps17
  go_wp2_with fail
  refine (K0.out _ HI.out).mono ?_
  clear c HI
  rintro e w1 ⟨rfl, hi⟩
  have HI := Lib.hid hi; clear hi
  have c := HC.out 1 w1 (by omega) HI.out
  rw [HF1.out] at c
  go_wp2_with fail
  refine (K1.out _ HI.out).mono ?_
  clear c HI
  rintro e w2 ⟨rfl, hi⟩
  have HI := Lib.hid hi; clear hi
  have c := HC.out 2 w2 (by omega) HI.out
  rw [HF2.out] at c
  go_wp2_with fail
  refine (K2.out _ HI.out).mono ?_
  clear c HI
  rintro e w3 ⟨rfl, hi⟩
  have HI := Lib.hid hi; clear hi
  have c := HC.out 3 w3 (by omega) HI.out
  rw [HF3.out] at c
  go_wp2_with fail
  refine (K3.out _ HI.out).mono ?_
  clear c HI
  rintro e w4 ⟨rfl, hi⟩
  have HI := Lib.hid hi; clear hi
  have c := HC.out 4 w4 (by omega) HI.out
  rw [HF4.out] at c
  go_wp2_with fail
  refine (K4.out _ HI.out).mono ?_
  clear c HI
  rintro e w5 ⟨rfl, hi⟩
  have HI := Lib.hid hi; clear hi
  have c := HC.out 5 w5 (by omega) HI.out
  rw [HF5.out] at c
  go_wp2_with fail
  refine (K5.out _ HI.out).mono ?_
  clear c HI
  rintro e w6 ⟨rfl, hi⟩
  have HI := Lib.hid hi; clear hi
  have c := HC.out 6 w6 (by omega) HI.out
  rw [HF6.out] at c
  go_wp2_with fail
  refine (K6.out _ HI.out).mono ?_
  clear c HI
  rintro e w7 ⟨rfl, hi⟩
  have HI := Lib.hid hi; clear hi
  have c := HC.out 7 w7 (by omega) HI.out
  rw [HF7.out] at c
  go_wp2_with fail
  refine (K7.out _ HI.out).mono ?_
  clear c HI
  rintro e w8 ⟨rfl, hi⟩
  have HI := Lib.hid hi; clear hi
  have c := HC.out 8 w8 (by omega) HI.out
  rw [HF8.out] at c
  go_wp2_with fail
  refine (K8.out _ HI.out).mono ?_
  clear c HI
  rintro e w9 ⟨rfl, hi⟩
  have HI := Lib.hid hi; clear hi
  have c := HC.out 9 w9 (by omega) HI.out
  rw [HF9.out] at c
  go_wp2_with fail
  refine (K9.out _ HI.out).mono ?_
  clear c HI
  rintro e w10 ⟨rfl, hi⟩
  have HI := Lib.hid hi; clear hi
  have c := HC.out 10 w10 (by omega) HI.out
  rw [HF10.out] at c
  go_wp2_with fail
  refine (K10.out _ HI.out).mono ?_
  clear c HI
  rintro e w11 ⟨rfl, hi⟩
  have HI := Lib.hid hi; clear hi
  have c := HC.out 11 w11 (by omega) HI.out
  rw [HF11.out] at c
  go_wp2_with fail
  refine (K11.out _ HI.out).mono ?_
  clear c HI
  rintro e w12 ⟨rfl, hi⟩
  have HI := Lib.hid hi; clear hi
  have c := HC.out 12 w12 (by omega) HI.out
  rw [HF12.out] at c
  go_wp2_with fail
  refine (K12.out _ HI.out).mono ?_
  clear c HI
  rintro e w13 ⟨rfl, hi⟩
  have HI := Lib.hid hi; clear hi
  have c := HC.out 13 w13 (by omega) HI.out
  rw [HF13.out] at c
  go_wp2_with fail
  refine (K13.out _ HI.out).mono ?_
  clear c HI
  rintro e w14 ⟨rfl, hi⟩
  have HI := Lib.hid hi; clear hi
  have c := HC.out 14 w14 (by omega) HI.out
  rw [HF14.out] at c
  go_wp2_with fail
  refine (K14.out _ HI.out).mono ?_
  clear c HI
  rintro e w15 ⟨rfl, hi⟩
  have HI := Lib.hid hi; clear hi
  have c := HC.out 15 w15 (by omega) HI.out
  rw [HF15.out] at c
  go_wp2_with fail
  refine (K15.out _ HI.out).mono ?_
  clear c HI
  rintro e w16 ⟨rfl, hi⟩
  have HI := Lib.hid hi; clear hi
  have c := HC.out 16 w16 (by omega) HI.out
  rw [HF16.out] at c
  go_wp2_with fail
  refine (K16.out _ HI.out).mono ?_
  clear c HI
  rintro e w17 ⟨rfl, hi⟩
  have HI := Lib.hid hi; clear hi
  have c := HC.out 17 w17 (by omega) HI.out
  rw [HF17.out] at c
  go_wp2_with fail
  refine (K17.out _ HI.out).mono ?_
  clear c HI
  rintro e w18 ⟨rfl, hi⟩
  have HI := Lib.hid hi; clear hi
  have c := HC.out 18 w18 (by omega) HI.out
  rw [HF18.out] at c
  go_wp2_with fail
  refine (K18.out _ HI.out).mono ?_
  clear c HI
  rintro e w19 ⟨rfl, hi⟩
  have HI := Lib.hid hi; clear hi
  have c := HC.out 19 w19 (by omega) HI.out
  rw [HF19.out] at c
  go_wp2_with fail
  refine (K19.out _ HI.out).mono ?_
  clear c HI
  rintro e w20 ⟨rfl, hi⟩
  have HI := Lib.hid hi; clear hi
  have c := HC.out 20 w20 (by omega) HI.out
  rw [HF20.out] at c
  go_wp2_with fail
  refine (K20.out _ HI.out).mono ?_
  clear c HI
  rintro e w21 ⟨rfl, hi⟩
  have HI := Lib.hid hi; clear hi
  have c := HC.out 21 w21 (by omega) HI.out
  rw [HF21.out] at c
  go_wp2_with fail
  refine (K21.out _ HI.out).mono ?_
  clear c HI
  rintro e w22 ⟨rfl, hi⟩
  have HI := Lib.hid hi; clear hi
  have c := HC.out 22 w22 (by omega) HI.out
  rw [HF22.out] at c
  go_wp2_with fail
  refine (K22.out _ HI.out).mono ?_
  clear c HI
  rintro e w23 ⟨rfl, hi⟩
  have HI := Lib.hid hi; clear hi
  go_wp2
  go_ret
  exact ⟨rfl, HI.out⟩
end Go.Proofs.YtgcicljklejmjaaGreatDoor

/- What things of a call's own take up in memory: each its own blocks. General. -/
namespace Go
open Go.RowKit

def Dj (S T : Nat → Prop) : Prop := ∀ k, S k → ¬ T k

theorem Dj.symm {S T : Nat → Prop} (h : Dj S T) : Dj T S := fun k h1 h2 => h k h2 h1

/-- The blocks of a slice's row. -/
def ob (v : Value) : Nat → Prop := fun k => v.ownBlock = some k

/-- One block. -/
def at1 (g : Nat) : Nat → Prop := fun k => k = g

/-- Footprints, apart from each other, of blocks from lo on, below hi. -/
structure Sep (lo hi : Nat) (F : List (Nat → Prop)) : Prop where
  dj : F.Pairwise Dj
  bd : ∀ S ∈ F, ∀ k, S k → lo ≤ k ∧ k < hi

namespace Sep
variable {lo hi hi' : Nat} {F : List (Nat → Prop)}
theorem nil (lo hi : Nat) : Sep lo hi [] := ⟨.nil, by simp⟩
theorem later (h : Sep lo hi F) (hh : hi ≤ hi') : Sep lo hi' F := ⟨h.dj, fun S hS k hk => ⟨(h.bd S hS k hk).1, Nat.lt_of_lt_of_le (h.bd S hS k hk).2 hh⟩⟩
theorem ne (h : Sep lo hi F) (i j : Nat) (hij : i ≠ j) {S T : Nat → Prop} (hi : F[i]? = some S) (hj : F[j]? = some T) : Dj S T := by
  obtain ⟨hi1, rfl⟩ := List.getElem?_eq_some_iff.1 hi
  obtain ⟨hj1, rfl⟩ := List.getElem?_eq_some_iff.1 hj
  rcases Nat.lt_or_gt_of_ne hij with h1 | h1
  · exact List.pairwise_iff_getElem.1 h.dj i j hi1 hj1 h1
  · exact (List.pairwise_iff_getElem.1 h.dj j i hj1 hi1 h1).symm
theorem lo_of (h : Sep lo hi F) (i : Nat) {S : Nat → Prop} (hS : F[i]? = some S) (k : Nat) (hk : S k) : lo ≤ k ∧ k < hi := h.bd S (List.mem_of_getElem? hS) k hk
/-- One of them goes on: in its own blocks, and in new ones. -/
theorem upd (h : Sep lo hi F) (i : Nat) {S : Nat → Prop} (S' : Nat → Prop) (hS : F[i]? = some S) (hh : hi ≤ hi') (hl : lo ≤ hi) (h' : ∀ k, S' k → S k ∨ (hi ≤ k ∧ k < hi')) : Sep lo hi' (F.set i S') := by
  have key : ∀ k, S' k → lo ≤ k ∧ k < hi' := fun k hk => by
    rcases h' k hk with h1 | h1
    · have := h.lo_of i hS k h1; omega
    · omega
  refine ⟨List.pairwise_iff_getElem.2 fun a b ha hb hab => ?_, fun T hT k hk => ?_⟩
  · simp only [List.length_set] at ha hb
    have other : ∀ c (hc : c < F.length), i ≠ c → Dj S' F[c] := fun c hc hne k hk hk2 => by
      rcases h' k hk with h1 | h1
      · exact h.ne i c hne hS (List.getElem?_eq_getElem hc) k h1 hk2
      · have := (h.lo_of c (List.getElem?_eq_getElem hc) k hk2).2; omega
    by_cases h1 : i = a
    · subst h1
      rw [List.getElem_set_self, List.getElem_set_ne (by omega)]
      exact other b hb (by omega)
    · rw [List.getElem_set_ne h1]
      by_cases h2 : i = b
      · subst h2
        rw [List.getElem_set_self]
        exact (other a ha (by omega)).symm
      · rw [List.getElem_set_ne h2]
        exact List.pairwise_iff_getElem.1 h.dj a b ha hb hab
  · rcases List.mem_or_eq_of_mem_set hT with h1 | rfl
    · have := h.bd T h1 k hk; omega
    · exact key k hk
/-- A new one. -/
theorem cons (h : Sep lo hi F) {S : Nat → Prop} (hh : hi ≤ hi') (hl : lo ≤ hi) (h' : ∀ k, S k → hi ≤ k ∧ k < hi') : Sep lo hi' (S :: F) := by
  refine ⟨List.pairwise_cons.2 ⟨fun T hT k hk hk2 => ?_, h.dj⟩, fun T hT k hk => ?_⟩
  · have := (h.bd T hT k hk2).2; have := (h' k hk).1; omega
  · rcases List.mem_cons.1 hT with rfl | h1
    · have := h' k hk; omega
    · have := h.bd T h1 k hk; omega
theorem tail {S : Nat → Prop} (h : Sep lo hi (S :: F)) : Sep lo hi F := ⟨(List.pairwise_cons.1 h.dj).2, fun T hT => h.bd T (List.mem_cons_of_mem _ hT)⟩
/-- Less of one of them. -/
theorem less (h : Sep lo hi F) (i : Nat) {S : Nat → Prop} (S' : Nat → Prop) (hS : F[i]? = some S) (hl : lo ≤ hi) (h' : ∀ k, S' k → S k) : Sep lo hi (F.set i S') := h.upd i S' hS (Nat.le_refl _) hl (fun k hk => .inl (h' k hk))
end Sep

theorem Moved.blk {w w' : World} {v v' : Value} (m : Moved w w' v v') (k : Nat) (h : ob v' k) : ob v k ∨ (w.heap.size ≤ k ∧ k < w'.heap.size) := by
  rcases m with m | m
  · exact .inl (m.symm.trans h)
  · exact .inr (m k h)
end Go

/- A book of byte rows, as a thing with footprints. -/
namespace Go.Proofs.YtgcicljklejmjaaGreatDoor
open Go.RowKit

/-- What a book takes up. -/
def BkF (b : Nat) (bv : Value) : Nat → Prop := fun k => k = b ∨ bv.ownBlock = some k

theorem InRows.ob {vs : List Value} {j : Nat} (h : j < vs.length) {k : Nat} (hk : vs[j].ownBlock = some k) : InRows vs k := ⟨_, List.getElem_mem h, hk⟩

theorem Bk.kept {w w1 : World} {b : Nat} {v : Value} {rs : List Value} {S : Nat → Prop} (h : Bk w b v rs) (f : Fr S w w1) (hn : Dj (BkF b v) S) : Bk w1 b v rs :=
  ⟨f.heap h.1 (hn b (.inl rfl)), own_kept h.2.1 f (fun k hk => hn k (.inr hk)), h.2.2⟩

set_option maxRecDepth 100000 in
/-- A book of lists of bytes: it finds each its owner's. -/
theorem book_own (b : Nat) (w : World) (v : Value) (rs : List Value) (ns : Nat → Nat) (C : Nat → List Value) (hb : Bk w b v rs) (hr : Rws w 5 1 rs ns C) (ha : Dj (BkF b v) (InRows rs)) (hl : rs.length ≤ 1000000) (hns : ∀ j, ns j ≤ 140737488351232) :
    Calls Tryz.prog 17 #[.pointer (some ⟨b, 0, none⟩)] w fun e w' => e = .returned (.bool true) ∧ Fr (InRows rs) w w' := by
  have hnil : ∀ f : FuncId, (∀ w' : World, Calls Tryz.prog f #[.slice none 0 0] w' fun e w'' => e = .returned (.bool true) ∧ w'' = w') → ∀ i, 1 ≤ i → ∀ w', (fun (i : Nat) (w' : World) => if i = 0 then w' = w else Fr (InRows rs) w w') i w' →
      Calls Tryz.prog f #[(fun i => if i = 0 then v else Value.slice none 0 0) i] w' fun e w'' => e = .returned (.bool true) ∧ (fun (i : Nat) (w' : World) => if i = 0 then w' = w else Fr (InRows rs) w w') (i + 1) w'' := by
    intro f h i hi w' hw
    have hi0 : ¬ i = 0 := by omega
    simp only [hi0, if_false] at hw ⊢
    exact (h w').mono fun e w'' ⟨h1, h2⟩ => ⟨h1, by simp only [Nat.add_eq_zero_iff, hi0, false_and, if_false]; rw [h2]; exact hw⟩
  have hcell : ∀ i w', i < 23 → (fun (i : Nat) (w' : World) => if i = 0 then w' = w else Fr (InRows rs) w w') i w' → w'.cell? ⟨b, i, none⟩ = some ((fun i => if i = 0 then v else Value.slice none 0 0) i) := by
    intro i w' hi hw
    have hf : Fr (InRows rs) w w' := by
      by_cases h0 : i = 0
      · simp only [h0, if_true] at hw; rw [hw]; exact Fr.refl _ _
      · simpa only [h0, if_false] using hw
    have hk := (hb.kept hf ha).cells
    by_cases h0 : i = 0
    · subst h0; exact hk.1
    · obtain ⟨j, rfl⟩ : ∃ j, i = j + 1 := ⟨i - 1, by omega⟩
      simpa using hk.2.1 j (by omega)
  refine (own_all b w (fun i => if i = 0 then v else .slice none 0 0) (fun i w' => if i = 0 then w' = w else Fr (InRows rs) w w') rfl hcell ?_ (hnil _ ownTexts_nil 1 (by omega)) (hnil _ ownInts_nil 2 (by omega)) (hnil _ ownLongs_nil 3 (by omega)) (hnil _ ownNumbers_nil 4 (by omega)) (hnil _ ownWords_nil 5 (by omega)) (hnil _ ownSteps_nil 6 (by omega)) (hnil _ ownParts_nil 7 (by omega)) (hnil _ ownDones_nil 8 (by omega))
    (hnil _ ownRows_nil 9 (by omega)) (hnil _ ownLists_nil 10 (by omega)) (hnil _ ownIntLists_nil 11 (by omega)) (hnil _ ownPaths_nil 12 (by omega)) (hnil _ ownPairs_nil 13 (by omega)) (hnil _ ownChanges_nil 14 (by omega)) (hnil _ ownSpans_nil 15 (by omega)) (hnil _ ownEntries_nil 16 (by omega)) ?_ (hnil _ ownValues_nil 18 (by omega)) (hnil _ ownFields_nil 19 (by omega)) (hnil _ ownIndexes_nil 20 (by omega)) (hnil _ ownEvents_nil 21 (by omega)) (hnil _ ownCommits_nil 22 (by omega))).mono ?_
  · intro w' hw
    simp only [if_true] at hw
    subst hw
    obtain ⟨A, c, rfl⟩ := own_form hb.2.1
    refine (own_bytes w' A c rs ns C ⟨Sl.of_own hb.2.1, fun k hk => ha k (.inr hk), hr⟩ (fun k hk => own_lt hb.2.1 k hk) hl hns).mono fun e w'' ⟨h1, h2⟩ => ⟨h1, by simpa using h2⟩
  · intro w' hw
    replace hw : Fr (InRows rs) w w' := hw
    exact (ownBools_nil w').mono fun e w'' ⟨h1, h2⟩ => ⟨h1, hw.trans h2 (fun _ _ h => h.elim)⟩
  · intro e w' ⟨h1, h2⟩
    exact ⟨h1, h2⟩

/-- A book b of rows rs. -/
structure Bo (w : World) (b : Nat) (bv : Value) (rs : List Value) (ns : Nat → Nat) (C : Nat → List Value) : Prop where
  bk : Bk w b bv rs
  rows : Rws w 5 1 rs ns C
  short : ∀ j, ns j ≤ 140737488351232

namespace Bo
variable {w w1 : World} {b : Nat} {bv : Value} {rs : List Value} {ns : Nat → Nat} {C : Nat → List Value} {S : Nat → Prop}
theorem kept (h : Bo w b bv rs ns C) (f : Fr S w w1) (h1 : Dj (BkF b bv) S) (h2 : Dj (InRows rs) S) : Bo w1 b bv rs ns C :=
  ⟨h.bk.kept f h1, h.rows.kept f h2, h.short⟩
theorem kept0 (h : Bo w b bv rs ns C) (f : Fr no w w1) : Bo w1 b bv rs ns C := h.kept f (fun _ _ h => h) (fun _ _ h => h)

theorem in_snoc {r : Value} (k : Nat) : InRows (rs ++ [r]) k ↔ InRows rs k ∨ r.ownBlock = some k := by
  constructor
  · rintro ⟨v, hv, hk⟩
    rcases List.mem_append.1 hv with hv | hv
    · exact .inl ⟨v, hv, hk⟩
    · simp at hv; subst hv; exact .inr hk
  · rintro (⟨v, hv, hk⟩ | hk)
    · exact ⟨v, List.mem_append_left _ hv, hk⟩
    · exact ⟨r, by simp, hk⟩

/-- A row of one's own put into it. -/
theorem booked (h : Bo w b bv rs ns C) (hd : Dj (BkF b bv) (InRows rs)) (hb1 : ∀ k, BkF b bv k → k < w.heap.size) {wm : World} {r bv' : Value} {n : Nat} {xs : List Value} (fm : Fr no w wm) (hn : n ≤ 140737488351232) (ho : Ow wm 5 1 r n xs) (hf : ∀ k, r.ownBlock = some k → w.heap.size ≤ k) (hb : Bk w1 b bv' (rs ++ [r])) (f : Fr (fun k => k = b ∨ bv.ownBlock = some k) wm w1) :
    ∃ ns C, Bo w1 b bv' (rs ++ [r]) ns C := by
  have h1 := h.kept0 fm
  have hrb : ∀ k, r.ownBlock = some k → ¬ BkF b bv k := fun k hk hk2 => by
    have := hf k hk; have := hb1 k hk2; omega
  refine ⟨fun j => if j = rs.length then n else ns j, fun j => if j = rs.length then xs else C j, hb, ⟨fun j hj => ?_, fun i j hi hj k hij hk => ?_⟩, fun j => ?_⟩
  · by_cases hj2 : j < rs.length
    · simp only [List.getElem_append_left hj2, show ¬ j = rs.length by omega, if_false]
      exact (h1.rows.row j hj2).kept f (fun k hk hk2 => hd k hk2 (InRows.ob hj2 hk))
    · obtain rfl : j = rs.length := by simp at hj; omega
      simp only [List.getElem_concat_length, if_true]
      exact ho.kept f (fun k hk hk2 => hrb k hk hk2)
  · by_cases hi2 : i < rs.length
    · rw [List.getElem_append_left hi2] at hk
      by_cases hj2 : j < rs.length
      · rw [List.getElem_append_left hj2]
        exact h.rows.apart i j hi2 hj2 k hij hk
      · obtain rfl : j = rs.length := by simp at hj; omega
        simp only [List.getElem_concat_length]
        intro hk2
        have := hf k hk2; have := h.rows.lt k (InRows.ob hi2 hk); omega
    · obtain rfl : i = rs.length := by simp at hi; omega
      simp only [List.getElem_concat_length] at hk
      have hj2 : j < rs.length := by simp at hj; omega
      rw [List.getElem_append_left hj2]
      intro hk2
      have := hf k hk; have := h.rows.lt k (InRows.ob hj2 hk2); omega
  · split
    · exact hn
    · exact h.short j
end Bo

/-- What the book and its rows take up behind it. -/
theorem Sep.booked {lo : Nat} {F : List (Nat → Prop)} {w wm w1 : World} {b : Nat} {bv bv' r : Value} {rs : List Value} (h : Sep lo w.heap.size F) (hl : lo ≤ w.heap.size) (i j : Nat) (hij : i ≠ j) (hi : F[i]? = some (BkF b bv)) (hj : F[j]? = some (InRows rs)) (fm : Fr no w wm) (hf : ∀ k, r.ownBlock = some k → w.heap.size ≤ k ∧ k < wm.heap.size) {S : Nat → Prop} (f : Fr S wm w1) (m : Moved wm w1 bv bv') :
    Sep lo w1.heap.size ((F.set j (InRows (rs ++ [r]))).set i (BkF b bv')) := by
  have s1 := h.upd j (InRows (rs ++ [r])) hj fm.size hl (fun k hk => by
    rcases (Bo.in_snoc k).1 hk with h1 | h1
    · exact .inl h1
    · exact .inr (hf k h1))
  refine s1.upd i (BkF b bv') (by rw [List.getElem?_set_ne (fun e => hij e.symm)]; exact hi) f.size (Nat.le_trans hl fm.size) (fun k hk => ?_)
  rcases hk with hk | hk
  · exact .inl (.inl hk)
  · rcases m.blk k hk with h2 | h2
    · exact .inl (.inr h2)
    · exact .inr h2
end Go.Proofs.YtgcicljklejmjaaGreatDoor

/- KeyOthers: After of any bytes, and the order of any tuples, are what the chapter says. -/
namespace Go.Proofs.YtgcicljklejmjaaGreatDoor
open Go.RowKit Go.Shelf
open Tr

theorem cmpT_range (d : Nat → Bool) (l : List (Tr Mm)) : ∀ (i : Nat) (k : List (Tr Mm)), -1 ≤ cmpT d i l k ∧ cmpT d i l k ≤ 1 := by
  induction l with
  | nil => intro i k; cases k <;> simp [cmpT]
  | cons x l ih =>
    intro i k
    cases k with
    | nil => simp [cmpT]
    | cons y k =>
      have h := cmp_range x y
      have h2 := ih (i + 1) k
      rw [cmpT]
      split
      · split <;> omega
      · exact h2

theorem after_u (w : World) (X : Value) (b : List UInt8) (av : List UInt8) (fl : Bool) (hav : av = (after b).getD []) (hfl : fl = (after b).isSome) (hx : Sl w 1 X b.length (bvs b)) (hl : b.length ≤ 1000000000) :
    Calls Tryz.prog 19 #[X] w fun e w' => Fr no w w' ∧ ∃ A n, e = .returned (.tuple #[.slice A n n, .bool fl]) ∧ n = av.length ∧ Ow w' 5 1 (.slice A n n) n (bvs av) ∧ ∀ k, Value.ownBlock (.slice A n n) = some k → w.heap.size ≤ k := by
  refine (after_any w X b hx hl).mono ?_
  rintro e w' ⟨f, ⟨h, rfl⟩ | ⟨a, A, n, h, rfl, hn, ho, hk⟩⟩
  · rw [h] at hav hfl
    simp only [Option.getD_none, Option.isSome_none] at hav hfl
    subst hav hfl
    exact ⟨f, none, 0, rfl, rfl, ow_nilb0 _, by simp [Value.ownBlock]⟩
  · rw [h] at hav hfl
    simp only [Option.getD_some, Option.isSome_some] at hav hfl
    subst hav hfl
    exact ⟨f, A, n, rfl, hn, ho, hk⟩
theorem after4_u (w : World) (X : Value) (b : List UInt8) (av : List UInt8) (fl : Bool) (hav : av = (after b).getD []) (hfl : fl = (after b).isSome) (hx : Sl w 1 X b.length (bvs b)) (hl : b.length ≤ 1000000000) :
    Calls Tryz.prog 21 #[X] w fun e w' => Fr no w w' ∧ ∃ A n c, e = .returned (.tuple #[.slice A n c, .bool fl]) ∧ n = av.length ∧ Ow w' 5 1 (.slice A n c) n (bvs av) := by
  refine (after4_any w X b hx hl).mono ?_
  rintro e w' ⟨f, ⟨h, rfl⟩ | ⟨a, A, n, c, h, rfl, hn, ho⟩⟩
  · rw [h] at hav hfl
    simp only [Option.getD_none, Option.isSome_none] at hav hfl
    subst hav hfl
    exact ⟨f, none, 0, 0, rfl, rfl, ow_nilb0 _⟩
  · rw [h] at hav hfl
    simp only [Option.getD_some, Option.isSome_some] at hav hfl
    subst hav hfl
    exact ⟨f, A, n, c, rfl, hn, ho⟩
theorem after_len (b : List UInt8) : ((after b).getD []).length ≤ b.length := by
  rcases after_cases b with ⟨h, _⟩ | ⟨p, c, m, _, h, h2⟩
  · rw [h]; exact Nat.zero_le _
  · rw [h2, h]; simp

set_option maxRecDepth 100000 in
set_option maxHeartbeats 8000000 in
theorem others_any (w : World) (X L M D : Value) (b : List UInt8) (l m : List (Tr Mm)) (dl : List Bool) (hx : Sl w 1 X b.length (bvs b)) (hbn : b.length ≤ reachBytes) (hl : In w L l) (hm : In w M m) (hd : Sl w 1 D dl.length (bls dl)) (hdn : dl.length ≤ reachBytes) (hT : Tabs w) :
    Calls Tryz.prog 4 #[X, L, M, D] w fun e w' => e = .returned (.bool true) ∧ Fr no w w' := by
  obtain ⟨XA, xc, rfl, _, _⟩ := hx.form
  obtain ⟨LA, lc, rfl, _, _⟩ := hl.sl.form
  obtain ⟨MA, mc, rfl, _, _⟩ := hm.sl.form
  obtain ⟨DA, dc, rfl, _, _⟩ := hd.form
  have lbn : b.length ≤ 140737488351232 := hbn
  have ldn : dl.length ≤ 140737488351232 := hdn
  have lln : l.length ≤ 140737488351232 := hl.n
  have lmn : m.length ≤ 140737488351232 := hm.n
  have HX := Lib.hid hx; have HL := Lib.hid hl; have HM := Lib.hid hm; have HD := Lib.hid hd; have HDN := Lib.hid hdn; have HT := Lib.hid hT
  clear hx hl hm hd hbn hdn hT
  obtain ⟨av, hav⟩ : ∃ av, av = (after b).getD [] := ⟨_, rfl⟩
  obtain ⟨fl, hfl⟩ : ∃ fl, fl = (after b).isSome := ⟨_, rfl⟩
  have hal := after_len b
  rw [← hav] at hal
  have HAV := Lib.hid hav; have HFL := Lib.hid hfl; have HAL := Lib.hid hal
  clear hav hfl hal
  go_enter Tryz.func4, Tryz.ntmps4
  by_cases hbl : b.length ≤ 20000
  rotate_left
  · go_wp2
    go_ret
    exact ⟨rfl, by (repeat first | exact Fr.refl _ _ | exact Fr.drewN _ _ _ | apply Fr.drew | apply Fr.alloc | apply Fr.setAt | apply Fr.moreN)⟩
  go_wp2_with fail
  refine (much_any l w _ HL.out).mono ?_
  rintro e w1 ⟨f1, b1, rfl, hb1⟩
  have F1 := Lib.hid f1
  clear f1 hb1
  cases b1 with
  | true =>
    go_wp2
    go_ret
    exact ⟨rfl, F1.out⟩
  | false =>
  go_wp2_with fail
  refine (much_any m w1 _ (HM.out.kept0 F1.out)).mono ?_
  rintro e w2 ⟨f2, b2, rfl, hb2⟩
  have F2 := Lib.hid (F1.out.trans f2 (fun _ _ h => h))
  clear f2 hb2 F1
  cases b2 with
  | true =>
    go_wp2
    go_ret
    exact ⟨rfl, F2.out⟩
  | false =>
  by_cases hdl2 : dl.length ≤ 20000
  rotate_left
  · go_wp2
    go_ret
    exact ⟨rfl, F2.out⟩
  go_wp2_with fail
  refine (lent_any w2 _ b (HX.out.kept0 F2.out) lbn).mono ?_
  rintro e w3 ⟨g, rfl, hg, hle, f3⟩
  have F3 := Lib.hid (F2.out.trans f3 (fun _ _ h => h)); have HLE := Lib.hid hle
  have HS3 := Lib.hid F3.out.size
  clear f3 hle hg F2
  go_wp2_with fail
  refine (after_u w3 _ b av fl HAV.out HFL.out (HLE.out.sl lbn) (by omega)).mono ?_
  rintro e w4 ⟨f4, A, n, rfl, hn, hoa, hka⟩
  have F4 := Lib.hid (F3.out.trans f4 (fun _ _ h => h)); have HLE4 := Lib.hid (HLE.out.kept f4 (fun h => h)); have HN := Lib.hid hn; have HOA := Lib.hid hoa; have HKA := Lib.hid hka
  have HS4 := Lib.hid F4.out.size
  clear f4 hn hoa hka F3 HLE
  go_wp2_with fail
  refine (after_u w4 _ b av fl HAV.out HFL.out (HLE4.out.sl lbn) (by omega)).mono ?_
  rintro e w5 ⟨f5, C, n2, rfl, hn2, hoc, hkc⟩
  have F5 := Lib.hid (F4.out.trans f5 (fun _ _ h => h)); have F45 := Lib.hid f5; have HLE5 := Lib.hid (HLE4.out.kept f5 (fun h => h)); have HN2 := Lib.hid hn2; have HOC := Lib.hid hoc; have HKC := Lib.hid hkc
  clear f5 hn2 hoc hkc F4 HLE4
  go_wp2_with fail
  refine (whole_lent w5 g _ b b HLE5.out (HX.out.kept0 F5.out) lbn lbn).mono ?_
  rintro e w6 ⟨rfl, n6, hw6⟩
  have f6 : Fr no w5 w6 := by rw [hw6]; exact Fr.drewN no w5 n6
  have F6 := Lib.hid (F5.out.trans f6 (fun _ _ h => h)); have F56 := Lib.hid f6
  clear f6 hw6 F5 HLE5
  simp only [decide_true]
  go_wp2_with fail
  refine (after4_u w6 _ b av fl HAV.out HFL.out (HX.out.kept0 F6.out) (by omega)).mono ?_
  rintro e w7 ⟨f7, E, n3, c3, rfl, hn3, hoe⟩
  have F7 := Lib.hid (F6.out.trans f7 (fun _ _ h => h)); have F57 := Lib.hid (F56.out.trans f7 (fun _ _ h => h)); have HN3 := Lib.hid hn3; have HOE := Lib.hid hoe
  clear f7 hn3 hoe F6 F56
  go_wp2_with fail
  refine (book_bytes w7.heap.size _ (.slice none 0 0) [] A n n ⟨heap_alloc_new _ _, ⟨rfl, .inl ⟨rfl, rfl⟩⟩, by simp [Value.ownBlock]⟩ (by simp)).mono ?_
  rintro e w8 ⟨rfl, v8, hb8, f8, m8⟩
  have hv8 : ∀ k, v8.ownBlock = some k → w7.heap.size ≤ k := fun k hk => by
    rcases m8.blk k hk with h | ⟨h, _⟩
    · simp [ob, Value.ownBlock] at h
    · exact Nat.le_trans (Fr.size (by (repeat first | exact Fr.refl _ _ | exact Fr.drewN _ _ _ | apply Fr.drew | apply Fr.alloc | apply Fr.setAt | apply Fr.moreN) : Fr no w7 _)) h
  have f78 : Fr no w7 w8 := (by (repeat first | exact Fr.refl _ _ | exact Fr.drewN _ _ _ | apply Fr.drew | apply Fr.alloc | apply Fr.setAt | apply Fr.moreN) : Fr no w7 _).trans f8 (fun k hk h => by
    rcases h with h | h
    · omega
    · simp [Value.ownBlock] at h)
  have HB8 := Lib.hid hb8; have HV8 := Lib.hid hv8; have F78 := Lib.hid f78
  clear f8 m8 hb8 hv8 f78
  go_wp2_with fail
  refine (book_bytes w7.heap.size w8 v8 _ C n2 n2 HB8.out (by simp)).mono ?_
  rintro e w9 ⟨rfl, v9, hb9, f9, m9⟩
  have hv9 : ∀ k, v9.ownBlock = some k → w7.heap.size ≤ k := fun k hk => by
    rcases m9.blk k hk with h | ⟨h, _⟩
    · exact HV8.out k h
    · exact Nat.le_trans F78.out.size h
  have f79 : Fr no w7 w9 := F78.out.trans f9 (fun k hk h => by
    rcases h with h | h
    · omega
    · have := HV8.out k h; omega)
  have HB9 := Lib.hid hb9; have HV9 := Lib.hid hv9; have F79 := Lib.hid f79; have F9 := Lib.hid (F7.out.trans f79 (fun _ _ h => h))
  clear f9 m9 hb9 hv9 f79 HB8 HV8 F78
  have hoa9 := HOA.out.kept0 (F45.out.trans (F57.out.trans F79.out (fun _ _ h => h)) (fun _ _ h => h))
  have hoc9 := HOC.out.kept0 (F57.out.trans F79.out (fun _ _ h => h))
  have hoe9 := HOE.out.kept0 F79.out
  have hs1 := same_any w9 (.slice A n n) (.slice E n3 c3) av av (by rw [← HN.out]; exact hoa9.sl) (by rw [← HN3.out]; exact hoe9.sl) (by have := HAL.out; omega) (by have := HAL.out; omega)
  have hs2 := fun W (f : Fr no w9 W) => same_any W (.slice C n2 n2) (.slice E n3 c3) av av (by rw [← HN2.out]; exact (hoc9.kept0 f).sl) (by rw [← HN3.out]; exact (hoe9.kept0 f).sl) (by have := HAL.out; omega) (by have := HAL.out; omega)
  have HS1 := Lib.hid hs1; have HS2 := Lib.hid hs2; have HOA9 := Lib.hid hoa9; have HOC9 := Lib.hid hoc9
  clear hoa9 hoc9 hoe9 hs1 hs2
  have hna : n ≤ 20000 := by have := HAL.out; have := HN.out; omega
  have hnc : n2 ≤ 20000 := by have := HAL.out; have := HN2.out; omega
  go_wp2_with fail
  refine HS1.out.mono ?_
  rintro e wa ⟨rfl, na, hwa⟩
  have fa : Fr no w9 wa := by rw [hwa]; exact Fr.drewN no w9 na
  have FA := Lib.hid fa
  clear fa hwa
  simp only [decide_true]
  go_wp2_with fail
  refine (HS2.out wa FA.out).mono ?_
  rintro e wb ⟨rfl, nb, hwb⟩
  have fb : Fr no wa wb := by rw [hwb]; exact Fr.drewN no wa nb
  have FB := Lib.hid (FA.out.trans fb (fun _ _ h => h))
  clear fb hwb FA HS1 HS2
  simp only [decide_true]
  go_wp2_with fail
  refine (known_any wb (HT.out.kept0 (F9.out.trans FB.out (fun _ _ h => h)))).mono ?_
  rintro e wc ⟨rfl, fc⟩
  have FC := Lib.hid (FB.out.trans fc (fun _ _ h => h)); have FC9 := Lib.hid (F9.out.trans (FB.out.trans fc (fun _ _ h => h)) (fun _ _ h => h))
  clear fc
  have hrg := cmpT_range (fallsB dl) l 0 m
  have hneg : IntKind.i64.wrap (- cmpT (fallsB dl) 0 l m) = - cmpT (fallsB dl) 0 l m := IntWalk.i64_in _ ⟨by omega, by omega⟩
  have hsw : cmpT (fallsB dl) 0 m l = - cmpT (fallsB dl) 0 l m := cmpT_swap (fallsB dl) 0 l m
  have hk1 := fun W (f : Fr no wc W) => kcmpT_any W _ _ _ l m dl (HL.out.kept0 (FC9.out.trans f (fun _ _ h => h))) (HM.out.kept0 (FC9.out.trans f (fun _ _ h => h))) (HD.out.kept0 (FC9.out.trans f (fun _ _ h => h))) HDN.out
  have hk2 := fun W (f : Fr no wc W) => cmp4_any W _ _ _ l m dl (HL.out.kept0 (FC9.out.trans f (fun _ _ h => h))) (HM.out.kept0 (FC9.out.trans f (fun _ _ h => h))) (HD.out.kept0 (FC9.out.trans f (fun _ _ h => h))) HDN.out
  have hk3 := fun W (f : Fr no wc W) => kcmpT_any W _ _ _ m l dl (HM.out.kept0 (FC9.out.trans f (fun _ _ h => h))) (HL.out.kept0 (FC9.out.trans f (fun _ _ h => h))) (HD.out.kept0 (FC9.out.trans f (fun _ _ h => h))) HDN.out
  rw [hsw] at hk3
  have HK1 := Lib.hid hk1; have HK2 := Lib.hid hk2; have HK3 := Lib.hid hk3; have HNEG := Lib.hid hneg
  clear hrg hsw hk1 hk2 hk3 hneg
  obtain ⟨cm, hcm⟩ : ∃ cm, cm = cmpT (fallsB dl) 0 l m := ⟨_, rfl⟩
  rw [← hcm] at HK1 HK2 HK3 HNEG
  clear hcm
  go_wp2_with fail
  refine (HK1.out wc (Fr.refl _ _)).mono ?_
  rintro e wd ⟨rfl, fd⟩
  have FD := Lib.hid fd; clear fd
  go_wp2_with fail
  refine (HK2.out wd FD.out).mono ?_
  rintro e we ⟨rfl, fe⟩
  have FE := Lib.hid (FD.out.trans fe (fun _ _ h => h)); clear fe FD
  go_wp2_with fail
  refine (HK3.out we FE.out).mono ?_
  rintro e wf ⟨rfl, ff⟩
  have FF := Lib.hid (FE.out.trans ff (fun _ _ h => h)); clear ff FE
  go_wp2_with fail
  refine (HK1.out wf FF.out).mono ?_
  rintro e wg ⟨rfl, fg⟩
  have FG := Lib.hid (FF.out.trans fg (fun _ _ h => h)); clear fg FF HK1 HK2 HK3
  have hneg := HNEG.out
  have F9G := Lib.hid (FC.out.trans FG.out (fun _ _ h => h))
  have hrw : Rws wg 5 1 [.slice A n n, .slice C n2 n2] (fun j => if j = 0 then n else n2) (fun _ => bvs av) := by
    have h1 := HOA9.out.kept0 F9G.out
    have h2 := HOC9.out.kept0 F9G.out
    refine ⟨fun j hj => ?_, fun i j hi hj k hij h3 h4 => ?_⟩
    · rcases j with _ | _ | j
      · exact h1
      · exact h2
      · simp at hj; omega
    · have lo : ∀ k, Value.ownBlock (.slice A n n) = some k → k < w4.heap.size := fun k hk => HOA.out.lt k hk
      have hi2 : ∀ k, Value.ownBlock (.slice C n2 n2) = some k → w4.heap.size ≤ k := HKC.out
      rcases i with _ | _ | i <;> rcases j with _ | _ | j
      · exact hij rfl
      · have := lo k h3; have := hi2 k h4; omega
      · simp at hj; omega
      · have := lo k h4; have := hi2 k h3; omega
      · exact hij rfl
      · simp at hj; omega
      all_goals (simp at hi; omega)
  have hdj : Dj (BkF w7.heap.size v9) (InRows [.slice A n n, .slice C n2 n2]) := fun k hk hr => by
    have hk7 : w7.heap.size ≤ k := by
      rcases hk with hk | hk
      · omega
      · exact HV9.out k hk
    obtain ⟨v, hv, hvk⟩ := hr
    have h57 := F57.out.size
    have h45 := F45.out.size
    rcases List.mem_cons.1 hv with rfl | hv
    · have := HOA.out.lt k hvk; omega
    · rcases List.mem_cons.1 hv with rfl | hv
      · have := HOC.out.lt k hvk; omega
      · cases hv
  have how := book_own w7.heap.size wg v9 [.slice A n n, .slice C n2 n2] _ _ (HB9.out.kept F9G.out (fun _ _ h => h)) hrw hdj (by simp) (fun j => by split <;> omega)
  have HOW := Lib.hid how; have HRW := Lib.hid hrw
  clear hrw hdj how
  go_wp2_with fail
  refine HOW.out.mono ?_
  rintro e wz ⟨rfl, fz⟩
  have FZ := Lib.hid fz
  clear fz
  go_wp2
  go_ret
  refine ⟨rfl, (F9.out.trans F9G.out (fun _ _ h => h)).trans FZ.out (fun k hk hr => ?_)⟩
  obtain ⟨v, hv, hvk⟩ := hr
  rcases List.mem_cons.1 hv with rfl | hv
  · have h1 := HKA.out k hvk; have h2 := HS3.out; omega
  · rcases List.mem_cons.1 hv with rfl | hv
    · have h1 := HKC.out k hvk; have h2 := HS4.out; omega
    · cases hv
end Go.Proofs.YtgcicljklejmjaaGreatDoor

/- KeyOthers holds, for every input; its tied card. No condition but what its row lists. -/
namespace Go.Proofs.YtgcicljklejmjaaGreatDoor
open Go.ChangeShapes Go.WideShapes Go.ChangeAt Go.RowKit Go.Shelf
namespace RKeyOthers
theorem own : ownKnob Tryz.prog.godebug = none := by kernel_rfl
theorem laidOut : laidOutB Tryz.prog = true := by kernel_rfl

/-- A world in which the two tables lie. -/
noncomputable def laidWorld (os : Os) : World :=
  let w0 := World.holding Tryz.prog os ⟨#[], #[], []⟩
  let put (h : Array Obj) (g : Nat) (cs : Array Value) : Array Obj := h.modify g fun
    | .cells _ t frozen => .cells cs t frozen
    | o => o
  let h1 := put w0.heap 0 (Lib.firstTab.map fun z => Value.int .u8 z).toArray
  let h2 := put h1 1 ((List.range 16).flatMap fun i => [Value.int .u8 (Lib.accLo i), Value.int .u8 (Lib.accHi i)]).toArray
  { w0 with heap := h2 }
theorem laid_met (os : Os) (args : Array Value) : laidMet Tryz.prog Rows.keyOthersRow.laid ((laidWorld os).forCall (fun _ _ => 0) ⟨#[], args, []⟩).memory :=
  (LaidIn.of_run (l := [("unicode/utf8.acceptRanges", Rows.laid_unicode_utf8_acceptRanges), ("unicode/utf8.first", Rows.laid_unicode_utf8_first)]) [0, 1] 8 (by kernel_rfl) (by kernel_rfl) (by kernel_rfl) (by kernel_rfl)).met

theorem witness_row (os : Os) {H : Type} (enc : TypeId × Value → H) :
    (OpenSpec.ofChange Rows.keyOthersSpec).preRow enc Tryz.prog Tryz.f4 Rows.keyOthersRow.domain false Rows.keyOthersRow.laid ((laidWorld os).forCall (fun _ _ => 0) ⟨#[], #[.slice none 0 0, .slice none 0 0, .slice none 0 0, .slice none 0 0], []⟩).memory #[.slice none 0 0, .slice none 0 0, .slice none 0 0, .slice none 0 0] := by
  have hw : (DataW.whole enc Tryz.prog ((laidWorld os).forCall (fun _ _ => 0) ⟨#[], #[.slice none 0 0, .slice none 0 0, .slice none 0 0, .slice none 0 0], []⟩).memory Tryz.f4.params.toList (OpenSpec.ofChange Rows.keyOthersSpec).vars false #[.slice none 0 0, .slice none 0 0, .slice none 0 0, .slice none 0 0].toList 8).map (fun x => (x.1, x.2.1)) = some ([.nil, .nil, .nil, .nil], []) := by kernel_rfl
  obtain ⟨⟨x1, x2, x3⟩, hx, hx1⟩ := Option.map_eq_some_iff.1 hw
  simp only [Prod.mk.injEq] at hx1
  obtain ⟨rfl, rfl⟩ := hx1
  exact OpenSpec.preRow_of_cond 8 hx (by kernel_rfl) (fun k hk => by cases hk) (by kernel_rfl) (laid_met os _)

set_option maxRecDepth 100000 in
set_option maxHeartbeats 2000000 in
theorem lifted (os : Os) (started : os.Started) (H : Type) (enc : TypeId × Value → H) (F : Stop.Interp) :
    ReturnsInHanded {} Tryz.checked os 4 .any ((OpenSpec.ofChange Rows.keyOthersSpec).preRow enc Tryz.prog Tryz.f4 Rows.keyOthersRow.domain false Rows.keyOthersRow.laid) (((OpenSpec.ofChange Rows.keyOthersSpec).at F).post enc Tryz.prog Tryz.f4 false true false false) := by
  refine returnsInHanded_of_row (C := Tryz.checked) (s := (OpenSpec.ofChange Rows.keyOthersSpec)) own started (by kernel_rfl) Tryz.func4
    (witness_row_atRef (enc := enc) (C := Tryz.checked) false (laidWorld os) #[.slice none 0 0, .slice none 0 0, .slice none 0 0, .slice none 0 0] rfl (by kernel_rfl) (by kernel_rfl) (by kernel_rfl) (witness_row os enc)) ?_
  intro W base args ds gs before hval0 hW hcnd hk0 hsz0 hL _ _
  have hval : ∀ (j : Nat) t v, Tryz.f4.params[j]? = some t → args[j]? = some v → Value.okWide Tryz.prog W .any base t v := hval0
  have hW' := hW
  obtain ⟨p, q, hA0, hV, rfl, hfz, hnd⟩ := hW
  have hA : DataW.TrodAll enc Tryz.prog W 0 (fun _ => true) true Tryz.f4.params.toList args.toList ds p := hA0
  have hTd : ∀ (j : Nat) t v, Tryz.f4.params.toList[j]? = some t → args.toList[j]? = some v → Td Tryz.prog W t v.cells.toList := fun j t v h1 h2 => Td.arg hA hsz0 j t v h1 h2
  have htab : Tabs W := utf8Tabs_of_readsT (U8Types.of196 lays_valid) ⟨by kernel_rfl, by kernel_rfl, by kernel_rfl, by kernel_rfl, by kernel_rfl, by kernel_rfl, by kernel_rfl⟩ (Lib.laidMet.reads (d := Rows.laid_unicode_utf8_first) hL (.tail _ (.head _))) (Lib.laidMet.reads (d := Rows.laid_unicode_utf8_acceptRanges) hL (.head _))
  clear hsz0 hcnd hk0
  rw [Tryz.params4] at hA hval hTd
  obtain ⟨v0, vs0, d0, ds0, p0, q0, hargs, rfl, rfl, h0, r0⟩ := trodAll_cons hA
  obtain ⟨v1, vs1, d1, ds1, p1, q1, rfl, rfl, rfl, h1, r1⟩ := trodAll_cons r0
  obtain ⟨v2, vs2, d2, ds2, p2, q2, rfl, rfl, rfl, h2, r2⟩ := trodAll_cons r1
  obtain ⟨v3, vs3, d3, ds3, p3, q3, rfl, rfl, rfl, h3, r3⟩ := trodAll_cons r2
  obtain ⟨rfl, rfl, rfl⟩ := trodAll_nil r3
  obtain rfl : args = #[v0, v1, v2, v3] := by cases args; simp_all
  obtain ⟨rfl, rfl⟩ := trodVars_none hV
  have lt0 : ∀ x ∈ p0, x.block < W.heap.size := by obtain ⟨m, hm⟩ := h0; exact DataW.trod_lt m _ _ _ hm
  obtain ⟨a0, n0, c0, rfl⟩ := okWide_slice Tryz.underlying27 (hval 0 27 v0 rfl rfl)
  have lo0 : ∀ k, (Value.slice a0 n0 c0).ownBlock = some k → k < W.heap.size := okWide_lt Tryz.underlying27 (hval 0 27 _ rfl rfl)
  have td0 : Td Tryz.prog W 27 [.slice a0 n0 c0] := hTd 0 27 _ rfl rfl
  have lt1 : ∀ x ∈ p1, x.block < W.heap.size := by obtain ⟨m, hm⟩ := h1; exact DataW.trod_lt m _ _ _ hm
  obtain ⟨a1, n1, c1, rfl⟩ := okWide_slice Tryz.underlying22 (hval 1 22 v1 rfl rfl)
  have lo1 : ∀ k, (Value.slice a1 n1 c1).ownBlock = some k → k < W.heap.size := okWide_lt Tryz.underlying22 (hval 1 22 _ rfl rfl)
  have td1 : Td Tryz.prog W 22 [.slice a1 n1 c1] := hTd 1 22 _ rfl rfl
  have lt2 : ∀ x ∈ p2, x.block < W.heap.size := by obtain ⟨m, hm⟩ := h2; exact DataW.trod_lt m _ _ _ hm
  obtain ⟨a2, n2, c2, rfl⟩ := okWide_slice Tryz.underlying22 (hval 2 22 v2 rfl rfl)
  have lo2 : ∀ k, (Value.slice a2 n2 c2).ownBlock = some k → k < W.heap.size := okWide_lt Tryz.underlying22 (hval 2 22 _ rfl rfl)
  have td2 : Td Tryz.prog W 22 [.slice a2 n2 c2] := hTd 2 22 _ rfl rfl
  have lt3 : ∀ x ∈ p3, x.block < W.heap.size := by obtain ⟨m, hm⟩ := h3; exact DataW.trod_lt m _ _ _ hm
  obtain ⟨a3, n3, c3, rfl⟩ := okWide_slice Tryz.underlying23 (hval 3 23 v3 rfl rfl)
  have lo3 : ∀ k, (Value.slice a3 n3 c3).ownBlock = some k → k < W.heap.size := okWide_lt Tryz.underlying23 (hval 3 23 _ rfl rfl)
  have td3 : Td Tryz.prog W 23 [.slice a3 n3 c3] := hTd 3 23 _ rfl rfl
  have walk : Calls Tryz.prog 4 #[.slice a0 n0 c0, .slice a1 n1 c1, .slice a2 n2 c2, .slice a3 n3 c3] W fun e w' => e = .returned (.bool true) ∧ Below W.heap.size W w' := by
    clear hA0 hTd hval hval0 hL
    obtain ⟨x0, l0, e0, s0, h0⟩ := td_bytes td0
    obtain rfl := (List.cons.inj e0).1
    obtain ⟨x1, l1, e1, s1⟩ := open_values td1
    obtain rfl := (List.cons.inj e1).1
    obtain ⟨x2, l2, e2, s2⟩ := open_values td2
    obtain rfl := (List.cons.inj e2).1
    obtain ⟨x3, l3, e3, s3, h3⟩ := open_bools td3
    obtain rfl := (List.cons.inj e3).1
    exact (others_any W _ _ _ _ l0 l1 l2 l3 s0 h0 s1 s2 s3 h3 htab).mono fun e w' ⟨h1, f⟩ => ⟨h1, f.below (fun _ _ h => h)⟩
  clear hA0 hval0 hTd
  refine walk.mono fun e W' ⟨he, bel⟩ => ?_
  subst he
  exact ⟨_, rfl, _, _, _, [], _, [], hW', trodAll_mk1 (shut_bool Tryz.underlying4 _), (trodAll_cons_mk (Below.trod laidOut (by kernel_rfl) (of_decide_eq_true (by kernel_rfl)) h0 bel lt0) (trodAll_cons_mk (Below.trod laidOut (by kernel_rfl) (of_decide_eq_true (by kernel_rfl)) h1 bel lt1) (trodAll_cons_mk (Below.trod laidOut (by kernel_rfl) (of_decide_eq_true (by kernel_rfl)) h2 bel lt2) (trodAll_cons_mk (Below.trod laidOut (by kernel_rfl) (of_decide_eq_true (by kernel_rfl)) h3 bel lt3) trodAll_mk0)))), rfl, bel.frame _, fun h => by cases h⟩

theorem row : Rows.keyOthersRow.holds Tryz.pinned (OpenSpec.ofChange Rows.keyOthersSpec) :=
  OpenClaim.holds_of_cond 4 Tryz.f4 rfl rfl rfl rfl rfl rfl rfl ⟨rfl, rfl, rfl, rfl, rfl⟩ rfl rfl rfl rfl rfl (by kernel_rfl) Tryz.func4 (by kernel_rfl)
    (of_decide_eq_true (by kernel_rfl)) (by unfold Func.isWrapper; first | (rw [if_pos (by decide +kernel)]; kernel_rfl) | (rw [if_neg (of_decide_eq_false (by kernel_rfl))]; exact ⟨rfl, rfl⟩))
    (fun os started H enc _ F0 => by rw [OpenClaim.pre_eq_preRow]; exact lifted os started H enc F0)
theorem card : Claim7.holds Tryz.pinned (.plain (OpenSpec.ofChange Rows.keyOthersSpec)) Rows.keyOthersCard :=
  Claim7.holds_tied_plain_at .later [] [.data, .pinned] true Rows.keyOthersCard.stood.harness Rows.keyOthersCard.stood.looks
    row (fun _ h => by cases h) (by kernel_rfl) (fun _ h => by cases h) keyOthers_row_tie rfl ⟨rfl, rfl⟩ (by kernel_rfl) (by kernel_rfl)
    (fun f fn hf hfn => by
      obtain rfl : f = 4 := Option.some.inj ((show Tryz.prog.funcNamed "codicil/codicillaw04.KeyOthers" = some 4 by kernel_rfl).symm.trans hf) |>.symm
      obtain rfl : fn = Tryz.f4 := (Option.some.inj (Tryz.func4.symm.trans hfn)).symm
      exact ⟨by kernel_rfl, fun j t ht => by
        have hall : (Tryz.f4.params.toList.all fun t => Tryz.prog.wantsStandIn t == false) = true := by kernel_rfl
        have hm : t ∈ Tryz.f4.params.toList := by
          rw [Array.mem_toList_iff]
          exact Array.mem_of_getElem? ht
        exact (eq_of_beq (List.all_eq_true.1 hall t hm) : Tryz.prog.wantsStandIn t = false)⟩)
    (by kernel_rfl)
end RKeyOthers

/-- The card. -/
theorem keyOthers_holds : Rows.KeyOthersCardSaid := RKeyOthers.card
#print axioms keyOthers_holds
end Go.Proofs.YtgcicljklejmjaaGreatDoor
