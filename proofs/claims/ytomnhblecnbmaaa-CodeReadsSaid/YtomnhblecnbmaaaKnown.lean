/- What the law looks at first: of bytes that are there. -/
import Derived.Test.YtomnhblecnbmaaaCodeU
import Derived.Test.YtomnhblecnbmaaaSame
namespace Go.Proofs.Ytomnhblecnbmaaa
open Go.RowKit

def eight8 : List UInt8 := [1, 2, 172, 2, 1, 2, 97, 98]

theorem vi300 : vi 300 = [172, 2] := by rw [vi, dif_neg (by omega), vi, dif_pos (by omega)]; rfl
theorem vi1 : vi 1 = [1] := by rw [vi, dif_pos (by omega)]; rfl
theorem vi2 : vi 2 = [2] := by rw [vi, dif_pos (by omega)]; rfl

set_option maxRecDepth 100000 in
set_option maxHeartbeats 400000 in
theorem known_any (w : World) :
    Calls Try.prog 10 #[] w fun e w' => e = .returned (.bool true) ∧ Fr no w w' := by
  go_enter Try.func10, Try.ntmps10
  go_wp2_with fail
  refine (new_any _).mono ?_
  rintro e w1 ⟨p, rfl, hp1, hp2, hw1, hf1⟩
  go_wp2_with fail
  refine (u16_any p _ _ _ 258 (by omega) (by omega) hw1 (by simp)).mono ?_
  rintro e w2 ⟨rfl, A2, n2, c2, hw2, hf2, hm2⟩
  replace hw2 : Wr w2 p (.slice A2 n2 c2) [1, 2] := hw2
  go_wp2_with fail
  refine (varint_any p _ _ _ 300 (by omega) ⟨by omega⟩ hw2 (by simp)).mono ?_
  rintro e w3 ⟨rfl, A3, n3, c3, hw3, hf3, hm3⟩
  rw [show (300 : Int).toNat = 300 from rfl, vi300] at hw3
  replace hm3 := hm2.trans hm3 hf2.size hf3.size
  replace hf3 := hf2.trans hf3 (Own.sub hm2)
  go_wp2_with fail
  refine (signed_any p _ _ _ (-1) (by omega) (by omega) hw3 (by simp)).mono ?_
  rintro e w4 ⟨rfl, A4, n4, c4, hw4, hf4, hm4⟩
  rw [show zz (-1) = 1 from rfl, vi1] at hw4
  replace hm4 := hm3.trans hm4 hf3.size hf4.size
  replace hf4 := hf3.trans hf4 (Own.sub hm3)
  go_wp2_with fail
  refine (text_any p _ _ _ _ hw4 (by simp [ByteArray.size])).mono ?_
  rintro e w5 ⟨rfl, A5, n5, c5, hw5, hf5, hm5⟩
  rw [show (⟨#[97, 98]⟩ : ByteArray).size = 2 from rfl, vi2] at hw5
  replace hw5 : Wr w5 p (.slice A5 n5 c5) eight8 := hw5
  replace hm5 := hm4.trans hm5 hf4.size hf5.size
  replace hf5 := hf4.trans hf5 (Own.sub hm4)
  have hg : Fr no w w5 := hf1.trans hf5 (fun k hk h => by rcases h with h | h; omega; simp [Value.ownBlock] at h)
  clear hw1 hw2 hw3 hw4 hf1 hf2 hf3 hf4 hf5 hm2 hm3 hm4 hm5 hp1 hp2
  have HG := Lib.hid hg; clear hg
  go_wp2_with fail
  refine (bytes_any p _ _ _ hw5 (by simp [eight8])).mono ?_
  rintro e w6 ⟨A6, rfl, hb6, hk6, hf6⟩
  have HB6 := Lib.hid hb6.sl; have HF6 := Lib.hid hf6; clear hb6 hf6 hk6 hw5
  go_wp2_with fail
  refine (read_any _ _ _ HB6.out (by simp [eight8])).mono ?_
  rintro e w7 ⟨q, sv, rfl, hr7, hq7, hk7, hf7⟩
  have HR7 := Lib.hid hr7; have HF7 := Lib.hid hf7; have HQ7 := Lib.hid hq7; clear hr7 hf7 hk7 hq7
  go_wp2_with fail
  refine (same_any _ _ _ eight8 eight8 (HB6.out.kept0 (HF7.out.alloc _)) (Sl.fresh w7 eight8 5 rfl (by simp [eight8, maxLen])) (by simp [eight8]) (by simp [eight8])).mono ?_
  rintro e w8 ⟨rfl, n8, rfl⟩
  have hr8 : Rr ((w7.alloc (.cells (bvs eight8).toArray 5)).drewN n8) q sv eight8 ⟨0, 0, 0⟩ := HR7.out.of (by (repeat first | exact Fr.refl _ _ | exact Fr.drewN _ _ _ | apply Fr.drew | apply Fr.alloc | apply Fr.setAt | apply Fr.moreN)) (by simp [eight8]) (by decide) ((Fr.refl no w7 |>.alloc _).heap HR7.out.1 (fun h => h))
  have HR8 := Lib.hid hr8; clear hr8
  have hdec : decide (eight8 = eight8) = true := by simp
  go_wp2_with fail
  refine (ru16_any q _ sv _ _ HR8.out).mono ?_
  rintro e w9 ⟨rfl, hr9, hf9⟩
  have HF9 := Lib.hid hf9; clear hf9
  replace hr9 : Rr w9 q sv eight8 ⟨2, 0, 0⟩ := hr9
  rw [show be (RS.take eight8 2 ⟨0, 0, 0⟩).1 = 258 from rfl]
  have HR9 := Lib.hid hr9; clear hr9
  go_wp2_with fail
  refine (rvar_any q _ sv _ _ HR9.out).mono ?_
  rintro e w10 ⟨rfl, hr10, hf10⟩
  have HF10 := Lib.hid hf10; clear hf10
  replace hr10 : Rr w10 q sv eight8 ⟨4, 0, 0⟩ := hr10
  rw [show (RS.var eight8 ⟨2, 0, 0⟩).1 = 300 from rfl]
  have HR10 := Lib.hid hr10; clear hr10
  go_wp2_with fail
  refine (rsigned_any q _ sv _ _ HR10.out).mono ?_
  rintro e w11 ⟨rfl, hr11, hf11⟩
  have HF11 := Lib.hid hf11; clear hf11
  replace hr11 : Rr w11 q sv eight8 ⟨5, 0, 0⟩ := hr11
  rw [show uz (RS.var eight8 ⟨4, 0, 0⟩).1 = -1 from rfl]
  have HR11 := Lib.hid hr11; clear hr11
  go_wp2_with fail
  refine (rtext_any q _ sv _ _ HR11.out).mono ?_
  rintro e w12 ⟨rfl, hr12, hf12⟩
  have HF12 := Lib.hid hf12; clear hf12
  replace hr12 : Rr w12 q sv eight8 ⟨8, 0, 0⟩ := hr12
  rw [show (RS.text eight8 ⟨5, 0, 0⟩).1 = [97, 98] from rfl]
  have HR12 := Lib.hid hr12; clear hr12
  go_wp2_with fail
  refine (end_any q _ sv _ _ HR12.out).mono ?_
  rintro e w13 ⟨rfl, n13, rfl⟩
  rw [show RS.last eight8 ⟨8, 0, 0⟩ = 0 from rfl]
  go_wp2
  go_ret
  refine ⟨rfl, ?_⟩
  have hs := HG.out.size
  have hs6 := HF6.out.size
  have hq := HQ7.out
  have g7 := (HG.out.trans HF6.out (fun _ _ h => h.elim)).trans HF7.out (fun _ _ h => h.elim)
  have g8 := (g7.alloc (.cells (bvs eight8).toArray 5)).moreN n8
  have no_q : ∀ k, k < w.heap.size → At q k → no k := fun k hk h => by have h2 : k = q := h; omega
  exact ((((g8.trans HF9.out no_q).trans HF10.out no_q).trans HF11.out no_q).trans HF12.out no_q).moreN n13
end Go.Proofs.Ytomnhblecnbmaaa
