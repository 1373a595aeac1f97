import Derived.Test.YtijcleiekafoiaaGreatDoorMw01
import Derived.Test.YtijcleiekafoiaaGreatDoorMb11
import Derived.Test.YtijcleiekafoiaaGreatDoorMw02
import Derived.Test.YtijcleiekafoiaaGreatDoorMb02
import Derived.Test.YtijcleiekafoiaaGreatDoorMb15

/- The document's bytes of values: Bytes, Encode, Size. Printed by mkrf5.py. -/
namespace Go.Proofs.YtijcleiekafoiaaGreatDoor
open Go.RowKit Go.Shelf
open Tr

theorem built_at (w : World) (u : Value) (T : TypeId) (g : Nat) (hg : g = w.heap.size) : Sl (w.alloc (.cells #[u] T)) 1 (.slice (some ⟨g, 0, none⟩) 1 1) 1 [u] := by
  subst hg
  exact Sl.built w u T
theorem textv_ref (w : World) (t : List UInt8) (hl : t.length ≤ 140737488351232) : Calls Tryz.prog 87 #[.string ⟨t.toArray⟩] w fun e w' => ∃ A c, e = .returned (.slice A (vt t).length c) ∧ NewB w w' (.slice A (vt t).length c) (vt t) :=
  text_ref w ⟨t.toArray⟩ hl
/-- What Bytes does with a value. -/
def ByteC (w : World) (y : Tr Mm) : Prop := ∀ W, Fr no w W → (denc y).length ≤ 100000000 → Calls Tryz.prog 34 #[y.agg] W fun e w' => ∃ A n c, e = .returned (.slice A n c) ∧ NB W.heap.size w' A n c (denc y) ∧ Fr no W w'

set_option maxRecDepth 100000 in
set_option maxHeartbeats 16000000 in
theorem bytes5_any (w0 : World) (x : Tr Mm) : Tr.Good w0 x → FitAll x → ByteC w0 x := by
  induction x using Tr.ind with
  | h x ih =>
    intro hx0 hfit w hfw hl
    have hx := hx0.kept0 hfw
    obtain ⟨BA, bc, LA, lc, FA, fc, hf⟩ := hx.node.forms
    have hnl : x.l.length ≤ 140737488351232 := hx.node.l
    have hnf : x.f.length ≤ 140737488351232 := hx.node.f
    have hnm := hx.node.n
    have hi := hx.node.i
    have hxl := hx.inL; have hxf := hx.inF; have hxb := fun W (f : Fr no w W) => (hx.kept0 f).node.B
    rw [hf.L] at hxl; rw [hf.F] at hxf; rw [hf.B] at hxb
    rw [hf.agg]
    have hcl : ∀ y ∈ x.l, ByteC w y := fun y hy => fun W f => ih y (Tr.kids_l hy) (hx0.l y hy) (hfit.kid y (Tr.kids_l hy)) W (hfw.trans f (fun _ _ h => h))
    have hcf : ∀ y ∈ x.f, ByteC w y.2 := fun y hy => fun W f => ih y.2 (Tr.kids_f hy) (hx0.f y hy) (hfit.kid y.2 (Tr.kids_f hy)) W (hfw.trans f (fun _ _ h => h))
    obtain ⟨⟨hk1, hk2⟩, _⟩ := shape_parts hfit.here.shape
    have e := kinds7 hk1 hk2
    have hen := denc_eq x
    have HCL := Lib.hid hcl; have HCF := Lib.hid hcf; have HXL := Lib.hid hxl; have HXF := Lib.hid hxf; have HXB := Lib.hid hxb; have HI := Lib.hid hi; have HL := Lib.hid hl; have HNM := Lib.hid hnm
    clear hcl hcf hxl hxf hxb hi hl hx hx0 hfit hf ih hfw hk1 hk2 hnm
    rcases e with h | h | h | h | h | h | h
    · rw [h] at hen ⊢
      rw [if_pos rfl] at hen
      have HEN := Lib.hid hen
      clear hen h
      show Calls Tryz.prog 34 #[.agg #[.int .u8 1, .bool x.b, .int .i64 x.i, .string ⟨x.t.toArray⟩, .slice BA x.bs.length bc, .slice LA x.l.length lc, .slice FA x.f.length fc]] w _
      have hal := (Fr.refl no w).alloc (.cells #[.int .u8 1, .bool x.b, .int .i64 x.i, .string ⟨x.t.toArray⟩, .slice BA x.bs.length bc, .slice LA x.l.length lc, .slice FA x.f.length fc] 27)
      have hrow := heap_alloc_new w (.cells #[.int .u8 1, .bool x.b, .int .i64 x.i, .string ⟨x.t.toArray⟩, .slice BA x.bs.length bc, .slice LA x.l.length lc, .slice FA x.f.length fc] 27)
      have hb0 : BW w (w.alloc (.cells #[.int .u8 1, .bool x.b, .int .i64 x.i, .string ⟨x.t.toArray⟩, .slice BA x.bs.length bc, .slice LA x.l.length lc, .slice FA x.f.length fc] 27)) w.heap.size (.cells #[.int .u8 1, .bool x.b, .int .i64 x.i, .string ⟨x.t.toArray⟩, .slice BA x.bs.length bc, .slice LA x.l.length lc, .slice FA x.f.length fc] 27 (0, 0)) none 0 0 [] := ⟨NB.nil _ _, hal, hrow, by simp [Value.ownBlock]⟩
      have HB := Lib.hid hb0
      clear hal hrow hb0
      go_enter Tryz.func34, Tryz.ntmps34
      go_wp2_with (at_builtin; refine wpList_apo (n := 0) (xs := []) (m := 1) (news := bvs [1]) rfl (.tmp 18) (.tmp 19) 23 rfl tbB (HB.out.nb.ow.kept0 (by (repeat first | exact Fr.refl _ _ | exact Fr.drewN _ _ _ | apply Fr.drew | apply Fr.alloc | apply Fr.setAt | apply Fr.moreN))) (built_at (w.alloc (.cells #[.int .u8 1, .bool x.b, .int .i64 x.i, .string ⟨x.t.toArray⟩, .slice BA x.bs.length bc, .slice LA x.l.length lc, .slice FA x.f.length fc] 27)) _ _ (w.heap.size + 1) (by simp)) rfl rfl (bvs_one _) ?p1a ?p1b ?p1c)
      case p1a => simp [maxLen]
      case p1b => omega
      case p1c =>
        intro A1 N1 c1 W1 hN1 ho1 _ hf1 hs1
        have hb := HB.out.app (cs := [1]) (by (repeat first | exact Fr.refl _ _ | exact Fr.drewN _ _ _ | apply Fr.drew | apply Fr.alloc | apply Fr.setAt | apply Fr.moreN)) rfl hN1 ho1 hf1 hs1
        rw [List.nil_append] at hb
        obtain rfl : N1 = 1 := by omega
        have HB1 := Lib.hid hb
        clear hN1 ho1 hf1 hs1 hb HB
        go_wp2
        go_ret
        exact ⟨A1, 1, c1, rfl, by rw [HEN.out]; simpa using HB1.out.nb, HB1.out.fr⟩
    · rw [h] at hen ⊢
      rw [if_neg (by decide), if_pos rfl] at hen
      clear h
      cases hb : x.b with
      | true =>
        rw [hb, if_pos rfl] at hen
        have HEN := Lib.hid hen
        clear hen hb
        show Calls Tryz.prog 34 #[.agg #[.int .u8 2, .bool true, .int .i64 x.i, .string ⟨x.t.toArray⟩, .slice BA x.bs.length bc, .slice LA x.l.length lc, .slice FA x.f.length fc]] w _
        have hal := (Fr.refl no w).alloc (.cells #[.int .u8 2, .bool true, .int .i64 x.i, .string ⟨x.t.toArray⟩, .slice BA x.bs.length bc, .slice LA x.l.length lc, .slice FA x.f.length fc] 27)
        have hrow := heap_alloc_new w (.cells #[.int .u8 2, .bool true, .int .i64 x.i, .string ⟨x.t.toArray⟩, .slice BA x.bs.length bc, .slice LA x.l.length lc, .slice FA x.f.length fc] 27)
        have hb0 : BW w (w.alloc (.cells #[.int .u8 2, .bool true, .int .i64 x.i, .string ⟨x.t.toArray⟩, .slice BA x.bs.length bc, .slice LA x.l.length lc, .slice FA x.f.length fc] 27)) w.heap.size (.cells #[.int .u8 2, .bool true, .int .i64 x.i, .string ⟨x.t.toArray⟩, .slice BA x.bs.length bc, .slice LA x.l.length lc, .slice FA x.f.length fc] 27 (0, 0)) none 0 0 [] := ⟨NB.nil _ _, hal, hrow, by simp [Value.ownBlock]⟩
        have HB := Lib.hid hb0
        clear hal hrow hb0
        go_enter Tryz.func34, Tryz.ntmps34
        go_wp2_with (at_builtin; refine wpList_apo (n := 0) (xs := []) (m := 1) (news := bvs [3]) rfl (.tmp 25) (.tmp 26) 23 rfl tbB (HB.out.nb.ow.kept0 (by (repeat first | exact Fr.refl _ _ | exact Fr.drewN _ _ _ | apply Fr.drew | apply Fr.alloc | apply Fr.setAt | apply Fr.moreN))) (built_at (w.alloc (.cells #[.int .u8 2, .bool true, .int .i64 x.i, .string ⟨x.t.toArray⟩, .slice BA x.bs.length bc, .slice LA x.l.length lc, .slice FA x.f.length fc] 27)) _ _ (w.heap.size + 1) (by simp)) rfl rfl (bvs_one _) ?p2a ?p2b ?p2c)
        case p2a => simp [maxLen]
        case p2b => omega
        case p2c =>
          intro A1 N1 c1 W1 hN1 ho1 _ hf1 hs1
          have hb := HB.out.app (cs := [3]) (by (repeat first | exact Fr.refl _ _ | exact Fr.drewN _ _ _ | apply Fr.drew | apply Fr.alloc | apply Fr.setAt | apply Fr.moreN)) rfl hN1 ho1 hf1 hs1
          rw [List.nil_append] at hb
          obtain rfl : N1 = 1 := by omega
          have HB1 := Lib.hid hb
          clear hN1 ho1 hf1 hs1 hb HB
          go_wp2
          go_ret
          exact ⟨A1, 1, c1, rfl, by rw [HEN.out]; simpa using HB1.out.nb, HB1.out.fr⟩
      | false =>
        rw [hb, if_neg (by decide)] at hen
        have HEN := Lib.hid hen
        clear hen hb
        show Calls Tryz.prog 34 #[.agg #[.int .u8 2, .bool false, .int .i64 x.i, .string ⟨x.t.toArray⟩, .slice BA x.bs.length bc, .slice LA x.l.length lc, .slice FA x.f.length fc]] w _
        have hal := (Fr.refl no w).alloc (.cells #[.int .u8 2, .bool false, .int .i64 x.i, .string ⟨x.t.toArray⟩, .slice BA x.bs.length bc, .slice LA x.l.length lc, .slice FA x.f.length fc] 27)
        have hrow := heap_alloc_new w (.cells #[.int .u8 2, .bool false, .int .i64 x.i, .string ⟨x.t.toArray⟩, .slice BA x.bs.length bc, .slice LA x.l.length lc, .slice FA x.f.length fc] 27)
        have hb0 : BW w (w.alloc (.cells #[.int .u8 2, .bool false, .int .i64 x.i, .string ⟨x.t.toArray⟩, .slice BA x.bs.length bc, .slice LA x.l.length lc, .slice FA x.f.length fc] 27)) w.heap.size (.cells #[.int .u8 2, .bool false, .int .i64 x.i, .string ⟨x.t.toArray⟩, .slice BA x.bs.length bc, .slice LA x.l.length lc, .slice FA x.f.length fc] 27 (0, 0)) none 0 0 [] := ⟨NB.nil _ _, hal, hrow, by simp [Value.ownBlock]⟩
        have HB := Lib.hid hb0
        clear hal hrow hb0
        go_enter Tryz.func34, Tryz.ntmps34
        go_wp2_with (at_builtin; refine wpList_apo (n := 0) (xs := []) (m := 1) (news := bvs [2]) rfl (.tmp 28) (.tmp 29) 23 rfl tbB (HB.out.nb.ow.kept0 (by (repeat first | exact Fr.refl _ _ | exact Fr.drewN _ _ _ | apply Fr.drew | apply Fr.alloc | apply Fr.setAt | apply Fr.moreN))) (built_at (w.alloc (.cells #[.int .u8 2, .bool false, .int .i64 x.i, .string ⟨x.t.toArray⟩, .slice BA x.bs.length bc, .slice LA x.l.length lc, .slice FA x.f.length fc] 27)) _ _ (w.heap.size + 1) (by simp)) rfl rfl (bvs_one _) ?p3a ?p3b ?p3c)
        case p3a => simp [maxLen]
        case p3b => omega
        case p3c =>
          intro A1 N1 c1 W1 hN1 ho1 _ hf1 hs1
          have hb := HB.out.app (cs := [2]) (by (repeat first | exact Fr.refl _ _ | exact Fr.drewN _ _ _ | apply Fr.drew | apply Fr.alloc | apply Fr.setAt | apply Fr.moreN)) rfl hN1 ho1 hf1 hs1
          rw [List.nil_append] at hb
          obtain rfl : N1 = 1 := by omega
          have HB1 := Lib.hid hb
          clear hN1 ho1 hf1 hs1 hb HB
          go_wp2
          go_ret
          exact ⟨A1, 1, c1, rfl, by rw [HEN.out]; simpa using HB1.out.nb, HB1.out.fr⟩
    · rw [h] at hen ⊢
      rw [if_neg (by decide), if_neg (by decide), if_pos rfl] at hen
      have HEN := Lib.hid hen
      clear hen h
      have hz : lt64 (zz x.i : Nat) := ⟨by have := zz_lt x.i HI.out.lo HI.out.hi; omega⟩
      have HZ := Lib.hid hz
      clear hz
      show Calls Tryz.prog 34 #[.agg #[.int .u8 3, .bool x.b, .int .i64 x.i, .string ⟨x.t.toArray⟩, .slice BA x.bs.length bc, .slice LA x.l.length lc, .slice FA x.f.length fc]] w _
      have hal := (Fr.refl no w).alloc (.cells #[.int .u8 3, .bool x.b, .int .i64 x.i, .string ⟨x.t.toArray⟩, .slice BA x.bs.length bc, .slice LA x.l.length lc, .slice FA x.f.length fc] 27)
      have hrow := heap_alloc_new w (.cells #[.int .u8 3, .bool x.b, .int .i64 x.i, .string ⟨x.t.toArray⟩, .slice BA x.bs.length bc, .slice LA x.l.length lc, .slice FA x.f.length fc] 27)
      have hb0 : BW w (w.alloc (.cells #[.int .u8 3, .bool x.b, .int .i64 x.i, .string ⟨x.t.toArray⟩, .slice BA x.bs.length bc, .slice LA x.l.length lc, .slice FA x.f.length fc] 27)) w.heap.size (.cells #[.int .u8 3, .bool x.b, .int .i64 x.i, .string ⟨x.t.toArray⟩, .slice BA x.bs.length bc, .slice LA x.l.length lc, .slice FA x.f.length fc] 27 (0, 0)) none 0 0 [] := ⟨NB.nil _ _, hal, hrow, by simp [Value.ownBlock]⟩
      have HB := Lib.hid hb0
      clear hal hrow hb0
      go_enter Tryz.func34, Tryz.ntmps34
      go_wp2_with (at_builtin; refine wpList_apo (n := 0) (xs := []) (m := 1) (news := bvs [4]) rfl (.tmp 33) (.tmp 34) 23 rfl tbB (HB.out.nb.ow.kept0 (by (repeat first | exact Fr.refl _ _ | exact Fr.drewN _ _ _ | apply Fr.drew | apply Fr.alloc | apply Fr.setAt | apply Fr.moreN))) (built_at (w.alloc (.cells #[.int .u8 3, .bool x.b, .int .i64 x.i, .string ⟨x.t.toArray⟩, .slice BA x.bs.length bc, .slice LA x.l.length lc, .slice FA x.f.length fc] 27)) _ _ (w.heap.size + 1) (by simp)) rfl rfl (bvs_one _) ?i1a ?i1b ?i1c)
      case i1a => simp [maxLen]
      case i1b => omega
      case i1c =>
        intro A1 N1 c1 W1 hN1 ho1 _ hf1 hs1
        have hb := HB.out.app (cs := [4]) (by (repeat first | exact Fr.refl _ _ | exact Fr.drewN _ _ _ | apply Fr.drew | apply Fr.alloc | apply Fr.setAt | apply Fr.moreN)) rfl hN1 ho1 hf1 hs1
        rw [List.nil_append] at hb
        obtain rfl : N1 = 1 := by omega
        have HB1 := Lib.hid hb
        clear hN1 ho1 hf1 hs1 hb HB
        obtain ⟨q0, q1, q2, q3, q4, q5, q6, qz, ql⟩ := seven_cells HB1.out.row
        go_wp2_with fail
        refine (zigzag_ref W1 x.i HI.out.lo HI.out.hi).mono ?_
        rintro e v0 ⟨rfl, rfl⟩
        go_wp2_with fail
        refine (varint_ref v0 (zz x.i) HZ.out).mono ?_
        rintro e vi2 ⟨Bi2, di2, rfl, hnew⟩
        have hsn := Sl.of_own hnew.1
        have hbw := HB1.out.kept0 hnew.2.2
        have hbd : 1 + (vi (zz x.i)).length ≤ 200000000 := by have h1 := HL.out; rw [HEN.out] at h1; simp at h1; omega
        have HSN := Lib.hid hsn; have HBW := Lib.hid hbw; have HBD := Lib.hid hbd
        clear hnew hsn hbw hbd q0 q1 q2 q3 q4 q5 q6 qz ql
        go_wp2_with (at_builtin; refine wpList_apo (n := 1) (xs := bvs ([4])) (m := (vi (zz x.i)).length) (news := bvs (vi (zz x.i))) rfl (.tmp 40) (.tmp 41) 23 rfl tbB (HBW.out.nb.ow.kept0 (by (repeat first | exact Fr.refl _ _ | exact Fr.drewN _ _ _ | apply Fr.drew | apply Fr.alloc | apply Fr.setAt | apply Fr.moreN))) (HSN.out.kept0 (by (repeat first | exact Fr.refl _ _ | exact Fr.drewN _ _ _ | apply Fr.drew | apply Fr.alloc | apply Fr.setAt | apply Fr.moreN))) rfl rfl (bvs_one _) ?i2a ?i2b ?i2c)
        case i2a => have := HBD.out; simp only [maxLen]; omega
        case i2b => have := HBD.out; omega
        case i2c =>
          intro Ai2 ni2 ci2 Wi2 hN1 ho1 _ hf1 hs1
          have hb := HBW.out.app (cs := vi (zz x.i)) (by (repeat first | exact Fr.refl _ _ | exact Fr.drewN _ _ _ | apply Fr.drew | apply Fr.alloc | apply Fr.setAt | apply Fr.moreN)) rfl hN1 ho1 hf1 hs1
          have HBi2 := Lib.hid hb
          clear hN1 ho1 hf1 hs1 hb HBW HSN HBD
          go_wp2
          go_ret
          exact ⟨Ai2, ni2, ci2, rfl, by rw [HEN.out]; simpa using HBi2.out.nb, HBi2.out.fr⟩
    · rw [h] at hen ⊢
      rw [if_neg (by decide), if_neg (by decide), if_neg (by decide), if_pos rfl] at hen
      have HEN := Lib.hid hen
      clear hen h
      show Calls Tryz.prog 34 #[.agg #[.int .u8 4, .bool x.b, .int .i64 x.i, .string ⟨x.t.toArray⟩, .slice BA x.bs.length bc, .slice LA x.l.length lc, .slice FA x.f.length fc]] w _
      have hal := (Fr.refl no w).alloc (.cells #[.int .u8 4, .bool x.b, .int .i64 x.i, .string ⟨x.t.toArray⟩, .slice BA x.bs.length bc, .slice LA x.l.length lc, .slice FA x.f.length fc] 27)
      have hrow := heap_alloc_new w (.cells #[.int .u8 4, .bool x.b, .int .i64 x.i, .string ⟨x.t.toArray⟩, .slice BA x.bs.length bc, .slice LA x.l.length lc, .slice FA x.f.length fc] 27)
      have hb0 : BW w (w.alloc (.cells #[.int .u8 4, .bool x.b, .int .i64 x.i, .string ⟨x.t.toArray⟩, .slice BA x.bs.length bc, .slice LA x.l.length lc, .slice FA x.f.length fc] 27)) w.heap.size (.cells #[.int .u8 4, .bool x.b, .int .i64 x.i, .string ⟨x.t.toArray⟩, .slice BA x.bs.length bc, .slice LA x.l.length lc, .slice FA x.f.length fc] 27 (0, 0)) none 0 0 [] := ⟨NB.nil _ _, hal, hrow, by simp [Value.ownBlock]⟩
      have HB := Lib.hid hb0
      clear hal hrow hb0
      go_enter Tryz.func34, Tryz.ntmps34
      go_wp2_with (at_builtin; refine wpList_apo (n := 0) (xs := []) (m := 1) (news := bvs [5]) rfl (.tmp 45) (.tmp 46) 23 rfl tbB (HB.out.nb.ow.kept0 (by (repeat first | exact Fr.refl _ _ | exact Fr.drewN _ _ _ | apply Fr.drew | apply Fr.alloc | apply Fr.setAt | apply Fr.moreN))) (built_at (w.alloc (.cells #[.int .u8 4, .bool x.b, .int .i64 x.i, .string ⟨x.t.toArray⟩, .slice BA x.bs.length bc, .slice LA x.l.length lc, .slice FA x.f.length fc] 27)) _ _ (w.heap.size + 1) (by simp)) rfl rfl (bvs_one _) ?e1a ?e1b ?e1c)
      case e1a => simp [maxLen]
      case e1b => omega
      case e1c =>
        intro A1 N1 c1 W1 hN1 ho1 _ hf1 hs1
        have hb := HB.out.app (cs := [5]) (by (repeat first | exact Fr.refl _ _ | exact Fr.drewN _ _ _ | apply Fr.drew | apply Fr.alloc | apply Fr.setAt | apply Fr.moreN)) rfl hN1 ho1 hf1 hs1
        rw [List.nil_append] at hb
        obtain rfl : N1 = 1 := by omega
        have HB1 := Lib.hid hb
        clear hN1 ho1 hf1 hs1 hb HB
        obtain ⟨q0, q1, q2, q3, q4, q5, q6, qz, ql⟩ := seven_cells HB1.out.row
        go_wp2_with fail
        refine (textv_ref W1 x.t (by have h1 := HL.out; rw [HEN.out] at h1; unfold vt at h1; simp at h1; omega)).mono ?_
        rintro e ve2 ⟨Be2, de2, rfl, hnew⟩
        have hsn := Sl.of_own hnew.1
        have hbw := HB1.out.kept0 hnew.2.2
        have hbd : 1 + (vt x.t).length ≤ 200000000 := by have h1 := HL.out; rw [HEN.out] at h1; simp at h1; omega
        have HSN := Lib.hid hsn; have HBW := Lib.hid hbw; have HBD := Lib.hid hbd
        clear hnew hsn hbw hbd q0 q1 q2 q3 q4 q5 q6 qz ql
        go_wp2_with (at_builtin; refine wpList_apo (n := 1) (xs := bvs ([5])) (m := (vt x.t).length) (news := bvs (vt x.t)) rfl (.tmp 51) (.tmp 52) 23 rfl tbB (HBW.out.nb.ow.kept0 (by (repeat first | exact Fr.refl _ _ | exact Fr.drewN _ _ _ | apply Fr.drew | apply Fr.alloc | apply Fr.setAt | apply Fr.moreN))) (HSN.out.kept0 (by (repeat first | exact Fr.refl _ _ | exact Fr.drewN _ _ _ | apply Fr.drew | apply Fr.alloc | apply Fr.setAt | apply Fr.moreN))) rfl rfl (bvs_one _) ?e2a ?e2b ?e2c)
        case e2a => have := HBD.out; simp only [maxLen]; omega
        case e2b => have := HBD.out; omega
        case e2c =>
          intro Ae2 ne2 ce2 We2 hN1 ho1 _ hf1 hs1
          have hb := HBW.out.app (cs := vt x.t) (by (repeat first | exact Fr.refl _ _ | exact Fr.drewN _ _ _ | apply Fr.drew | apply Fr.alloc | apply Fr.setAt | apply Fr.moreN)) rfl hN1 ho1 hf1 hs1
          have HBe2 := Lib.hid hb
          clear hN1 ho1 hf1 hs1 hb HBW HSN HBD
          go_wp2
          go_ret
          exact ⟨Ae2, ne2, ce2, rfl, by rw [HEN.out]; simpa using HBe2.out.nb, HBe2.out.fr⟩
    · rw [h] at hen ⊢
      rw [if_neg (by decide), if_neg (by decide), if_neg (by decide), if_neg (by decide), if_pos rfl] at hen
      have HEN := Lib.hid hen
      clear hen h
      show Calls Tryz.prog 34 #[.agg #[.int .u8 5, .bool x.b, .int .i64 x.i, .string ⟨x.t.toArray⟩, .slice BA x.bs.length bc, .slice LA x.l.length lc, .slice FA x.f.length fc]] w _
      have hal := (Fr.refl no w).alloc (.cells #[.int .u8 5, .bool x.b, .int .i64 x.i, .string ⟨x.t.toArray⟩, .slice BA x.bs.length bc, .slice LA x.l.length lc, .slice FA x.f.length fc] 27)
      have hrow := heap_alloc_new w (.cells #[.int .u8 5, .bool x.b, .int .i64 x.i, .string ⟨x.t.toArray⟩, .slice BA x.bs.length bc, .slice LA x.l.length lc, .slice FA x.f.length fc] 27)
      have hb0 : BW w (w.alloc (.cells #[.int .u8 5, .bool x.b, .int .i64 x.i, .string ⟨x.t.toArray⟩, .slice BA x.bs.length bc, .slice LA x.l.length lc, .slice FA x.f.length fc] 27)) w.heap.size (.cells #[.int .u8 5, .bool x.b, .int .i64 x.i, .string ⟨x.t.toArray⟩, .slice BA x.bs.length bc, .slice LA x.l.length lc, .slice FA x.f.length fc] 27 (0, 0)) none 0 0 [] := ⟨NB.nil _ _, hal, hrow, by simp [Value.ownBlock]⟩
      have HB := Lib.hid hb0
      clear hal hrow hb0
      go_enter Tryz.func34, Tryz.ntmps34
      go_wp2_with (at_builtin; refine wpList_apo (n := 0) (xs := []) (m := 1) (news := bvs [6]) rfl (.tmp 56) (.tmp 57) 23 rfl tbB (HB.out.nb.ow.kept0 (by (repeat first | exact Fr.refl _ _ | exact Fr.drewN _ _ _ | apply Fr.drew | apply Fr.alloc | apply Fr.setAt | apply Fr.moreN))) (built_at (w.alloc (.cells #[.int .u8 5, .bool x.b, .int .i64 x.i, .string ⟨x.t.toArray⟩, .slice BA x.bs.length bc, .slice LA x.l.length lc, .slice FA x.f.length fc] 27)) _ _ (w.heap.size + 1) (by simp)) rfl rfl (bvs_one _) ?r1a ?r1b ?r1c)
      case r1a => simp [maxLen]
      case r1b => omega
      case r1c =>
        intro A1 N1 c1 W1 hN1 ho1 _ hf1 hs1
        have hb := HB.out.app (cs := [6]) (by (repeat first | exact Fr.refl _ _ | exact Fr.drewN _ _ _ | apply Fr.drew | apply Fr.alloc | apply Fr.setAt | apply Fr.moreN)) rfl hN1 ho1 hf1 hs1
        rw [List.nil_append] at hb
        obtain rfl : N1 = 1 := by omega
        have HB1 := Lib.hid hb
        clear hN1 ho1 hf1 hs1 hb HB
        obtain ⟨q0, q1, q2, q3, q4, q5, q6, qz, ql⟩ := seven_cells HB1.out.row
        have hstr := run_str (P := Tryz.prog) (src := 23) (dst := 9) (e := 5) W1 (by kernel_rfl) (by kernel_rfl) (by kernel_rfl) (HXB.out W1 HB1.out.fr)
        go_wp2_with fail
        refine (textv_ref W1 x.bs (by have h1 := HL.out; rw [HEN.out] at h1; unfold vt at h1; simp at h1; omega)).mono ?_
        rintro e vr2 ⟨Br2, dr2, rfl, hnew⟩
        have hsn := Sl.of_own hnew.1
        have hbw := HB1.out.kept0 hnew.2.2
        have hbd : 1 + (vt x.bs).length ≤ 200000000 := by have h1 := HL.out; rw [HEN.out] at h1; simp at h1; omega
        have HSN := Lib.hid hsn; have HBW := Lib.hid hbw; have HBD := Lib.hid hbd
        clear hnew hsn hbw hbd hstr q0 q1 q2 q3 q4 q5 q6 qz ql
        go_wp2_with (at_builtin; refine wpList_apo (n := 1) (xs := bvs ([6])) (m := (vt x.bs).length) (news := bvs (vt x.bs)) rfl (.tmp 63) (.tmp 64) 23 rfl tbB (HBW.out.nb.ow.kept0 (by (repeat first | exact Fr.refl _ _ | exact Fr.drewN _ _ _ | apply Fr.drew | apply Fr.alloc | apply Fr.setAt | apply Fr.moreN))) (HSN.out.kept0 (by (repeat first | exact Fr.refl _ _ | exact Fr.drewN _ _ _ | apply Fr.drew | apply Fr.alloc | apply Fr.setAt | apply Fr.moreN))) rfl rfl (bvs_one _) ?r2a ?r2b ?r2c)
        case r2a => have := HBD.out; simp only [maxLen]; omega
        case r2b => have := HBD.out; omega
        case r2c =>
          intro Ar2 nr2 cr2 Wr2 hN1 ho1 _ hf1 hs1
          have hb := HBW.out.app (cs := vt x.bs) (by (repeat first | exact Fr.refl _ _ | exact Fr.drewN _ _ _ | apply Fr.drew | apply Fr.alloc | apply Fr.setAt | apply Fr.moreN)) rfl hN1 ho1 hf1 hs1
          have HBr2 := Lib.hid hb
          clear hN1 ho1 hf1 hs1 hb HBW HSN HBD
          go_wp2
          go_ret
          exact ⟨Ar2, nr2, cr2, rfl, by rw [HEN.out]; simpa using HBr2.out.nb, HBr2.out.fr⟩
    · rw [h] at hen ⊢
      rw [if_neg (by decide), if_neg (by decide), if_neg (by decide), if_neg (by decide), if_neg (by decide), if_pos rfl] at hen
      have HEN := Lib.hid hen
      clear hen h
      have hv : lt64 (x.l.length : Nat) := ⟨by omega⟩
      have HV := Lib.hid hv
      clear hv
      show Calls Tryz.prog 34 #[.agg #[.int .u8 6, .bool x.b, .int .i64 x.i, .string ⟨x.t.toArray⟩, .slice BA x.bs.length bc, .slice LA x.l.length lc, .slice FA x.f.length fc]] w _
      have hal := (Fr.refl no w).alloc (.cells #[.int .u8 6, .bool x.b, .int .i64 x.i, .string ⟨x.t.toArray⟩, .slice BA x.bs.length bc, .slice LA x.l.length lc, .slice FA x.f.length fc] 27)
      have hrow := heap_alloc_new w (.cells #[.int .u8 6, .bool x.b, .int .i64 x.i, .string ⟨x.t.toArray⟩, .slice BA x.bs.length bc, .slice LA x.l.length lc, .slice FA x.f.length fc] 27)
      have hb0 : BW w (w.alloc (.cells #[.int .u8 6, .bool x.b, .int .i64 x.i, .string ⟨x.t.toArray⟩, .slice BA x.bs.length bc, .slice LA x.l.length lc, .slice FA x.f.length fc] 27)) w.heap.size (.cells #[.int .u8 6, .bool x.b, .int .i64 x.i, .string ⟨x.t.toArray⟩, .slice BA x.bs.length bc, .slice LA x.l.length lc, .slice FA x.f.length fc] 27 (0, 0)) none 0 0 [] := ⟨NB.nil _ _, hal, hrow, by simp [Value.ownBlock]⟩
      have HB := Lib.hid hb0
      clear hal hrow hb0
      go_enter Tryz.func34, Tryz.ntmps34
      go_wp2_with (at_builtin; refine wpList_apo (n := 0) (xs := []) (m := 1) (news := bvs [7]) rfl (.tmp 68) (.tmp 69) 23 rfl tbB (HB.out.nb.ow.kept0 (by (repeat first | exact Fr.refl _ _ | exact Fr.drewN _ _ _ | apply Fr.drew | apply Fr.alloc | apply Fr.setAt | apply Fr.moreN))) (built_at (w.alloc (.cells #[.int .u8 6, .bool x.b, .int .i64 x.i, .string ⟨x.t.toArray⟩, .slice BA x.bs.length bc, .slice LA x.l.length lc, .slice FA x.f.length fc] 27)) _ _ (w.heap.size + 1) (by simp)) rfl rfl (bvs_one _) ?l1a ?l1b ?l1c)
      case l1a => simp [maxLen]
      case l1b => omega
      case l1c =>
        intro A1 N1 c1 W1 hN1 ho1 _ hf1 hs1
        have hb := HB.out.app (cs := [7]) (by (repeat first | exact Fr.refl _ _ | exact Fr.drewN _ _ _ | apply Fr.drew | apply Fr.alloc | apply Fr.setAt | apply Fr.moreN)) rfl hN1 ho1 hf1 hs1
        rw [List.nil_append] at hb
        obtain rfl : N1 = 1 := by omega
        have HB1 := Lib.hid hb
        clear hN1 ho1 hf1 hs1 hb HB
        obtain ⟨q0, q1, q2, q3, q4, q5, q6, qz, ql⟩ := seven_cells HB1.out.row
        go_wp2_with fail
        refine (varint_ref W1 x.l.length HV.out).mono ?_
        rintro e vl2 ⟨Bl2, dl2, rfl, hnew⟩
        have hsn := Sl.of_own hnew.1
        have hbw := HB1.out.kept0 hnew.2.2
        have hbd : 1 + (vi x.l.length).length ≤ 200000000 := by have h1 := HL.out; rw [HEN.out] at h1; simp at h1; omega
        have HSN := Lib.hid hsn; have HBW := Lib.hid hbw; have HBD := Lib.hid hbd
        clear hnew hsn hbw hbd q0 q1 q2 q3 q4 q5 q6 qz ql
        go_wp2_with (at_builtin; refine wpList_apo (n := 1) (xs := bvs ([7])) (m := (vi x.l.length).length) (news := bvs (vi x.l.length)) rfl (.tmp 76) (.tmp 77) 23 rfl tbB (HBW.out.nb.ow.kept0 (by (repeat first | exact Fr.refl _ _ | exact Fr.drewN _ _ _ | apply Fr.drew | apply Fr.alloc | apply Fr.setAt | apply Fr.moreN))) (HSN.out.kept0 (by (repeat first | exact Fr.refl _ _ | exact Fr.drewN _ _ _ | apply Fr.drew | apply Fr.alloc | apply Fr.setAt | apply Fr.moreN))) rfl rfl (bvs_one _) ?l2a ?l2b ?l2c)
        case l2a => have := HBD.out; simp only [maxLen]; omega
        case l2b => have := HBD.out; omega
        case l2c =>
          intro Al2 nl2 cl2 Wl2 hN1 ho1 _ hf1 hs1
          have hb := HBW.out.app (cs := vi x.l.length) (by (repeat first | exact Fr.refl _ _ | exact Fr.drewN _ _ _ | apply Fr.drew | apply Fr.alloc | apply Fr.setAt | apply Fr.moreN)) rfl hN1 ho1 hf1 hs1
          have HBl2 := Lib.hid hb
          clear hN1 ho1 hf1 hs1 hb HBW HSN HBD
          go_wp2
          go_loopw [3, 8] (fun ov iv wr => ∃ (j : Nat) (A : Option Addr) (n c : Nat), j ≤ x.l.length ∧ ov = .slice A n c ∧ iv = .int .i64 (j : Int) ∧ BW w wr w.heap.size ((.cells #[.int .u8 6, .bool x.b, .int .i64 x.i, .string ⟨x.t.toArray⟩, .slice BA x.bs.length bc, .slice LA x.l.length lc, .slice FA x.f.length fc] 27 (0, 0))) A n c (([7] ++ vi x.l.length) ++ (x.l.take j).flatMap denc)) (fun _ iv _ => x.l.length - (intOf iv).toNat)
          case atStart => exact ⟨0, Al2, nl2, cl2, Nat.zero_le _, rfl, rfl, by simpa using HBl2.out⟩
          case round =>
            obtain ⟨j, A, n, c, hj, rfl, rfl, hbw⟩ := hrel
            have HB := Lib.hid hbw
            clear hbw HBl2
            by_cases hlt : j < x.l.length
            · have htl := flat_take_len denc x.l (j + 1)
              rw [flat_take hlt, List.length_append] at htl
              have hbound : n + (denc x.l[j]).length ≤ 200000000 ∧ (denc x.l[j]).length ≤ 100000000 := by
                have h1 := HL.out; rw [HEN.out] at h1
                have h2 := HB.out.nb.len
                simp only [List.length_cons, List.length_append, List.length_nil] at h1 h2
                omega
              have HBO := Lib.hid hbound
              clear htl hbound
              obtain ⟨b, o, KB, kb, KL, kl, KF, kf, rfl, hfj, r0, r1, r2, r3, r4, r5, r6, hgl⟩ := In.get (HXL.out.kept0 HB.out.fr) j hlt
              obtain ⟨q0, q1, q2, q3, q4, q5, q6, qz, ql⟩ := seven_cells HB.out.row
              have hc := HCL.out x.l[j] (List.getElem_mem _) wr HB.out.fr HBO.out.2
              rw [hfj.agg] at hc
              have HCJ := Lib.hid hc
              clear hfj hc
              go_wp2_with fail
              refine HCJ.out.mono ?_
              rintro e w5 ⟨A5, n5, c5, rfl, hnb5, f5⟩
              have hbw := HB.out.kept0 f5
              have hln := hnb5.len
              have HSN := Lib.hid hnb5.ow.sl; have HBW := Lib.hid hbw; have HN5 := Lib.hid hln
              clear hnb5 f5 hbw hln q0 q1 q2 q3 q4 q5 q6 qz ql r0 r1 r2 r3 r4 r5 r6 hgl HCJ
              go_wp2_with (at_builtin; refine wpList_apo (n := n) (xs := bvs (([7] ++ vi x.l.length) ++ (x.l.take j).flatMap denc)) (m := n5) (news := bvs (denc x.l[j])) rfl (.tmp 92) (.tmp 93) 23 rfl tbB (HBW.out.nb.ow.kept0 (by (repeat first | exact Fr.refl _ _ | exact Fr.drewN _ _ _ | apply Fr.drew | apply Fr.alloc | apply Fr.setAt | apply Fr.moreN))) (HSN.out.kept0 (by (repeat first | exact Fr.refl _ _ | exact Fr.drewN _ _ _ | apply Fr.drew | apply Fr.alloc | apply Fr.setAt | apply Fr.moreN))) rfl rfl (bvs_one _) ?l3a ?l3b ?l3c)
              case l3a => have h1 := HBO.out.1; have h2 := HN5.out; simp only [maxLen]; omega
              case l3b => have h1 := HBO.out.1; have h2 := HN5.out; omega
              case l3c =>
                intro A2 N2 c2 W2 hN1 ho1 _ hf1 hs1
                have hb := HBW.out.app (cs := denc x.l[j]) (by (repeat first | exact Fr.refl _ _ | exact Fr.drewN _ _ _ | apply Fr.drew | apply Fr.alloc | apply Fr.setAt | apply Fr.moreN)) HN5.out hN1 ho1 hf1 hs1
                rw [List.append_assoc, ← flat_take hlt] at hb
                have HB2 := Lib.hid hb
                obtain ⟨q0, q1, q2, q3, q4, q5, q6, qz, ql⟩ := seven_cells HB2.out.row
                clear hN1 ho1 hf1 hs1 hb HBW HSN HN5 HBO
                go_wp2
                go_roundw
                case rel => exact ⟨j + 1, A2, N2, c2, hlt, rfl, by first | rfl | go_num, HB2.out⟩
                case measure => simp [intOf]; omega
            · obtain rfl : j = x.l.length := by omega
              have hb := HB.out
              rw [List.take_length] at hb
              obtain ⟨q0, q1, q2, q3, q4, q5, q6, qz, ql⟩ := seven_cells HB.out.row
              have HBB := Lib.hid hb
              clear hb
              go_wp2
              go_ret
              exact ⟨A, n, c, rfl, by rw [HEN.out]; simpa using HBB.out.nb, HBB.out.fr⟩
    · rw [h] at hen ⊢
      rw [if_neg (by decide), if_neg (by decide), if_neg (by decide), if_neg (by decide), if_neg (by decide), if_neg (by decide), if_pos rfl] at hen
      have HEN := Lib.hid hen
      clear hen h
      have hv : lt64 (x.f.length : Nat) := ⟨by omega⟩
      have HV := Lib.hid hv
      clear hv
      show Calls Tryz.prog 34 #[.agg #[.int .u8 7, .bool x.b, .int .i64 x.i, .string ⟨x.t.toArray⟩, .slice BA x.bs.length bc, .slice LA x.l.length lc, .slice FA x.f.length fc]] w _
      have hal := (Fr.refl no w).alloc (.cells #[.int .u8 7, .bool x.b, .int .i64 x.i, .string ⟨x.t.toArray⟩, .slice BA x.bs.length bc, .slice LA x.l.length lc, .slice FA x.f.length fc] 27)
      have hrow := heap_alloc_new w (.cells #[.int .u8 7, .bool x.b, .int .i64 x.i, .string ⟨x.t.toArray⟩, .slice BA x.bs.length bc, .slice LA x.l.length lc, .slice FA x.f.length fc] 27)
      have hb0 : BW w (w.alloc (.cells #[.int .u8 7, .bool x.b, .int .i64 x.i, .string ⟨x.t.toArray⟩, .slice BA x.bs.length bc, .slice LA x.l.length lc, .slice FA x.f.length fc] 27)) w.heap.size (.cells #[.int .u8 7, .bool x.b, .int .i64 x.i, .string ⟨x.t.toArray⟩, .slice BA x.bs.length bc, .slice LA x.l.length lc, .slice FA x.f.length fc] 27 (0, 0)) none 0 0 [] := ⟨NB.nil _ _, hal, hrow, by simp [Value.ownBlock]⟩
      have HB := Lib.hid hb0
      clear hal hrow hb0
      go_enter Tryz.func34, Tryz.ntmps34
      go_wp2_with (at_builtin; refine wpList_apo (n := 0) (xs := []) (m := 1) (news := bvs [8]) rfl (.tmp 96) (.tmp 97) 23 rfl tbB (HB.out.nb.ow.kept0 (by (repeat first | exact Fr.refl _ _ | exact Fr.drewN _ _ _ | apply Fr.drew | apply Fr.alloc | apply Fr.setAt | apply Fr.moreN))) (built_at (w.alloc (.cells #[.int .u8 7, .bool x.b, .int .i64 x.i, .string ⟨x.t.toArray⟩, .slice BA x.bs.length bc, .slice LA x.l.length lc, .slice FA x.f.length fc] 27)) _ _ (w.heap.size + 1) (by simp)) rfl rfl (bvs_one _) ?f1a ?f1b ?f1c)
      case f1a => simp [maxLen]
      case f1b => omega
      case f1c =>
        intro A1 N1 c1 W1 hN1 ho1 _ hf1 hs1
        have hb := HB.out.app (cs := [8]) (by (repeat first | exact Fr.refl _ _ | exact Fr.drewN _ _ _ | apply Fr.drew | apply Fr.alloc | apply Fr.setAt | apply Fr.moreN)) rfl hN1 ho1 hf1 hs1
        rw [List.nil_append] at hb
        obtain rfl : N1 = 1 := by omega
        have HB1 := Lib.hid hb
        clear hN1 ho1 hf1 hs1 hb HB
        obtain ⟨q0, q1, q2, q3, q4, q5, q6, qz, ql⟩ := seven_cells HB1.out.row
        go_wp2_with fail
        refine (varint_ref W1 x.f.length HV.out).mono ?_
        rintro e vf2 ⟨Bf2, df2, rfl, hnew⟩
        have hsn := Sl.of_own hnew.1
        have hbw := HB1.out.kept0 hnew.2.2
        have hbd : 1 + (vi x.f.length).length ≤ 200000000 := by have h1 := HL.out; rw [HEN.out] at h1; simp at h1; omega
        have HSN := Lib.hid hsn; have HBW := Lib.hid hbw; have HBD := Lib.hid hbd
        clear hnew hsn hbw hbd q0 q1 q2 q3 q4 q5 q6 qz ql
        go_wp2_with (at_builtin; refine wpList_apo (n := 1) (xs := bvs ([8])) (m := (vi x.f.length).length) (news := bvs (vi x.f.length)) rfl (.tmp 104) (.tmp 105) 23 rfl tbB (HBW.out.nb.ow.kept0 (by (repeat first | exact Fr.refl _ _ | exact Fr.drewN _ _ _ | apply Fr.drew | apply Fr.alloc | apply Fr.setAt | apply Fr.moreN))) (HSN.out.kept0 (by (repeat first | exact Fr.refl _ _ | exact Fr.drewN _ _ _ | apply Fr.drew | apply Fr.alloc | apply Fr.setAt | apply Fr.moreN))) rfl rfl (bvs_one _) ?f2a ?f2b ?f2c)
        case f2a => have := HBD.out; simp only [maxLen]; omega
        case f2b => have := HBD.out; omega
        case f2c =>
          intro Af2 nf2 cf2 Wf2 hN1 ho1 _ hf1 hs1
          have hb := HBW.out.app (cs := vi x.f.length) (by (repeat first | exact Fr.refl _ _ | exact Fr.drewN _ _ _ | apply Fr.drew | apply Fr.alloc | apply Fr.setAt | apply Fr.moreN)) rfl hN1 ho1 hf1 hs1
          have HBf2 := Lib.hid hb
          clear hN1 ho1 hf1 hs1 hb HBW HSN HBD
          go_wp2
          go_loopw [3, 11] (fun ov iv wr => ∃ (j : Nat) (A : Option Addr) (n c : Nat), j ≤ x.f.length ∧ ov = .slice A n c ∧ iv = .int .i64 (j : Int) ∧ BW w wr w.heap.size ((.cells #[.int .u8 7, .bool x.b, .int .i64 x.i, .string ⟨x.t.toArray⟩, .slice BA x.bs.length bc, .slice LA x.l.length lc, .slice FA x.f.length fc] 27 (0, 0))) A n c (([8] ++ vi x.f.length) ++ (x.f.take j).flatMap fenc)) (fun _ iv _ => x.f.length - (intOf iv).toNat)
          case atStart => exact ⟨0, Af2, nf2, cf2, Nat.zero_le _, rfl, rfl, by simpa using HBf2.out⟩
          case round =>
            obtain ⟨j, A, n, c, hj, rfl, rfl, hbw⟩ := hrel
            have HB := Lib.hid hbw
            clear hbw HBf2
            by_cases hlt : j < x.f.length
            · have htl := flat_take_len fenc x.f (j + 1)
              rw [flat_take hlt, List.length_append] at htl
              have hbound : n + (fenc x.f[j]).length ≤ 200000000 ∧ (fenc x.f[j]).length ≤ 100000000 := by
                have h1 := HL.out; rw [HEN.out] at h1
                have h2 := HB.out.nb.len
                simp only [List.length_cons, List.length_append, List.length_nil] at h1 h2
                omega
              have HBO := Lib.hid hbound
              clear htl hbound
              have hfe : fenc x.f[j] = vt x.f[j].1 ++ denc x.f[j].2 := rfl
              have hbl : n + (vt x.f[j].1).length + (denc x.f[j].2).length ≤ 200000000 ∧ (denc x.f[j].2).length ≤ 100000000 := by
                have h1 := HBO.out; rw [hfe] at h1; simp only [List.length_append] at h1; omega
              have hnmj : x.f[j].1.length ≤ 140737488351232 := HNM.out x.f[j] (List.getElem_mem _)
              have HBL := Lib.hid hbl
              clear hfe hbl
              obtain ⟨b, o, KB, kb, KL, kl, KF, kf, rfl, hfj, n0, r0, r1, r2, r3, r4, r5, r6, hgl⟩ := InF.get (HXF.out.kept0 HB.out.fr) j hlt
              obtain ⟨q0, q1, q2, q3, q4, q5, q6, qz, ql⟩ := seven_cells HB.out.row
              clear hfj
              go_wp2_with fail
              refine (textv_ref wr x.f[j].1 (by omega)).mono ?_
              rintro e w4 ⟨A4, c4, rfl, hnew⟩
              have hsn := Sl.of_own hnew.1
              have hbw := HB.out.kept0 hnew.2.2
              have HSN := Lib.hid hsn; have HBW := Lib.hid hbw
              clear hnew hsn hbw q0 q1 q2 q3 q4 q5 q6 qz ql n0 r0 r1 r2 r3 r4 r5 r6 hgl
              go_wp2_with (at_builtin; refine wpList_apo (n := n) (xs := bvs (([8] ++ vi x.f.length) ++ (x.f.take j).flatMap fenc)) (m := (vt x.f[j].1).length) (news := bvs (vt x.f[j].1)) rfl (.tmp 121) (.tmp 122) 23 rfl tbB (HBW.out.nb.ow.kept0 (by (repeat first | exact Fr.refl _ _ | exact Fr.drewN _ _ _ | apply Fr.drew | apply Fr.alloc | apply Fr.setAt | apply Fr.moreN))) (HSN.out.kept0 (by (repeat first | exact Fr.refl _ _ | exact Fr.drewN _ _ _ | apply Fr.drew | apply Fr.alloc | apply Fr.setAt | apply Fr.moreN))) rfl rfl (bvs_one _) ?f3a ?f3b ?f3c)
              case f3a => have h1 := HBL.out.1; simp only [maxLen]; omega
              case f3b => have h1 := HBL.out.1; omega
              case f3c =>
                intro A6 n6 c6 W6 hN1 ho1 _ hf1 hs1
                have hb := HBW.out.app (cs := vt x.f[j].1) (by (repeat first | exact Fr.refl _ _ | exact Fr.drewN _ _ _ | apply Fr.drew | apply Fr.alloc | apply Fr.setAt | apply Fr.moreN)) rfl hN1 ho1 hf1 hs1
                have HB6 := Lib.hid hb; have HN6 := Lib.hid hN1
                clear hN1 ho1 hf1 hs1 hb HBW HSN
                obtain ⟨b, o, KB, kb, KL, kl, KF, kf, hbo, hfj, n0, r0, r1, r2, r3, r4, r5, r6, hgl⟩ := InF.get (HXF.out.kept0 HB6.out.fr) j hlt
                obtain ⟨q0, q1, q2, q3, q4, q5, q6, qz, ql⟩ := seven_cells HB6.out.row
                have hc := HCF.out x.f[j] (List.getElem_mem _) W6 HB6.out.fr HBL.out.2
                rw [hfj.agg] at hc
                cases hbo
                have HCJ := Lib.hid hc
                clear hfj hc
                go_wp2_with fail
                refine HCJ.out.mono ?_
                rintro e w5 ⟨A5, n5, c5, rfl, hnb5, f5⟩
                have hbw := HB6.out.kept0 f5
                have hln := hnb5.len
                have HSN := Lib.hid hnb5.ow.sl; have HBW := Lib.hid hbw; have HN5 := Lib.hid hln
                clear hnb5 f5 hbw hln q0 q1 q2 q3 q4 q5 q6 qz ql n0 r0 r1 r2 r3 r4 r5 r6 hgl HCJ
                go_wp2_with (at_builtin; refine wpList_apo (n := n6) (xs := bvs ((([8] ++ vi x.f.length) ++ (x.f.take j).flatMap fenc) ++ vt x.f[j].1)) (m := n5) (news := bvs (denc x.f[j].2)) rfl (.tmp 131) (.tmp 132) 23 rfl tbB (HBW.out.nb.ow.kept0 (by (repeat first | exact Fr.refl _ _ | exact Fr.drewN _ _ _ | apply Fr.drew | apply Fr.alloc | apply Fr.setAt | apply Fr.moreN))) (HSN.out.kept0 (by (repeat first | exact Fr.refl _ _ | exact Fr.drewN _ _ _ | apply Fr.drew | apply Fr.alloc | apply Fr.setAt | apply Fr.moreN))) rfl rfl (bvs_one _) ?f4a ?f4b ?f4c)
                case f4a => have h1 := HBL.out.1; have h2 := HN5.out; have h3 := HN6.out; simp only [maxLen]; omega
                case f4b => have h1 := HBL.out.1; have h2 := HN5.out; have h3 := HN6.out; omega
                case f4c =>
                  intro A2 N2 c2 W2 hN1 ho1 _ hf1 hs1
                  have hb := HBW.out.app (cs := denc x.f[j].2) (by (repeat first | exact Fr.refl _ _ | exact Fr.drewN _ _ _ | apply Fr.drew | apply Fr.alloc | apply Fr.setAt | apply Fr.moreN)) HN5.out hN1 (by simpa [List.append_assoc] using ho1) hf1 hs1
                  rw [List.append_assoc, List.append_assoc, show vt x.f[j].1 ++ denc x.f[j].2 = fenc x.f[j] from rfl, ← flat_take hlt] at hb
                  have HB2 := Lib.hid hb
                  obtain ⟨q0, q1, q2, q3, q4, q5, q6, qz, ql⟩ := seven_cells HB2.out.row
                  clear hN1 ho1 hf1 hs1 hb HBW HSN HN5 HBO HBL HN6
                  go_wp2
                  go_roundw
                  case rel => exact ⟨j + 1, A2, N2, c2, hlt, rfl, by first | rfl | go_num, HB2.out⟩
                  case measure => simp [intOf]; omega
            · obtain rfl : j = x.f.length := by omega
              have hb := HB.out
              rw [List.take_length] at hb
              obtain ⟨q0, q1, q2, q3, q4, q5, q6, qz, ql⟩ := seven_cells HB.out.row
              have HBB := Lib.hid hb
              clear hb
              go_wp2
              go_ret
              exact ⟨A, n, c, rfl, by rw [HEN.out]; simpa using HBB.out.nb, HBB.out.fr⟩
end Go.Proofs.YtijcleiekafoiaaGreatDoor

/- codicilref05.Encode, Size. -/
namespace Go.Proofs.YtijcleiekafoiaaGreatDoor
open Go.RowKit Go.Shelf
open Tr

set_option maxRecDepth 100000 in
set_option maxHeartbeats 2000000 in
theorem encode5_any (w : World) (x : Tr Mm) (hx : Tr.Good w x) (hp : parts x ≤ 1000000) (hl : (denc x).length ≤ 100000000) :
    Calls Tryz.prog 10 #[x.agg] w fun e w' => Fr no w w' ∧ ∃ A n c, e = .returned (.tuple #[.slice A n c, .int .i64 (docErr x)]) ∧ NB w.heap.size w' A n c (docBytes x) := by
  obtain ⟨BA, bc, LA, lc, FA, fc, hf⟩ := hx.node.forms
  have hlt := check_le x
  have hag := hf.agg
  have hcall := fun W (f : Fr no w W) => check3_any own3_any x W (hx.kept0 f) hp
  have hby := fun W (f : Fr no w W) hfit => bytes5_any w x hx hfit W f hl
  rw [hag] at hcall hby ⊢
  have HX := Lib.hid hx; have HC := Lib.hid hcall; have HW := Lib.hid hby
  clear hf hag hcall hby
  go_enter Tryz.func10, Tryz.ntmps10
  go_wp2_with fail
  have hal : Fr no w (w.alloc (.cells #[.int .u8 x.k.toNat, .bool x.b, .int .i64 x.i, .string ⟨x.t.toArray⟩, .slice BA x.bs.length bc, .slice LA x.l.length lc, .slice FA x.f.length fc] 27)) := (Fr.refl no w).alloc _
  have hr0 := heap_alloc_new w (.cells #[.int .u8 x.k.toNat, .bool x.b, .int .i64 x.i, .string ⟨x.t.toArray⟩, .slice BA x.bs.length bc, .slice LA x.l.length lc, .slice FA x.f.length fc] 27)
  generalize w.alloc (.cells #[.int .u8 x.k.toNat, .bool x.b, .int .i64 x.i, .string ⟨x.t.toArray⟩, .slice BA x.bs.length bc, .slice LA x.l.length lc, .slice FA x.f.length fc] 27) = w0 at hal hr0 ⊢
  refine (HC.out w0 hal).mono ?_
  rintro e w1 ⟨rfl, f1⟩
  have F1 := Lib.hid (hal.trans f1 (fun _ _ h => h))
  have hr1 := f1.heap hr0 (fun h => h)
  clear hal hr0 f1 hp
  by_cases hc : check x = 0
  · have hfit := fit_of x HX.out (check_zero.1 hc).2.2
    have he : docErr x = if 8192 < (denc x).length then 51 else 0 := by unfold docErr; rw [if_neg (by rw [hc]; simp)]
    rw [hc]
    obtain ⟨q0, q1, q2, q3, q4, q5, q6, qz, ql⟩ := seven_cells hr1
    have hcw := HW.out w1 F1.out hfit
    have HE := Lib.hid he; have HCW := Lib.hid hcw
    clear hc hfit he hr1 hlt hcw
    go_wp2_with fail
    refine HCW.out.mono ?_
    rintro e w3 ⟨A, n, c, rfl, hnb, f3⟩
    have hnl := hnb.len
    have hlo : NB w.heap.size w3 A n c (denc x) := ⟨hnb.ow, hnb.len, fun k hk => Nat.le_trans F1.out.size (hnb.new k hk)⟩
    have F3 := Lib.hid (F1.out.trans f3 (fun _ _ h => h)); have HNB := Lib.hid hlo
    clear hnb f3 hlo HCW q0 q1 q2 q3 q4 q5 q6 qz ql
    by_cases hn : 8192 < n
    · have he : docErr x = 51 := by rw [HE.out, if_pos (by rw [← hnl]; exact hn)]
      have hb : docBytes x = [] := by unfold docBytes; rw [he]; rfl
      have HEE := Lib.hid he; have HBB := Lib.hid hb
      clear he hb hnl hl
      go_wp2
      go_ret2
      rw [HEE.out, HBB.out]
      exact ⟨F3.out, none, 0, 0, rfl, NB.nil _ _⟩
    · have he : docErr x = 0 := by rw [HE.out, if_neg (by rw [← hnl]; exact hn)]
      have hb : docBytes x = denc x := by unfold docBytes; rw [he]; rfl
      have HEE := Lib.hid he; have HBB := Lib.hid hb
      clear he hb hnl hl
      go_wp2
      go_ret2
      rw [HEE.out, HBB.out]
      exact ⟨F3.out, A, n, c, rfl, HNB.out⟩
  · have he : docErr x = check x := by unfold docErr; rw [if_pos hc]
    have hb : docBytes x = [] := by unfold docBytes; rw [he, if_neg hc]
    have hcn : ((check x : Nat) : Int) ≠ 0 := by omega
    obtain ⟨k, hk⟩ : ∃ k, k = check x := ⟨_, rfl⟩
    rw [← hk] at hcn he hlt ⊢
    have HEE := Lib.hid he; have HBB := Lib.hid hb
    clear he hb hc hk hr1
    have hb1 : ((k : Int) != 0) = true := by rw [bne_iff_ne]; exact hcn
    go_wp2
    go_ret2
    rw [HEE.out, HBB.out]
    exact ⟨F1.out, none, 0, 0, rfl, NB.nil _ _⟩

set_option maxRecDepth 100000 in
set_option maxHeartbeats 2000000 in
theorem size5_any (w : World) (x : Tr Mm) (hx : Tr.Good w x) (hp : parts x ≤ 1000000) (hl : (denc x).length ≤ 100000000) :
    Calls Tryz.prog 13 #[x.agg] w fun e w' => Fr no w w' ∧ e = .returned (.int .i64 (docSize x : Nat)) := by
  obtain ⟨BA, bc, LA, lc, FA, fc, hf⟩ := hx.node.forms
  have hlt := check_le x
  have hag := hf.agg
  have hcall := fun W (f : Fr no w W) => check3_any own3_any x W (hx.kept0 f) hp
  have hby := fun W (f : Fr no w W) hfit => bytes5_any w x hx hfit W f hl
  rw [hag] at hcall hby ⊢
  have HX := Lib.hid hx; have HC := Lib.hid hcall; have HW := Lib.hid hby
  clear hf hag hcall hby
  go_enter Tryz.func13, Tryz.ntmps13
  go_wp2_with fail
  have hal : Fr no w (w.alloc (.cells #[.int .u8 x.k.toNat, .bool x.b, .int .i64 x.i, .string ⟨x.t.toArray⟩, .slice BA x.bs.length bc, .slice LA x.l.length lc, .slice FA x.f.length fc] 27)) := (Fr.refl no w).alloc _
  have hr0 := heap_alloc_new w (.cells #[.int .u8 x.k.toNat, .bool x.b, .int .i64 x.i, .string ⟨x.t.toArray⟩, .slice BA x.bs.length bc, .slice LA x.l.length lc, .slice FA x.f.length fc] 27)
  generalize w.alloc (.cells #[.int .u8 x.k.toNat, .bool x.b, .int .i64 x.i, .string ⟨x.t.toArray⟩, .slice BA x.bs.length bc, .slice LA x.l.length lc, .slice FA x.f.length fc] 27) = w0 at hal hr0 ⊢
  refine (HC.out w0 hal).mono ?_
  rintro e w1 ⟨rfl, f1⟩
  have F1 := Lib.hid (hal.trans f1 (fun _ _ h => h))
  have hr1 := f1.heap hr0 (fun h => h)
  clear hal hr0 f1 hp
  by_cases hc : check x = 0
  · have hfit := fit_of x HX.out (check_zero.1 hc).2.2
    have he : docSize x = (denc x).length := by unfold docSize; rw [if_pos hc]
    rw [hc]
    obtain ⟨q0, q1, q2, q3, q4, q5, q6, qz, ql⟩ := seven_cells hr1
    have hcw := HW.out w1 F1.out hfit
    have HE := Lib.hid he; have HCW := Lib.hid hcw
    clear hc hfit he hr1 hlt hcw
    go_wp2_with fail
    refine HCW.out.mono ?_
    rintro e w3 ⟨A, n, c, rfl, hnb, f3⟩
    have hnl := hnb.len
    have F3 := Lib.hid (F1.out.trans f3 (fun _ _ h => h)); have HNL := Lib.hid hnl
    clear hnb f3 HCW q0 q1 q2 q3 q4 q5 q6 qz ql hnl hl
    go_wp2
    go_ret
    rw [HE.out, ← HNL.out]
    exact ⟨F3.out, rfl⟩
  · have he : docSize x = 0 := by unfold docSize; rw [if_neg hc]
    have hcn : ((check x : Nat) : Int) ≠ 0 := by omega
    obtain ⟨k, hk⟩ : ∃ k, k = check x := ⟨_, rfl⟩
    rw [← hk] at hcn hlt ⊢
    have HEE := Lib.hid he
    clear he hc hk hr1
    have hb1 : ((k : Int) != 0) = true := by rw [bne_iff_ne]; exact hcn
    go_wp2
    go_ret
    rw [HEE.out]
    exact ⟨F1.out, rfl⟩
end Go.Proofs.YtijcleiekafoiaaGreatDoor

/- append onto a row of one's own that has room: it stays where it is. General. -/
namespace Go
open Go.RowKit
section
variable {P : Program} {w : World} {o : Oper} {a : Act} {K : Act → World → Prop} {Q : Exit → Act → World → Prop}

theorem run_apr {t e : TypeId} {z : Value} {size bytes : Nat} (tb : Tb P t e z size bytes) (ty : TypeId) {g n cap : Nat} {xs : List Value} (hown : w.ownsRow 0 e size (.slice (some ⟨g, 0, none⟩) n cap) n xs)
    {x : Value} {m : Nat} {news : List Value} (hx : Sl w size x m news) (h1 : ∀ u ∈ news, u.oneCell' = true) (hr : n + m ≤ cap) :
    ∃ w', (Builtin.append_ #[t, t] ty #[.slice (some ⟨g, 0, none⟩) n cap, x]).run P w = .ok (.slice (some ⟨g, 0, none⟩) (n + m) cap) w' ∧ w'.ownsRow 0 e size (.slice (some ⟨g, 0, none⟩) (n + m) cap) (n + m) (xs ++ news) ∧ Fr (fun k => k = g) w w' := by
  obtain ⟨i, hi, hz0, hz1, hz2⟩ := info_parts tb.info
  have hx2 : (x = .slice none 0 0 ∧ m = 0) ∨ ∃ y cap', x = .slice (some y) m cap' ∧ ∀ j u, news[j]? = some u → w.cell? (y.add j) = some u := by
    rcases hx.2 with ⟨Y, h1, h2⟩ | ⟨b, off, cap', h1, _, _, hc⟩
    · subst h1; subst h2
      cases Y with
      | none => exact .inl ⟨rfl, rfl⟩
      | some y => exact .inr ⟨y, 0, rfl, fun j u hu => by
          have hn : news = [] := List.eq_nil_of_length_eq_zero (by simpa using hx.1)
          subst hn; simp at hu⟩
    · exact .inr ⟨⟨b, off, none⟩, cap', h1, fun j u hu => by rw [Addr.add_lit]; exact hc j u hu⟩
  rcases hx2 with ⟨rfl, rfl⟩ | ⟨y, cap', rfl, hnews⟩
  · have hn : news = [] := List.eq_nil_of_length_eq_zero (by simpa using hx.1)
    subst hn
    exact ⟨w, run_append_owned_none (P := P) w 0 t ty e i size tb.und hi _ n xs hown, by simpa using hown, Fr.refl _ _⟩
  · rcases hown.2 with ⟨h, _⟩ | ⟨g', cap0, cur, h, hbg, hg, hnc, hcm, hcs, htake⟩
    · simp at h
    · simp only [Value.slice.injEq, Option.some.injEq, Addr.mk.injEq, and_true, true_and] at h
      obtain ⟨rfl, rfl⟩ := h
      subst hz1
      have hfit : n * i.size + news.length ≤ cur.size := by rw [hx.1, hcs, ← Nat.add_mul]; exact Nat.mul_le_mul_right _ hr
      have hrun := run_append_room (P := P) w t ty e i tb.und hi g n cap cur hg y m cap' news hx.1 hnews h1 hr hfit
      refine ⟨_, hrun, ⟨by rw [List.length_append, hown.1, hx.1, Nat.add_mul], .inr ⟨g, cap, _, rfl, hbg, setRow_heap w g cur _ e _ hg, hr, hcm, ?_, ?_⟩⟩, ⟨rfl, rfl, rfl, by simp, fun k _ hk => setRow_other w g k _ (fun e => hk e)⟩⟩
      · simp only [List.size_toArray, List.length_append, List.length_take, List.length_drop, Array.length_toList]
        omega
      · have hlen : (xs ++ news).length = (n + m) * i.size := by rw [List.length_append, hown.1, hx.1, Nat.add_mul]
        rw [htake, ← hlen]
        exact List.take_left

theorem wp_apr (s x : Operand) (t : TypeId) (ho : o.op = .call { callee := .builtin .append, args := #[s, x], argTypes := #[t, t] })
    {e : TypeId} {z : Value} {size bytes : Nat} (tb : Tb P t e z size bytes) {g n cap : Nat} {xs : List Value} (hown : w.ownsRow 0 e size (.slice (some ⟨g, 0, none⟩) n cap) n xs)
    {vx : Value} {m : Nat} {news : List Value} (hx : Sl w size vx m news) (hse : a.eval s = .slice (some ⟨g, 0, none⟩) n cap) (hxe : a.eval x = vx) (h1 : ∀ u ∈ news, u.oneCell' = true) (hr : n + m ≤ cap)
    (h : ∀ N w', N = n + m → w'.ownsRow 0 e size (.slice (some ⟨g, 0, none⟩) N cap) N (xs ++ news) → Fr (fun k => k = g) w w' → K (a.put o.dst (.slice (some ⟨g, 0, none⟩) N cap)) w') : o.wp P a w K Q := by
  obtain ⟨w', hrun, h2, h3⟩ := run_apr (P := P) tb o.type hown hx h1 hr
  unfold Oper.wp execOp
  simp only [ho, resolve, invoke, builtin, Sem.run_bind, Sem.run_pure, Result.andThen_ok, List.map_toArray, List.map_cons, List.map_nil, hse, hxe, hrun]
  exact h _ w' rfl h2 h3
variable {ops : Array Oper} {rest : List Oper}
theorem wpList_apr (hgd : o.guard = none) (s x : Operand) (t : TypeId) (ho : o.op = .call { callee := .builtin .append, args := #[s, x], argTypes := #[t, t] })
    {e : TypeId} {z : Value} {size bytes : Nat} (tb : Tb P t e z size bytes) {g n cap : Nat} {xs : List Value} (hown : w.ownsRow 0 e size (.slice (some ⟨g, 0, none⟩) n cap) n xs)
    {vx : Value} {m : Nat} {news : List Value} (hx : Sl w size vx m news) (hse : a.eval s = .slice (some ⟨g, 0, none⟩) n cap) (hxe : a.eval x = vx) (h1 : ∀ u ∈ news, u.oneCell' = true) (hr : n + m ≤ cap)
    (h : ∀ N w', N = n + m → w'.ownsRow 0 e size (.slice (some ⟨g, 0, none⟩) N cap) N (xs ++ news) → Fr (fun k => k = g) w w' → wpList P ops Q rest (a.put o.dst (.slice (some ⟨g, 0, none⟩) N cap)) w') : wpList P ops Q (o :: rest) a w :=
  wpList_plain hgd fun _ hK => wp_apr s x t ho tb hown hx hse hxe h1 hr fun N w' h2 h3 h4 => hK _ _ (h N w' h2 h3 h4)
end
end Go

/- What is lent to a call, looked at and written over behind it: LentBytes, WholeBytes, SpoilBytes. -/
namespace Go.Proofs.YtijcleiekafoiaaGreatDoor
open Go.RowKit

/-- At block g lie these bytes, and the two marks behind. -/
def Lent (w : World) (g : Nat) (l : List UInt8) : Prop := w.heap[g]? = some (.cells (bvs (l ++ [91, 92])).toArray 5 (0, 0))

theorem Lent.sl {w : World} {g : Nat} {l : List UInt8} (h : Lent w g l) (hl : l.length ≤ 140737488351232) : Sl w 1 (.slice (some ⟨g, 0, none⟩) l.length (l.length + 2)) l.length (bvs l) := by
  refine ⟨by rw [bvs_length, Nat.mul_one], .inr ⟨g, 0, _, rfl, by omega, by simp only [maxLen]; omega, fun j u hu => ?_⟩⟩
  have hj := (List.getElem?_eq_some_iff.1 hu).1
  rw [Nat.zero_add, cell_of_row w g j _ _ (0, 0) h, bvs_append]
  simp only [List.getElem?_toArray]
  rw [List.getElem?_append_left hj, hu]

set_option maxRecDepth 100000 in
set_option maxHeartbeats 400000 in
theorem lent_any (w : World) (x : Value) (l : List UInt8) (hx : Sl w 1 x l.length (bvs l)) (hl : l.length ≤ 140737488351232) :
    Calls Tryz.prog 16 #[x] w fun e w' => ∃ g, e = .returned (.slice (some ⟨g, 0, none⟩) l.length (l.length + 2)) ∧ w.heap.size ≤ g ∧ Lent w' g l ∧ Fr no w w' := by
  obtain ⟨A, c, rfl, hc1, hc2⟩ := hx.form
  have HX := Lib.hid hx; clear hx hc2
  obtain ⟨inf, hi, hz0, hz1, hz2⟩ := info_parts tbB.info
  obtain ⟨wm, hmk, hown, hgrow⟩ := run_make_own (P := Tryz.prog) w 0 23 5 inf (.int .u8 0) 1 tbB.und hi hz0 hz1 .i64 .i64 (l.length + 2) (by rw [hz2]; omega) (by simp only [maxLen]; omega) (Nat.zero_le _)
  rw [show ((l.length + 2 : Nat) : Int) = (l.length : Int) + 2 from by omega] at hmk
  have hfm : Fr no w wm := (Fr.of_grown hgrow).mono (fun k _ h => by cases h)
  have HO := Lib.hid hown; have HFM := Lib.hid hfm; have HG := Lib.hid (hown.lt _ rfl); clear hown hfm hgrow hi hz0 hz1 hz2
  go_enter Tryz.func16, Tryz.ntmps16
  go_wp2_with (at_builtin; refine wpList_apr rfl (.tmp 8) (.tmp 9) 23 rfl tbB HO.out (HX.out.kept0 HFM.out) rfl rfl (bvs_one l) (by omega) ?go)
  case go =>
    intro N w1 hN ho1 hf1
    obtain rfl : N = l.length := by omega
    have HO1 := Lib.hid ho1; have HF1 := Lib.hid hf1; clear ho1 hf1 hmk hN
    go_wp2_with (at_builtin; refine wpList_apr rfl (.tmp 11) (.tmp 12) 23 rfl tbB (own_kept0 HO1.out ?fr) (Sl.fresh w1 [91, 92] 5 (by rfl) (by simp [maxLen])) rfl rfl (bvs_one _) (by simp) ?go2)
    case fr => (repeat first | exact Fr.refl _ _ | apply Fr.drew | apply Fr.alloc)
    case go2 =>
      intro N w2 hN ho2 hf2
      have HO2 := Lib.hid ho2; have HF2 := Lib.hid hf2; clear ho2 hf2
      obtain rfl : N = l.length + 2 := by simpa using hN
      clear hN
      go_wp2
      go_ret
      have h := HO2.out
      rcases h.2 with ⟨h1, _⟩ | ⟨g, cap, cur, h1, _, hg, _, _, h4, h5⟩
      · cases h1
      · simp only [Value.slice.injEq, Option.some.injEq, Addr.mk.injEq, and_true, true_and] at h1
        obtain ⟨rfl, rfl⟩ := h1
        refine ⟨_, rfl, Nat.le_refl _, ?_, ?_⟩
        · unfold Lent
          rw [hg]
          rw [List.take_of_length_le (by rw [Array.length_toList]; omega)] at h5
          rw [bvs_append, ← h5]
        · have f1 : Fr no w w1 := HFM.out.trans HF1.out (fun k hk h => by omega)
          exact (f1.alloc _).trans HF2.out (fun k hk h => by omega)

theorem Lent.whole {w : World} {g : Nat} {l : List UInt8} (h : Lent w g l) : w.cell? ⟨g, l.length, none⟩ = some (.int .u8 91) ∧ w.cell? ⟨g, l.length + 1, none⟩ = some (.int .u8 92) := by
  constructor
  · rw [cell_of_row w g _ _ _ (0, 0) h]; simp [bvs, Bv]
  · rw [cell_of_row w g _ _ _ (0, 0) h]; simp [bvs, Bv]

theorem Lent.kept {S : Nat → Prop} {w w1 : World} {g : Nat} {l : List UInt8} (h : Lent w g l) (f : Fr S w w1) (hn : ¬ S g) : Lent w1 g l := f.heap h hn

set_option maxRecDepth 100000 in
set_option maxHeartbeats 400000 in
theorem whole_lent (w : World) (g : Nat) (y : Value) (l k : List UInt8) (hx : Lent w g l) (hy : Sl w 1 y k.length (bvs k)) (hl : l.length ≤ 140737488351232) (hk : k.length ≤ 140737488351232) :
    Calls Tryz.prog 18 #[.slice (some ⟨g, 0, none⟩) l.length (l.length + 2), y] w fun e w' => e = .returned (.bool (decide (l = k))) ∧ ∃ n, w' = w.drewN n := by
  obtain ⟨A, c, rfl, hc1, hc2⟩ := hy.form
  obtain ⟨q1, q2⟩ := hx.whole
  have HX := Lib.hid (hx.sl hl); have HY := Lib.hid hy; clear hx hy hc2
  go_enter Tryz.func18, Tryz.ntmps18
  go_wp2_with fail
  refine (same_any _ _ _ l k HX.out HY.out hl hk).mono ?_
  rintro e w1 ⟨rfl, n1, rfl⟩
  go_wp2
  go_ret
  exact ⟨rfl, n1, rfl⟩

end Go.Proofs.YtijcleiekafoiaaGreatDoor
