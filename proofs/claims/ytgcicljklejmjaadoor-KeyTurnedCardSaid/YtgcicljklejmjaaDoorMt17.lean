import Derived.Test.YtgcicljklejmjaaDoorMt16
import Derived.Test.YtgcicljklejmjaaDoorRows
import Derived.Test.YtgcicljklejmjaaDoorCards
import Derived.Test.YtgcicljklejmjaaDoorTie
import Derived.Test.YtgcicljklejmjaaDoorMt03
import Derived.WalkKit
import Derived.ProofKit
import Derived.OpenShut
import Derived.ChangeOld
import Derived.Below
import Derived.SizedLaws
import Derived.Lib.LaidIn
import Derived.Lib.LaidU8T
import Derived.Deep.DeepHandedRow
import Derived.Deep.DeepWitnessRowRef
import Derived.SevenTiedAt

/- KeyTurned: what falls has each byte turned over. Printed by mkturned.py. -/
namespace Go.Proofs.YtgcicljklejmjaaDoor
open Go.RowKit Go.Shelf
open Tr

theorem AsOne.cb {a b : List UInt8} {v : Int} (h : AsOne a b v) : cb a b = v := by
  by_cases hv : v = 0
  · rw [h.1 hv, cb_self, hv]
  · exact (h.2 hv).cb
theorem xor_not : ∀ y : Fin 256, bits BinOp.xor IntKind.u8 (y.val : Int) ((255 - y.val : Nat) : Int) = 255 := by decide +kernel
theorem xor_turn (c : UInt8) : bits BinOp.xor IntKind.u8 (c.toNat : Int) ((255 - c.toNat : Nat) : Int) = 255 := by
  have h := xor_not ⟨c.toNat, c.toNat_lt⟩
  exact h
theorem three_allocs {w w6 : World} {a b c : Obj} (f : Fr no (((w.alloc a).alloc b).alloc c) w6) : w6.heap[w.heap.size]? = some a ∧ w6.heap[w.heap.size + 1]? = some b := by
  have h := two_allocs w a b
  have f0 := (Fr.refl no ((w.alloc a).alloc b)).alloc c
  exact ⟨f.heap (f0.heap h.1 (fun h => h)) (fun h => h), f.heap (f0.heap h.2 (fun h => h)) (fun h => h)⟩

set_option maxRecDepth 100000 in
set_option maxHeartbeats 4000000 in
theorem turned_any (w : World) (x y : Tr Mm) (hx : Tr.Good w x) (hy : Tr.Good w y) (hT : Tabs w) : Calls Tryd.prog 8 #[x.agg, y.agg] w fun e w' => e = .returned (.bool true) ∧ Fr no w w' := by
  obtain ⟨BA, bc, LA, lc, FA, fc, hf⟩ := hx.node.forms
  obtain ⟨BB, bd, LB, ld, FB, fd, hg⟩ := hy.node.forms
  have hox := fun (d : Bool) W (f : Fr no w W) => one_any W x d (hx.kept0 f) (hT.kept0 f)
  have hoy := fun (d : Bool) W (f : Fr no w W) => one_any W y d (hy.kept0 f) (hT.kept0 f)
  have hxc : x.cells = [.int .u8 x.k.toNat, .bool x.b, .int .i64 x.i, .string ⟨x.t.toArray⟩, .slice BA x.bs.length bc, .slice LA x.l.length lc, .slice FA x.f.length fc] := by unfold cells; rw [hf.B, hf.L, hf.F]
  have hyc : y.cells = [.int .u8 y.k.toNat, .bool y.b, .int .i64 y.i, .string ⟨y.t.toArray⟩, .slice BB y.bs.length bd, .slice LB y.l.length ld, .slice FB y.f.length fd] := by unfold cells; rw [hg.B, hg.L, hg.F]
  rw [hf.agg] at hox
  rw [hg.agg] at hoy
  rw [hf.agg, hg.agg]
  have HOX := Lib.hid hox; have HOY := Lib.hid hoy; have HX := Lib.hid hx; have HY := Lib.hid hy; have HT := Lib.hid hT; have HXC := Lib.hid hxc; have HYC := Lib.hid hyc
  have gxx : ((oneErr x : Int) != (oneErr x : Int)) = false := by simp
  have gyy : ((oneErr y : Int) != (oneErr y : Int)) = false := by simp
  clear hox hoy hx hy hT hxc hyc hf hg
  go_enter Tryd.func8, Tryd.ntmps8
  go_wp2_with fail
  have hmu := much_any [x, y] (((w.alloc (.cells #[.int .u8 x.k.toNat, .bool x.b, .int .i64 x.i, .string ⟨x.t.toArray⟩, .slice BA x.bs.length bc, .slice LA x.l.length lc, .slice FA x.f.length fc] 33)).alloc (.cells #[.int .u8 y.k.toNat, .bool y.b, .int .i64 y.i, .string ⟨y.t.toArray⟩, .slice BB y.bs.length bd, .slice LB y.l.length ld, .slice FB y.f.length fd] 33)).alloc (.cells #[.int .u8 x.k.toNat, .bool x.b, .int .i64 x.i, .string ⟨x.t.toArray⟩, .slice BA x.bs.length bc, .slice LA x.l.length lc, .slice FA x.f.length fc, .int .u8 y.k.toNat, .bool y.b, .int .i64 y.i, .string ⟨y.t.toArray⟩, .slice BB y.bs.length bd, .slice LB y.l.length ld, .slice FB y.f.length fd] 33)) (.slice (some ⟨w.heap.size + 2, 0, none⟩) 2 2) ?hin
  case hin =>
    have f : Fr no w (((w.alloc (.cells #[.int .u8 x.k.toNat, .bool x.b, .int .i64 x.i, .string ⟨x.t.toArray⟩, .slice BA x.bs.length bc, .slice LA x.l.length lc, .slice FA x.f.length fc] 33)).alloc (.cells #[.int .u8 y.k.toNat, .bool y.b, .int .i64 y.i, .string ⟨y.t.toArray⟩, .slice BB y.bs.length bd, .slice LB y.l.length ld, .slice FB y.f.length fd] 33)).alloc (.cells #[.int .u8 x.k.toNat, .bool x.b, .int .i64 x.i, .string ⟨x.t.toArray⟩, .slice BA x.bs.length bc, .slice LA x.l.length lc, .slice FA x.f.length fc, .int .u8 y.k.toNat, .bool y.b, .int .i64 y.i, .string ⟨y.t.toArray⟩, .slice BB y.bs.length bd, .slice LB y.l.length ld, .slice FB y.f.length fd] 33)) := (((Fr.refl no w).alloc _).alloc _).alloc _
    have hr := heap_alloc_new ((w.alloc (.cells #[.int .u8 x.k.toNat, .bool x.b, .int .i64 x.i, .string ⟨x.t.toArray⟩, .slice BA x.bs.length bc, .slice LA x.l.length lc, .slice FA x.f.length fc] 33)).alloc (.cells #[.int .u8 y.k.toNat, .bool y.b, .int .i64 y.i, .string ⟨y.t.toArray⟩, .slice BB y.bs.length bd, .slice LB y.l.length ld, .slice FB y.f.length fd] 33)) (.cells #[.int .u8 x.k.toNat, .bool x.b, .int .i64 x.i, .string ⟨x.t.toArray⟩, .slice BA x.bs.length bc, .slice LA x.l.length lc, .slice FA x.f.length fc, .int .u8 y.k.toNat, .bool y.b, .int .i64 y.i, .string ⟨y.t.toArray⟩, .slice BB y.bs.length bd, .slice LB y.l.length ld, .slice FB y.f.length fd] 33)
    rw [World.size_alloc, World.size_alloc] at hr
    refine ⟨?_, fun z hz => ?_, by simp [reachBytes], by simp [reachBytes]⟩
    · have hs := sl_cells hr 7 2 rfl (by simp [maxLen])
      have he : [x, y].flatMap cells = [.int .u8 x.k.toNat, .bool x.b, .int .i64 x.i, .string ⟨x.t.toArray⟩, .slice BA x.bs.length bc, .slice LA x.l.length lc, .slice FA x.f.length fc, .int .u8 y.k.toNat, .bool y.b, .int .i64 y.i, .string ⟨y.t.toArray⟩, .slice BB y.bs.length bd, .slice LB y.l.length ld, .slice FB y.f.length fd] := by simp only [List.flatMap_cons, List.flatMap_nil, HXC.out, HYC.out]; rfl
      show Sl _ 7 _ 2 ([x, y].flatMap cells)
      rw [he]
      exact hs
    · simp only [List.mem_cons, List.not_mem_nil, or_false] at hz
      rcases hz with rfl | rfl
      · exact HX.out.kept0 f
      · exact HY.out.kept0 f
  refine hmu.mono ?_
  clear hmu
  rintro e w2 ⟨f2, b, rfl, _⟩
  obtain ⟨ha, hb⟩ := three_allocs f2
  have ff2 := ((((Fr.refl no w).alloc (.cells #[.int .u8 x.k.toNat, .bool x.b, .int .i64 x.i, .string ⟨x.t.toArray⟩, .slice BA x.bs.length bc, .slice LA x.l.length lc, .slice FA x.f.length fc] 33)).alloc (.cells #[.int .u8 y.k.toNat, .bool y.b, .int .i64 y.i, .string ⟨y.t.toArray⟩, .slice BB y.bs.length bd, .slice LB y.l.length ld, .slice FB y.f.length fd] 33)).alloc (.cells #[.int .u8 x.k.toNat, .bool x.b, .int .i64 x.i, .string ⟨x.t.toArray⟩, .slice BA x.bs.length bc, .slice LA x.l.length lc, .slice FA x.f.length fc, .int .u8 y.k.toNat, .bool y.b, .int .i64 y.i, .string ⟨y.t.toArray⟩, .slice BB y.bs.length bd, .slice LB y.l.length ld, .slice FB y.f.length fd] 33)).trans f2 (fun _ _ h => h)
  have HA := Lib.hid ha; have HB := Lib.hid hb; have F2 := Lib.hid ff2
  clear f2 ha hb ff2
  cases b with
  | true =>
    go_wp2_with fail
    refine (known_any w2 (HT.out.kept0 F2.out)).mono ?_
    rintro e w3 ⟨rfl, f3⟩
    have F3 := Lib.hid (F2.out.trans f3 (fun _ _ h => h)); clear f3
    go_wp2
    go_ret
    exact ⟨rfl, F3.out⟩
  | false =>
    go_wp2_with fail
    refine (known_any w2 (HT.out.kept0 F2.out)).mono ?_
    rintro e w3 ⟨rfl, f3⟩
    have hx3 := f3.heap HA.out (fun h => h)
    obtain ⟨q0, q1, q2, q3, q4, q5, q6, qz, ql⟩ := seven_cells hx3
    have HB3 := Lib.hid (f3.heap HB.out (fun h => h)); have HA3 := Lib.hid hx3
    have F3 := Lib.hid (F2.out.trans f3 (fun _ _ h => h)); clear f3 hx3
    by_cases hex : oneErr x = 0
    · by_cases hey : oneErr y = 0
      · skip
        have HEX := Lib.hid hex; have HEY := Lib.hid hey; clear hex hey
        go_wp2_with fail
        refine (HOX.out false w3 F3.out).mono ?_
        rintro e w4 ⟨f4, ⟨_, A4, n4, rfl, hn4, ho4, _⟩ | ⟨hne, _⟩⟩
        rotate_left
        · exact absurd HEX.out hne
        rw [encD_len] at hn4
        have HO4 := Lib.hid (by rw [hn4] at ho4; exact ho4 : Ow w4 5 1 (.slice A4 (enc x).length (enc x).length) (enc x).length (bvs (encD false x)))
        subst hn4
        clear ho4
        have hy4 := f4.heap HB3.out (fun h => h); have hx4 := f4.heap HA3.out (fun h => h)
        obtain ⟨q0, q1, q2, q3, q4, q5, q6, qz, ql⟩ := seven_cells hx4
        have HB4 := Lib.hid hy4; have HA4 := Lib.hid hx4; have G4 := Lib.hid f4
        have F4 := Lib.hid (F3.out.trans f4 (fun _ _ h => h))
        clear hy4 hx4 f4
        go_wp2_with fail
        refine (HOX.out true w4 F4.out).mono ?_
        rintro e w5 ⟨f5, ⟨_, A5, n5, rfl, hn5, ho5, _⟩ | ⟨hne, _⟩⟩
        rotate_left
        · exact absurd HEX.out hne
        rw [encD_len] at hn5
        have HO5 := Lib.hid (by rw [hn5] at ho5; exact ho5 : Ow w5 5 1 (.slice A5 (enc x).length (enc x).length) (enc x).length (bvs (encD true x)))
        subst hn5
        clear ho5
        have hy5 := f5.heap HB4.out (fun h => h); have hx5 := f5.heap HA4.out (fun h => h)
        obtain ⟨q0, q1, q2, q3, q4, q5, q6, qz, ql⟩ := seven_cells hy5
        have HB5 := Lib.hid hy5; have HA5 := Lib.hid hx5; have G5 := Lib.hid f5
        have F5 := Lib.hid (F4.out.trans f5 (fun _ _ h => h))
        clear hy5 hx5 f5
        go_wp2_with fail
        refine (HOY.out false w5 F5.out).mono ?_
        rintro e w6 ⟨f6, ⟨_, A6, n6, rfl, hn6, ho6, _⟩ | ⟨hne, _⟩⟩
        rotate_left
        · exact absurd HEY.out hne
        rw [encD_len] at hn6
        have HO6 := Lib.hid (by rw [hn6] at ho6; exact ho6 : Ow w6 5 1 (.slice A6 (enc y).length (enc y).length) (enc y).length (bvs (encD false y)))
        subst hn6
        clear ho6
        have hy6 := f6.heap HB5.out (fun h => h); have hx6 := f6.heap HA5.out (fun h => h)
        obtain ⟨q0, q1, q2, q3, q4, q5, q6, qz, ql⟩ := seven_cells hy6
        have HB6 := Lib.hid hy6; have HA6 := Lib.hid hx6; have G6 := Lib.hid f6
        have F6 := Lib.hid (F5.out.trans f6 (fun _ _ h => h))
        clear hy6 hx6 f6
        go_wp2_with fail
        refine (HOY.out true w6 F6.out).mono ?_
        rintro e w7 ⟨f7, ⟨_, A7, n7, rfl, hn7, ho7, _⟩ | ⟨hne, _⟩⟩
        rotate_left
        · exact absurd HEY.out hne
        rw [encD_len] at hn7
        have HO7 := Lib.hid (by rw [hn7] at ho7; exact ho7 : Ow w7 5 1 (.slice A7 (enc y).length (enc y).length) (enc y).length (bvs (encD true y)))
        subst hn7
        clear ho7
        have hy7 := f7.heap HB6.out (fun h => h); have hx7 := f7.heap HA6.out (fun h => h)
        have HB7 := Lib.hid hy7; have HA7 := Lib.hid hx7; have G7 := Lib.hid f7
        have F7 := Lib.hid (F6.out.trans f7 (fun _ _ h => h))
        clear hy7 hx7 f7
        go_wp2
        have f47 := (G5.out.trans G6.out (fun _ _ h => h)).trans G7.out (fun _ _ h => h)
        have f57 := G6.out.trans G7.out (fun _ _ h => h)
        have hr4 := (HO4.out.kept0 f47).sl; have hr5 := (HO5.out.kept0 f57).sl
        have hxl : (enc x).length ≤ 160 := (oneErr_zero.1 HEX.out).2.2
        have HR4 := Lib.hid hr4; have HR5 := Lib.hid hr5
        clear f47 f57 hr4 hr5
        go_loopw [13] (fun iv wr => ∃ j n : Nat, j ≤ (enc x).length ∧ iv = .int .i64 j ∧ wr = w7.drewN n) (fun iv _ => (enc x).length - (intOf iv).toNat)
        case atStart => exact ⟨0, 0, Nat.zero_le _, rfl, rfl⟩
        case round =>
          obtain ⟨j, n, hj, rfl, rfl⟩ := hrel
          by_cases hlt : j < (enc x).length
          · obtain ⟨b4, o4, rfl, c4⟩ := (HR4.out : Sl w7 1 (.slice A4 (enc x).length (enc x).length) (enc x).length (bvs (enc x))).byte j hlt
            have h5 : Sl w7 1 (.slice A5 (turn (enc x)).length (enc x).length) (turn (enc x)).length (bvs (turn (enc x))) := by rw [turn_len]; exact HR5.out
            obtain ⟨b5, o5, rfl, c5⟩ := h5.byte j (by rw [turn_len]; exact hlt)
            have ht : (turn (enc x))[j]'(by rw [turn_len]; exact hlt) = ~~~(enc x)[j] := by simp [turn]
            rw [ht] at c5
            have hxt := xor_turn (enc x)[j]
            clear h5 ht
            go_wp2
            go_quiet (fail)
            go_wp2
            go_roundw
            case rel => exact ⟨j + 1, _, by omega, by go_num, rfl⟩
            case measure => simp [intOf]; omega
          · obtain rfl : j = (enc x).length := by omega
            have hkx := (one_ok HEX.out (good_nums HX.out)).1
            have hky := (one_ok HEY.out (good_nums HY.out)).1
            have e1 := AsOne.cb (encD_asone false x y hkx hky)
            have e2 := AsOne.cb (encD_asone true x y hkx hky)
            have e3 := cb_range (encD false x) (encD false y)
            have eq : cb (encD false x) (encD false y) = - cb (encD true x) (encD true y) := by rw [e1, e2]; simp
            have hwr : IntKind.i64.wrap (-cb (encD true x) (encD true y)) = -cb (encD true x) (encD true y) := IntWalk.i64_in _ ⟨by omega, by omega⟩
            have f47 := (G5.out.trans G6.out (fun _ _ h => h)).trans G7.out (fun _ _ h => h)
            have fd := (Fr.refl no w7).moreN n
            have h4 := ((HO4.out.kept0 f47).kept0 fd).sl; have h5 := ((HO5.out.kept0 (G6.out.trans G7.out (fun _ _ h => h))).kept0 fd).sl
            have h6 := ((HO6.out.kept0 G7.out).kept0 fd).sl; have h7 := (HO7.out.kept0 fd).sl
            have hlx : (encD false x).length = (enc x).length := encD_len _ _
            have hly : (encD false y).length = (enc y).length := encD_len _ _
            have hlx1 : (encD true x).length = (enc x).length := encD_len _ _
            have hly1 : (encD true y).length = (enc y).length := encD_len _ _
            have o1 := order_any (w7.drewN n) (.slice A4 (enc x).length (enc x).length) (.slice A6 (enc y).length (enc y).length) (encD false x) (encD false y) (by rw [hlx]; exact h4) (by rw [hly]; exact h6)
            have o2 := order_any (w7.drewN n) (.slice A5 (enc x).length (enc x).length) (.slice A7 (enc y).length (enc y).length) (encD true x) (encD true y) (by rw [hlx1]; exact h5) (by rw [hly1]; exact h7)
            have O1 := Lib.hid o1; have O2 := Lib.hid o2; have EQ := Lib.hid eq
            clear hkx hky e1 e2 e3 f47 fd h4 h5 h6 h7 hlx hly hlx1 hly1 o1 o2 eq
            go_wp2_with fail
            refine O1.out.mono ?_
            rintro e w8 ⟨rfl, rfl⟩
            go_wp2_with fail
            refine O2.out.mono ?_
            rintro e w9 ⟨rfl, rfl⟩
            go_wp2
            go_ret
            refine ⟨?_, F7.out.moreN n⟩
            have h : (cb (encD false x) (encD false y) == -cb (encD true x) (encD true y)) = true := by rw [EQ.out]; simp
            first | rw [← h]; rfl | (simp only [h]; rfl) | exact congrArg _ (congrArg _ h)
      · have gy1 : ((oneErr y : Int) != 0) = true := by rw [bne_iff_ne]; omega
        have HEX := Lib.hid hex; have HEY := Lib.hid hey; clear hex hey
        go_wp2_with fail
        refine (HOX.out false w3 F3.out).mono ?_
        rintro e w4 ⟨f4, ⟨_, A4, n4, rfl, hn4, ho4, _⟩ | ⟨hne, _⟩⟩
        rotate_left
        · exact absurd HEX.out hne
        rw [encD_len] at hn4
        have HO4 := Lib.hid (by rw [hn4] at ho4; exact ho4 : Ow w4 5 1 (.slice A4 (enc x).length (enc x).length) (enc x).length (bvs (encD false x)))
        subst hn4
        clear ho4
        have hy4 := f4.heap HB3.out (fun h => h); have hx4 := f4.heap HA3.out (fun h => h)
        obtain ⟨q0, q1, q2, q3, q4, q5, q6, qz, ql⟩ := seven_cells hx4
        have HB4 := Lib.hid hy4; have HA4 := Lib.hid hx4; have G4 := Lib.hid f4
        have F4 := Lib.hid (F3.out.trans f4 (fun _ _ h => h))
        clear hy4 hx4 f4
        go_wp2_with fail
        refine (HOX.out true w4 F4.out).mono ?_
        rintro e w5 ⟨f5, ⟨_, A5, n5, rfl, hn5, ho5, _⟩ | ⟨hne, _⟩⟩
        rotate_left
        · exact absurd HEX.out hne
        rw [encD_len] at hn5
        have HO5 := Lib.hid (by rw [hn5] at ho5; exact ho5 : Ow w5 5 1 (.slice A5 (enc x).length (enc x).length) (enc x).length (bvs (encD true x)))
        subst hn5
        clear ho5
        have hy5 := f5.heap HB4.out (fun h => h); have hx5 := f5.heap HA4.out (fun h => h)
        obtain ⟨q0, q1, q2, q3, q4, q5, q6, qz, ql⟩ := seven_cells hy5
        have HB5 := Lib.hid hy5; have HA5 := Lib.hid hx5; have G5 := Lib.hid f5
        have F5 := Lib.hid (F4.out.trans f5 (fun _ _ h => h))
        clear hy5 hx5 f5
        go_wp2_with fail
        refine (HOY.out false w5 F5.out).mono ?_
        rintro e w6 ⟨f6, ⟨h0, _⟩ | ⟨_, rfl⟩⟩
        · exact absurd h0 HEY.out
        have hy6 := f6.heap HB5.out (fun h => h); have hx6 := f6.heap HA5.out (fun h => h)
        obtain ⟨q0, q1, q2, q3, q4, q5, q6, qz, ql⟩ := seven_cells hy6
        have HB6 := Lib.hid hy6; have HA6 := Lib.hid hx6; have G6 := Lib.hid f6
        have F6 := Lib.hid (F5.out.trans f6 (fun _ _ h => h))
        clear hy6 hx6 f6
        go_wp2_with fail
        refine (HOY.out true w6 F6.out).mono ?_
        rintro e w7 ⟨f7, ⟨h0, _⟩ | ⟨_, rfl⟩⟩
        · exact absurd h0 HEY.out
        have hy7 := f7.heap HB6.out (fun h => h); have hx7 := f7.heap HA6.out (fun h => h)
        have HB7 := Lib.hid hy7; have HA7 := Lib.hid hx7; have G7 := Lib.hid f7
        have F7 := Lib.hid (F6.out.trans f7 (fun _ _ h => h))
        clear hy7 hx7 f7
        go_wp2
        have f47 := (G5.out.trans G6.out (fun _ _ h => h)).trans G7.out (fun _ _ h => h)
        have f57 := G6.out.trans G7.out (fun _ _ h => h)
        have hr4 := (HO4.out.kept0 f47).sl; have hr5 := (HO5.out.kept0 f57).sl
        have hxl : (enc x).length ≤ 160 := (oneErr_zero.1 HEX.out).2.2
        have HR4 := Lib.hid hr4; have HR5 := Lib.hid hr5
        clear f47 f57 hr4 hr5
        go_loopw [13] (fun iv wr => ∃ j n : Nat, j ≤ (enc x).length ∧ iv = .int .i64 j ∧ wr = w7.drewN n) (fun iv _ => (enc x).length - (intOf iv).toNat)
        case atStart => exact ⟨0, 0, Nat.zero_le _, rfl, rfl⟩
        case round =>
          obtain ⟨j, n, hj, rfl, rfl⟩ := hrel
          by_cases hlt : j < (enc x).length
          · obtain ⟨b4, o4, rfl, c4⟩ := (HR4.out : Sl w7 1 (.slice A4 (enc x).length (enc x).length) (enc x).length (bvs (enc x))).byte j hlt
            have h5 : Sl w7 1 (.slice A5 (turn (enc x)).length (enc x).length) (turn (enc x)).length (bvs (turn (enc x))) := by rw [turn_len]; exact HR5.out
            obtain ⟨b5, o5, rfl, c5⟩ := h5.byte j (by rw [turn_len]; exact hlt)
            have ht : (turn (enc x))[j]'(by rw [turn_len]; exact hlt) = ~~~(enc x)[j] := by simp [turn]
            rw [ht] at c5
            have hxt := xor_turn (enc x)[j]
            clear h5 ht
            go_wp2
            go_quiet (fail)
            go_wp2
            go_roundw
            case rel => exact ⟨j + 1, _, by omega, by go_num, rfl⟩
            case measure => simp [intOf]; omega
          · obtain rfl : j = (enc x).length := by omega
            go_wp2
            go_ret
            exact ⟨rfl, F7.out.moreN n⟩
    · have gx1 : ((oneErr x : Int) != 0) = true := by rw [bne_iff_ne]; omega
      by_cases hey : oneErr y = 0
      · skip
        have HEX := Lib.hid hex; have HEY := Lib.hid hey; clear hex hey
        go_wp2_with fail
        refine (HOX.out false w3 F3.out).mono ?_
        rintro e w4 ⟨f4, ⟨h0, _⟩ | ⟨_, rfl⟩⟩
        · exact absurd h0 HEX.out
        have hy4 := f4.heap HB3.out (fun h => h); have hx4 := f4.heap HA3.out (fun h => h)
        obtain ⟨q0, q1, q2, q3, q4, q5, q6, qz, ql⟩ := seven_cells hx4
        have HB4 := Lib.hid hy4; have HA4 := Lib.hid hx4; have G4 := Lib.hid f4
        have F4 := Lib.hid (F3.out.trans f4 (fun _ _ h => h))
        clear hy4 hx4 f4
        go_wp2_with fail
        refine (HOX.out true w4 F4.out).mono ?_
        rintro e w5 ⟨f5, ⟨h0, _⟩ | ⟨_, rfl⟩⟩
        · exact absurd h0 HEX.out
        have hy5 := f5.heap HB4.out (fun h => h); have hx5 := f5.heap HA4.out (fun h => h)
        obtain ⟨q0, q1, q2, q3, q4, q5, q6, qz, ql⟩ := seven_cells hy5
        have HB5 := Lib.hid hy5; have HA5 := Lib.hid hx5; have G5 := Lib.hid f5
        have F5 := Lib.hid (F4.out.trans f5 (fun _ _ h => h))
        clear hy5 hx5 f5
        go_wp2_with fail
        refine (HOY.out false w5 F5.out).mono ?_
        rintro e w6 ⟨f6, ⟨_, A6, n6, rfl, hn6, ho6, _⟩ | ⟨hne, _⟩⟩
        rotate_left
        · exact absurd HEY.out hne
        rw [encD_len] at hn6
        have HO6 := Lib.hid (by rw [hn6] at ho6; exact ho6 : Ow w6 5 1 (.slice A6 (enc y).length (enc y).length) (enc y).length (bvs (encD false y)))
        subst hn6
        clear ho6
        have hy6 := f6.heap HB5.out (fun h => h); have hx6 := f6.heap HA5.out (fun h => h)
        obtain ⟨q0, q1, q2, q3, q4, q5, q6, qz, ql⟩ := seven_cells hy6
        have HB6 := Lib.hid hy6; have HA6 := Lib.hid hx6; have G6 := Lib.hid f6
        have F6 := Lib.hid (F5.out.trans f6 (fun _ _ h => h))
        clear hy6 hx6 f6
        go_wp2_with fail
        refine (HOY.out true w6 F6.out).mono ?_
        rintro e w7 ⟨f7, ⟨_, A7, n7, rfl, hn7, ho7, _⟩ | ⟨hne, _⟩⟩
        rotate_left
        · exact absurd HEY.out hne
        rw [encD_len] at hn7
        have HO7 := Lib.hid (by rw [hn7] at ho7; exact ho7 : Ow w7 5 1 (.slice A7 (enc y).length (enc y).length) (enc y).length (bvs (encD true y)))
        subst hn7
        clear ho7
        have hy7 := f7.heap HB6.out (fun h => h); have hx7 := f7.heap HA6.out (fun h => h)
        have HB7 := Lib.hid hy7; have HA7 := Lib.hid hx7; have G7 := Lib.hid f7
        have F7 := Lib.hid (F6.out.trans f7 (fun _ _ h => h))
        clear hy7 hx7 f7
        go_wp2
        go_loopw [13] (fun iv wr => iv = .int .i64 0 ∧ wr = w7) (fun _ _ => 0)
        case atStart => exact ⟨rfl, rfl⟩
        case round =>
          obtain ⟨rfl, rfl⟩ := hrel
          go_wp2
          go_ret
          exact ⟨rfl, F7.out⟩
      · have gy1 : ((oneErr y : Int) != 0) = true := by rw [bne_iff_ne]; omega
        have HEX := Lib.hid hex; have HEY := Lib.hid hey; clear hex hey
        go_wp2_with fail
        refine (HOX.out false w3 F3.out).mono ?_
        rintro e w4 ⟨f4, ⟨h0, _⟩ | ⟨_, rfl⟩⟩
        · exact absurd h0 HEX.out
        have hy4 := f4.heap HB3.out (fun h => h); have hx4 := f4.heap HA3.out (fun h => h)
        obtain ⟨q0, q1, q2, q3, q4, q5, q6, qz, ql⟩ := seven_cells hx4
        have HB4 := Lib.hid hy4; have HA4 := Lib.hid hx4; have G4 := Lib.hid f4
        have F4 := Lib.hid (F3.out.trans f4 (fun _ _ h => h))
        clear hy4 hx4 f4
        go_wp2_with fail
        refine (HOX.out true w4 F4.out).mono ?_
        rintro e w5 ⟨f5, ⟨h0, _⟩ | ⟨_, rfl⟩⟩
        · exact absurd h0 HEX.out
        have hy5 := f5.heap HB4.out (fun h => h); have hx5 := f5.heap HA4.out (fun h => h)
        obtain ⟨q0, q1, q2, q3, q4, q5, q6, qz, ql⟩ := seven_cells hy5
        have HB5 := Lib.hid hy5; have HA5 := Lib.hid hx5; have G5 := Lib.hid f5
        have F5 := Lib.hid (F4.out.trans f5 (fun _ _ h => h))
        clear hy5 hx5 f5
        go_wp2_with fail
        refine (HOY.out false w5 F5.out).mono ?_
        rintro e w6 ⟨f6, ⟨h0, _⟩ | ⟨_, rfl⟩⟩
        · exact absurd h0 HEY.out
        have hy6 := f6.heap HB5.out (fun h => h); have hx6 := f6.heap HA5.out (fun h => h)
        obtain ⟨q0, q1, q2, q3, q4, q5, q6, qz, ql⟩ := seven_cells hy6
        have HB6 := Lib.hid hy6; have HA6 := Lib.hid hx6; have G6 := Lib.hid f6
        have F6 := Lib.hid (F5.out.trans f6 (fun _ _ h => h))
        clear hy6 hx6 f6
        go_wp2_with fail
        refine (HOY.out true w6 F6.out).mono ?_
        rintro e w7 ⟨f7, ⟨h0, _⟩ | ⟨_, rfl⟩⟩
        · exact absurd h0 HEY.out
        have hy7 := f7.heap HB6.out (fun h => h); have hx7 := f7.heap HA6.out (fun h => h)
        have HB7 := Lib.hid hy7; have HA7 := Lib.hid hx7; have G7 := Lib.hid f7
        have F7 := Lib.hid (F6.out.trans f7 (fun _ _ h => h))
        clear hy7 hx7 f7
        go_wp2
        go_loopw [13] (fun iv wr => iv = .int .i64 0 ∧ wr = w7) (fun _ _ => 0)
        case atStart => exact ⟨rfl, rfl⟩
        case round =>
          obtain ⟨rfl, rfl⟩ := hrel
          go_wp2
          go_ret
          exact ⟨rfl, F7.out⟩
end Go.Proofs.YtgcicljklejmjaaDoor

/- KeyTurned holds, for every input; its tied card. No condition but what its row lists. -/
namespace Go.Proofs.YtgcicljklejmjaaDoor
open Go.ChangeShapes Go.WideShapes Go.ChangeAt Go.RowKit Go.Shelf
namespace RKeyTurned
theorem own : ownKnob Tryd.prog.godebug = none := by kernel_rfl
theorem laidOut : laidOutB Tryd.prog = true := by kernel_rfl

/-- A world in which the two tables lie. -/
noncomputable def laidWorld (os : Os) : World :=
  let w0 := World.holding Tryd.prog os ⟨#[], #[], []⟩
  let put (h : Array Obj) (g : Nat) (cs : Array Value) : Array Obj := h.modify g fun
    | .cells _ t frozen => .cells cs t frozen
    | o => o
  let h1 := put w0.heap 0 (Lib.firstTab.map fun z => Value.int .u8 z).toArray
  let h2 := put h1 1 ((List.range 16).flatMap fun i => [Value.int .u8 (Lib.accLo i), Value.int .u8 (Lib.accHi i)]).toArray
  { w0 with heap := h2 }
theorem laid_met (os : Os) (args : Array Value) : laidMet Tryd.prog Rows.keyTurnedRow.laid ((laidWorld os).forCall (fun _ _ => 0) ⟨#[], args, []⟩).memory :=
  (LaidIn.of_run (l := [("unicode/utf8.acceptRanges", Rows.laid_unicode_utf8_acceptRanges), ("unicode/utf8.first", Rows.laid_unicode_utf8_first)]) [0, 1] 8 (by kernel_rfl) (by kernel_rfl) (by kernel_rfl) (by kernel_rfl)).met

theorem witness_row (os : Os) {H : Type} (enc : TypeId × Value → H) :
    (OpenSpec.ofChange Rows.keyTurnedSpec).preRow enc Tryd.prog Tryd.f8 Rows.keyTurnedRow.domain false Rows.keyTurnedRow.laid ((laidWorld os).forCall (fun _ _ => 0) ⟨#[], #[.agg #[.int .u8 0, .bool false, .int .i64 0, .string ⟨#[]⟩, .slice none 0 0, .slice none 0 0, .slice none 0 0], .agg #[.int .u8 0, .bool false, .int .i64 0, .string ⟨#[]⟩, .slice none 0 0, .slice none 0 0, .slice none 0 0]], []⟩).memory #[.agg #[.int .u8 0, .bool false, .int .i64 0, .string ⟨#[]⟩, .slice none 0 0, .slice none 0 0, .slice none 0 0], .agg #[.int .u8 0, .bool false, .int .i64 0, .string ⟨#[]⟩, .slice none 0 0, .slice none 0 0, .slice none 0 0]] := by
  have hw : (DataW.whole enc Tryd.prog ((laidWorld os).forCall (fun _ _ => 0) ⟨#[], #[.agg #[.int .u8 0, .bool false, .int .i64 0, .string ⟨#[]⟩, .slice none 0 0, .slice none 0 0, .slice none 0 0], .agg #[.int .u8 0, .bool false, .int .i64 0, .string ⟨#[]⟩, .slice none 0 0, .slice none 0 0, .slice none 0 0]], []⟩).memory Tryd.f8.params.toList (OpenSpec.ofChange Rows.keyTurnedSpec).vars false #[.agg #[.int .u8 0, .bool false, .int .i64 0, .string ⟨#[]⟩, .slice none 0 0, .slice none 0 0, .slice none 0 0], .agg #[.int .u8 0, .bool false, .int .i64 0, .string ⟨#[]⟩, .slice none 0 0, .slice none 0 0, .slice none 0 0]].toList 8).map (fun x => (x.1, x.2.1)) = some ([.agg [.lit (.int .u8 0), .lit (.bool false), .lit (.int .i64 0), .lit (.string []), .nil, .nil, .nil], .agg [.lit (.int .u8 0), .lit (.bool false), .lit (.int .i64 0), .lit (.string []), .nil, .nil, .nil]], []) := by kernel_rfl
  obtain ⟨⟨x1, x2, x3⟩, hx, hx1⟩ := Option.map_eq_some_iff.1 hw
  simp only [Prod.mk.injEq] at hx1
  obtain ⟨rfl, rfl⟩ := hx1
  exact OpenSpec.preRow_of_cond 8 hx (by kernel_rfl) (fun k hk => by cases hk) (by kernel_rfl) (laid_met os _)

set_option maxRecDepth 100000 in
set_option maxHeartbeats 2000000 in
theorem lifted (os : Os) (started : os.Started) (H : Type) (enc : TypeId × Value → H) (F : Stop.Interp) :
    ReturnsInHanded {} Tryd.checked os 8 .any ((OpenSpec.ofChange Rows.keyTurnedSpec).preRow enc Tryd.prog Tryd.f8 Rows.keyTurnedRow.domain false Rows.keyTurnedRow.laid) (((OpenSpec.ofChange Rows.keyTurnedSpec).at F).post enc Tryd.prog Tryd.f8 false true false false) := by
  refine returnsInHanded_of_row (C := Tryd.checked) (s := (OpenSpec.ofChange Rows.keyTurnedSpec)) own started (by kernel_rfl) Tryd.func8
    (witness_row_atRef (enc := enc) (C := Tryd.checked) false (laidWorld os) #[.agg #[.int .u8 0, .bool false, .int .i64 0, .string ⟨#[]⟩, .slice none 0 0, .slice none 0 0, .slice none 0 0], .agg #[.int .u8 0, .bool false, .int .i64 0, .string ⟨#[]⟩, .slice none 0 0, .slice none 0 0, .slice none 0 0]] rfl (by kernel_rfl) (by kernel_rfl) (by kernel_rfl) (witness_row os enc)) ?_
  intro W base args ds gs before hval0 hW hcnd hk0 hsz0 hL _ _
  have hval : ∀ (j : Nat) t v, Tryd.f8.params[j]? = some t → args[j]? = some v → Value.okWide Tryd.prog W .any base t v := hval0
  have hW' := hW
  obtain ⟨p, q, hA0, hV, rfl, hfz, hnd⟩ := hW
  have hA : DataW.TrodAll enc Tryd.prog W 0 (fun _ => true) true Tryd.f8.params.toList args.toList ds p := hA0
  have hTd : ∀ (j : Nat) t v, Tryd.f8.params.toList[j]? = some t → args.toList[j]? = some v → Td Tryd.prog W t v.cells.toList := fun j t v h1 h2 => Td.arg hA hsz0 j t v h1 h2
  have htab : Tabs W := utf8Tabs_of_readsT (U8Types.of196 lays_valid) ⟨by kernel_rfl, by kernel_rfl, by kernel_rfl, by kernel_rfl, by kernel_rfl, by kernel_rfl, by kernel_rfl⟩ (Lib.laidMet.reads (d := Rows.laid_unicode_utf8_first) hL (.tail _ (.head _))) (Lib.laidMet.reads (d := Rows.laid_unicode_utf8_acceptRanges) hL (.head _))
  clear hsz0 hcnd hk0
  rw [Tryd.params8] at hA hval hTd
  obtain ⟨v0, vs0, d0, ds0, p0, q0, hargs, rfl, rfl, h0, r0⟩ := trodAll_cons hA
  obtain ⟨v1, vs1, d1, ds1, p1, q1, rfl, rfl, rfl, h1, r1⟩ := trodAll_cons r0
  obtain ⟨rfl, rfl, rfl⟩ := trodAll_nil r1
  obtain rfl : args = #[v0, v1] := by cases args; simp_all
  obtain ⟨rfl, rfl⟩ := trodVars_none hV
  have lt0 : ∀ x ∈ p0, x.block < W.heap.size := by obtain ⟨m, hm⟩ := h0; exact DataW.trod_lt m _ _ _ hm
  obtain ⟨cs0, rfl, _⟩ := okWide_struct Tryd.underlying33 (hval 0 33 v0 rfl rfl)
  obtain ⟨x0, hc0, hx0⟩ := open_value (hTd 0 33 _ rfl rfl)
  obtain rfl : cs0 = x0.cells.toArray := by rw [← hc0]; simp [Value.cells]
  have lt1 : ∀ x ∈ p1, x.block < W.heap.size := by obtain ⟨m, hm⟩ := h1; exact DataW.trod_lt m _ _ _ hm
  obtain ⟨cs1, rfl, _⟩ := okWide_struct Tryd.underlying33 (hval 1 33 v1 rfl rfl)
  obtain ⟨x1, hc1, hx1⟩ := open_value (hTd 1 33 _ rfl rfl)
  obtain rfl : cs1 = x1.cells.toArray := by rw [← hc1]; simp [Value.cells]
  have walk : Calls Tryd.prog 8 #[.agg x0.cells.toArray, .agg x1.cells.toArray] W fun e w' => e = .returned (.bool true) ∧ Below W.heap.size W w' := by
    clear hA0 hTd hval hval0 hL
    exact (turned_any W x0 x1 hx0 hx1 htab).mono fun e w' ⟨h1, f⟩ => ⟨h1, f.below (fun _ _ h => h)⟩
  clear hA0 hval0 hTd
  refine walk.mono fun e W' ⟨he, bel⟩ => ?_
  subst he
  exact ⟨_, rfl, _, _, _, [], _, [], hW', trodAll_mk1 (shut_bool Tryd.underlying4 _), (trodAll_cons_mk (Below.trod laidOut (by kernel_rfl) (of_decide_eq_true (by kernel_rfl)) h0 bel lt0) (trodAll_cons_mk (Below.trod laidOut (by kernel_rfl) (of_decide_eq_true (by kernel_rfl)) h1 bel lt1) trodAll_mk0)), rfl, bel.frame _, fun h => by cases h⟩

theorem row : Rows.keyTurnedRow.holds Tryd.pinned (OpenSpec.ofChange Rows.keyTurnedSpec) :=
  OpenClaim.holds_of_cond 8 Tryd.f8 rfl rfl rfl rfl rfl rfl rfl ⟨rfl, rfl, rfl, rfl, rfl⟩ rfl rfl rfl rfl rfl (by kernel_rfl) Tryd.func8 (by kernel_rfl)
    (of_decide_eq_true (by kernel_rfl)) (by unfold Func.isWrapper; first | (rw [if_pos (by decide +kernel)]; kernel_rfl) | (rw [if_neg (of_decide_eq_false (by kernel_rfl))]; exact ⟨rfl, rfl⟩))
    (fun os started H enc _ F0 => by rw [OpenClaim.pre_eq_preRow]; exact lifted os started H enc F0)
theorem card : Claim7.holds Tryd.pinned (.plain (OpenSpec.ofChange Rows.keyTurnedSpec)) Rows.keyTurnedCard :=
  Claim7.holds_tied_plain_at .later [] [.data, .pinned] true Rows.keyTurnedCard.stood.harness Rows.keyTurnedCard.stood.looks
    row (fun _ h => by cases h) (by kernel_rfl) (fun _ h => by cases h) keyTurned_row_tie rfl ⟨rfl, rfl⟩ (by kernel_rfl) (by kernel_rfl)
    (fun f fn hf hfn => by
      obtain rfl : f = 8 := Option.some.inj ((show Tryd.prog.funcNamed "codicil/codicillaw04.KeyTurned" = some 8 by kernel_rfl).symm.trans hf) |>.symm
      obtain rfl : fn = Tryd.f8 := (Option.some.inj (Tryd.func8.symm.trans hfn)).symm
      exact ⟨by kernel_rfl, fun j t ht => by
        have hall : (Tryd.f8.params.toList.all fun t => Tryd.prog.wantsStandIn t == false) = true := by kernel_rfl
        have hm : t ∈ Tryd.f8.params.toList := by
          rw [Array.mem_toList_iff]
          exact Array.mem_of_getElem? ht
        exact (eq_of_beq (List.all_eq_true.1 hall t hm) : Tryd.prog.wantsStandIn t = false)⟩)
    (by kernel_rfl)
end RKeyTurned

/-- The card. -/
theorem keyTurned_holds : Rows.KeyTurnedCardSaid := RKeyTurned.card
#print axioms keyTurned_holds
end Go.Proofs.YtgcicljklejmjaaDoor
