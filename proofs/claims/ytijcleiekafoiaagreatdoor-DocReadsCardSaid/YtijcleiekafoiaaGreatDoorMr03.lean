import Derived.Test.YtijcleiekafoiaaGreatDoorMr02
import Derived.Test.YtijcleiekafoiaaGreatDoorMb15
import Derived.Test.YtijcleiekafoiaaGreatDoorMb10

/- codicilref05.read: lists, fields, all of it. Printed by mkrd5l.py. -/
namespace Go.Proofs.YtijcleiekafoiaaGreatDoor
open Go.RowKit
open Tr

theorem built7g (w : World) (g : Nat) (hg : g = w.heap.size) (a b c d e f h : Value) (T : TypeId) : Sl (w.alloc (.cells #[a, b, c, d, e, f, h] T)) 7 (.slice (some ⟨g, 0, none⟩) 1 1) 1 [a, b, c, d, e, f, h] := by
  subst hg
  exact built7 w a b c d e f h T
theorem built8g (w : World) (g : Nat) (hg : g = w.heap.size) (a b c d e f h i : Value) (T : TypeId) : Sl (w.alloc (.cells #[a, b, c, d, e, f, h, i] T)) 8 (.slice (some ⟨g, 0, none⟩) 1 1) 1 [a, b, c, d, e, f, h, i] := by
  subst hg
  exact built8d w a b c d e f h i T

set_option maxRecDepth 100000 in
set_option maxHeartbeats 16000000 in
theorem rval_list (d m p : Nat) (sv : Value) (l : List UInt8) (w : World) (s : RS) (hd8 : d ≤ 8) (hl : l.length ≤ 1000000) (r : List UInt8) (IH : ∀ (w : World) (s : RS) (r : List UInt8), Dx m p sv l w s false → RS.On l s r → m ≤ w.heap.size → Calls Tryz.prog 62 #[.pointer (some ⟨p, 0, none⟩), .int .i64 (d : Nat)] w fun e w' => DOut l (At p) (Dx m p sv l) d r w e w') (h : Dx m p sv l w s false) (ho : RS.On l s (7 :: r)) (hm : m ≤ w.heap.size) :
    Calls Tryz.prog 62 #[.pointer (some ⟨p, 0, none⟩), .int .i64 ((d + 1 : Nat) : Int)] w fun e w' => DOut l (At p) (Dx m p sv l) (d + 1) (7 :: r) w e w' := by
  have hd1 : IntKind.i64.wrap ((d : Int) + 1 - 1) = (d : Int) := IntWalk.i64_in _ ⟨by omega, by omega⟩ |>.trans (by omega)
  have IHH := Lib.hid IH; clear IH
  obtain ⟨hto, hon⟩ := ho.one
  obtain ⟨s1, hs1⟩ : ∃ s1, s1 = RS.mk (s.pos + 1) s.e s.wh := ⟨_, rfl⟩
  rw [← hs1] at hto hon
  clear hs1 ho
  have HTO := Lib.hid hto; have HON := Lib.hid hon
  clear hto hon
  have g0 : (((d + 1 : Nat) : Int) == 0) = false := by rw [beq_eq_false_iff_ne]; omega
  have K := dx_k m p sv l h.hp
  have hpm := h.hp
  have hal2 := ((Fr.refl no w).alloc (.cells #[.int .u8 0, .bool false, .int .i64 0, .string ⟨#[]⟩, .slice none 0 0, .slice none 0 0, .slice none 0 0] 27)).alloc (.cells #[.int .u8 0, .bool false, .int .i64 0, .string ⟨#[]⟩, .slice none 0 0, .slice none 0 0, .slice none 0 0] 27)
  have hal := h.kept0 hal2
  have hbl := h.rx.2.2.2.2.1
  obtain ⟨ha1, ha2⟩ := two_allocs w (.cells #[.int .u8 0, .bool false, .int .i64 0, .string ⟨#[]⟩, .slice none 0 0, .slice none 0 0, .slice none 0 0] 27) (.cells #[.int .u8 0, .bool false, .int .i64 0, .string ⟨#[]⟩, .slice none 0 0, .slice none 0 0, .slice none 0 0] 27)
  have HAL := Lib.hid hal; have HPM := Lib.hid hpm; have KK := Lib.hid K; have HBL := Lib.hid hbl; have HA1 := Lib.hid ha1; have HA2 := Lib.hid ha2; have HL2 := Lib.hid hal2
  clear h hal hpm K hbl ha1 ha2 hal2
  go_enter Tryz.func62, Tryz.ntmps62
  go_wp2_with fail
  refine (xfixed_any p _ sv l s 1 (by omega) (by omega) HAL.out.rx).mono ?_
  rintro e w2 ⟨rfl, h2, f2⟩
  have hd2 := HAL.out.read h2 f2
  have hz2 := f2.heap HA1.out (fun h => by have h1 := HPM.out; have h : w.heap.size = p := h; omega)
  have hb2 := f2.heap HA2.out (fun h => by have h1 := HPM.out; have h : w.heap.size + 1 = p := h; omega)
  have ff2 : Fr (At p) w w2 := (fr_any HL2.out).trans f2 (fun _ _ h => h)
  obtain ⟨c0, c1, c2, c3, cf, cl⟩ := four_cells hd2.rx.1
  clear h2 f2
  rw [HTO.out] at hd2 c2 ⊢
  simp only [ube_one]
  simp only [HON.out.e] at c2
  rw [show ((0 : Nat) : Int) = 0 from rfl] at c2
  clear c0 c1 c3
  obtain ⟨q0, q1, q2, q3, q4, q5, q6, qz, ql⟩ := seven_cells hb2
  obtain ⟨z0, z1, z2, z3, z4, z5, z6, zz, zl⟩ := seven_cells hz2
  obtain ⟨w3, rfl⟩ : ∃ w3, w3 = w2 := ⟨_, rfl⟩
  have HD3 := Lib.hid hd2; have HB3 := Lib.hid hb2; have HZ3 := Lib.hid hz2; have F3 := Lib.hid ff2
  clear hd2 hb2 hz2 ff2 HTO
  have hp0 := Fr.setCell (Fr.refl (fun k => k = w.heap.size + 1) w3) ⟨w.heap.size + 1, 0, none⟩ (.int .u8 6) (fun _ => rfl)
  have hs0 := hp_same HB3.out 0 (.int .u8 6)
  simp only [List.setIfInBounds_toArray, List.set_cons_zero] at hs0
  have hd4 := HD3.out.kept hp0 (fun k h => by have h : k = w.heap.size + 1 := h; omega)
  have hz4 := hp0.heap HZ3.out (fun h => by have h : w.heap.size = w.heap.size + 1 := h; omega)
  have f4 : Fr (At p) w (w3.setCell ⟨w.heap.size + 1, 0, none⟩ (.int .u8 6)) := F3.out.trans hp0 (fun k hk h => by have h : k = w.heap.size + 1 := h; omega)
  have HD4 := Lib.hid hd4; have HB4 := Lib.hid hs0; have HZ4 := Lib.hid hz4; have F4 := Lib.hid f4
  clear hp0 hs0 hd4 hz4 f4
  go_wp2_with fail
  generalize w3.setCell ⟨w.heap.size + 1, 0, none⟩ (.int .u8 6) = w4 at HD4 HB4 HZ4 F4 ⊢
  clear q0 q1 q2 q3 q4 q5 q6 qz ql z0 z1 z2 z3 z4 z5 z6 zz zl c2 cf cl HD3 HB3 HZ3 F3
  refine (xvar_any p w4 sv l s1 HD4.out.rx).mono ?_
  rintro e w6 ⟨rfl, h6, f6⟩
  have hd6 := HD4.out.read h6 f6
  have hb6 := f6.heap HB4.out (fun h => by have h1 := HPM.out; have h : w.heap.size + 1 = p := h; omega)
  have hz6 := f6.heap HZ4.out (fun h => by have h1 := HPM.out; have h : w.heap.size = p := h; omega)
  obtain ⟨q0, q1, q2, q3, q4, q5, q6, qz, ql⟩ := seven_cells hb6
  obtain ⟨z0, z1, z2, z3, z4, z5, z6, zz, zl⟩ := seven_cells hz6
  have HD6 := Lib.hid hd6; have HB6 := Lib.hid hb6; have HZ6 := Lib.hid hz6; have F6 := Lib.hid (F4.out.trans f6 (fun _ _ h => h))
  clear h6 f6 hd6 hb6 hz6 HD4 HB4 HZ4 F4
  cases hv : rvi r with
  | none =>
    obtain ⟨e1, e2⟩ := HON.out.var_no hv
    rw [e1]
    have HV := Lib.hid hv; have HE := Lib.hid e2
    clear hv e1 e2
    rw [show ((0 : Nat) : Int) = 0 from rfl]
    go_wp2
    go_loopw [9] (fun nv wr => nv = .int .u64 0 ∧ wr = w6) (fun _ _ => 0)
    case atStart => exact ⟨rfl, rfl⟩
    case round =>
      obtain ⟨rfl, rfl⟩ := hrel
      go_wp2
      have hp0 := Fr.refl (fun k => k = w.heap.size ∨ k = w.heap.size + 1) wr
      have hz0 := HZ6.out
      have hv0 := HB6.out
      have hset := set7_row (a := .int .u8 6) (b := .bool false) (c := .int .i64 0) (d := .string ⟨#[]⟩) (e := .slice none 0 0) (f := .slice none 0 0) (h := .slice none 0 0) hz0
      have hsf := hp0.trans (set7_fr _ w.heap.size (.int .u8 6) (.bool false) (.int .i64 0) (.string ⟨#[]⟩) (.slice none 0 0) (.slice none 0 0) (.slice none 0 0)) (fun _ _ h => .inl h)
      unfold set7 at hset hsf
      refine bodyPost_ret (results_cell_row (P := Tryz.prog) rfl _ _ w.heap.size 27 _ (0, 0) _ rfl hset Tryz.underlying27 rfl (by kernel_rfl)) rfl ?_
      exact dbad KK.out (by rw [ddc7, HV.out]) form_any HD6.out (.inr HE.out) F6.out hsf (fun k h => by rcases h with h | h <;> omega) hm
  | some z =>
    obtain ⟨n, r0⟩ := z
    obtain ⟨e1, e2⟩ := HON.out.var hv
    rw [e1]
    have hnl : lt64 (n : Int) := ⟨by have := (rvi_some hv).2; omega⟩
    have hlr : r0.length ≤ 1000000 := by have h1 := rvi_lt hv; have h2 := HON.out.len; omega
    have hg0 := LG.start (d := d) (n0 := n) (m0 := w.heap.size + 1) HB6.out HD6.out e2
    have HV := Lib.hid hv; have HG0 := Lib.hid hg0; have HNL := Lib.hid hnl; have HLR := Lib.hid hlr
    clear hv e1 e2 hg0 HD6 HB6 hnl hlr
    go_wp2
    clear q0 q1 q2 q3 q4 q5 q6 qz ql z0 z1 z2 z3 z4 z5 z6 zz zl
    go_loopw [9] (fun iv wr => ∃ i mt : Nat, i + mt = n ∧ iv = .int .u64 i ∧ Fr (At p) w wr ∧ wr.heap[w.heap.size]? = some (.cells #[.int .u8 0, .bool false, .int .i64 0, .string ⟨#[]⟩, .slice none 0 0, .slice none 0 0, .slice none 0 0] 27 (0, 0)) ∧ ((∃ ys s r A c, LG l (Dx m p sv l) d (w.heap.size + 1) (w.heap.size + 1) wr n r0 mt ys s r A c) ∨ ∃ A k c, LB (Dx m p sv l) d (w.heap.size + 1) wr n r0 A k c)) (fun iv _ => n - (intOf iv).toNat)
    case atStart => exact ⟨0, n, by omega, rfl, F6.out, HZ6.out, .inl ⟨[], _, r0, none, 0, HG0.out⟩⟩
    case round =>
      obtain ⟨i, mt, hmn, rfl, hfr, hzr, hst⟩ := hrel
      rcases hst with ⟨ys, s, r, A, c, hg⟩ | ⟨A, k0, c, hb⟩
      · have HFR := Lib.hid hfr; have HZR := Lib.hid hzr
        clear hfr hzr
        by_cases hmt : mt = 0
        · subst hmt
          obtain rfl : i = n := by omega
          obtain ⟨q0, q1, q2, q3, q4, q5, q6, qz, ql⟩ := seven_cells hg.row
          obtain ⟨z0, z1, z2, z3, z4, z5, z6, zz, zl⟩ := seven_cells HZR.out
          have HG := Lib.hid hg
          have HGR := Lib.hid hg.row
          clear hg hmn
          go_wp2
          have hp0 := Fr.refl (fun k => k = w.heap.size ∨ k = w.heap.size + 1) wr
          have hz0 := HZR.out
          have hv0 := HGR.out
          have hset := set7_row (a := .int .u8 6) (b := .bool false) (c := .int .i64 0) (d := .string ⟨#[]⟩) (e := .slice none 0 0) (f := .slice A ys.length c) (h := .slice none 0 0) hz0
          have hsf := hp0.trans (set7_fr _ w.heap.size (.int .u8 6) (.bool false) (.int .i64 0) (.string ⟨#[]⟩) (.slice none 0 0) (.slice A ys.length c) (.slice none 0 0)) (fun _ _ h => .inl h)
          unfold set7 at hset hsf
          refine bodyPost_ret (results_cell_row (P := Tryz.prog) rfl _ _ w.heap.size 27 _ (0, 0) _ rfl hset Tryz.underlying27 rfl (by kernel_rfl)) rfl ?_
          have hdl := HG.out.dl
          rw [ddecL_nil] at hdl
          simp only [Option.map_some, List.append_nil] at hdl
          exact dfin (x := .mk 6 false 0 [] [] (.slice none 0 0, .slice A ys.length c, .slice none 0 0) ys []) KK.out (by rw [ddc7, HV.out]; simp only; rw [hdl, bare_eq]; rfl) (held_list HG.out.ow HG.out.each _ _ _) (fun k hk => by
            rcases blk_list hk with h | ⟨y, hy, h⟩
            · have := HG.out.own k h; exact ⟨by omega, fun h => by rcases h with h | h <;> omega⟩
            · have := (HG.out.yn y hy k h).1; exact ⟨by omega, fun h => by rcases h with h | h <;> omega⟩) HG.out.rd HG.out.on HFR.out hsf (fun k h => by rcases h with h | h <;> omega) hm
        · obtain ⟨k, hk⟩ : ∃ k, mt = k + 1 := ⟨mt - 1, by omega⟩
          have hlt : (i : Int) < (n : Int) := by omega
          have hwi : IntKind.u64.wrap ((i : Int) + 1) = ((i + 1 : Nat) : Int) := by
            rw [show (i : Int) + 1 = ((i + 1 : Nat) : Int) by omega]
            exact wrap_u64_id _ (by omega) (by have := HNL.out.out; omega)
          rw [hk] at hg
          obtain ⟨c0, c1, c2, c3, cf, cl⟩ := four_cells hg.rd.rx.1
          rw [hg.on.e, show ((0 : Nat) : Int) = 0 from rfl] at c2
          obtain ⟨q0, q1, q2, q3, q4, q5, q6, qz, ql⟩ := seven_cells hg.row
          have HG := Lib.hid hg; have HK := Lib.hid (show n = i + (k + 1) by omega); have HWI := Lib.hid hwi
          clear hg hmt hk hmn hwi c0 c1 c3
          have hc := (IHH.out wr s r HG.out.rd HG.out.on (by have h1 := HG.out.lt; omega)).mono fun e w' h => item_l (k := k) h
          have HC := Lib.hid hc
          clear hc
          go_wp2_with fail
          refine HC.out.mono ?_
          rintro e w5 ⟨f5, ⟨y, r2, s2, hdc, rfl, hoy, hby, hr5, hon5⟩ | ⟨hdc, ⟨jk, jb, ji, jt, JB, jbn, jbc, JL, jln, jlc, JF, jfn, jfc, rfl⟩, s2, b2, hr5, hlo5⟩⟩
          · skip
            have how5 := HG.out.ow.kept f5 (fun k hk h => by have := HG.out.own k hk; have h1 := HPM.out; have h : k = p := h; omega)
            have hb5 := f5.heap HG.out.row (fun h => by have h1 := HPM.out; have h : w.heap.size + 1 = p := h; omega)
            obtain ⟨q0, q1, q2, q3, q4, q5, q6, qz, ql⟩ := seven_cells hb5
            have hds := ddec_some d _ _ _ hdc
            have hgy := held_good (N := 1000001) (by omega) y hds.2.1 (by have h1 := congrArg List.length hds.1; have h2 := HG.out.ln; have h3 := HLR.out; skip; simp only [List.length_append] at h1; omega) hoy
            obtain ⟨YB, yb, YL, yl, YF, yf, hfy⟩ := hgy.node.forms
            rw [hfy.agg]
            have hyc : y.cells = [.int .u8 y.k.toNat, .bool y.b, .int .i64 y.i, .string ⟨y.t.toArray⟩, .slice YB y.bs.length yb, .slice YL y.l.length yl, .slice YF y.f.length yf] := by unfold cells; rw [hfy.B, hfy.L, hfy.F]
            have HOY := Lib.hid hoy; have HBY := Lib.hid hby; have HYC := Lib.hid hyc; have HON5 := Lib.hid hon5
            clear hoy hby hyc hfy hgy hds hon5
            have F5 := Lib.hid f5; have HOW5 := Lib.hid how5; have HR5 := Lib.hid hr5; have HDC := Lib.hid hdc
            clear f5 how5 hb5 hr5 hdc
            go_wp2_with (at_builtin; refine wpList_apo (n := ys.length) (xs := ys.flatMap cells) (m := 1) (news := [.int .u8 y.k.toNat, .bool y.b, .int .i64 y.i, .string ⟨y.t.toArray⟩, .slice YB y.bs.length yb, .slice YL y.l.length yl, .slice YF y.f.length yf]) rfl (.tmp 85) (.tmp 87) 24 rfl tbV (HOW5.out.kept0 (by (repeat first | exact Fr.refl _ _ | exact Fr.drewN _ _ _ | apply Fr.drew | apply Fr.alloc | apply Fr.setAt | apply Fr.moreN))) (built7g (w5.alloc (.cells #[.int .u8 y.k.toNat, .bool y.b, .int .i64 y.i, .string ⟨y.t.toArray⟩, .slice YB y.bs.length yb, .slice YL y.l.length yl, .slice YF y.f.length yf] 27)) (w5.heap.size + 1) (by simp) (.int .u8 y.k.toNat) (.bool y.b) (.int .i64 y.i) (.string ⟨y.t.toArray⟩) (.slice YB y.bs.length yb) (.slice YL y.l.length yl) (.slice YF y.f.length yf) 27) rfl rfl (by intro u hu; simp only [List.mem_cons, List.not_mem_nil, or_false] at hu; rcases hu with rfl | rfl | rfl | rfl | rfl | rfl | rfl <;> rfl) ?cg1 ?cg2 ?cg3)
            case cg1 => have := HG.out.ln; have := HLR.out; simp only [maxLen]; omega
            case cg2 => have := HG.out.ln; have := HLR.out; omega
            case cg3 =>
              intro A' N c' w7 hN ho7 _ hf7 hs7
              subst hN
              have hal : Fr no w5 ((w5.alloc (.cells #[.int .u8 y.k.toNat, .bool y.b, .int .i64 y.i, .string ⟨y.t.toArray⟩, .slice YB y.bs.length yb, .slice YL y.l.length yl, .slice YF y.f.length yf] 27)).alloc (.cells #[.int .u8 y.k.toNat, .bool y.b, .int .i64 y.i, .string ⟨y.t.toArray⟩, .slice YB y.bs.length yb, .slice YL y.l.length yl, .slice YF y.f.length yf] 27)) := ((Fr.refl no w5).alloc _).alloc _
              have HAL := Lib.hid hal; clear hal
              have hrow := L_row (m0 := w.heap.size + 1) (A := A) (n := ys.length) (c := c) HG.out.row (fun k hk => by have h1 := HPM.out; have hk : k = p := hk; omega) (Nat.le_refl _) F5.out HAL.out hf7 HG.out.own
              obtain ⟨q0, q1, q2, q3, q4, q5, q6, qz, ql⟩ := seven_cells hrow
              have HFW := Lib.hid (L_fr (v := .slice A' (ys.length + 1) c') (m0 := w.heap.size + 1) HFR.out F5.out HAL.out hf7 (Nat.le_succ w.heap.size) (Nat.le_refl _) HG.out.own)
              have hzw := ((hf7.heap (HAL.out.heap (F5.out.heap HZR.out (fun h => by have h1 := HPM.out; have h : w.heap.size = p := h; omega)) (fun h => h)) (fun h => by have := HG.out.own _ h; omega)))
              have HZW := Lib.hid ((Fr.setCell (Fr.refl (fun k => k = w.heap.size + 1) w7) ⟨w.heap.size + 1, 5, none⟩ (.slice A' (ys.length + 1) c') (fun _ => rfl)).heap hzw (fun h => by have h : w.heap.size = w.heap.size + 1 := h; omega))
              have hst := HG.out.step KK.out (Nat.le_trans hm (Nat.le_succ _)) (Nat.le_refl _) HG.out.lt F5.out HOY.out (show ∀ k, Blk y k → wr.heap.size ≤ k from HBY.out) HR5.out HON5.out HDC.out HAL.out (by rw [HYC.out]; exact ho7) hf7 hs7
              have HST := Lib.hid hst
              clear hst ho7 hf7 hs7 hrow hzw
              go_wp2
              go_roundw
              case rel => exact ⟨i + 1, k, by have := HK.out; omega, by rw [HWI.out], HFW.out, HZW.out, .inl ⟨ys ++ [y], s2, r2, A', c', HST.out⟩⟩
              case measure => rw [HWI.out]; have := HK.out; simp only [intOf, Int.toNat_natCast]; omega
          · skip
            have how5 := HG.out.ow.kept f5 (fun k hk h => by have := HG.out.own k hk; have h1 := HPM.out; have h : k = p := h; omega)
            have hb5 := f5.heap HG.out.row (fun h => by have h1 := HPM.out; have h : w.heap.size + 1 = p := h; omega)
            obtain ⟨q0, q1, q2, q3, q4, q5, q6, qz, ql⟩ := seven_cells hb5
            have HLO := Lib.hid hlo5; clear hlo5
            have F5 := Lib.hid f5; have HOW5 := Lib.hid how5; have HR5 := Lib.hid hr5; have HDC := Lib.hid hdc
            clear f5 how5 hb5 hr5 hdc
            go_wp2_with (at_builtin; refine wpList_apo (n := ys.length) (xs := ys.flatMap cells) (m := 1) (news := [.int .u8 jk, .bool jb, .int .i64 ji, .string jt, .slice JB jbn jbc, .slice JL jln jlc, .slice JF jfn jfc]) rfl (.tmp 85) (.tmp 87) 24 rfl tbV (HOW5.out.kept0 (by (repeat first | exact Fr.refl _ _ | exact Fr.drewN _ _ _ | apply Fr.drew | apply Fr.alloc | apply Fr.setAt | apply Fr.moreN))) (built7g (w5.alloc (.cells #[.int .u8 jk, .bool jb, .int .i64 ji, .string jt, .slice JB jbn jbc, .slice JL jln jlc, .slice JF jfn jfc] 27)) (w5.heap.size + 1) (by simp) (.int .u8 jk) (.bool jb) (.int .i64 ji) (.string jt) (.slice JB jbn jbc) (.slice JL jln jlc) (.slice JF jfn jfc) 27) rfl rfl (by intro u hu; simp only [List.mem_cons, List.not_mem_nil, or_false] at hu; rcases hu with rfl | rfl | rfl | rfl | rfl | rfl | rfl <;> rfl) ?cb1 ?cb2 ?cb3)
            case cb1 => have := HG.out.ln; have := HLR.out; simp only [maxLen]; omega
            case cb2 => have := HG.out.ln; have := HLR.out; omega
            case cb3 =>
              intro A' N c' w7 hN ho7 _ hf7 hs7
              subst hN
              have hal : Fr no w5 ((w5.alloc (.cells #[.int .u8 jk, .bool jb, .int .i64 ji, .string jt, .slice JB jbn jbc, .slice JL jln jlc, .slice JF jfn jfc] 27)).alloc (.cells #[.int .u8 jk, .bool jb, .int .i64 ji, .string jt, .slice JB jbn jbc, .slice JL jln jlc, .slice JF jfn jfc] 27)) := ((Fr.refl no w5).alloc _).alloc _
              have HAL := Lib.hid hal; clear hal
              have hrow := L_row (m0 := w.heap.size + 1) (A := A) (n := ys.length) (c := c) HG.out.row (fun k hk => by have h1 := HPM.out; have hk : k = p := hk; omega) (Nat.le_refl _) F5.out HAL.out hf7 HG.out.own
              obtain ⟨q0, q1, q2, q3, q4, q5, q6, qz, ql⟩ := seven_cells hrow
              have HFW := Lib.hid (L_fr (v := .slice A' (ys.length + 1) c') (m0 := w.heap.size + 1) HFR.out F5.out HAL.out hf7 (Nat.le_succ w.heap.size) (Nat.le_refl _) HG.out.own)
              have hzw := ((hf7.heap (HAL.out.heap (F5.out.heap HZR.out (fun h => by have h1 := HPM.out; have h : w.heap.size = p := h; omega)) (fun h => h)) (fun h => by have := HG.out.own _ h; omega)))
              have HZW := Lib.hid ((Fr.setCell (Fr.refl (fun k => k = w.heap.size + 1) w7) ⟨w.heap.size + 1, 5, none⟩ (.slice A' (ys.length + 1) c') (fun _ => rfl)).heap hzw (fun h => by have h : w.heap.size = w.heap.size + 1 := h; omega))
              have hst := HG.out.lose (n' := ys.length + 1) (A' := A') (c' := c') KK.out (Nat.le_trans hm (Nat.le_succ _)) (Nat.le_refl _) F5.out HR5.out HLO.out HDC.out HAL.out hf7
              have HST := Lib.hid hst
              clear hst ho7 hf7 hs7 hrow hzw
              go_wp2
              go_roundw
              case rel => exact ⟨i + 1, k, by have := HK.out; omega, by rw [HWI.out], HFW.out, HZW.out, .inr ⟨A', _, c', HST.out⟩⟩
              case measure => rw [HWI.out]; have := HK.out; simp only [intOf, Int.toNat_natCast]; omega
      · obtain ⟨s, b, h1, h2⟩ := hb.rd
        have h3 := dx_lost h1 h2
        have HFR := Lib.hid hfr; have HZR := Lib.hid hzr; have HBD := Lib.hid hb; have HR := Lib.hid h1; have HLO := Lib.hid h2; have HBR := Lib.hid hb.row
        obtain ⟨c0, c1, c2, c3, cf, cl⟩ := four_cells h1.rx.1
        have hne : ((s.e : Int) == 0) = false := by rw [beq_eq_false_iff_ne]; omega
        obtain ⟨q0, q1, q2, q3, q4, q5, q6, qz, ql⟩ := seven_cells HBR.out
        obtain ⟨z0, z1, z2, z3, z4, z5, z6, zz, zl⟩ := seven_cells HZR.out
        clear hfr hzr hb h1 h2 h3 c0 c1 c3
        by_cases hmt : mt = 0
        · subst hmt
          obtain rfl : i = n := by omega
          clear hmn
          go_wp2
          have hp0 := Fr.refl (fun k => k = w.heap.size ∨ k = w.heap.size + 1) wr
          have hz0 := HZR.out
          have hv0 := HBR.out
          have hset := set7_row (a := .int .u8 6) (b := .bool false) (c := .int .i64 0) (d := .string ⟨#[]⟩) (e := .slice none 0 0) (f := .slice A k0 c) (h := .slice none 0 0) hz0
          have hsf := hp0.trans (set7_fr _ w.heap.size (.int .u8 6) (.bool false) (.int .i64 0) (.string ⟨#[]⟩) (.slice none 0 0) (.slice A k0 c) (.slice none 0 0)) (fun _ _ h => .inl h)
          unfold set7 at hset hsf
          refine bodyPost_ret (results_cell_row (P := Tryz.prog) rfl _ _ w.heap.size 27 _ (0, 0) _ rfl hset Tryz.underlying27 rfl (by kernel_rfl)) rfl ?_
          exact dbad KK.out (by rw [ddc7, HV.out]; simp only; rw [HBD.out.dl]; rfl) form_any HR.out HLO.out HFR.out hsf (fun k h => by rcases h with h | h <;> omega) hm
        · have hlt : (i : Int) < (n : Int) := by omega
          clear hmt hmn
          go_wp2
          have hp0 := Fr.refl (fun k => k = w.heap.size ∨ k = w.heap.size + 1) wr
          have hz0 := HZR.out
          have hv0 := HBR.out
          have hset := set7_row (a := .int .u8 6) (b := .bool false) (c := .int .i64 0) (d := .string ⟨#[]⟩) (e := .slice none 0 0) (f := .slice A k0 c) (h := .slice none 0 0) hz0
          have hsf := hp0.trans (set7_fr _ w.heap.size (.int .u8 6) (.bool false) (.int .i64 0) (.string ⟨#[]⟩) (.slice none 0 0) (.slice A k0 c) (.slice none 0 0)) (fun _ _ h => .inl h)
          unfold set7 at hset hsf
          refine bodyPost_ret (results_cell_row (P := Tryz.prog) rfl _ _ w.heap.size 27 _ (0, 0) _ rfl hset Tryz.underlying27 rfl (by kernel_rfl)) rfl ?_
          exact dbad KK.out (by rw [ddc7, HV.out]; simp only; rw [HBD.out.dl]; rfl) form_any HR.out HLO.out HFR.out hsf (fun k h => by rcases h with h | h <;> omega) hm

set_option maxRecDepth 100000 in
set_option maxHeartbeats 16000000 in
theorem rval_flds (d m p : Nat) (sv : Value) (l : List UInt8) (w : World) (s : RS) (hd8 : d ≤ 8) (hl : l.length ≤ 1000000) (r : List UInt8) (IH : ∀ (w : World) (s : RS) (r : List UInt8), Dx m p sv l w s false → RS.On l s r → m ≤ w.heap.size → Calls Tryz.prog 62 #[.pointer (some ⟨p, 0, none⟩), .int .i64 (d : Nat)] w fun e w' => DOut l (At p) (Dx m p sv l) d r w e w') (h : Dx m p sv l w s false) (ho : RS.On l s (8 :: r)) (hm : m ≤ w.heap.size) :
    Calls Tryz.prog 62 #[.pointer (some ⟨p, 0, none⟩), .int .i64 ((d + 1 : Nat) : Int)] w fun e w' => DOut l (At p) (Dx m p sv l) (d + 1) (8 :: r) w e w' := by
  have hd1 : IntKind.i64.wrap ((d : Int) + 1 - 1) = (d : Int) := IntWalk.i64_in _ ⟨by omega, by omega⟩ |>.trans (by omega)
  have IHH := Lib.hid IH; clear IH
  obtain ⟨hto, hon⟩ := ho.one
  obtain ⟨s1, hs1⟩ : ∃ s1, s1 = RS.mk (s.pos + 1) s.e s.wh := ⟨_, rfl⟩
  rw [← hs1] at hto hon
  clear hs1 ho
  have HTO := Lib.hid hto; have HON := Lib.hid hon
  clear hto hon
  have g0 : (((d + 1 : Nat) : Int) == 0) = false := by rw [beq_eq_false_iff_ne]; omega
  have K := dx_k m p sv l h.hp
  have hpm := h.hp
  have hal2 := ((Fr.refl no w).alloc (.cells #[.int .u8 0, .bool false, .int .i64 0, .string ⟨#[]⟩, .slice none 0 0, .slice none 0 0, .slice none 0 0] 27)).alloc (.cells #[.int .u8 0, .bool false, .int .i64 0, .string ⟨#[]⟩, .slice none 0 0, .slice none 0 0, .slice none 0 0] 27)
  have hal := h.kept0 hal2
  have hbl := h.rx.2.2.2.2.1
  obtain ⟨ha1, ha2⟩ := two_allocs w (.cells #[.int .u8 0, .bool false, .int .i64 0, .string ⟨#[]⟩, .slice none 0 0, .slice none 0 0, .slice none 0 0] 27) (.cells #[.int .u8 0, .bool false, .int .i64 0, .string ⟨#[]⟩, .slice none 0 0, .slice none 0 0, .slice none 0 0] 27)
  have HAL := Lib.hid hal; have HPM := Lib.hid hpm; have KK := Lib.hid K; have HBL := Lib.hid hbl; have HA1 := Lib.hid ha1; have HA2 := Lib.hid ha2; have HL2 := Lib.hid hal2
  clear h hal hpm K hbl ha1 ha2 hal2
  go_enter Tryz.func62, Tryz.ntmps62
  go_wp2_with fail
  refine (xfixed_any p _ sv l s 1 (by omega) (by omega) HAL.out.rx).mono ?_
  rintro e w2 ⟨rfl, h2, f2⟩
  have hd2 := HAL.out.read h2 f2
  have hz2 := f2.heap HA1.out (fun h => by have h1 := HPM.out; have h : w.heap.size = p := h; omega)
  have hb2 := f2.heap HA2.out (fun h => by have h1 := HPM.out; have h : w.heap.size + 1 = p := h; omega)
  have ff2 : Fr (At p) w w2 := (fr_any HL2.out).trans f2 (fun _ _ h => h)
  obtain ⟨c0, c1, c2, c3, cf, cl⟩ := four_cells hd2.rx.1
  clear h2 f2
  rw [HTO.out] at hd2 c2 ⊢
  simp only [ube_one]
  simp only [HON.out.e] at c2
  rw [show ((0 : Nat) : Int) = 0 from rfl] at c2
  clear c0 c1 c3
  obtain ⟨q0, q1, q2, q3, q4, q5, q6, qz, ql⟩ := seven_cells hb2
  obtain ⟨z0, z1, z2, z3, z4, z5, z6, zz, zl⟩ := seven_cells hz2
  obtain ⟨w3, rfl⟩ : ∃ w3, w3 = w2 := ⟨_, rfl⟩
  have HD3 := Lib.hid hd2; have HB3 := Lib.hid hb2; have HZ3 := Lib.hid hz2; have F3 := Lib.hid ff2
  clear hd2 hb2 hz2 ff2 HTO
  have hp0 := Fr.setCell (Fr.refl (fun k => k = w.heap.size + 1) w3) ⟨w.heap.size + 1, 0, none⟩ (.int .u8 7) (fun _ => rfl)
  have hs0 := hp_same HB3.out 0 (.int .u8 7)
  simp only [List.setIfInBounds_toArray, List.set_cons_zero] at hs0
  have hd4 := HD3.out.kept hp0 (fun k h => by have h : k = w.heap.size + 1 := h; omega)
  have hz4 := hp0.heap HZ3.out (fun h => by have h : w.heap.size = w.heap.size + 1 := h; omega)
  have f4 : Fr (At p) w (w3.setCell ⟨w.heap.size + 1, 0, none⟩ (.int .u8 7)) := F3.out.trans hp0 (fun k hk h => by have h : k = w.heap.size + 1 := h; omega)
  have HD4 := Lib.hid hd4; have HB4 := Lib.hid hs0; have HZ4 := Lib.hid hz4; have F4 := Lib.hid f4
  clear hp0 hs0 hd4 hz4 f4
  go_wp2_with fail
  generalize w3.setCell ⟨w.heap.size + 1, 0, none⟩ (.int .u8 7) = w4 at HD4 HB4 HZ4 F4 ⊢
  clear q0 q1 q2 q3 q4 q5 q6 qz ql z0 z1 z2 z3 z4 z5 z6 zz zl c2 cf cl HD3 HB3 HZ3 F3
  refine (xvar_any p w4 sv l s1 HD4.out.rx).mono ?_
  rintro e w6 ⟨rfl, h6, f6⟩
  have hd6 := HD4.out.read h6 f6
  have hb6 := f6.heap HB4.out (fun h => by have h1 := HPM.out; have h : w.heap.size + 1 = p := h; omega)
  have hz6 := f6.heap HZ4.out (fun h => by have h1 := HPM.out; have h : w.heap.size = p := h; omega)
  obtain ⟨q0, q1, q2, q3, q4, q5, q6, qz, ql⟩ := seven_cells hb6
  obtain ⟨z0, z1, z2, z3, z4, z5, z6, zz, zl⟩ := seven_cells hz6
  have HD6 := Lib.hid hd6; have HB6 := Lib.hid hb6; have HZ6 := Lib.hid hz6; have F6 := Lib.hid (F4.out.trans f6 (fun _ _ h => h))
  clear h6 f6 hd6 hb6 hz6 HD4 HB4 HZ4 F4
  cases hv : rvi r with
  | none =>
    obtain ⟨e1, e2⟩ := HON.out.var_no hv
    rw [e1]
    have HV := Lib.hid hv; have HE := Lib.hid e2
    clear hv e1 e2
    rw [show ((0 : Nat) : Int) = 0 from rfl]
    go_wp2
    go_loopw [12] (fun nv wr => nv = .int .u64 0 ∧ wr = w6) (fun _ _ => 0)
    case atStart => exact ⟨rfl, rfl⟩
    case round =>
      obtain ⟨rfl, rfl⟩ := hrel
      go_wp2
      have hp0 := Fr.refl (fun k => k = w.heap.size ∨ k = w.heap.size + 1) wr
      have hz0 := HZ6.out
      have hv0 := HB6.out
      have hset := set7_row (a := .int .u8 7) (b := .bool false) (c := .int .i64 0) (d := .string ⟨#[]⟩) (e := .slice none 0 0) (f := .slice none 0 0) (h := .slice none 0 0) hz0
      have hsf := hp0.trans (set7_fr _ w.heap.size (.int .u8 7) (.bool false) (.int .i64 0) (.string ⟨#[]⟩) (.slice none 0 0) (.slice none 0 0) (.slice none 0 0)) (fun _ _ h => .inl h)
      unfold set7 at hset hsf
      refine bodyPost_ret (results_cell_row (P := Tryz.prog) rfl _ _ w.heap.size 27 _ (0, 0) _ rfl hset Tryz.underlying27 rfl (by kernel_rfl)) rfl ?_
      exact dbad KK.out (by rw [ddc8, HV.out]) form_any HD6.out (.inr HE.out) F6.out hsf (fun k h => by rcases h with h | h <;> omega) hm
  | some z =>
    obtain ⟨n, r0⟩ := z
    obtain ⟨e1, e2⟩ := HON.out.var hv
    rw [e1]
    have hnl : lt64 (n : Int) := ⟨by have := (rvi_some hv).2; omega⟩
    have hlr : r0.length ≤ 1000000 := by have h1 := rvi_lt hv; have h2 := HON.out.len; omega
    have hg0 := FG.start (d := d) (n0 := n) (m0 := w.heap.size + 1) HB6.out HD6.out e2
    have HV := Lib.hid hv; have HG0 := Lib.hid hg0; have HNL := Lib.hid hnl; have HLR := Lib.hid hlr
    clear hv e1 e2 hg0 HD6 HB6 hnl hlr
    go_wp2
    clear q0 q1 q2 q3 q4 q5 q6 qz ql z0 z1 z2 z3 z4 z5 z6 zz zl
    go_loopw [12] (fun iv wr => ∃ i mt : Nat, i + mt = n ∧ iv = .int .u64 i ∧ Fr (At p) w wr ∧ wr.heap[w.heap.size]? = some (.cells #[.int .u8 0, .bool false, .int .i64 0, .string ⟨#[]⟩, .slice none 0 0, .slice none 0 0, .slice none 0 0] 27 (0, 0)) ∧ ((∃ ys s r A c, FG l (Dx m p sv l) d (w.heap.size + 1) (w.heap.size + 1) wr n r0 mt ys s r A c) ∨ ∃ A k c, FB (Dx m p sv l) d (w.heap.size + 1) wr n r0 A k c)) (fun iv _ => n - (intOf iv).toNat)
    case atStart => exact ⟨0, n, by omega, rfl, F6.out, HZ6.out, .inl ⟨[], _, r0, none, 0, HG0.out⟩⟩
    case round =>
      obtain ⟨i, mt, hmn, rfl, hfr, hzr, hst⟩ := hrel
      rcases hst with ⟨ys, s, r, A, c, hg⟩ | ⟨A, k0, c, hb⟩
      · have HFR := Lib.hid hfr; have HZR := Lib.hid hzr
        clear hfr hzr
        by_cases hmt : mt = 0
        · subst hmt
          obtain rfl : i = n := by omega
          obtain ⟨q0, q1, q2, q3, q4, q5, q6, qz, ql⟩ := seven_cells hg.row
          obtain ⟨z0, z1, z2, z3, z4, z5, z6, zz, zl⟩ := seven_cells HZR.out
          have HG := Lib.hid hg
          have HGR := Lib.hid hg.row
          clear hg hmn
          go_wp2
          have hp0 := Fr.refl (fun k => k = w.heap.size ∨ k = w.heap.size + 1) wr
          have hz0 := HZR.out
          have hv0 := HGR.out
          have hset := set7_row (a := .int .u8 7) (b := .bool false) (c := .int .i64 0) (d := .string ⟨#[]⟩) (e := .slice none 0 0) (f := .slice none 0 0) (h := .slice A ys.length c) hz0
          have hsf := hp0.trans (set7_fr _ w.heap.size (.int .u8 7) (.bool false) (.int .i64 0) (.string ⟨#[]⟩) (.slice none 0 0) (.slice none 0 0) (.slice A ys.length c)) (fun _ _ h => .inl h)
          unfold set7 at hset hsf
          refine bodyPost_ret (results_cell_row (P := Tryz.prog) rfl _ _ w.heap.size 27 _ (0, 0) _ rfl hset Tryz.underlying27 rfl (by kernel_rfl)) rfl ?_
          have hdl := HG.out.dl
          rw [ddecF_nil] at hdl
          simp only [Option.map_some, List.append_nil] at hdl
          exact dfin (x := .mk 7 false 0 [] [] (.slice none 0 0, .slice none 0 0, .slice A ys.length c) [] ys) KK.out (by rw [ddc8, HV.out]; simp only; rw [hdl, bare_eq]; rfl) (held_flds HG.out.ow HG.out.each _ _ _) (fun k hk => by
            rcases blk_flds hk with h | ⟨y, hy, h⟩
            · have := HG.out.own k h; exact ⟨by omega, fun h => by rcases h with h | h <;> omega⟩
            · have := (HG.out.yn y hy k h).1; exact ⟨by omega, fun h => by rcases h with h | h <;> omega⟩) HG.out.rd HG.out.on HFR.out hsf (fun k h => by rcases h with h | h <;> omega) hm
        · obtain ⟨k, hk⟩ : ∃ k, mt = k + 1 := ⟨mt - 1, by omega⟩
          have hlt : (i : Int) < (n : Int) := by omega
          have hwi : IntKind.u64.wrap ((i : Int) + 1) = ((i + 1 : Nat) : Int) := by
            rw [show (i : Int) + 1 = ((i + 1 : Nat) : Int) by omega]
            exact wrap_u64_id _ (by omega) (by have := HNL.out.out; omega)
          rw [hk] at hg
          obtain ⟨c0, c1, c2, c3, cf, cl⟩ := four_cells hg.rd.rx.1
          rw [hg.on.e, show ((0 : Nat) : Int) = 0 from rfl] at c2
          obtain ⟨q0, q1, q2, q3, q4, q5, q6, qz, ql⟩ := seven_cells hg.row
          have HG := Lib.hid hg; have HK := Lib.hid (show n = i + (k + 1) by omega); have HWI := Lib.hid hwi
          clear hg hmt hk hmn hwi c0 c1 c3
          go_wp2_with fail
          refine (xtext_any p wr sv l s HG.out.rd.rx).mono ?_
          rintro e w9 ⟨rfl, h9, f9⟩
          have hd9 := HG.out.rd.read h9 f9
          have hb9 := f9.heap HG.out.row (fun h => by have h1 := HPM.out; have h : w.heap.size + 1 = p := h; omega)
          obtain ⟨t, ht⟩ : ∃ t, t = (s.text l).1 := ⟨_, rfl⟩
          rw [← ht]
          have HD9 := Lib.hid hd9; have HFQ := Lib.hid f9; have HT := Lib.hid ht; have HB9 := Lib.hid hb9
          clear h9 f9 hd9 ht hb9 c2 cf cl q0 q1 q2 q3 q4 q5 q6 qz ql
          obtain ⟨q0, q1, q2, q3, q4, q5, q6, qz, ql⟩ := seven_cells HB9.out
          cases hrv : rvt r with
          | some z =>
            obtain ⟨t', r1⟩ := z
            obtain ⟨e1, e2⟩ := HG.out.on.text hrv
            have ht2 := HT.out
            rw [e1] at ht2
            subst ht2
            have hc := (IHH.out w9 _ r1 HD9.out e2 (by have h1 := HG.out.lt; have h2 := HFQ.out.size; omega)).mono fun e w' h => item_f (k := k) hrv h
            have HC := Lib.hid hc; have HRV := Lib.hid hrv
            clear hc hrv e1 e2
            go_wp2_with fail
            refine HC.out.mono ?_
            rintro e w5 ⟨f5, ⟨y, r2, s2, hdc, rfl, hoy, hby, hr5, hon5⟩ | ⟨hdc, ⟨jk, jb, ji, jt, JB, jbn, jbc, JL, jln, jlc, JF, jfn, jfc, rfl⟩, s2, b2, hr5, hlo5⟩⟩
            · skip
              have f5 := HFQ.out.trans f5 (fun _ _ h => h)
              have how5 := HG.out.ow.kept f5 (fun k hk h => by have := HG.out.own k hk; have h1 := HPM.out; have h : k = p := h; omega)
              have hb5 := f5.heap HG.out.row (fun h => by have h1 := HPM.out; have h : w.heap.size + 1 = p := h; omega)
              obtain ⟨q0, q1, q2, q3, q4, q5, q6, qz, ql⟩ := seven_cells hb5
              have hds := ddec_some d _ _ _ hdc
              have hgy := held_good (N := 1000001) (by omega) y hds.2.1 (by have h1 := congrArg List.length hds.1; have h2 := HG.out.ln; have h3 := HLR.out; have h4 := rvt_lt HRV.out; simp only [List.length_append] at h1; omega) hoy
              obtain ⟨YB, yb, YL, yl, YF, yf, hfy⟩ := hgy.node.forms
              rw [hfy.agg]
              have hyc : y.cells = [.int .u8 y.k.toNat, .bool y.b, .int .i64 y.i, .string ⟨y.t.toArray⟩, .slice YB y.bs.length yb, .slice YL y.l.length yl, .slice YF y.f.length yf] := by unfold cells; rw [hfy.B, hfy.L, hfy.F]
              have HOY := Lib.hid hoy; have HBY := Lib.hid hby; have HYC := Lib.hid hyc; have HON5 := Lib.hid hon5
              clear hoy hby hyc hfy hgy hds hon5
              have F5 := Lib.hid f5; have HOW5 := Lib.hid how5; have HR5 := Lib.hid hr5; have HDC := Lib.hid hdc
              clear f5 how5 hb5 hr5 hdc
              go_wp2_with (at_builtin; refine wpList_apo (n := ys.length) (xs := ys.flatMap fcells) (m := 1) (news := [.string ⟨t.toArray⟩, .int .u8 y.k.toNat, .bool y.b, .int .i64 y.i, .string ⟨y.t.toArray⟩, .slice YB y.bs.length yb, .slice YL y.l.length yl, .slice YF y.f.length yf]) rfl (.tmp 114) (.tmp 118) 25 rfl tbF (HOW5.out.kept0 (by (repeat first | exact Fr.refl _ _ | exact Fr.drewN _ _ _ | apply Fr.drew | apply Fr.alloc | apply Fr.setAt | apply Fr.moreN))) (built8g (w5.alloc (.cells #[.int .u8 y.k.toNat, .bool y.b, .int .i64 y.i, .string ⟨y.t.toArray⟩, .slice YB y.bs.length yb, .slice YL y.l.length yl, .slice YF y.f.length yf] 27)) (w5.heap.size + 1) (by simp) (.string ⟨t.toArray⟩) (.int .u8 y.k.toNat) (.bool y.b) (.int .i64 y.i) (.string ⟨y.t.toArray⟩) (.slice YB y.bs.length yb) (.slice YL y.l.length yl) (.slice YF y.f.length yf) 87) rfl rfl (by intro u hu; simp only [List.mem_cons, List.not_mem_nil, or_false] at hu; rcases hu with rfl | rfl | rfl | rfl | rfl | rfl | rfl | rfl <;> rfl) ?cg1 ?cg2 ?cg3)
              case cg1 => have := HG.out.ln; have := HLR.out; simp only [maxLen]; omega
              case cg2 => have := HG.out.ln; have := HLR.out; omega
              case cg3 =>
                intro A' N c' w7 hN ho7 _ hf7 hs7
                subst hN
                have hal : Fr no w5 ((w5.alloc (.cells #[.int .u8 y.k.toNat, .bool y.b, .int .i64 y.i, .string ⟨y.t.toArray⟩, .slice YB y.bs.length yb, .slice YL y.l.length yl, .slice YF y.f.length yf] 27)).alloc (.cells #[.string ⟨t.toArray⟩, .int .u8 y.k.toNat, .bool y.b, .int .i64 y.i, .string ⟨y.t.toArray⟩, .slice YB y.bs.length yb, .slice YL y.l.length yl, .slice YF y.f.length yf] 87)) := ((Fr.refl no w5).alloc _).alloc _
                have HAL := Lib.hid hal; clear hal
                have hrow := F_row (m0 := w.heap.size + 1) (A := A) (n := ys.length) (c := c) HG.out.row (fun k hk => by have h1 := HPM.out; have hk : k = p := hk; omega) (Nat.le_refl _) F5.out HAL.out hf7 HG.out.own
                obtain ⟨q0, q1, q2, q3, q4, q5, q6, qz, ql⟩ := seven_cells hrow
                have HFW := Lib.hid (F_fr (v := .slice A' (ys.length + 1) c') (m0 := w.heap.size + 1) HFR.out F5.out HAL.out hf7 (Nat.le_succ w.heap.size) (Nat.le_refl _) HG.out.own)
                have hzw := ((hf7.heap (HAL.out.heap (F5.out.heap HZR.out (fun h => by have h1 := HPM.out; have h : w.heap.size = p := h; omega)) (fun h => h)) (fun h => by have := HG.out.own _ h; omega)))
                have HZW := Lib.hid ((Fr.setCell (Fr.refl (fun k => k = w.heap.size + 1) w7) ⟨w.heap.size + 1, 6, none⟩ (.slice A' (ys.length + 1) c') (fun _ => rfl)).heap hzw (fun h => by have h : w.heap.size = w.heap.size + 1 := h; omega))
                have hst := HG.out.step KK.out (Nat.le_trans hm (Nat.le_succ _)) (Nat.le_refl _) HG.out.lt F5.out HOY.out (fun k hk => Nat.le_trans HFQ.out.size (HBY.out k hk)) HR5.out HON5.out HRV.out HDC.out HAL.out (by show Ow w7 _ _ _ _ (_ ++ .string ⟨t.toArray⟩ :: y.cells); rw [HYC.out]; exact ho7) hf7 hs7
                have HST := Lib.hid hst
                clear hst ho7 hf7 hs7 hrow hzw
                go_wp2
                go_roundw
                case rel => exact ⟨i + 1, k, by have := HK.out; omega, by rw [HWI.out], HFW.out, HZW.out, .inl ⟨ys ++ [(t, y)], s2, r2, A', c', HST.out⟩⟩
                case measure => rw [HWI.out]; have := HK.out; simp only [intOf, Int.toNat_natCast]; omega
            · skip
              have f5 := HFQ.out.trans f5 (fun _ _ h => h)
              have how5 := HG.out.ow.kept f5 (fun k hk h => by have := HG.out.own k hk; have h1 := HPM.out; have h : k = p := h; omega)
              have hb5 := f5.heap HG.out.row (fun h => by have h1 := HPM.out; have h : w.heap.size + 1 = p := h; omega)
              obtain ⟨q0, q1, q2, q3, q4, q5, q6, qz, ql⟩ := seven_cells hb5
              have HLO := Lib.hid hlo5; clear hlo5
              have F5 := Lib.hid f5; have HOW5 := Lib.hid how5; have HR5 := Lib.hid hr5; have HDC := Lib.hid hdc
              clear f5 how5 hb5 hr5 hdc
              go_wp2_with (at_builtin; refine wpList_apo (n := ys.length) (xs := ys.flatMap fcells) (m := 1) (news := [.string ⟨t.toArray⟩, .int .u8 jk, .bool jb, .int .i64 ji, .string jt, .slice JB jbn jbc, .slice JL jln jlc, .slice JF jfn jfc]) rfl (.tmp 114) (.tmp 118) 25 rfl tbF (HOW5.out.kept0 (by (repeat first | exact Fr.refl _ _ | exact Fr.drewN _ _ _ | apply Fr.drew | apply Fr.alloc | apply Fr.setAt | apply Fr.moreN))) (built8g (w5.alloc (.cells #[.int .u8 jk, .bool jb, .int .i64 ji, .string jt, .slice JB jbn jbc, .slice JL jln jlc, .slice JF jfn jfc] 27)) (w5.heap.size + 1) (by simp) (.string ⟨t.toArray⟩) (.int .u8 jk) (.bool jb) (.int .i64 ji) (.string jt) (.slice JB jbn jbc) (.slice JL jln jlc) (.slice JF jfn jfc) 87) rfl rfl (by intro u hu; simp only [List.mem_cons, List.not_mem_nil, or_false] at hu; rcases hu with rfl | rfl | rfl | rfl | rfl | rfl | rfl | rfl <;> rfl) ?cb1 ?cb2 ?cb3)
              case cb1 => have := HG.out.ln; have := HLR.out; simp only [maxLen]; omega
              case cb2 => have := HG.out.ln; have := HLR.out; omega
              case cb3 =>
                intro A' N c' w7 hN ho7 _ hf7 hs7
                subst hN
                have hal : Fr no w5 ((w5.alloc (.cells #[.int .u8 jk, .bool jb, .int .i64 ji, .string jt, .slice JB jbn jbc, .slice JL jln jlc, .slice JF jfn jfc] 27)).alloc (.cells #[.string ⟨t.toArray⟩, .int .u8 jk, .bool jb, .int .i64 ji, .string jt, .slice JB jbn jbc, .slice JL jln jlc, .slice JF jfn jfc] 87)) := ((Fr.refl no w5).alloc _).alloc _
                have HAL := Lib.hid hal; clear hal
                have hrow := F_row (m0 := w.heap.size + 1) (A := A) (n := ys.length) (c := c) HG.out.row (fun k hk => by have h1 := HPM.out; have hk : k = p := hk; omega) (Nat.le_refl _) F5.out HAL.out hf7 HG.out.own
                obtain ⟨q0, q1, q2, q3, q4, q5, q6, qz, ql⟩ := seven_cells hrow
                have HFW := Lib.hid (F_fr (v := .slice A' (ys.length + 1) c') (m0 := w.heap.size + 1) HFR.out F5.out HAL.out hf7 (Nat.le_succ w.heap.size) (Nat.le_refl _) HG.out.own)
                have hzw := ((hf7.heap (HAL.out.heap (F5.out.heap HZR.out (fun h => by have h1 := HPM.out; have h : w.heap.size = p := h; omega)) (fun h => h)) (fun h => by have := HG.out.own _ h; omega)))
                have HZW := Lib.hid ((Fr.setCell (Fr.refl (fun k => k = w.heap.size + 1) w7) ⟨w.heap.size + 1, 6, none⟩ (.slice A' (ys.length + 1) c') (fun _ => rfl)).heap hzw (fun h => by have h : w.heap.size = w.heap.size + 1 := h; omega))
                have hst := HG.out.lose (n' := ys.length + 1) (A' := A') (c' := c') KK.out (Nat.le_trans hm (Nat.le_succ _)) (Nat.le_refl _) F5.out HR5.out HLO.out HDC.out HAL.out hf7
                have HST := Lib.hid hst
                clear hst ho7 hf7 hs7 hrow hzw
                go_wp2
                go_roundw
                case rel => exact ⟨i + 1, k, by have := HK.out; omega, by rw [HWI.out], HFW.out, HZW.out, .inr ⟨A', _, c', HST.out⟩⟩
                case measure => rw [HWI.out]; have := HK.out; simp only [intOf, Int.toNat_natCast]; omega
          | none =>
            obtain ⟨e1, e2⟩ := HG.out.on.text_no hrv
            have hc := (rval_lost d m p sv l w9 _ HD9.out e2 (by have h1 := HG.out.lt; have h2 := HFQ.out.size; omega)).mono fun e w' h => item_w (l := l) (d := d) (k := k) hrv h
            have HC := Lib.hid hc; have HRV := Lib.hid hrv
            clear hc hrv e1 e2
            go_wp2_with fail
            refine HC.out.mono ?_
            rintro e w5 ⟨f5, ⟨y, r2, s2, hdc, rfl, hoy, hby, hr5, hon5⟩ | ⟨hdc, ⟨jk, jb, ji, jt, JB, jbn, jbc, JL, jln, jlc, JF, jfn, jfc, rfl⟩, s2, b2, hr5, hlo5⟩⟩
            · exact hdc.elim
            · skip
              have f5 := HFQ.out.trans f5 (fun _ _ h => h)
              have how5 := HG.out.ow.kept f5 (fun k hk h => by have := HG.out.own k hk; have h1 := HPM.out; have h : k = p := h; omega)
              have hb5 := f5.heap HG.out.row (fun h => by have h1 := HPM.out; have h : w.heap.size + 1 = p := h; omega)
              obtain ⟨q0, q1, q2, q3, q4, q5, q6, qz, ql⟩ := seven_cells hb5
              have HLO := Lib.hid hlo5; clear hlo5
              have F5 := Lib.hid f5; have HOW5 := Lib.hid how5; have HR5 := Lib.hid hr5; have HDC := Lib.hid hdc
              clear f5 how5 hb5 hr5 hdc
              go_wp2_with (at_builtin; refine wpList_apo (n := ys.length) (xs := ys.flatMap fcells) (m := 1) (news := [.string ⟨t.toArray⟩, .int .u8 jk, .bool jb, .int .i64 ji, .string jt, .slice JB jbn jbc, .slice JL jln jlc, .slice JF jfn jfc]) rfl (.tmp 114) (.tmp 118) 25 rfl tbF (HOW5.out.kept0 (by (repeat first | exact Fr.refl _ _ | exact Fr.drewN _ _ _ | apply Fr.drew | apply Fr.alloc | apply Fr.setAt | apply Fr.moreN))) (built8g (w5.alloc (.cells #[.int .u8 jk, .bool jb, .int .i64 ji, .string jt, .slice JB jbn jbc, .slice JL jln jlc, .slice JF jfn jfc] 27)) (w5.heap.size + 1) (by simp) (.string ⟨t.toArray⟩) (.int .u8 jk) (.bool jb) (.int .i64 ji) (.string jt) (.slice JB jbn jbc) (.slice JL jln jlc) (.slice JF jfn jfc) 87) rfl rfl (by intro u hu; simp only [List.mem_cons, List.not_mem_nil, or_false] at hu; rcases hu with rfl | rfl | rfl | rfl | rfl | rfl | rfl | rfl <;> rfl) ?nb1 ?nb2 ?nb3)
              case nb1 => have := HG.out.ln; have := HLR.out; simp only [maxLen]; omega
              case nb2 => have := HG.out.ln; have := HLR.out; omega
              case nb3 =>
                intro A' N c' w7 hN ho7 _ hf7 hs7
                subst hN
                have hal : Fr no w5 ((w5.alloc (.cells #[.int .u8 jk, .bool jb, .int .i64 ji, .string jt, .slice JB jbn jbc, .slice JL jln jlc, .slice JF jfn jfc] 27)).alloc (.cells #[.string ⟨t.toArray⟩, .int .u8 jk, .bool jb, .int .i64 ji, .string jt, .slice JB jbn jbc, .slice JL jln jlc, .slice JF jfn jfc] 87)) := ((Fr.refl no w5).alloc _).alloc _
                have HAL := Lib.hid hal; clear hal
                have hrow := F_row (m0 := w.heap.size + 1) (A := A) (n := ys.length) (c := c) HG.out.row (fun k hk => by have h1 := HPM.out; have hk : k = p := hk; omega) (Nat.le_refl _) F5.out HAL.out hf7 HG.out.own
                obtain ⟨q0, q1, q2, q3, q4, q5, q6, qz, ql⟩ := seven_cells hrow
                have HFW := Lib.hid (F_fr (v := .slice A' (ys.length + 1) c') (m0 := w.heap.size + 1) HFR.out F5.out HAL.out hf7 (Nat.le_succ w.heap.size) (Nat.le_refl _) HG.out.own)
                have hzw := ((hf7.heap (HAL.out.heap (F5.out.heap HZR.out (fun h => by have h1 := HPM.out; have h : w.heap.size = p := h; omega)) (fun h => h)) (fun h => by have := HG.out.own _ h; omega)))
                have HZW := Lib.hid ((Fr.setCell (Fr.refl (fun k => k = w.heap.size + 1) w7) ⟨w.heap.size + 1, 6, none⟩ (.slice A' (ys.length + 1) c') (fun _ => rfl)).heap hzw (fun h => by have h : w.heap.size = w.heap.size + 1 := h; omega))
                have hst := HG.out.lose (n' := ys.length + 1) (A' := A') (c' := c') KK.out (Nat.le_trans hm (Nat.le_succ _)) (Nat.le_refl _) F5.out HR5.out HLO.out HDC.out HAL.out hf7
                have HST := Lib.hid hst
                clear hst ho7 hf7 hs7 hrow hzw
                go_wp2
                go_roundw
                case rel => exact ⟨i + 1, k, by have := HK.out; omega, by rw [HWI.out], HFW.out, HZW.out, .inr ⟨A', _, c', HST.out⟩⟩
                case measure => rw [HWI.out]; have := HK.out; simp only [intOf, Int.toNat_natCast]; omega
      · obtain ⟨s, b, h1, h2⟩ := hb.rd
        have h3 := dx_lost h1 h2
        have HFR := Lib.hid hfr; have HZR := Lib.hid hzr; have HBD := Lib.hid hb; have HR := Lib.hid h1; have HLO := Lib.hid h2; have HBR := Lib.hid hb.row
        obtain ⟨c0, c1, c2, c3, cf, cl⟩ := four_cells h1.rx.1
        have hne : ((s.e : Int) == 0) = false := by rw [beq_eq_false_iff_ne]; omega
        obtain ⟨q0, q1, q2, q3, q4, q5, q6, qz, ql⟩ := seven_cells HBR.out
        obtain ⟨z0, z1, z2, z3, z4, z5, z6, zz, zl⟩ := seven_cells HZR.out
        clear hfr hzr hb h1 h2 h3 c0 c1 c3
        by_cases hmt : mt = 0
        · subst hmt
          obtain rfl : i = n := by omega
          clear hmn
          go_wp2
          have hp0 := Fr.refl (fun k => k = w.heap.size ∨ k = w.heap.size + 1) wr
          have hz0 := HZR.out
          have hv0 := HBR.out
          have hset := set7_row (a := .int .u8 7) (b := .bool false) (c := .int .i64 0) (d := .string ⟨#[]⟩) (e := .slice none 0 0) (f := .slice none 0 0) (h := .slice A k0 c) hz0
          have hsf := hp0.trans (set7_fr _ w.heap.size (.int .u8 7) (.bool false) (.int .i64 0) (.string ⟨#[]⟩) (.slice none 0 0) (.slice none 0 0) (.slice A k0 c)) (fun _ _ h => .inl h)
          unfold set7 at hset hsf
          refine bodyPost_ret (results_cell_row (P := Tryz.prog) rfl _ _ w.heap.size 27 _ (0, 0) _ rfl hset Tryz.underlying27 rfl (by kernel_rfl)) rfl ?_
          exact dbad KK.out (by rw [ddc8, HV.out]; simp only; rw [HBD.out.dl]; rfl) form_any HR.out HLO.out HFR.out hsf (fun k h => by rcases h with h | h <;> omega) hm
        · have hlt : (i : Int) < (n : Int) := by omega
          clear hmt hmn
          go_wp2
          have hp0 := Fr.refl (fun k => k = w.heap.size ∨ k = w.heap.size + 1) wr
          have hz0 := HZR.out
          have hv0 := HBR.out
          have hset := set7_row (a := .int .u8 7) (b := .bool false) (c := .int .i64 0) (d := .string ⟨#[]⟩) (e := .slice none 0 0) (f := .slice none 0 0) (h := .slice A k0 c) hz0
          have hsf := hp0.trans (set7_fr _ w.heap.size (.int .u8 7) (.bool false) (.int .i64 0) (.string ⟨#[]⟩) (.slice none 0 0) (.slice none 0 0) (.slice A k0 c)) (fun _ _ h => .inl h)
          unfold set7 at hset hsf
          refine bodyPost_ret (results_cell_row (P := Tryz.prog) rfl _ _ w.heap.size 27 _ (0, 0) _ rfl hset Tryz.underlying27 rfl (by kernel_rfl)) rfl ?_
          exact dbad KK.out (by rw [ddc8, HV.out]; simp only; rw [HBD.out.dl]; rfl) form_any HR.out HLO.out HFR.out hsf (fun k h => by rcases h with h | h <;> omega) hm

theorem rval_any (m p : Nat) (sv : Value) (l : List UInt8) (hl : l.length ≤ 1000000) : ∀ (d : Nat) (_ : d ≤ 9) (w : World) (s : RS) (r : List UInt8), Dx m p sv l w s false → RS.On l s r → m ≤ w.heap.size →
    Calls Tryz.prog 62 #[.pointer (some ⟨p, 0, none⟩), .int .i64 (d : Nat)] w fun e w' => DOut l (At p) (Dx m p sv l) d r w e w' := by
  intro d
  induction d with
  | zero => intro _ w s r h ho hm; exact rval_zero m p sv l w s r h hm
  | succ d ih =>
    intro hd w s r h ho hm
    cases r with
    | nil => exact rval_nil d m p sv l w s h ho hm
    | cons c r =>
      by_cases h1 : c = 1
      · subst h1; exact rval_null d m p sv l w s r h ho hm
      by_cases h2 : c = 2
      · subst h2; exact rval_no d m p sv l w s r h ho hm
      by_cases h3 : c = 3
      · subst h3; exact rval_yes d m p sv l w s r h ho hm
      by_cases h4 : c = 4
      · subst h4; exact rval_int d m p sv l w s r h ho hm
      by_cases h5 : c = 5
      · subst h5; exact rval_text d m p sv l w s r h ho hm
      by_cases h6 : c = 6
      · subst h6; exact rval_raw d m p sv l w s r h ho hm
      by_cases h7 : c = 7
      · subst h7; exact rval_list d m p sv l w s (by omega) hl r (ih (by omega)) h ho hm
      by_cases h8 : c = 8
      · subst h8; exact rval_flds d m p sv l w s (by omega) hl r (ih (by omega)) h ho hm
      exact rval_other d m p sv l w s c r ⟨h1, h2, h3, h4, h5, h6, h7, h8⟩ h ho hm
end Go.Proofs.YtijcleiekafoiaaGreatDoor

/- codicilref03.kids, deep, parts. -/
namespace Go.Proofs.YtijcleiekafoiaaGreatDoor
open Go.RowKit
open Tr

theorem parts_kids (x : Tr Mm) : parts x = 1 + (x.kids.map parts).sum := by
  unfold parts
  rw [pre_eq, List.length_cons, Nat.add_comm]
  congr 1
  rw [List.length_flatMap]
  congr 1
  exact List.map_congr_left (fun y _ => pre_len 2 1 y)
theorem parts_pos (x : Tr Mm) : 1 ≤ parts x := by rw [parts_kids]; omega
theorem sum_ge {α : Type} {f : α → Nat} {l : List α} (h : ∀ y ∈ l, 1 ≤ f y) : l.length ≤ (l.map f).sum := by
  induction l with
  | nil => simp
  | cons a l ih =>
    have h1 := h a (.head _)
    have h2 := ih (fun y hy => h y (.tail _ hy))
    simp only [List.length_cons, List.map_cons, List.sum_cons]
    omega
theorem sum_mem {α : Type} {f : α → Nat} {l : List α} {y : α} (h : y ∈ l) : f y ≤ (l.map f).sum := by
  induction l with
  | nil => cases h
  | cons a l ih =>
    simp only [List.map_cons, List.sum_cons]
    rcases List.mem_cons.1 h with rfl | h
    · omega
    · have := ih h; omega
theorem kids_le (x : Tr Mm) : x.kids.length ≤ parts x := by
  have := sum_ge (f := parts) (l := x.kids) (fun y _ => parts_pos y)
  rw [parts_kids]; omega
theorem parts_kid {x y : Tr Mm} (h : y ∈ x.kids) : parts y ≤ parts x := by
  have := sum_mem (f := parts) h
  rw [parts_kids x]; omega

set_option maxRecDepth 100000 in
set_option maxHeartbeats 4000000 in
theorem kids3_any (w : World) (x : Tr Mm) (hx : Tr.Good w x) (hp : parts x ≤ 1000000) : Calls Tryz.prog 117 #[x.agg] w fun e w' => ∃ A c, e = .returned (.slice A x.kids.length c) ∧ In w' (.slice A x.kids.length c) x.kids ∧ Fr no w w' := by
  obtain ⟨BA, bc, LA, lc, FA, fc, hf⟩ := hx.node.forms
  have hkl := kids_le x
  have hkk : x.kids.length = x.l.length + x.f.length := by unfold kids; rw [List.length_append, List.length_map]
  have hL := hx.inL; have hF := hx.inF
  rw [hf.agg]
  rw [hf.L] at hL; rw [hf.F] at hF
  have hlf : x.l.length + x.f.length ≤ 1000000 := by omega
  have HX := Lib.hid hx; have HL := Lib.hid hL; have HF := Lib.hid hF; have HKK := Lib.hid hkk
  clear hx hf hL hF hkl hkk hp
  go_enter Tryz.func117, Tryz.ntmps117
  have fz : Fr no w (w.alloc (.cells #[.int .u8 x.k.toNat, .bool x.b, .int .i64 x.i, .string ⟨x.t.toArray⟩, .slice BA x.bs.length bc, .slice LA x.l.length lc, .slice FA x.f.length fc] 27)) := (Fr.refl no w).alloc _
  have hb0 := heap_alloc_new w (.cells #[.int .u8 x.k.toNat, .bool x.b, .int .i64 x.i, .string ⟨x.t.toArray⟩, .slice BA x.bs.length bc, .slice LA x.l.length lc, .slice FA x.f.length fc] 27)
  have FZ := Lib.hid fz; have HB0 := Lib.hid hb0
  clear fz hb0
  go_wp2_with (at_builtin; refine wpList_apo (n := 0) (xs := []) (m := x.l.length) (news := x.l.flatMap cells) rfl (.tmp 5) (.tmp 7) 24 rfl tbV (ow_none _ _ _) (HL.out.kept0 FZ.out).sl rfl rfl (cells_one x.l (fun y hy => (HL.out.good y hy).node.forms)) ?b1 ?b2 ?go)
  case b1 => simp only [maxLen]; omega
  case b2 => omega
  case go =>
    intro P N pc w2 hN ho2 _ hf2 hs2
    obtain rfl : N = x.l.length := by omega
    have f2 : Fr no w w2 := FZ.out.trans hf2 (fun _ _ h => nomatch h)
    have hb2 := hf2.heap HB0.out (fun h => nomatch h)
    have hnew : ∀ k, Value.ownBlock (.slice P x.l.length pc) = some k → w.heap.size < k := fun k hk => by
      rcases stays_own hs2 k hk with h | h
      · cases h
      · rw [World.size_alloc] at h; omega
    have F2 := Lib.hid f2; have HB2 := Lib.hid hb2; have HO2 := Lib.hid ho2; have HN2 := Lib.hid hnew
    clear f2 hf2 hb2 ho2 hs2 hnew
    go_wp2
    go_loopw [3, 4] (fun ov iv wr => ∃ (j : Nat) (O : Option Addr) (oc : Nat), j ≤ x.f.length ∧ iv = .int .i64 (j : Int) ∧ ov = .slice O (x.l.length + j) oc ∧ Ow wr 27 7 (.slice O (x.l.length + j) oc) (x.l.length + j) ((x.l ++ (x.f.take j).map Prod.snd).flatMap cells) ∧ (∀ k, Value.ownBlock (.slice O (x.l.length + j) oc) = some k → w.heap.size < k) ∧ Fr no w wr ∧
      wr.heap[w.heap.size]? = some (.cells #[.int .u8 x.k.toNat, .bool x.b, .int .i64 x.i, .string ⟨x.t.toArray⟩, .slice BA x.bs.length bc, .slice LA x.l.length lc, .slice FA x.f.length fc] 27 (0, 0))) (fun _ iv _ => x.f.length - (intOf iv).toNat)
    case atStart => exact ⟨0, P, pc, Nat.zero_le _, rfl, rfl, by simpa using HO2.out, HN2.out, F2.out, HB2.out⟩
    case round =>
      obtain ⟨j, O, oc, hj, rfl, rfl, how, hon, hfr, hbr⟩ := hrel
      obtain ⟨q0, q1, q2, q3, q4, q5, q6, qz, ql⟩ := seven_cells hbr
      have HOW := Lib.hid how; have HON := Lib.hid hon; have FR := Lib.hid hfr; have HBR := Lib.hid hbr
      clear how hon hfr hbr
      by_cases hlt : j < x.f.length
      · have hFr := HF.out.kept0 FR.out
        obtain ⟨b, o, KB, kb, KL, kl, KF, kf, rfl, hfj, n0, r0, r1, r2, r3, r4, r5, r6, rl⟩ := InF.get hFr j hlt
        have hcl : x.f[j].2.cells = [.int .u8 x.f[j].2.k.toNat, .bool x.f[j].2.b, .int .i64 x.f[j].2.i, .string ⟨x.f[j].2.t.toArray⟩, .slice KB x.f[j].2.bs.length kb, .slice KL x.f[j].2.l.length kl, .slice KF x.f[j].2.f.length kf] := by unfold cells; rw [hfj.B, hfj.L, hfj.F]
        have hal := (Fr.refl no wr).alloc (.cells #[.int .u8 x.f[j].2.k.toNat, .bool x.f[j].2.b, .int .i64 x.f[j].2.i, .string ⟨x.f[j].2.t.toArray⟩, .slice KB x.f[j].2.bs.length kb, .slice KL x.f[j].2.l.length kl, .slice KF x.f[j].2.f.length kf] 27)
        have hbx := built7 wr (.int .u8 x.f[j].2.k.toNat) (.bool x.f[j].2.b) (.int .i64 x.f[j].2.i) (.string ⟨x.f[j].2.t.toArray⟩) (.slice KB x.f[j].2.bs.length kb) (.slice KL x.f[j].2.l.length kl) (.slice KF x.f[j].2.f.length kf) 27
        have HAL := Lib.hid hal; have HBX := Lib.hid hbx; have HCL := Lib.hid hcl
        clear hfj hFr hal hbx hcl
        go_wp2_with (at_builtin; refine wpList_apo (n := x.l.length + j) (xs := (x.l ++ (x.f.take j).map Prod.snd).flatMap cells) (m := 1) (news := [.int .u8 x.f[j].2.k.toNat, .bool x.f[j].2.b, .int .i64 x.f[j].2.i, .string ⟨x.f[j].2.t.toArray⟩, .slice KB x.f[j].2.bs.length kb, .slice KL x.f[j].2.l.length kl, .slice KF x.f[j].2.f.length kf]) rfl (.tmp 16) (.tmp 23) 24 rfl tbV (HOW.out.kept0 HAL.out) HBX.out rfl rfl (by intro u hu; simp only [List.mem_cons, List.not_mem_nil, or_false] at hu; rcases hu with rfl | rfl | rfl | rfl | rfl | rfl | rfl <;> rfl) ?c1 ?c2 ?go2)
        case c1 => simp only [maxLen]; omega
        case c2 => omega
        case go2 =>
          intro A' N c' w7 hN ho7 _ hf7 hs7
          obtain rfl : N = x.l.length + (j + 1) := by omega
          have fr7 : Fr no w w7 := (FR.out.trans HAL.out (fun _ _ h => h)).trans hf7 (fun k hk h => by have := HON.out k h; omega)
          have hb7 := hf7.heap (HAL.out.heap HBR.out (fun h => h)) (fun h => by have := HON.out _ h; omega)
          have hn7 : ∀ k, Value.ownBlock (.slice A' (x.l.length + (j + 1)) c') = some k → w.heap.size < k := fun k hk => by
            rcases stays_own hs7 k hk with h | h
            · exact HON.out k h
            · have h1 := FR.out.size; have h2 := (Array.getElem?_eq_some_iff.1 HBR.out).1; have h3 := HAL.out.size; omega
          have ho8 : Ow w7 27 7 (.slice A' (x.l.length + (j + 1)) c') (x.l.length + (j + 1)) ((x.l ++ (x.f.take (j + 1)).map Prod.snd).flatMap cells) := by
            rw [List.take_succ_eq_append_getElem hlt, List.map_append, ← List.append_assoc, List.flatMap_append, List.map_singleton, List.flatMap_singleton, HCL.out]
            simpa [List.flatMap_append, List.map_take, List.append_assoc] using ho7
          have F7 := Lib.hid fr7; have HB7 := Lib.hid hb7; have HN7 := Lib.hid hn7; have HO8 := Lib.hid ho8
          clear fr7 hb7 hn7 ho8 ho7 hf7 hs7 hN
          go_wp2
          go_roundw
          case rel => exact ⟨j + 1, A', c', by omega, by go_num, rfl, HO8.out, HN7.out, F7.out, HB7.out⟩
          case measure => simp [intOf]; omega
      · obtain rfl : j = x.f.length := by omega
        have hin : In wr (.slice O x.kids.length oc) x.kids := by
          refine ⟨?_, fun z hz => (HX.out.kids z hz).kept0 FR.out, by rw [HKK.out]; simp only [reachBytes]; omega, by rw [HKK.out]; simp only [reachBytes]; omega⟩
          have h := HOW.out.sl
          rw [List.take_length] at h
          rw [HKK.out]
          exact h
        have HIN := Lib.hid hin
        clear hin
        go_wp2
        go_ret
        exact ⟨O, oc, by rw [HKK.out]; rfl, HIN.out, FR.out⟩
end Go.Proofs.YtijcleiekafoiaaGreatDoor
