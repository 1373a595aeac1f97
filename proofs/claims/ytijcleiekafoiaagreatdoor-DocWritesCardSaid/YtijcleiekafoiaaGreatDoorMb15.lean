import Derived.Test.YtijcleiekafoiaaGreatDoorMb14
import Derived.Test.YtijcleiekafoiaaGreatDoorMb03
import Derived.Test.YtijcleiekafoiaaGreatDoorMb09
import Derived.Test.YtijcleiekafoiaaGreatDoorProg
import Derived.Test.YtijcleiekafoiaaGreatDoorMb02
import Derived.KernelRfl
import Derived.Lib.Hide
import Derived.Deep.QuietTactic
import Derived.BigQuiet
import Derived.Test.YtijcleiekafoiaaGreatDoorMb10
import Derived.Test.YtijcleiekafoiaaGreatDoorMb06

/- doc.Decode. Printed by mkddec.py. -/
namespace Go.Proofs.YtijcleiekafoiaaGreatDoor
open Go.RowKit
open Tr

theorem results_cell_row2 {P : Program} {fn : Func} {p u : Tmp} {ty : TypeId} (h : fn.results = #[.cell p ty, .tmp u]) (tmps : Array Value) (w : World) (g : Nat) (t : TypeId) (cs : Array Value) (fr : Nat × Nat) (d : TypeDesc)
    (hp : tmps.getD p undef = .pointer (some ⟨g, 0, none⟩)) (hg : w.heap[g]? = some (.cells cs t fr))
    (hu : P.underlying ty = some d) (hd : (match d with | .struct _ | .array _ _ => true | _ => false) = true) (hi : (P.info? ty).map (·.size) = some cs.size) :
    (results fn tmps).run P w = .ok (.tuple #[.agg cs, tmps.getD u undef]) w := by
  rw [results_cell_tmp h, hp]
  simp [asAddr, run_loadVar_row w g t ty cs fr d hg hu hd hi, Result.andThen]

/-- No value. -/
def zeroM : Tr Mm := .mk 0 false 0 [] [] nil3 [] []
theorem zero_good (w : World) : Tr.Good w zeroM := good_leaf w ⟨by decide, by decide⟩ (by simp)
theorem zero_bare : bare zeroM = only 0 := bare_leaf2
theorem zero_parts : parts zeroM ≤ 512 := by
  unfold parts
  rw [pre_eq, show zeroM.kids = [] from rfl]
  decide
/-- What bytes are, if a value. -/
def docDec (b : List UInt8) : Option (Tr Unit) := if 8192 < b.length then none else match ddec 9 b with | some (x, []) => if check x = 0 then some x else none | _ => none
def docVal (b : List UInt8) : Tr Unit := (docDec b).getD (only 0)
def docCode (b : List UInt8) : Nat := match docDec b with | some _ => 0 | none => 50
theorem docDec_some {b : List UInt8} {x : Tr Unit} (h : docDec b = some x) : b.length ≤ 8192 ∧ ddec 9 b = some (x, []) ∧ check x = 0 := by
  unfold docDec at h
  split at h
  · cases h
  · rename_i hn
    split at h
    · rename_i y he
      split at h
      · rename_i hc
        cases h
        exact ⟨by omega, he, hc⟩
      · cases h
    · cases h
/-- What Decode says. -/
def DecOut (b : List UInt8) (w : World) (e : Ending) (w' : World) : Prop :=
  Fr no w w' ∧ ∃ y : Tr Mm, e = .returned (.tuple #[y.agg, .int .u16 (docCode b)]) ∧ bare y = docVal b ∧ Tr.Own w' y ∧ Tr.Good w' y ∧ (∀ k, Blk y k → w.heap.size ≤ k) ∧ parts y ≤ 512
theorem dec_bad {b : List UInt8} {w w1 wz : World} (hd : docDec b = none) (hfr : Fr no w w1) (hz : Fr (fun k => k = w.heap.size) w1 wz) : DecOut b w (.returned (.tuple #[.agg #[.int .u8 0, .bool false, .int .i64 0, .string ⟨#[]⟩, .slice none 0 0, .slice none 0 0, .slice none 0 0], .int .u16 50])) wz := by
  refine ⟨hfr.trans hz (fun k hk h => by have h : k = w.heap.size := h; omega), zeroM, ?_, ?_, own_leaf _ _ _ _ _, zero_good _, fun k h => (blk_leaf h).elim, zero_parts⟩
  · unfold docCode; rw [hd]; rfl
  · unfold docVal; rw [hd]; exact zero_bare
theorem dec_none {b : List UInt8} (h : ddec 9 b = none) : docDec b = none := by
  unfold docDec
  rw [h]
  split <;> rfl
theorem dec_rest {b r : List UInt8} {x : Tr Unit} (h : ddec 9 b = some (x, r)) (hr : r ≠ []) : docDec b = none := by
  unfold docDec
  rw [h]
  cases r with
  | nil => exact absurd rfl hr
  | cons c r => split <;> rfl
theorem dec_chk {b : List UInt8} {x : Tr Unit} (h : ddec 9 b = some (x, [])) (hc : check x ≠ 0) : docDec b = none := by
  unfold docDec
  rw [h]
  simp only [if_neg hc]
  split <;> rfl
theorem dec_yes {b : List UInt8} {x : Tr Unit} (hb : ¬ 8192 < b.length) (h : ddec 9 b = some (x, [])) (hc : check x = 0) : docDec b = some x := by
  unfold docDec
  rw [h, if_neg hb]
  simp only [if_pos hc]
theorem last_yes {l : List UInt8} {s : RS} (h : RS.On l s []) : s.last l = 0 := by
  unfold RS.last
  have := h.len; have := h.p
  simp only [List.length_nil] at *
  rw [if_neg (by omega), h.e]
theorem last_no {l r : List UInt8} {s : RS} (h : RS.On l s r) (hr : r ≠ []) : s.last l = 21 := by
  unfold RS.last
  have h1 := h.len; have h2 := h.p
  have h3 : 0 < r.length := by cases r with | nil => exact absurd rfl hr | cons c r => simp
  rw [if_pos ⟨h.e, by omega⟩]
theorem last_lost {l : List UInt8} {s : RS} (h : s.e ≠ 0) : s.last l = s.e := by
  unfold RS.last
  rw [if_neg (fun h1 => h h1.1)]

set_option maxRecDepth 100000 in
set_option maxHeartbeats 4000000 in
theorem docdec_any (w : World) (X : Value) (b : List UInt8) (hx : Sl w 1 X b.length (bvs b)) (hl : b.length ≤ 140737488351232) (hT : Tabs w) :
    Calls Tryz.prog 17 #[X] w fun e w' => DecOut b w e w' := by
  obtain ⟨XA, xc, rfl, _, _⟩ := hx.form
  have HX := Lib.hid hx; have HT := Lib.hid hT
  clear hx hT
  have hr0 := heap_alloc_new w (.cells #[.int .u8 0, .bool false, .int .i64 0, .string ⟨#[]⟩, .slice none 0 0, .slice none 0 0, .slice none 0 0] 27)
  have hal := (Fr.refl no w).alloc (.cells #[.int .u8 0, .bool false, .int .i64 0, .string ⟨#[]⟩, .slice none 0 0, .slice none 0 0, .slice none 0 0] 27)
  by_cases hb : 8192 < b.length
  · have hdn : docDec b = none := by unfold docDec; rw [if_pos hb]
    have hbi : (8192 : Int) < (b.length : Int) := by omega
    have HDN := Lib.hid hdn; have HR0 := Lib.hid hr0; have HAL := Lib.hid hal
    clear hdn hr0 hal
    go_enter Tryz.func17, Tryz.ntmps17
    go_wp2
    refine bodyPost_ret (results_cell_row2 (P := Tryz.prog) rfl _ _ w.heap.size 27 _ (0, 0) _ rfl HR0.out Tryz.underlying27 rfl (by kernel_rfl)) rfl ?_
    exact dec_bad HDN.out HAL.out (Fr.refl _ _)
  · have hbi : ¬ (8192 : Int) < (b.length : Int) := by omega
    go_enter Tryz.func17, Tryz.ntmps17
    go_wp2_with fail
    generalize w.alloc (.cells #[.int .u8 0, .bool false, .int .i64 0, .string ⟨#[]⟩, .slice none 0 0, .slice none 0 0, .slice none 0 0] 27) = w0 at hr0 hal ⊢
    have HR0 := Lib.hid hr0; have HAL := Lib.hid hal
    clear hr0 hal
    refine (read_any w0 _ b (HX.out.kept0 HAL.out) hl).mono ?_
    rintro e w1 ⟨p, sv, rfl, hrr, hp, hsv, f1⟩
    have hr1 := f1.heap HR0.out (fun h => h)
    have h0l : w.heap.size < w0.heap.size := (Array.getElem?_eq_some_iff.1 HR0.out).1
    have hpl : p < w1.heap.size := (four_cells hrr.1).2.2.2.2.2
    have hrq := heap_alloc_new w1 (.cells #[.pointer (some ⟨p, 0, none⟩), .bool false] 115)
    have hal1 := (Fr.refl no w1).alloc (.cells #[.pointer (some ⟨p, 0, none⟩), .bool false] 115)
    have hszq : (w1.alloc (.cells #[.pointer (some ⟨p, 0, none⟩), .bool false] 115)).heap.size = w1.heap.size + 1 := World.size_alloc _ _
    have HRR := Lib.hid hrr; have HSV := Lib.hid hsv; have F1 := Lib.hid (HAL.out.trans f1 (fun _ _ h => h)); have HR1 := Lib.hid hr1; have HSZ := Lib.hid (And.intro h0l (And.intro hp (And.intro hpl f1.size)))
    clear hrr hsv f1 hr1 h0l hp hpl
    go_wp2_with fail
    generalize w1.alloc (.cells #[.pointer (some ⟨p, 0, none⟩), .bool false] 115) = w2 at hrq hal1 hszq ⊢
    have hdr : Dr w2.heap.size w1.heap.size p sv b w2 ⟨0, 0, 0⟩ false := ⟨hrq, HRR.out.kept hal1 (fun h => h) (fun _ _ h => h), by have := HSZ.out; omega, by omega, by have := HSZ.out; omega, fun k hk => by have h1 := (HSV.out k hk).2; exact ⟨by omega, by omega⟩⟩
    have hon : RS.On b ⟨0, 0, 0⟩ b := ⟨rfl, Nat.zero_le _, rfl⟩
    have hcall := dval_any w2.heap.size w1.heap.size p sv b (by omega) 9 (by omega) w2 _ b hdr hon (Nat.le_refl _)
    have HC := Lib.hid hcall; have F2 := Lib.hid (F1.out.trans hal1 (fun _ _ h => h)); have HR2 := Lib.hid (hal1.heap HR1.out (fun h => h)); have HQ := Lib.hid hszq
    clear hcall hon hdr hrq hal1 hszq HR1
    refine HC.out.mono ?_
    clear HC
    rintro e w3 ⟨f3, hcase⟩
    have hS : ∀ k, Qp w1.heap.size p k → w.heap.size < k := fun k hk => by have h := HSZ.out; rcases hk with h1 | h1 <;> omega
    have F3 := Lib.hid (Fr.since F2.out f3 (fun k hk => Nat.le_of_lt (hS k hk)) : Fr no w w3)
    have HR3 := Lib.hid (f3.heap HR2.out (fun h => by have := hS _ h; omega))
    have HW23 := Lib.hid f3.size
    clear f3 hS HR2
    rcases hcase with ⟨x, r, s, hdc, rfl, hh, hbk, hdr, hon⟩ | ⟨hdc, ⟨jk, jb, ji, jt, JB, jbn, jbc, JL, jln, jlc, JF, jfn, jfc, rfl⟩, s, bad, hdr, hlo⟩
    · have hds := ddec_some 9 _ _ _ hdc
      have hgx := held_good (N := 1000000) (by omega) x hds.2.1 (by have h1 := congrArg List.length hds.1; simp only [List.length_append] at h1; omega) hh
      obtain ⟨XB, xb, XL, xl, XF, xf, hfx⟩ := hgx.node.forms
      have hag := hfx.agg
      have hchk := fun W (f : Fr no w3 W) => check_any W x (hgx.kept0 f) (HT.out.kept0 (F3.out.trans f (fun _ _ h => h)))
      have hcl := fun W (f : Fr no w3 W) => clone_any x W (hgx.kept0 f)
      rw [hag] at hchk hcl ⊢
      have hal := (Fr.refl no w3).alloc (.cells #[.int .u8 x.k.toNat, .bool x.b, .int .i64 x.i, .string ⟨x.t.toArray⟩, .slice XB x.bs.length xb, .slice XL x.l.length xl, .slice XF x.f.length xf] 27)
      have hrv := heap_alloc_new w3 (.cells #[.int .u8 x.k.toNat, .bool x.b, .int .i64 x.i, .string ⟨x.t.toArray⟩, .slice XB x.bs.length xb, .slice XL x.l.length xl, .slice XF x.f.length xf] 27)
      have HCHK := Lib.hid hchk; have HCL := Lib.hid hcl; have HGX := Lib.hid hgx; have HDR := Lib.hid hdr; have HON := Lib.hid hon; have HDC := Lib.hid hdc; have HPL := Lib.hid (check_le x)
      clear hdc hds hgx hfx hag hchk hcl hdr hon hh hbk
      obtain ⟨y0, y1, yz, yl⟩ := pair_cells HDR.out.row
      go_wp2_with fail
      generalize w3.alloc (.cells #[.int .u8 x.k.toNat, .bool x.b, .int .i64 x.i, .string ⟨x.t.toArray⟩, .slice XB x.bs.length xb, .slice XL x.l.length xl, .slice XF x.f.length xf] 27) = w4 at hal hrv ⊢
      have HD4 := Lib.hid (HDR.out.kept0 hal); have HAL4 := Lib.hid hal; have HRV := Lib.hid hrv; have HR4 := Lib.hid (hal.heap HR3.out (fun h => h))
      clear hal hrv HDR
      refine (end_any p w4 sv b s HD4.out.rr).mono ?_
      rintro e w5 ⟨rfl, n5, hw5⟩
      have f5 : Fr no w4 w5 := by rw [hw5]; exact Fr.drewN _ _ _
      have F35 := Lib.hid (HAL4.out.trans f5 (fun _ _ h => h)); have HR5 := Lib.hid (f5.heap HR4.out (fun h => h)); have HRV5 := Lib.hid (f5.heap HRV.out (fun h => h))
      clear hw5 f5 y0 y1 yz yl HD4
      by_cases hrn : r = []
      · subst hrn
        rw [last_yes HON.out]
        obtain ⟨v0, v1, v2, v3, v4, v5, v6, vz, vl⟩ := seven_cells HRV5.out
        rw [show ((0 : Nat) : Int) = 0 from rfl]
        go_wp2_with fail
        refine (HCHK.out w5 F35.out).mono ?_
        rintro e w6 ⟨rfl, f6⟩
        have F36 := Lib.hid (F35.out.trans f6 (fun _ _ h => h)); have HR6 := Lib.hid (f6.heap HR5.out (fun h => h)); have HRV6 := Lib.hid (f6.heap HRV5.out (fun h => h))
        clear f6 v0 v1 v2 v3 v4 v5 v6 vz vl
        obtain ⟨q0, q1, q2, q3, q4, q5, q6, qz, ql⟩ := seven_cells HR6.out
        by_cases hc : check x = 0
        · rw [hc, show ((0 : Nat) : Int) = 0 from rfl]
          obtain ⟨v0, v1, v2, v3, v4, v5, v6, vz, vl⟩ := seven_cells HRV6.out
          have hdy := dec_yes hb HDC.out (by rw [bare_check]; exact hc)
          have HDY := Lib.hid hdy; have HCC := Lib.hid hc
          clear hdy hc
          go_wp2_with fail
          refine (HCL.out w6 F36.out).mono ?_
          rintro e w7 ⟨y, rfl, hby, hoy, hky, f7⟩
          have hgy := hoy.good hby (HGX.out.kept0 (F36.out.trans f7 (fun _ _ h => h)))
          obtain ⟨YB, yb, YL, yl, YF, yf, hfy⟩ := hgy.node.forms
          have hag := hfy.agg
          rw [hag]
          have hr7 := f7.heap HR6.out (fun h => h)
          have hpy : parts y ≤ 512 := by
            have h1 := (check_zero.1 HCC.out).2.1
            rw [← bare_parts, hby, bare_parts]; exact h1
          have hsz6 : w.heap.size < w6.heap.size := (Array.getElem?_eq_some_iff.1 HR6.out).1
          have HOY := Lib.hid hoy; have HGY := Lib.hid hgy; have HBY := Lib.hid hby; have HKY := Lib.hid hky; have HAG := Lib.hid hag; have F7 := Lib.hid (F3.out.trans (F36.out.trans f7 (fun _ _ h => h)) (fun _ _ h => h)); have HR7 := Lib.hid hr7; have HPY := Lib.hid hpy; have HS6 := Lib.hid hsz6
          clear hoy hgy hby hky hag f7 hfy hpy hsz6 q0 q1 q2 q3 q4 q5 q6 qz ql v0 v1 v2 v3 v4 v5 v6 vz vl
          obtain ⟨q0, q1, q2, q3, q4, q5, q6, qz, ql⟩ := seven_cells hr7
          clear hr7
          go_wp2
          have hset := set7_row (a := .int .u8 y.k.toNat) (b := .bool y.b) (c := .int .i64 y.i) (d := .string ⟨y.t.toArray⟩) (e := .slice YB y.bs.length yb) (f := .slice YL y.l.length yl) (h := .slice YF y.f.length yf) HR7.out
          have hsf := set7_fr w7 w.heap.size (.int .u8 y.k.toNat) (.bool y.b) (.int .i64 y.i) (.string ⟨y.t.toArray⟩) (.slice YB y.bs.length yb) (.slice YL y.l.length yl) (.slice YF y.f.length yf)
          unfold set7 at hset hsf
          refine bodyPost_ret (results_cell_row2 (P := Tryz.prog) rfl _ _ w.heap.size 27 _ (0, 0) _ rfl hset Tryz.underlying27 rfl (by kernel_rfl)) rfl ?_
          have hnk : ∀ k, Blk y k → ¬ k = w.heap.size := fun k hk => by have := HKY.out k hk; have := HS6.out; omega
          have hoz := HOY.out.kept hsf hnk
          refine ⟨F7.out.trans hsf (fun k hk h => by have h : k = w.heap.size := h; omega), y, ?_, ?_, hoz, hoz.good rfl HGY.out, fun k hk => by have := HKY.out k hk; have := HS6.out; omega, HPY.out⟩
          · rw [HAG.out]; unfold docCode; rw [HDY.out]; rfl
          · unfold docVal; rw [HDY.out]; exact HBY.out
        · have hcn : ((check x : Nat) : Int) ≠ 0 := by omega
          have hdn : docDec b = none := dec_chk HDC.out (by rw [bare_check]; exact hc)
          obtain ⟨k, hk⟩ : ∃ k, k = check x := ⟨_, rfl⟩
          have hkl := HPL.out
          rw [← hk] at hcn hkl ⊢
          have HDN := Lib.hid hdn
          clear hdn hc hk
          have hb1 : ((k : Int) != 0) = true := by rw [bne_iff_ne]; exact hcn
          go_wp2
          have hrow := HR6.out
          have hp0 := Fr.refl (fun k => k = w.heap.size) w6
          have hset := set7_row (a := .int .u8 0) (b := .bool false) (c := .int .i64 0) (d := .string ⟨#[]⟩) (e := .slice none 0 0) (f := .slice none 0 0) (h := .slice none 0 0) hrow
          have hsf := hp0.trans (set7_fr _ w.heap.size (.int .u8 0) (.bool false) (.int .i64 0) (.string ⟨#[]⟩) (.slice none 0 0) (.slice none 0 0) (.slice none 0 0)) (fun _ _ h => h)
          unfold set7 at hset hsf
          try rw [Exit.noGoto_ret]
          refine bodyPost_ret (results_cell_row2 (P := Tryz.prog) rfl _ _ w.heap.size 27 _ (0, 0) _ rfl hset Tryz.underlying27 rfl (by kernel_rfl)) rfl ?_
          exact dec_bad (HDN.out) (F3.out.trans F36.out (fun _ _ h => h)) hsf
      · have hdn := dec_rest HDC.out hrn
        rw [last_no HON.out hrn]
        have HDN := Lib.hid hdn
        clear hdn hrn
        obtain ⟨q0, q1, q2, q3, q4, q5, q6, qz, ql⟩ := seven_cells HR5.out
        rw [show ((21 : Nat) : Int) = 21 from rfl]
        go_wp2
        have hrow := HR5.out
        have hp0 := Fr.refl (fun k => k = w.heap.size) w5
        have hset := set7_row (a := .int .u8 0) (b := .bool false) (c := .int .i64 0) (d := .string ⟨#[]⟩) (e := .slice none 0 0) (f := .slice none 0 0) (h := .slice none 0 0) hrow
        have hsf := hp0.trans (set7_fr _ w.heap.size (.int .u8 0) (.bool false) (.int .i64 0) (.string ⟨#[]⟩) (.slice none 0 0) (.slice none 0 0) (.slice none 0 0)) (fun _ _ h => h)
        unfold set7 at hset hsf
        try rw [Exit.noGoto_ret]
        refine bodyPost_ret (results_cell_row2 (P := Tryz.prog) rfl _ _ w.heap.size 27 _ (0, 0) _ rfl hset Tryz.underlying27 rfl (by kernel_rfl)) rfl ?_
        exact dec_bad (HDN.out) (F3.out.trans F35.out (fun _ _ h => h)) hsf
    · have hdn := dec_none hdc
      have hal := (Fr.refl no w3).alloc (.cells #[.int .u8 jk, .bool jb, .int .i64 ji, .string jt, .slice JB jbn jbc, .slice JL jln jlc, .slice JF jfn jfc] 27)
      have HDN := Lib.hid hdn; have HDR := Lib.hid hdr; have HLO := Lib.hid hlo
      clear hdn hdc hdr hlo
      have hr4 := hal.heap HR3.out (fun h => h)
      have hd4 := HDR.out.kept0 hal
      obtain ⟨y0, y1, yz, yl⟩ := pair_cells HDR.out.row
      obtain ⟨q0, q1, q2, q3, q4, q5, q6, qz, ql⟩ := seven_cells HR3.out
      cases bad with
      | true =>
        have HAL4 := Lib.hid hal; have HR4 := Lib.hid hr4
        clear hal hr4 hd4 HDR
        go_wp2
        have hset := set7_row (a := .int .u8 0) (b := .bool false) (c := .int .i64 0) (d := .string ⟨#[]⟩) (e := .slice none 0 0) (f := .slice none 0 0) (h := .slice none 0 0) HR3.out
        have hsf := set7_fr w3 w.heap.size (.int .u8 0) (.bool false) (.int .i64 0) (.string ⟨#[]⟩) (.slice none 0 0) (.slice none 0 0) (.slice none 0 0)
        unfold set7 at hset hsf
        have hset2 := ((Fr.refl no _).alloc (.cells #[.int .u8 jk, .bool jb, .int .i64 ji, .string jt, .slice JB jbn jbc, .slice JL jln jlc, .slice JF jfn jfc] 27)).heap hset (fun h => h)
        refine bodyPost_ret (results_cell_row2 (P := Tryz.prog) rfl _ _ w.heap.size 27 _ (0, 0) _ rfl hset2 Tryz.underlying27 rfl (by kernel_rfl)) rfl ?_
        exact dec_bad HDN.out F3.out (hsf.trans ((Fr.refl no _).alloc (.cells #[.int .u8 jk, .bool jb, .int .i64 ji, .string jt, .slice JB jbn jbc, .slice JL jln jlc, .slice JF jfn jfc] 27)) (fun _ _ h => h.elim))
      | false =>
        have he : s.e ≠ 0 := by
          rcases HLO.out with h | h
          · cases h
          · exact h
        have HAL4 := Lib.hid hal; have HR4 := Lib.hid hr4; have HD4 := Lib.hid hd4
        clear hal hr4 hd4 HDR q0 q1 q2 q3 q4 q5 q6 qz ql
        go_wp2_with fail
        generalize w3.alloc (.cells #[.int .u8 jk, .bool jb, .int .i64 ji, .string jt, .slice JB jbn jbc, .slice JL jln jlc, .slice JF jfn jfc] 27) = w4 at HAL4 HR4 HD4 ⊢
        refine (end_any p w4 sv b s HD4.out.rr).mono ?_
        rintro e w5 ⟨rfl, n5, hw5⟩
        have f5 : Fr no w4 w5 := by rw [hw5]; exact Fr.drewN _ _ _
        have F35 := Lib.hid (HAL4.out.trans f5 (fun _ _ h => h)); have HR5 := Lib.hid (f5.heap HR4.out (fun h => h))
        clear hw5 f5 y0 y1 yz yl HLO
        rw [last_lost he]
        have hb1 : ((s.e : Int) != 0) = true := by rw [bne_iff_ne]; omega
        clear he
        obtain ⟨q0, q1, q2, q3, q4, q5, q6, qz, ql⟩ := seven_cells HR5.out
        go_wp2
        have hrow := HR5.out
        have hp0 := Fr.refl (fun k => k = w.heap.size) w5
        have hset := set7_row (a := .int .u8 0) (b := .bool false) (c := .int .i64 0) (d := .string ⟨#[]⟩) (e := .slice none 0 0) (f := .slice none 0 0) (h := .slice none 0 0) hrow
        have hsf := hp0.trans (set7_fr _ w.heap.size (.int .u8 0) (.bool false) (.int .i64 0) (.string ⟨#[]⟩) (.slice none 0 0) (.slice none 0 0) (.slice none 0 0)) (fun _ _ h => h)
        unfold set7 at hset hsf
        try rw [Exit.noGoto_ret]
        refine bodyPost_ret (results_cell_row2 (P := Tryz.prog) rfl _ _ w.heap.size 27 _ (0, 0) _ rfl hset Tryz.underlying27 rfl (by kernel_rfl)) rfl ?_
        exact dec_bad (HDN.out) (F3.out.trans F35.out (fun _ _ h => h)) hsf
end Go.Proofs.YtijcleiekafoiaaGreatDoor

/- Two byte lists, compared. -/
namespace Go.Proofs.YtijcleiekafoiaaGreatDoor
open Go.RowKit

set_option maxRecDepth 100000 in
set_option maxHeartbeats 400000 in
theorem same_any (w : World) (x y : Value) (l k : List UInt8) (hx : Sl w 1 x l.length (bvs l)) (hy : Sl w 1 y k.length (bvs k)) (hl : l.length ≤ 140737488351232) (hk : k.length ≤ 140737488351232) :
    Calls Tryz.prog 14 #[x, y] w fun e w' => e = .returned (.bool (decide (l = k))) ∧ ∃ n, w' = w.drewN n := by
  obtain ⟨A, c, rfl, hc1, hc2⟩ := hx.form
  obtain ⟨B, d, rfl, hd1, hd2⟩ := hy.form
  have HX := Lib.hid hx; have HY := Lib.hid hy; clear hx hy
  by_cases hlen : l.length = k.length
  · have hb : ((l.length : Int) != (k.length : Int)) = false := by simp [hlen]
    have HLEN := Lib.hid hlen; clear hlen
    go_enter Tryz.func14, Tryz.ntmps14
    go_wp2
    go_loopw [5] (fun i wr => ∃ j n : Nat, j ≤ l.length ∧ i = .int .i64 j ∧ wr = w.drewN n ∧ l.take j = k.take j) (fun i _ => l.length - (intOf i).toNat)
    case atStart => exact ⟨0, 0, Nat.zero_le _, rfl, rfl, rfl⟩
    case round =>
      obtain ⟨j, n, hj, rfl, rfl, ht⟩ := hrel
      have HT := Lib.hid ht; clear ht
      by_cases hlt : j < l.length
      · have hlt2 : j < k.length := by have := HLEN.out; omega
        obtain ⟨b, o, rfl, h1⟩ := HX.out.byte j hlt
        obtain ⟨b2, o2, rfl, h2⟩ := HY.out.byte j hlt2
        have e1 : l.take (j + 1) = l.take j ++ [l[j]] := by rw [List.take_succ_eq_append_getElem hlt]
        have e2 : k.take (j + 1) = k.take j ++ [k[j]] := by rw [List.take_succ_eq_append_getElem hlt2]
        by_cases he : l[j] = k[j]
        · have e3 : l.take (j + 1) = k.take (j + 1) := by rw [e1, e2, HT.out, he]
          rw [← he] at h2
          have hb2 : ((l[j].toNat : Int) != (l[j].toNat : Int)) = false := by simp
          have HE := Lib.hid e3; clear e1 e2 e3 he
          go_wp2
          go_quiet (fail)
          go_wp2
          go_roundw
          case rel => exact ⟨j + 1, _, by omega, by go_num, rfl, HE.out⟩
          case measure => simp [intOf]; omega
        · have hb2 : ((l[j].toNat : Int) != (k[j].toNat : Int)) = true := by
            rw [bne_iff_ne]; intro h; exact he (UInt8.toNat_inj.1 (by omega))
          have hne : decide (l = k) = false := by
            rw [decide_eq_false_iff_not]; intro h; subst h; exact he rfl
          have HE := Lib.hid he; have HN := Lib.hid hne; clear e1 e2 he hne
          go_wp2
          go_quiet (fail)
          go_wp2
          go_ret
          exact ⟨by rw [HN.out]; rfl, _, World.drewN_drewN _ _ _⟩
      · go_wp2
        go_ret
        have e : l = k := by
          have h := HT.out
          rw [List.take_of_length_le (by omega), List.take_of_length_le (by have := HLEN.out; omega)] at h
          exact h
        exact ⟨by simp [e], n, rfl⟩
  · have hb : ((l.length : Int) != (k.length : Int)) = true := by rw [bne_iff_ne]; omega
    have hne : decide (l = k) = false := by
      rw [decide_eq_false_iff_not]; intro h; subst h; exact hlen rfl
    have HN := Lib.hid hne; clear hlen hne
    go_enter Tryz.func14, Tryz.ntmps14
    go_wp2
    go_ret
    exact ⟨by rw [HN.out]; rfl, 0, rfl⟩
end Go.Proofs.YtijcleiekafoiaaGreatDoor

/- SameValue, SameValues, SameFields: whether two values are the same. -/
namespace Go.Proofs.YtijcleiekafoiaaGreatDoor
open Go.RowKit
open Tr

/-- A bool that tells whether P. -/
def Tells (P : Prop) (w : World) (e : Ending) (w' : World) : Prop := (∃ v : Bool, e = .returned (.bool v) ∧ (v = true ↔ P)) ∧ Fr no w w'

/-- What the lists need of SameValue. -/
def SameV (x : Tr Mm) : Prop := ∀ (y : Tr Mm) (w : World), Tr.Good w x → Tr.Good w y → Calls Tryz.prog 21 #[x.agg, y.agg] w fun e w' => Tells (bare x = bare y) w e w'

theorem map_bare_ne {l k : List (Tr Mm)} {j : Nat} (h1 : j < l.length) (h2 : j < k.length) (h : bare l[j] ≠ bare k[j]) : ¬ l.map bare = k.map bare := fun e => h (by
  have := congrArg (fun t => t[j]?) e
  simp only [List.getElem?_map, List.getElem?_eq_getElem h1, List.getElem?_eq_getElem h2, Option.map_some, Option.some.injEq] at this
  exact this)

set_option maxRecDepth 100000 in
set_option maxHeartbeats 2000000 in
theorem samevs_of (l k : List (Tr Mm)) (ih : ∀ x ∈ l, SameV x) (w : World) (X Y : Value) (hx : In w X l) (hy : In w Y k) :
    Calls Tryz.prog 64 #[X, Y] w fun e w' => Tells (l.map bare = k.map bare) w e w' := by
  obtain ⟨A, c, rfl, hc1, hc2⟩ := hx.sl.form
  obtain ⟨B, d, rfl, hd1, hd2⟩ := hy.sl.form
  have hnl : l.length ≤ 140737488351232 := hx.n
  have hnk : k.length ≤ 140737488351232 := hy.n
  have HX := Lib.hid hx; have HY := Lib.hid hy; have IH := Lib.hid ih
  clear hx hy ih
  by_cases hlen : l.length = k.length
  · have hb : ((l.length : Int) != (k.length : Int)) = false := by simp [hlen]
    have HLEN := Lib.hid hlen; clear hlen
    go_enter Tryz.func64, Tryz.ntmps64
    go_wp2
    go_loopw [5] (fun i wr => ∃ j : Nat, j ≤ l.length ∧ i = .int .i64 j ∧ Fr no w wr ∧ (l.take j).map bare = (k.take j).map bare) (fun i _ => l.length - (intOf i).toNat)
    case atStart => exact ⟨0, Nat.zero_le _, rfl, Fr.refl _ _, rfl⟩
    case round =>
      obtain ⟨j, hj, rfl, hfr, ht⟩ := hrel
      have HT := Lib.hid ht; clear ht
      by_cases hlt : j < l.length
      · have hlt2 : j < k.length := by have := HLEN.out; omega
        have hX := HX.out.kept0 hfr
        have hY := HY.out.kept0 hfr
        obtain ⟨b, o, KB, kb, KL, kl, KF, kf, rfl, hfj, q0, q1, q2, q3, q4, q5, q6, hgl⟩ := In.get hX j hlt
        obtain ⟨b', o', LB, lb, LL, ll, LF, lf, rfl, hfj', r0, r1, r2, r3, r4, r5, r6, hgl'⟩ := In.get hY j hlt2
        have hcall := fun W (f : Fr no wr W) => IH.out l[j] (List.getElem_mem _) k[j] W ((hX.good _ (List.getElem_mem _)).kept0 f) ((hY.good _ (List.getElem_mem _)).kept0 f)
        rw [hfj.agg, hfj'.agg] at hcall
        have HC := Lib.hid hcall; have HFR := Lib.hid hfr
        clear hcall hfr hX hY hfj hfj'
        go_wp2_with fail
        refine wp_region_ord (List.range 10) (fun i => [Kd.p, Kd.p, Kd.p, Kd.l, Kd.p, Kd.p, Kd.p, Kd.l, Kd.g, Kd.p].getD i .e) (by kernel_rfl) (by kernel_rfl) ?_
        iterate 8
          first | refine wpX_pu rfl rfl rfl (by first | exact pu_move rfl | exact pu_assign rfl | exact pu_nilCheck rfl rfl | exact pu_binInt rfl rfl rfl | exact pu_conv rfl rfl (by kernel_rfl) | exact pu_fld rfl (by kernel_rfl) | exact pu_ix rfl rfl rfl (by kernel_rfl) | exact pu_unOp rfl | exact pu_binStr rfl rfl rfl | exact pu_len rfl rfl | exact pu_lens rfl rfl | exact pu_pick rfl | exact pu_slice rfl rfl) (fun K hK => ?_) | refine wpX_rd rfl rfl rfl (rd_load rfl) (fun K hK => ?_) | refine wpX_gr rfl rfl rfl (by first | exact gr_buildSlice rfl | exact gr_box rfl | exact gr_alloc rfl) (fun K hK => ?_) | refine wpX_ex rfl rfl rfl (fun K hK => ?_)
          try go_wp2
        refine wpX_ca rfl rfl rfl (fun K hK => ?_)
        go_wp2_with fail
        refine (HC.out _ (by (repeat first | exact Fr.refl _ _ | exact Fr.drewN _ _ _ | apply Fr.drew | apply Fr.alloc | apply Fr.setAt | apply Fr.moreN))).mono ?_
        rintro e w5 ⟨⟨v, rfl, hv⟩, fy⟩
        have FY0 := Lib.hid fy; have HV := Lib.hid hv; have FY := Lib.hid ((by (repeat first | exact Fr.refl _ _ | exact Fr.drewN _ _ _ | apply Fr.drew | apply Fr.alloc | apply Fr.setAt | apply Fr.moreN) : Fr no wr _).trans fy (fun _ _ h => h))
        clear hv fy
        go_wp2
        obtain ⟨⟨xa, xb⟩, hext⟩ := FY0.out.ext
        refine ⟨⟨xa, xb, hext⟩, hK _ _ ?_⟩
        clear hK K hext xa xb
        first | refine wpX_pu rfl rfl rfl (by first | exact pu_move rfl | exact pu_assign rfl | exact pu_nilCheck rfl rfl | exact pu_binInt rfl rfl rfl | exact pu_conv rfl rfl (by kernel_rfl) | exact pu_fld rfl (by kernel_rfl) | exact pu_ix rfl rfl rfl (by kernel_rfl) | exact pu_unOp rfl | exact pu_binStr rfl rfl rfl | exact pu_len rfl rfl | exact pu_lens rfl rfl | exact pu_pick rfl | exact pu_slice rfl rfl) (fun K hK => ?_) | refine wpX_rd rfl rfl rfl (rd_load rfl) (fun K hK => ?_) | refine wpX_gr rfl rfl rfl (by first | exact gr_buildSlice rfl | exact gr_box rfl | exact gr_alloc rfl) (fun K hK => ?_) | refine wpX_ex rfl rfl rfl (fun K hK => ?_)
        try go_wp2
        refine wpX_done ?_
        clear q0 q1 q2 q3 q4 q5 q6 r0 r1 r2 r3 r4 r5 r6 hgl hgl'
        cases v with
        | true =>
          have he := HV.out.1 rfl
          go_wp2
          go_roundw
          case rel => exact ⟨j + 1, by omega, by go_num, HFR.out.trans FY.out (fun _ _ h => h), by rw [List.take_succ_eq_append_getElem hlt, List.take_succ_eq_append_getElem hlt2, List.map_append, List.map_append, HT.out, List.map_singleton, List.map_singleton, he]⟩
          case measure => simp [intOf]; omega
        | false =>
          have he : ¬ bare l[j] = bare k[j] := fun h => by have := HV.out.2 h; cases this
          have HE := Lib.hid he; clear he
          go_wp2
          go_ret
          exact ⟨⟨false, rfl, by simpa using map_bare_ne hlt hlt2 HE.out⟩, HFR.out.trans FY.out (fun _ _ h => h)⟩
      · obtain rfl : j = l.length := by omega
        have HFR := Lib.hid hfr; clear hfr
        go_wp2
        go_ret
        refine ⟨⟨true, rfl, ?_⟩, HFR.out⟩
        have h := HT.out
        rw [List.take_length, List.take_of_length_le (by have := HLEN.out; omega)] at h
        simpa using h
  · have hb : ((l.length : Int) != (k.length : Int)) = true := by simp; omega
    have HLEN := Lib.hid hlen; clear hlen
    go_enter Tryz.func64, Tryz.ntmps64
    go_wp2
    go_ret
    refine ⟨⟨false, rfl, ?_⟩, Fr.refl _ _⟩
    simp only [Bool.false_eq_true, false_iff]
    intro h
    have := congrArg List.length h
    simp only [List.length_map] at this
    exact HLEN.out this

/-- Fields without what lies where. -/
def barF (l : List (List UInt8 × Tr Mm)) : List (List UInt8 × Tr Unit) := l.map fun p => (p.1, bare p.2)
theorem barF_append (l k : List (List UInt8 × Tr Mm)) : barF (l ++ k) = barF l ++ barF k := List.map_append
theorem barF_one (p : List UInt8 × Tr Mm) : barF [p] = [(p.1, bare p.2)] := rfl
theorem barF_ne {l k : List (List UInt8 × Tr Mm)} {j : Nat} (h1 : j < l.length) (h2 : j < k.length) (h : ¬ (l[j].1, bare l[j].2) = (k[j].1, bare k[j].2)) : ¬ barF l = barF k := fun e => h (by
  have := congrArg (fun t => t[j]?) e
  simp only [barF, List.getElem?_map, List.getElem?_eq_getElem h1, List.getElem?_eq_getElem h2, Option.map_some, Option.some.injEq] at this
  exact this)

theorem strs_same {a b : List UInt8} (h : a = b) : ((⟨a.toArray⟩ : ByteArray) == ⟨b.toArray⟩) = true := by
  rw [h]
  show (b.toArray == b.toArray) = true
  simp
theorem strs_other {a b : List UInt8} (h : ¬ a = b) : ((⟨a.toArray⟩ : ByteArray) == ⟨b.toArray⟩) = false := by
  show (a.toArray == b.toArray) = false
  rw [beq_eq_false_iff_ne]
  intro e
  exact h (by simpa using e)

set_option maxRecDepth 100000 in
set_option maxHeartbeats 2000000 in
theorem samef_of (p q : List UInt8 × Tr Mm) (ih : SameV p.2) (w : World) (hx : Tr.Good w p.2) (hy : Tr.Good w q.2) :
    Calls Tryz.prog 103 #[fagg p, fagg q] w fun e w' => Tells ((p.1, bare p.2) = (q.1, bare q.2)) w e w' := by
  obtain ⟨n, x⟩ := p
  obtain ⟨m, y⟩ := q
  obtain ⟨BA, bc, LA, lc, FA, fc, hf⟩ := hx.node.forms
  obtain ⟨BB, bd, LB, ld, FB, fd, hg⟩ := hy.node.forms
  have hcall := fun W (f : Fr no w W) => ih y W (hx.kept0 f) (hy.kept0 f)
  simp only at hf hg hcall
  rw [hf.agg, hg.agg] at hcall
  unfold fagg
  simp only
  rw [hf.B, hf.L, hf.F, hg.B, hg.L, hg.F]
  have HC := Lib.hid hcall
  clear hx hy ih hf hg hcall
  by_cases hn : n = m
  · have g := strs_same hn
    have HN := Lib.hid hn; clear hn
    go_enter Tryz.func103, Tryz.ntmps103
    go_wp2_with fail
    refine (HC.out _ (by (repeat first | exact Fr.refl _ _ | exact Fr.drewN _ _ _ | apply Fr.drew | apply Fr.alloc | apply Fr.setAt | apply Fr.moreN))).mono ?_
    rintro e w5 ⟨⟨v, rfl, hv⟩, fy⟩
    have HV := Lib.hid hv; have FY := Lib.hid ((by (repeat first | exact Fr.refl _ _ | exact Fr.drewN _ _ _ | apply Fr.drew | apply Fr.alloc | apply Fr.setAt | apply Fr.moreN) : Fr no w _).trans fy (fun _ _ h => h))
    clear hv fy
    go_wp2
    go_ret
    exact ⟨⟨v, rfl, by rw [HV.out, HN.out]; simp⟩, FY.out⟩
  · have g := strs_other hn
    have HN := Lib.hid hn; clear hn
    go_enter Tryz.func103, Tryz.ntmps103
    go_wp2
    go_ret
    refine ⟨⟨false, rfl, ?_⟩, by (repeat first | exact Fr.refl _ _ | exact Fr.drewN _ _ _ | apply Fr.drew | apply Fr.alloc | apply Fr.setAt | apply Fr.moreN)⟩
    simp only [Bool.false_eq_true, false_iff, Prod.mk.injEq, not_and]
    exact fun h => absurd h HN.out

set_option maxRecDepth 100000 in
set_option maxHeartbeats 2000000 in
theorem samefs_of (l k : List (List UInt8 × Tr Mm)) (ih : ∀ p ∈ l, SameV p.2) (w : World) (X Y : Value) (hx : InF w X l) (hy : InF w Y k) :
    Calls Tryz.prog 65 #[X, Y] w fun e w' => Tells (barF l = barF k) w e w' := by
  obtain ⟨A, c, rfl, hc1, hc2⟩ := hx.sl.form
  obtain ⟨B, d, rfl, hd1, hd2⟩ := hy.sl.form
  have hnl : l.length ≤ 140737488351232 := hx.n
  have hnk : k.length ≤ 140737488351232 := hy.n
  have HX := Lib.hid hx; have HY := Lib.hid hy; have IH := Lib.hid ih
  clear hx hy ih
  by_cases hlen : l.length = k.length
  · have hb : ((l.length : Int) != (k.length : Int)) = false := by simp [hlen]
    have HLEN := Lib.hid hlen; clear hlen
    go_enter Tryz.func65, Tryz.ntmps65
    go_wp2
    go_loopw [5] (fun i wr => ∃ j : Nat, j ≤ l.length ∧ i = .int .i64 j ∧ Fr no w wr ∧ barF (l.take j) = barF (k.take j)) (fun i _ => l.length - (intOf i).toNat)
    case atStart => exact ⟨0, Nat.zero_le _, rfl, Fr.refl _ _, rfl⟩
    case round =>
      obtain ⟨j, hj, rfl, hfr, ht⟩ := hrel
      have HT := Lib.hid ht; clear ht
      by_cases hlt : j < l.length
      · have hlt2 : j < k.length := by have := HLEN.out; omega
        have hX := HX.out.kept0 hfr
        have hY := HY.out.kept0 hfr
        obtain ⟨b, o, KB, kb, KL, kl, KF, kf, rfl, hfj, n0, q0, q1, q2, q3, q4, q5, q6, hgl⟩ := InF.get hX j hlt
        obtain ⟨b', o', LB, lb, LL, ll, LF, lf, rfl, hfj', m0, r0, r1, r2, r3, r4, r5, r6, hgl'⟩ := InF.get hY j hlt2
        have hcall := fun W (f : Fr no wr W) => samef_of l[j] k[j] (IH.out l[j] (List.getElem_mem _)) W ((hX.good _ (List.getElem_mem _)).kept0 f) ((hY.good _ (List.getElem_mem _)).kept0 f)
        unfold fagg at hcall
        rw [hfj.B, hfj.L, hfj.F, hfj'.B, hfj'.L, hfj'.F] at hcall
        have HC := Lib.hid hcall; have HFR := Lib.hid hfr
        clear hcall hfr hX hY hfj hfj'
        go_wp2_with fail
        refine wp_region_ord (List.range 10) (fun i => [Kd.p, Kd.p, Kd.p, Kd.l, Kd.p, Kd.p, Kd.p, Kd.l, Kd.g, Kd.p].getD i .e) (by kernel_rfl) (by kernel_rfl) ?_
        iterate 8
          first | refine wpX_pu rfl rfl rfl (by first | exact pu_move rfl | exact pu_assign rfl | exact pu_nilCheck rfl rfl | exact pu_binInt rfl rfl rfl | exact pu_conv rfl rfl (by kernel_rfl) | exact pu_fld rfl (by kernel_rfl) | exact pu_ix rfl rfl rfl (by kernel_rfl) | exact pu_unOp rfl | exact pu_binStr rfl rfl rfl | exact pu_len rfl rfl | exact pu_lens rfl rfl | exact pu_pick rfl | exact pu_slice rfl rfl) (fun K hK => ?_) | refine wpX_rd rfl rfl rfl (rd_load rfl) (fun K hK => ?_) | refine wpX_gr rfl rfl rfl (by first | exact gr_buildSlice rfl | exact gr_box rfl | exact gr_alloc rfl) (fun K hK => ?_) | refine wpX_ex rfl rfl rfl (fun K hK => ?_)
          try go_wp2
        refine wpX_ca rfl rfl rfl (fun K hK => ?_)
        go_wp2_with fail
        refine (HC.out _ (by (repeat first | exact Fr.refl _ _ | exact Fr.drewN _ _ _ | apply Fr.drew | apply Fr.alloc | apply Fr.setAt | apply Fr.moreN))).mono ?_
        rintro e w5 ⟨⟨v, rfl, hv⟩, fy⟩
        have FY0 := Lib.hid fy; have HV := Lib.hid hv; have FY := Lib.hid ((by (repeat first | exact Fr.refl _ _ | exact Fr.drewN _ _ _ | apply Fr.drew | apply Fr.alloc | apply Fr.setAt | apply Fr.moreN) : Fr no wr _).trans fy (fun _ _ h => h))
        clear hv fy
        go_wp2
        obtain ⟨⟨xa, xb⟩, hext⟩ := FY0.out.ext
        refine ⟨⟨xa, xb, hext⟩, hK _ _ ?_⟩
        clear hK K hext xa xb
        first | refine wpX_pu rfl rfl rfl (by first | exact pu_move rfl | exact pu_assign rfl | exact pu_nilCheck rfl rfl | exact pu_binInt rfl rfl rfl | exact pu_conv rfl rfl (by kernel_rfl) | exact pu_fld rfl (by kernel_rfl) | exact pu_ix rfl rfl rfl (by kernel_rfl) | exact pu_unOp rfl | exact pu_binStr rfl rfl rfl | exact pu_len rfl rfl | exact pu_lens rfl rfl | exact pu_pick rfl | exact pu_slice rfl rfl) (fun K hK => ?_) | refine wpX_rd rfl rfl rfl (rd_load rfl) (fun K hK => ?_) | refine wpX_gr rfl rfl rfl (by first | exact gr_buildSlice rfl | exact gr_box rfl | exact gr_alloc rfl) (fun K hK => ?_) | refine wpX_ex rfl rfl rfl (fun K hK => ?_)
        try go_wp2
        refine wpX_done ?_
        clear n0 m0 q0 q1 q2 q3 q4 q5 q6 r0 r1 r2 r3 r4 r5 r6 hgl hgl'
        cases v with
        | true =>
          have he := HV.out.1 rfl
          go_wp2
          go_roundw
          case rel => exact ⟨j + 1, by omega, by go_num, HFR.out.trans FY.out (fun _ _ h => h), by rw [List.take_succ_eq_append_getElem hlt, List.take_succ_eq_append_getElem hlt2, barF_append, barF_append, HT.out, barF_one, barF_one, he]⟩
          case measure => simp [intOf]; omega
        | false =>
          have he : ¬ (l[j].1, bare l[j].2) = (k[j].1, bare k[j].2) := fun h => by have := HV.out.2 h; cases this
          have HE := Lib.hid he; clear he
          go_wp2
          go_ret
          exact ⟨⟨false, rfl, by simpa using barF_ne hlt hlt2 HE.out⟩, HFR.out.trans FY.out (fun _ _ h => h)⟩
      · obtain rfl : j = l.length := by omega
        have HFR := Lib.hid hfr; clear hfr
        go_wp2
        go_ret
        refine ⟨⟨true, rfl, ?_⟩, HFR.out⟩
        have h := HT.out
        rw [List.take_length, List.take_of_length_le (by have := HLEN.out; omega)] at h
        simpa using h
  · have hb : ((l.length : Int) != (k.length : Int)) = true := by simp; omega
    have HLEN := Lib.hid hlen; clear hlen
    go_enter Tryz.func65, Tryz.ntmps65
    go_wp2
    go_ret
    refine ⟨⟨false, rfl, ?_⟩, Fr.refl _ _⟩
    simp only [Bool.false_eq_true, false_iff]
    intro h
    have := congrArg List.length h
    simp only [barF, List.length_map] at this
    exact HLEN.out this

theorem two_boxes {w w6 : World} {a b : Obj} {n : Nat} (f : Fr no (((w.alloc a).alloc b).drewN n) w6) : w6.heap[w.heap.size]? = some a ∧ w6.heap[w.heap.size + 1]? = some b := by
  have h1 := heap_alloc_new (w.alloc a) b
  rw [World.size_alloc] at h1
  exact ⟨f.heap (((Fr.drewN no _ n)).heap (((Fr.refl no _).alloc b).heap (heap_alloc_new w a) (fun h => h)) (fun h => h)) (fun h => h), f.heap ((Fr.drewN no _ n).heap h1 (fun h => h)) (fun h => h)⟩

theorem bare_same (x y : Tr Mm) : bare x = bare y ↔ x.k = y.k ∧ x.b = y.b ∧ x.i = y.i ∧ x.t = y.t ∧ x.bs = y.bs ∧ x.l.map bare = y.l.map bare ∧ barF x.f = barF y.f := by
  constructor
  · intro h
    refine ⟨by rw [← bare_k x, h, bare_k], by rw [← bare_b x, h, bare_b], by rw [← bare_i x, h, bare_i], by rw [← bare_t x, h, bare_t], by rw [← bare_bs x, h, bare_bs], by rw [← bare_l x, h, bare_l], ?_⟩
    have := congrArg Tr.f h
    rwa [bare_f, bare_f] at this
  · rintro ⟨h1, h2, h3, h4, h5, h6, h7⟩
    exact tr_ext (by rw [bare_k, bare_k, h1]) (by rw [bare_b, bare_b, h2]) (by rw [bare_i, bare_i, h3]) (by rw [bare_t, bare_t, h4]) (by rw [bare_bs, bare_bs, h5]) (by rw [bare_l, bare_l, h6]) (by rw [bare_f, bare_f]; exact h7)

set_option maxRecDepth 100000 in
set_option maxHeartbeats 4000000 in
theorem samev_any (x : Tr Mm) : SameV x := by
  induction x using Tr.ind with
  | h x ih =>
    intro y w hx hy
    obtain ⟨BA, bc, LA, lc, FA, fc, hf⟩ := hx.node.forms
    obtain ⟨BB, bd, LB, ld, FB, fd, hg⟩ := hy.node.forms
    have hbs := bare_same x y
    have hB := fun W (f : Fr no w W) => same_any W x.B y.B x.bs y.bs (hx.node.B.kept0 f) (hy.node.B.kept0 f) hx.node.bs hy.node.bs
    have hL := fun W (f : Fr no w W) => samevs_of x.l y.l (fun z hz => ih z (List.mem_append_left _ hz)) W x.L y.L (hx.inL.kept0 f) (hy.inL.kept0 f)
    have hF := fun W (f : Fr no w W) => samefs_of x.f y.f (fun p hp => ih p.2 (List.mem_append_right _ (List.mem_map_of_mem hp))) W x.F y.F (hx.inF.kept0 f) (hy.inF.kept0 f)
    rw [hf.agg, hg.agg]
    rw [hf.B, hg.B] at hB
    rw [hf.L, hg.L] at hL
    rw [hf.F, hg.F] at hF
    have HB := Lib.hid hB; have HL := Lib.hid hL; have HF := Lib.hid hF; have HBS := Lib.hid hbs
    clear hx hy ih hf hg hB hL hF hbs
    have no1 : ∀ {P : Prop} {W : World}, Fr no w W → ¬ P → Tells P w (.returned (.bool false)) W := fun f h => ⟨⟨false, rfl, by simpa using h⟩, f⟩
    by_cases hk : x.k = y.k
    · have gk : ((x.k.toNat : Int) == (y.k.toNat : Int)) = true := by rw [hk]; simp
      by_cases hb : x.b = y.b
      · have gb : (x.b == y.b) = true := by rw [hb]; simp
        by_cases hi : x.i = y.i
        · have gi : (x.i == y.i) = true := by rw [hi]; simp
          by_cases ht : x.t = y.t
          · have gt := strs_same ht
            have HK := Lib.hid hk; have HBB := Lib.hid hb; have HI := Lib.hid hi; have HT := Lib.hid ht; clear hk hb hi ht
            have hd : decide (x.bs = y.bs) = true ∨ decide (x.bs = y.bs) = false := by cases decide (x.bs = y.bs) <;> simp
            have HDB := Lib.hid hd; clear hd
            go_enter Tryz.func21, Tryz.ntmps21
            go_wp2_with fail
            refine (HB.out _ (by (repeat first | exact Fr.refl _ _ | exact Fr.drewN _ _ _ | apply Fr.drew | apply Fr.alloc | apply Fr.setAt | apply Fr.moreN))).mono ?_
            rintro e w5 ⟨rfl, n5, rfl⟩
            rcases HDB.out with hd | hd
            · rw [hd]
              have HD := Lib.hid (of_decide_eq_true hd); clear hd
              go_wp2_with fail
              refine (HL.out _ (by (repeat first | exact Fr.refl _ _ | exact Fr.drewN _ _ _ | apply Fr.drew | apply Fr.alloc | apply Fr.setAt | apply Fr.moreN))).mono ?_
              rintro e w6 ⟨⟨v, rfl, hv⟩, fy⟩
              obtain ⟨hb0, hb1⟩ := two_boxes fy
              obtain ⟨q0, q1, q2, q3, q4, q5, q6, qz, ql⟩ := seven_cells hb0
              obtain ⟨r0, r1, r2, r3, r4, r5, r6, rz, rl⟩ := seven_cells hb1
              have HV := Lib.hid hv; have FY := Lib.hid ((by (repeat first | exact Fr.refl _ _ | exact Fr.drewN _ _ _ | apply Fr.drew | apply Fr.alloc | apply Fr.setAt | apply Fr.moreN) : Fr no w _).trans fy (fun _ _ h => h))
              clear hv fy hb0 hb1
              cases v with
              | false =>
                go_wp2
                go_ret
                exact no1 FY.out (fun h => by have := HV.out.2 (HBS.out.1 h).2.2.2.2.2.1; cases this)
              | true =>
                go_wp2_with fail
                refine (HF.out _ FY.out).mono ?_
                rintro e w7 ⟨⟨v2, rfl, hv2⟩, fy2⟩
                have HV2 := Lib.hid hv2; have FY2 := Lib.hid (FY.out.trans fy2 (fun _ _ h => h))
                clear hv2 fy2
                go_wp2
                go_ret
                refine ⟨⟨v2, rfl, HV2.out.trans ⟨fun h => HBS.out.2 ⟨HK.out, HBB.out, HI.out, HT.out, HD.out, HV.out.1 trivial, h⟩, fun h => (HBS.out.1 h).2.2.2.2.2.2⟩⟩, FY2.out⟩
            · rw [hd]
              have HD := Lib.hid (of_decide_eq_false hd); clear hd
              go_wp2
              go_ret
              exact no1 (by (repeat first | exact Fr.refl _ _ | exact Fr.drewN _ _ _ | apply Fr.drew | apply Fr.alloc | apply Fr.setAt | apply Fr.moreN)) (fun h => HD.out (HBS.out.1 h).2.2.2.2.1)
          · have gt := strs_other ht
            go_enter Tryz.func21, Tryz.ntmps21
            go_wp2
            go_ret
            exact no1 (by (repeat first | exact Fr.refl _ _ | exact Fr.drewN _ _ _ | apply Fr.drew | apply Fr.alloc | apply Fr.setAt | apply Fr.moreN)) (fun h => ht (HBS.out.1 h).2.2.2.1)
        · have gi : (x.i == y.i) = false := by rw [beq_eq_false_iff_ne]; exact hi
          go_enter Tryz.func21, Tryz.ntmps21
          go_wp2
          go_ret
          exact no1 (by (repeat first | exact Fr.refl _ _ | exact Fr.drewN _ _ _ | apply Fr.drew | apply Fr.alloc | apply Fr.setAt | apply Fr.moreN)) (fun h => hi (HBS.out.1 h).2.2.1)
      · have gb : (x.b == y.b) = false := by rw [beq_eq_false_iff_ne]; exact hb
        have HBB := Lib.hid hb; clear hb
        go_enter Tryz.func21, Tryz.ntmps21
        go_wp2
        go_ret
        exact no1 (by (repeat first | exact Fr.refl _ _ | exact Fr.drewN _ _ _ | apply Fr.drew | apply Fr.alloc | apply Fr.setAt | apply Fr.moreN)) (fun h => HBB.out (HBS.out.1 h).2.1)
    · have gk : ((x.k.toNat : Int) == (y.k.toNat : Int)) = false := by
        rw [beq_eq_false_iff_ne]; intro h; exact hk (UInt8.toNat_inj.1 (by omega))
      have HK := Lib.hid hk; clear hk
      go_enter Tryz.func21, Tryz.ntmps21
      go_wp2
      go_ret
      exact no1 (by (repeat first | exact Fr.refl _ _ | exact Fr.drewN _ _ _ | apply Fr.drew | apply Fr.alloc | apply Fr.setAt | apply Fr.moreN)) (fun h => HK.out (HBS.out.1 h).1)

theorem samevs_any (l k : List (Tr Mm)) (w : World) (X Y : Value) (hx : In w X l) (hy : In w Y k) :
    Calls Tryz.prog 64 #[X, Y] w fun e w' => Tells (l.map bare = k.map bare) w e w' := samevs_of l k (fun x _ => samev_any x) w X Y hx hy
end Go.Proofs.YtijcleiekafoiaaGreatDoor
