import Derived.Test.YtgcicljklejmjaaDoorMb15
import Derived.Test.YtgcicljklejmjaaDoorMb07
import Derived.Test.YtgcicljklejmjaaDoorMb12
import Derived.Test.YtgcicljklejmjaaDoorProg
import Derived.Test.YtgcicljklejmjaaDoorMb02
import Derived.KernelRfl
import Derived.Lib.Hide
import Derived.Deep.QuietTactic
import Derived.BigQuiet
import Derived.Test.YtgcicljklejmjaaDoorMb06
import Derived.Test.YtgcicljklejmjaaDoorMb03
import Derived.Test.YtgcicljklejmjaaDoorMb09

/- key.After. -/
namespace Go.Proofs.YtgcicljklejmjaaDoor
open Go.RowKit Go.Shelf
open Tr

/-- What After says. -/
def AftOut (b : List UInt8) (w : World) (e : Ending) (w' : World) : Prop :=
  Fr no w w' ∧ ((after b = none ∧ e = .returned (.tuple #[.slice none 0 0, .bool false]))
    ∨ ∃ a A n, after b = some a ∧ e = .returned (.tuple #[.slice A n n, .bool true]) ∧ n = a.length ∧ Ow w' 5 1 (.slice A n n) n (bvs a) ∧ ∀ k, Value.ownBlock (.slice A n n) = some k → w.heap.size ≤ k)

theorem ow_last {w : World} {e : TypeId} {g n c j : Nat} {l : List UInt8} (u : UInt8) (h : Ow w e 1 (.slice (some ⟨g, 0, none⟩) n c) n (bvs l)) : Ow (w.setCell ⟨g, j, none⟩ (.int .u8 u.toNat)) e 1 (.slice (some ⟨g, 0, none⟩) n c) n (bvs (l.set j u)) := by
  obtain ⟨_, cur, hcu, h1, h2, h3, h4⟩ := here h
  have hl := h.1
  refine ⟨by rw [bvs_length, List.length_set, ← bvs_length]; exact hl, .inr ⟨g, c, cur.setIfInBounds j (.int .u8 u.toNat), rfl, hp_same hcu j _, h1, h2, by simpa using h3, ?_⟩⟩
  rw [Array.toList_setIfInBounds, List.take_set, h4]
  unfold bvs
  rw [List.map_set]
  rfl

set_option maxRecDepth 100000 in
set_option maxHeartbeats 1000000 in
theorem after_any (w : World) (X : Value) (b : List UInt8) (hx : Sl w 1 X b.length (bvs b)) (hl : b.length ≤ 1000000000) :
    Calls Tryd.prog 30 #[X] w fun e w' => AftOut b w e w' := by
  obtain ⟨A, c, rfl, hc1, hc2⟩ := hx.form
  have HX := Lib.hid hx
  clear hx
  go_enter Tryd.func30, Tryd.ntmps30
  go_wp2
  go_loop [4] (fun v => ∃ n : Nat, n ≤ b.length ∧ v = .int .i64 n ∧ ∀ j (hj : j < b.length), n ≤ j → b[j] = 255) (fun v => (intOf v).toNat)
  case atStart => exact ⟨b.length, Nat.le_refl _, rfl, fun j hj h => by omega⟩
  case round =>
    obtain ⟨n, hn, rfl, hall⟩ := hrel
    have HA := Lib.hid hall; clear hall
    cases n with
    | zero =>
      have ha : after b = none := after_zero (fun j hj => HA.out j hj (Nat.zero_le _))
      have HAF := Lib.hid ha; clear ha
      go_wp2
      go_ret2
      exact ⟨Fr.refl _ _, .inl ⟨HAF.out, rfl⟩⟩
    | succ m =>
      obtain ⟨g, o, rfl, hcell⟩ := HX.out.byte m (by omega)
      have hi : IntKind.i64.wrap (((m + 1 : Nat) : Int) - 1) = (m : Int) := by
        rw [show (((m + 1 : Nat) : Int) - 1) = (m : Int) by omega]
        exact IntWalk.i64_in _ ⟨by omega, by omega⟩
      by_cases h255 : b[m] = 255
      · have gc : ((b[m].toNat : Int) == 255) = true := by rw [h255]; rfl
        have H2 := Lib.hid h255; clear h255
        go_wp2
        go_round
        case rel => exact ⟨m, by omega, by first | rfl | go_num, fun j hj h => by
          by_cases hjm : j = m
          · subst hjm; exact H2.out
          · exact HA.out j hj (by omega)⟩
        case measure => simp [intOf]
      · have gc : ((b[m].toNat : Int) == 255) = false := byte_ne h255 rfl
        have haf : after b = some (b.take m ++ [b[m] + 1]) := after_at (by omega) (fun j hj h => HA.out j hj h) h255
        have H2 := Lib.hid h255; have HAF := Lib.hid haf; clear h255 haf
        obtain ⟨T, hT⟩ : ∃ T, T = b.take (m + 1) := ⟨_, rfl⟩
        have htk : T.length = m + 1 := by rw [hT, List.length_take]; omega
        have hhd : Sl w 1 (.slice (some ⟨g, o, none⟩) (m + 1) c) (m + 1) (bvs T) := by rw [hT, ← bvs_take]; exact HX.out.head (m + 1) hn
        rw [← htk] at hhd
        have hu8 : IntKind.u8.wrap ((b[m].toNat : Int) + 1) = ((b[m] + 1).toNat : Int) := by
          have h1 : b[m].toNat < 255 := by
            have h2 := b[m].toNat_lt
            have h3 : b[m].toNat ≠ 255 := fun e => H2.out (UInt8.toNat_inj.1 (by rw [e]; rfl))
            omega
          have h4 : (b[m] + 1).toNat = b[m].toNat + 1 := by rw [UInt8.toNat_add]; simp; omega
          rw [h4]
          simp only [IntKind.wrap, IntKind.bits, IntKind.signed, Bool.false_and, Bool.false_eq_true, if_false]
          omega
        have hbc := bclone_any w (.slice (some ⟨g, o, none⟩) T.length c) T hhd (by omega)
        rw [htk] at hbc
        have HBC := Lib.hid hbc; have HTK := Lib.hid htk; have HTT := Lib.hid hT; have HU8 := Lib.hid hu8
        clear hbc htk hhd hu8 hT
        go_wp2_with fail
        refine HBC.out.mono ?_
        rintro e w2 ⟨D, c2, rfl, ow2, nb2, f2⟩
        have hc2 : m + 1 ≤ c2 := by
          obtain ⟨A', c', h1, h2, _⟩ := ow2.sl.form
          cases h1; exact h2
        have owc := own_clip ow2
        have hdn : ∀ k, Value.ownBlock (.slice D (m + 1) (m + 1)) = some k → w.heap.size ≤ k := fun k hk => nb2 k (by cases D <;> exact hk)
        clear ow2 nb2
        go_wp2_with fail
        refine (bclip_any w2 D (m + 1) c2 hc2).mono ?_
        rintro e w3 ⟨rfl, hw⟩
        subst w3
        obtain ⟨d, rfl⟩ := here_some owc (by omega)
        have hsl := owc.sl
        rw [← HTK.out] at hsl
        obtain ⟨d', o', hA, hcm⟩ := hsl.byte m (by rw [HTK.out]; omega)
        simp only [Option.some.injEq, Addr.mk.injEq, and_true] at hA
        obtain ⟨rfl, rfl⟩ := hA
        have hTm : T[m]'(by rw [HTK.out]; omega) = b[m] := by simp only [HTT.out, List.getElem_take]
        rw [Nat.zero_add, hTm] at hcm
        obtain ⟨_, cur, hcu, -⟩ := here owc
        have gz : ∀ q, w2.frozen? ⟨d, q, none⟩ = false := fun q => by simp [World.frozen?, hcu]
        have gl := (Array.getElem?_eq_some_iff.1 hcu).1
        have hu8 := HU8.out
        have OWC := Lib.hid owc; have HDN := Lib.hid hdn; have F2 := Lib.hid f2
        clear owc hdn f2 hsl hcu
        go_wp2
        go_ret2
        have hset := Fr.setCell (Fr.refl (fun k => k = d) w2) ⟨d, m, none⟩ (.int .u8 (b[m] + 1).toNat) (fun _ => rfl)
        refine ⟨F2.out.trans hset (fun k hk h => by have := HDN.out d rfl; omega), .inr ⟨_, _, _, HAF.out, rfl, by simp; omega, ?_, HDN.out⟩⟩
        have h5 := ow_last (j := m) (b[m] + 1) OWC.out
        have h6 : T.set m (b[m] + 1) = b.take m ++ [b[m] + 1] := by
          rw [HTT.out, List.take_succ_eq_append_getElem (by omega), List.set_append_right _ _ (by rw [List.length_take]; omega), List.length_take, Nat.min_eq_left (by omega), Nat.sub_self]
          rfl
        rw [h6] at h5
        exact h5
end Go.Proofs.YtgcicljklejmjaaDoor

/- Two byte lists, compared. -/
namespace Go.Proofs.YtgcicljklejmjaaDoor
open Go.RowKit

set_option maxRecDepth 100000 in
set_option maxHeartbeats 400000 in
theorem same_any (w : World) (x y : Value) (l k : List UInt8) (hx : Sl w 1 x l.length (bvs l)) (hy : Sl w 1 y k.length (bvs k)) (hl : l.length ≤ 140737488351232) (hk : k.length ≤ 140737488351232) :
    Calls Tryd.prog 22 #[x, y] w fun e w' => e = .returned (.bool (decide (l = k))) ∧ ∃ n, w' = w.drewN n := by
  obtain ⟨A, c, rfl, hc1, hc2⟩ := hx.form
  obtain ⟨B, d, rfl, hd1, hd2⟩ := hy.form
  have HX := Lib.hid hx; have HY := Lib.hid hy; clear hx hy
  by_cases hlen : l.length = k.length
  · have hb : ((l.length : Int) != (k.length : Int)) = false := by simp [hlen]
    have HLEN := Lib.hid hlen; clear hlen
    go_enter Tryd.func22, Tryd.ntmps22
    go_wp2
    go_loopw [5] (fun i wr => ∃ j n : Nat, j ≤ l.length ∧ i = .int .i64 j ∧ wr = w.drewN n ∧ l.take j = k.take j) (fun i _ => l.length - (intOf i).toNat)
    case atStart => exact ⟨0, 0, Nat.zero_le _, rfl, rfl, rfl⟩
    case round =>
      obtain ⟨j, n, hj, rfl, rfl, ht⟩ := hrel
      have HT := Lib.hid ht; clear ht
      by_cases hlt : j < l.length
      · have hlt2 : j < k.length := by have := HLEN.out; omega
        obtain ⟨b, o, rfl, h1⟩ := HX.out.byte j hlt
        obtain ⟨b2, o2, rfl, h2⟩ := HY.out.byte j hlt2
        have e1 : l.take (j + 1) = l.take j ++ [l[j]] := by rw [List.take_succ_eq_append_getElem hlt]
        have e2 : k.take (j + 1) = k.take j ++ [k[j]] := by rw [List.take_succ_eq_append_getElem hlt2]
        by_cases he : l[j] = k[j]
        · have e3 : l.take (j + 1) = k.take (j + 1) := by rw [e1, e2, HT.out, he]
          rw [← he] at h2
          have hb2 : ((l[j].toNat : Int) != (l[j].toNat : Int)) = false := by simp
          have HE := Lib.hid e3; clear e1 e2 e3 he
          go_wp2
          go_quiet (fail)
          go_wp2
          go_roundw
          case rel => exact ⟨j + 1, _, by omega, by go_num, rfl, HE.out⟩
          case measure => simp [intOf]; omega
        · have hb2 : ((l[j].toNat : Int) != (k[j].toNat : Int)) = true := by
            rw [bne_iff_ne]; intro h; exact he (UInt8.toNat_inj.1 (by omega))
          have hne : decide (l = k) = false := by
            rw [decide_eq_false_iff_not]; intro h; subst h; exact he rfl
          have HE := Lib.hid he; have HN := Lib.hid hne; clear e1 e2 he hne
          go_wp2
          go_quiet (fail)
          go_wp2
          go_ret
          exact ⟨by rw [HN.out]; rfl, _, World.drewN_drewN _ _ _⟩
      · go_wp2
        go_ret
        have e : l = k := by
          have h := HT.out
          rw [List.take_of_length_le (by omega), List.take_of_length_le (by have := HLEN.out; omega)] at h
          exact h
        exact ⟨by simp [e], n, rfl⟩
  · have hb : ((l.length : Int) != (k.length : Int)) = true := by rw [bne_iff_ne]; omega
    have hne : decide (l = k) = false := by
      rw [decide_eq_false_iff_not]; intro h; subst h; exact hlen rfl
    have HN := Lib.hid hne; clear hlen hne
    go_enter Tryd.func22, Tryd.ntmps22
    go_wp2
    go_ret
    exact ⟨by rw [HN.out]; rfl, 0, rfl⟩
end Go.Proofs.YtgcicljklejmjaaDoor

/- SameValue, SameValues, SameFields: whether two values are the same. -/
namespace Go.Proofs.YtgcicljklejmjaaDoor
open Go.RowKit
open Tr

/-- A bool that tells whether P. -/
def Tells (P : Prop) (w : World) (e : Ending) (w' : World) : Prop := (∃ v : Bool, e = .returned (.bool v) ∧ (v = true ↔ P)) ∧ Fr no w w'

/-- What the lists need of SameValue. -/
def SameV (x : Tr Mm) : Prop := ∀ (y : Tr Mm) (w : World), Tr.Good w x → Tr.Good w y → Calls Tryd.prog 21 #[x.agg, y.agg] w fun e w' => Tells (bare x = bare y) w e w'

theorem map_bare_ne {l k : List (Tr Mm)} {j : Nat} (h1 : j < l.length) (h2 : j < k.length) (h : bare l[j] ≠ bare k[j]) : ¬ l.map bare = k.map bare := fun e => h (by
  have := congrArg (fun t => t[j]?) e
  simp only [List.getElem?_map, List.getElem?_eq_getElem h1, List.getElem?_eq_getElem h2, Option.map_some, Option.some.injEq] at this
  exact this)

set_option maxRecDepth 100000 in
set_option maxHeartbeats 2000000 in
theorem samevs_of (l k : List (Tr Mm)) (ih : ∀ x ∈ l, SameV x) (w : World) (X Y : Value) (hx : In w X l) (hy : In w Y k) :
    Calls Tryd.prog 20 #[X, Y] w fun e w' => Tells (l.map bare = k.map bare) w e w' := by
  obtain ⟨A, c, rfl, hc1, hc2⟩ := hx.sl.form
  obtain ⟨B, d, rfl, hd1, hd2⟩ := hy.sl.form
  have hnl : l.length ≤ 140737488351232 := hx.n
  have hnk : k.length ≤ 140737488351232 := hy.n
  have HX := Lib.hid hx; have HY := Lib.hid hy; have IH := Lib.hid ih
  clear hx hy ih
  by_cases hlen : l.length = k.length
  · have hb : ((l.length : Int) != (k.length : Int)) = false := by simp [hlen]
    have HLEN := Lib.hid hlen; clear hlen
    go_enter Tryd.func20, Tryd.ntmps20
    go_wp2
    go_loopw [5] (fun i wr => ∃ j : Nat, j ≤ l.length ∧ i = .int .i64 j ∧ Fr no w wr ∧ (l.take j).map bare = (k.take j).map bare) (fun i _ => l.length - (intOf i).toNat)
    case atStart => exact ⟨0, Nat.zero_le _, rfl, Fr.refl _ _, rfl⟩
    case round =>
      obtain ⟨j, hj, rfl, hfr, ht⟩ := hrel
      have HT := Lib.hid ht; clear ht
      by_cases hlt : j < l.length
      · have hlt2 : j < k.length := by have := HLEN.out; omega
        have hX := HX.out.kept0 hfr
        have hY := HY.out.kept0 hfr
        obtain ⟨b, o, KB, kb, KL, kl, KF, kf, rfl, hfj, q0, q1, q2, q3, q4, q5, q6, hgl⟩ := In.get hX j hlt
        obtain ⟨b', o', LB, lb, LL, ll, LF, lf, rfl, hfj', r0, r1, r2, r3, r4, r5, r6, hgl'⟩ := In.get hY j hlt2
        have hcall := fun W (f : Fr no wr W) => IH.out l[j] (List.getElem_mem _) k[j] W ((hX.good _ (List.getElem_mem _)).kept0 f) ((hY.good _ (List.getElem_mem _)).kept0 f)
        rw [hfj.agg, hfj'.agg] at hcall
        have HC := Lib.hid hcall; have HFR := Lib.hid hfr
        clear hcall hfr hX hY hfj hfj'
        go_wp2_with fail
        refine wp_region_ord (List.range 10) (fun i => [Kd.p, Kd.p, Kd.p, Kd.l, Kd.p, Kd.p, Kd.p, Kd.l, Kd.g, Kd.p].getD i .e) (by kernel_rfl) (by kernel_rfl) ?_
        iterate 8
          first | refine wpX_pu rfl rfl rfl (by first | exact pu_move rfl | exact pu_assign rfl | exact pu_nilCheck rfl rfl | exact pu_binInt rfl rfl rfl | exact pu_conv rfl rfl (by kernel_rfl) | exact pu_fld rfl (by kernel_rfl) | exact pu_ix rfl rfl rfl (by kernel_rfl) | exact pu_unOp rfl | exact pu_binStr rfl rfl rfl | exact pu_len rfl rfl | exact pu_lens rfl rfl | exact pu_pick rfl | exact pu_slice rfl rfl) (fun K hK => ?_) | refine wpX_rd rfl rfl rfl (rd_load rfl) (fun K hK => ?_) | refine wpX_gr rfl rfl rfl (by first | exact gr_buildSlice rfl | exact gr_box rfl | exact gr_alloc rfl) (fun K hK => ?_) | refine wpX_ex rfl rfl rfl (fun K hK => ?_)
          try go_wp2
        refine wpX_ca rfl rfl rfl (fun K hK => ?_)
        go_wp2_with fail
        refine (HC.out _ (by (repeat first | exact Fr.refl _ _ | exact Fr.drewN _ _ _ | apply Fr.drew | apply Fr.alloc | apply Fr.setAt | apply Fr.moreN))).mono ?_
        rintro e w5 ⟨⟨v, rfl, hv⟩, fy⟩
        have FY0 := Lib.hid fy; have HV := Lib.hid hv; have FY := Lib.hid ((by (repeat first | exact Fr.refl _ _ | exact Fr.drewN _ _ _ | apply Fr.drew | apply Fr.alloc | apply Fr.setAt | apply Fr.moreN) : Fr no wr _).trans fy (fun _ _ h => h))
        clear hv fy
        go_wp2
        obtain ⟨⟨xa, xb⟩, hext⟩ := FY0.out.ext
        refine ⟨⟨xa, xb, hext⟩, hK _ _ ?_⟩
        clear hK K hext xa xb
        first | refine wpX_pu rfl rfl rfl (by first | exact pu_move rfl | exact pu_assign rfl | exact pu_nilCheck rfl rfl | exact pu_binInt rfl rfl rfl | exact pu_conv rfl rfl (by kernel_rfl) | exact pu_fld rfl (by kernel_rfl) | exact pu_ix rfl rfl rfl (by kernel_rfl) | exact pu_unOp rfl | exact pu_binStr rfl rfl rfl | exact pu_len rfl rfl | exact pu_lens rfl rfl | exact pu_pick rfl | exact pu_slice rfl rfl) (fun K hK => ?_) | refine wpX_rd rfl rfl rfl (rd_load rfl) (fun K hK => ?_) | refine wpX_gr rfl rfl rfl (by first | exact gr_buildSlice rfl | exact gr_box rfl | exact gr_alloc rfl) (fun K hK => ?_) | refine wpX_ex rfl rfl rfl (fun K hK => ?_)
        try go_wp2
        refine wpX_done ?_
        clear q0 q1 q2 q3 q4 q5 q6 r0 r1 r2 r3 r4 r5 r6 hgl hgl'
        cases v with
        | true =>
          have he := HV.out.1 rfl
          go_wp2
          go_roundw
          case rel => exact ⟨j + 1, by omega, by go_num, HFR.out.trans FY.out (fun _ _ h => h), by rw [List.take_succ_eq_append_getElem hlt, List.take_succ_eq_append_getElem hlt2, List.map_append, List.map_append, HT.out, List.map_singleton, List.map_singleton, he]⟩
          case measure => simp [intOf]; omega
        | false =>
          have he : ¬ bare l[j] = bare k[j] := fun h => by have := HV.out.2 h; cases this
          have HE := Lib.hid he; clear he
          go_wp2
          go_ret
          exact ⟨⟨false, rfl, by simpa using map_bare_ne hlt hlt2 HE.out⟩, HFR.out.trans FY.out (fun _ _ h => h)⟩
      · obtain rfl : j = l.length := by omega
        have HFR := Lib.hid hfr; clear hfr
        go_wp2
        go_ret
        refine ⟨⟨true, rfl, ?_⟩, HFR.out⟩
        have h := HT.out
        rw [List.take_length, List.take_of_length_le (by have := HLEN.out; omega)] at h
        simpa using h
  · have hb : ((l.length : Int) != (k.length : Int)) = true := by simp; omega
    have HLEN := Lib.hid hlen; clear hlen
    go_enter Tryd.func20, Tryd.ntmps20
    go_wp2
    go_ret
    refine ⟨⟨false, rfl, ?_⟩, Fr.refl _ _⟩
    simp only [Bool.false_eq_true, false_iff]
    intro h
    have := congrArg List.length h
    simp only [List.length_map] at this
    exact HLEN.out this

/-- Fields without what lies where. -/
def barF (l : List (List UInt8 × Tr Mm)) : List (List UInt8 × Tr Unit) := l.map fun p => (p.1, bare p.2)
theorem barF_append (l k : List (List UInt8 × Tr Mm)) : barF (l ++ k) = barF l ++ barF k := List.map_append
theorem barF_one (p : List UInt8 × Tr Mm) : barF [p] = [(p.1, bare p.2)] := rfl
theorem barF_ne {l k : List (List UInt8 × Tr Mm)} {j : Nat} (h1 : j < l.length) (h2 : j < k.length) (h : ¬ (l[j].1, bare l[j].2) = (k[j].1, bare k[j].2)) : ¬ barF l = barF k := fun e => h (by
  have := congrArg (fun t => t[j]?) e
  simp only [barF, List.getElem?_map, List.getElem?_eq_getElem h1, List.getElem?_eq_getElem h2, Option.map_some, Option.some.injEq] at this
  exact this)

theorem strs_same {a b : List UInt8} (h : a = b) : ((⟨a.toArray⟩ : ByteArray) == ⟨b.toArray⟩) = true := by
  rw [h]
  show (b.toArray == b.toArray) = true
  simp
theorem strs_other {a b : List UInt8} (h : ¬ a = b) : ((⟨a.toArray⟩ : ByteArray) == ⟨b.toArray⟩) = false := by
  show (a.toArray == b.toArray) = false
  rw [beq_eq_false_iff_ne]
  intro e
  exact h (by simpa using e)

set_option maxRecDepth 100000 in
set_option maxHeartbeats 2000000 in
theorem samef_of (p q : List UInt8 × Tr Mm) (ih : SameV p.2) (w : World) (hx : Tr.Good w p.2) (hy : Tr.Good w q.2) :
    Calls Tryd.prog 87 #[fagg p, fagg q] w fun e w' => Tells ((p.1, bare p.2) = (q.1, bare q.2)) w e w' := by
  obtain ⟨n, x⟩ := p
  obtain ⟨m, y⟩ := q
  obtain ⟨BA, bc, LA, lc, FA, fc, hf⟩ := hx.node.forms
  obtain ⟨BB, bd, LB, ld, FB, fd, hg⟩ := hy.node.forms
  have hcall := fun W (f : Fr no w W) => ih y W (hx.kept0 f) (hy.kept0 f)
  simp only at hf hg hcall
  rw [hf.agg, hg.agg] at hcall
  unfold fagg
  simp only
  rw [hf.B, hf.L, hf.F, hg.B, hg.L, hg.F]
  have HC := Lib.hid hcall
  clear hx hy ih hf hg hcall
  by_cases hn : n = m
  · have g := strs_same hn
    have HN := Lib.hid hn; clear hn
    go_enter Tryd.func87, Tryd.ntmps87
    go_wp2_with fail
    refine (HC.out _ (by (repeat first | exact Fr.refl _ _ | exact Fr.drewN _ _ _ | apply Fr.drew | apply Fr.alloc | apply Fr.setAt | apply Fr.moreN))).mono ?_
    rintro e w5 ⟨⟨v, rfl, hv⟩, fy⟩
    have HV := Lib.hid hv; have FY := Lib.hid ((by (repeat first | exact Fr.refl _ _ | exact Fr.drewN _ _ _ | apply Fr.drew | apply Fr.alloc | apply Fr.setAt | apply Fr.moreN) : Fr no w _).trans fy (fun _ _ h => h))
    clear hv fy
    go_wp2
    go_ret
    exact ⟨⟨v, rfl, by rw [HV.out, HN.out]; simp⟩, FY.out⟩
  · have g := strs_other hn
    have HN := Lib.hid hn; clear hn
    go_enter Tryd.func87, Tryd.ntmps87
    go_wp2
    go_ret
    refine ⟨⟨false, rfl, ?_⟩, by (repeat first | exact Fr.refl _ _ | exact Fr.drewN _ _ _ | apply Fr.drew | apply Fr.alloc | apply Fr.setAt | apply Fr.moreN)⟩
    simp only [Bool.false_eq_true, false_iff, Prod.mk.injEq, not_and]
    exact fun h => absurd h HN.out

set_option maxRecDepth 100000 in
set_option maxHeartbeats 2000000 in
theorem samefs_of (l k : List (List UInt8 × Tr Mm)) (ih : ∀ p ∈ l, SameV p.2) (w : World) (X Y : Value) (hx : InF w X l) (hy : InF w Y k) :
    Calls Tryd.prog 43 #[X, Y] w fun e w' => Tells (barF l = barF k) w e w' := by
  obtain ⟨A, c, rfl, hc1, hc2⟩ := hx.sl.form
  obtain ⟨B, d, rfl, hd1, hd2⟩ := hy.sl.form
  have hnl : l.length ≤ 140737488351232 := hx.n
  have hnk : k.length ≤ 140737488351232 := hy.n
  have HX := Lib.hid hx; have HY := Lib.hid hy; have IH := Lib.hid ih
  clear hx hy ih
  by_cases hlen : l.length = k.length
  · have hb : ((l.length : Int) != (k.length : Int)) = false := by simp [hlen]
    have HLEN := Lib.hid hlen; clear hlen
    go_enter Tryd.func43, Tryd.ntmps43
    go_wp2
    go_loopw [5] (fun i wr => ∃ j : Nat, j ≤ l.length ∧ i = .int .i64 j ∧ Fr no w wr ∧ barF (l.take j) = barF (k.take j)) (fun i _ => l.length - (intOf i).toNat)
    case atStart => exact ⟨0, Nat.zero_le _, rfl, Fr.refl _ _, rfl⟩
    case round =>
      obtain ⟨j, hj, rfl, hfr, ht⟩ := hrel
      have HT := Lib.hid ht; clear ht
      by_cases hlt : j < l.length
      · have hlt2 : j < k.length := by have := HLEN.out; omega
        have hX := HX.out.kept0 hfr
        have hY := HY.out.kept0 hfr
        obtain ⟨b, o, KB, kb, KL, kl, KF, kf, rfl, hfj, n0, q0, q1, q2, q3, q4, q5, q6, hgl⟩ := InF.get hX j hlt
        obtain ⟨b', o', LB, lb, LL, ll, LF, lf, rfl, hfj', m0, r0, r1, r2, r3, r4, r5, r6, hgl'⟩ := InF.get hY j hlt2
        have hcall := fun W (f : Fr no wr W) => samef_of l[j] k[j] (IH.out l[j] (List.getElem_mem _)) W ((hX.good _ (List.getElem_mem _)).kept0 f) ((hY.good _ (List.getElem_mem _)).kept0 f)
        unfold fagg at hcall
        rw [hfj.B, hfj.L, hfj.F, hfj'.B, hfj'.L, hfj'.F] at hcall
        have HC := Lib.hid hcall; have HFR := Lib.hid hfr
        clear hcall hfr hX hY hfj hfj'
        go_wp2_with fail
        refine wp_region_ord (List.range 10) (fun i => [Kd.p, Kd.p, Kd.p, Kd.l, Kd.p, Kd.p, Kd.p, Kd.l, Kd.g, Kd.p].getD i .e) (by kernel_rfl) (by kernel_rfl) ?_
        iterate 8
          first | refine wpX_pu rfl rfl rfl (by first | exact pu_move rfl | exact pu_assign rfl | exact pu_nilCheck rfl rfl | exact pu_binInt rfl rfl rfl | exact pu_conv rfl rfl (by kernel_rfl) | exact pu_fld rfl (by kernel_rfl) | exact pu_ix rfl rfl rfl (by kernel_rfl) | exact pu_unOp rfl | exact pu_binStr rfl rfl rfl | exact pu_len rfl rfl | exact pu_lens rfl rfl | exact pu_pick rfl | exact pu_slice rfl rfl) (fun K hK => ?_) | refine wpX_rd rfl rfl rfl (rd_load rfl) (fun K hK => ?_) | refine wpX_gr rfl rfl rfl (by first | exact gr_buildSlice rfl | exact gr_box rfl | exact gr_alloc rfl) (fun K hK => ?_) | refine wpX_ex rfl rfl rfl (fun K hK => ?_)
          try go_wp2
        refine wpX_ca rfl rfl rfl (fun K hK => ?_)
        go_wp2_with fail
        refine (HC.out _ (by (repeat first | exact Fr.refl _ _ | exact Fr.drewN _ _ _ | apply Fr.drew | apply Fr.alloc | apply Fr.setAt | apply Fr.moreN))).mono ?_
        rintro e w5 ⟨⟨v, rfl, hv⟩, fy⟩
        have FY0 := Lib.hid fy; have HV := Lib.hid hv; have FY := Lib.hid ((by (repeat first | exact Fr.refl _ _ | exact Fr.drewN _ _ _ | apply Fr.drew | apply Fr.alloc | apply Fr.setAt | apply Fr.moreN) : Fr no wr _).trans fy (fun _ _ h => h))
        clear hv fy
        go_wp2
        obtain ⟨⟨xa, xb⟩, hext⟩ := FY0.out.ext
        refine ⟨⟨xa, xb, hext⟩, hK _ _ ?_⟩
        clear hK K hext xa xb
        first | refine wpX_pu rfl rfl rfl (by first | exact pu_move rfl | exact pu_assign rfl | exact pu_nilCheck rfl rfl | exact pu_binInt rfl rfl rfl | exact pu_conv rfl rfl (by kernel_rfl) | exact pu_fld rfl (by kernel_rfl) | exact pu_ix rfl rfl rfl (by kernel_rfl) | exact pu_unOp rfl | exact pu_binStr rfl rfl rfl | exact pu_len rfl rfl | exact pu_lens rfl rfl | exact pu_pick rfl | exact pu_slice rfl rfl) (fun K hK => ?_) | refine wpX_rd rfl rfl rfl (rd_load rfl) (fun K hK => ?_) | refine wpX_gr rfl rfl rfl (by first | exact gr_buildSlice rfl | exact gr_box rfl | exact gr_alloc rfl) (fun K hK => ?_) | refine wpX_ex rfl rfl rfl (fun K hK => ?_)
        try go_wp2
        refine wpX_done ?_
        clear n0 m0 q0 q1 q2 q3 q4 q5 q6 r0 r1 r2 r3 r4 r5 r6 hgl hgl'
        cases v with
        | true =>
          have he := HV.out.1 rfl
          go_wp2
          go_roundw
          case rel => exact ⟨j + 1, by omega, by go_num, HFR.out.trans FY.out (fun _ _ h => h), by rw [List.take_succ_eq_append_getElem hlt, List.take_succ_eq_append_getElem hlt2, barF_append, barF_append, HT.out, barF_one, barF_one, he]⟩
          case measure => simp [intOf]; omega
        | false =>
          have he : ¬ (l[j].1, bare l[j].2) = (k[j].1, bare k[j].2) := fun h => by have := HV.out.2 h; cases this
          have HE := Lib.hid he; clear he
          go_wp2
          go_ret
          exact ⟨⟨false, rfl, by simpa using barF_ne hlt hlt2 HE.out⟩, HFR.out.trans FY.out (fun _ _ h => h)⟩
      · obtain rfl : j = l.length := by omega
        have HFR := Lib.hid hfr; clear hfr
        go_wp2
        go_ret
        refine ⟨⟨true, rfl, ?_⟩, HFR.out⟩
        have h := HT.out
        rw [List.take_length, List.take_of_length_le (by have := HLEN.out; omega)] at h
        simpa using h
  · have hb : ((l.length : Int) != (k.length : Int)) = true := by simp; omega
    have HLEN := Lib.hid hlen; clear hlen
    go_enter Tryd.func43, Tryd.ntmps43
    go_wp2
    go_ret
    refine ⟨⟨false, rfl, ?_⟩, Fr.refl _ _⟩
    simp only [Bool.false_eq_true, false_iff]
    intro h
    have := congrArg List.length h
    simp only [barF, List.length_map] at this
    exact HLEN.out this

theorem two_boxes {w w6 : World} {a b : Obj} {n : Nat} (f : Fr no (((w.alloc a).alloc b).drewN n) w6) : w6.heap[w.heap.size]? = some a ∧ w6.heap[w.heap.size + 1]? = some b := by
  have h1 := heap_alloc_new (w.alloc a) b
  rw [World.size_alloc] at h1
  exact ⟨f.heap (((Fr.drewN no _ n)).heap (((Fr.refl no _).alloc b).heap (heap_alloc_new w a) (fun h => h)) (fun h => h)) (fun h => h), f.heap ((Fr.drewN no _ n).heap h1 (fun h => h)) (fun h => h)⟩

theorem bare_same (x y : Tr Mm) : bare x = bare y ↔ x.k = y.k ∧ x.b = y.b ∧ x.i = y.i ∧ x.t = y.t ∧ x.bs = y.bs ∧ x.l.map bare = y.l.map bare ∧ barF x.f = barF y.f := by
  constructor
  · intro h
    refine ⟨by rw [← bare_k x, h, bare_k], by rw [← bare_b x, h, bare_b], by rw [← bare_i x, h, bare_i], by rw [← bare_t x, h, bare_t], by rw [← bare_bs x, h, bare_bs], by rw [← bare_l x, h, bare_l], ?_⟩
    have := congrArg Tr.f h
    rwa [bare_f, bare_f] at this
  · rintro ⟨h1, h2, h3, h4, h5, h6, h7⟩
    exact tr_ext (by rw [bare_k, bare_k, h1]) (by rw [bare_b, bare_b, h2]) (by rw [bare_i, bare_i, h3]) (by rw [bare_t, bare_t, h4]) (by rw [bare_bs, bare_bs, h5]) (by rw [bare_l, bare_l, h6]) (by rw [bare_f, bare_f]; exact h7)

set_option maxRecDepth 100000 in
set_option maxHeartbeats 4000000 in
theorem samev_any (x : Tr Mm) : SameV x := by
  induction x using Tr.ind with
  | h x ih =>
    intro y w hx hy
    obtain ⟨BA, bc, LA, lc, FA, fc, hf⟩ := hx.node.forms
    obtain ⟨BB, bd, LB, ld, FB, fd, hg⟩ := hy.node.forms
    have hbs := bare_same x y
    have hB := fun W (f : Fr no w W) => same_any W x.B y.B x.bs y.bs (hx.node.B.kept0 f) (hy.node.B.kept0 f) hx.node.bs hy.node.bs
    have hL := fun W (f : Fr no w W) => samevs_of x.l y.l (fun z hz => ih z (List.mem_append_left _ hz)) W x.L y.L (hx.inL.kept0 f) (hy.inL.kept0 f)
    have hF := fun W (f : Fr no w W) => samefs_of x.f y.f (fun p hp => ih p.2 (List.mem_append_right _ (List.mem_map_of_mem hp))) W x.F y.F (hx.inF.kept0 f) (hy.inF.kept0 f)
    rw [hf.agg, hg.agg]
    rw [hf.B, hg.B] at hB
    rw [hf.L, hg.L] at hL
    rw [hf.F, hg.F] at hF
    have HB := Lib.hid hB; have HL := Lib.hid hL; have HF := Lib.hid hF; have HBS := Lib.hid hbs
    clear hx hy ih hf hg hB hL hF hbs
    have no1 : ∀ {P : Prop} {W : World}, Fr no w W → ¬ P → Tells P w (.returned (.bool false)) W := fun f h => ⟨⟨false, rfl, by simpa using h⟩, f⟩
    by_cases hk : x.k = y.k
    · have gk : ((x.k.toNat : Int) == (y.k.toNat : Int)) = true := by rw [hk]; simp
      by_cases hb : x.b = y.b
      · have gb : (x.b == y.b) = true := by rw [hb]; simp
        by_cases hi : x.i = y.i
        · have gi : (x.i == y.i) = true := by rw [hi]; simp
          by_cases ht : x.t = y.t
          · have gt := strs_same ht
            have HK := Lib.hid hk; have HBB := Lib.hid hb; have HI := Lib.hid hi; have HT := Lib.hid ht; clear hk hb hi ht
            have hd : decide (x.bs = y.bs) = true ∨ decide (x.bs = y.bs) = false := by cases decide (x.bs = y.bs) <;> simp
            have HDB := Lib.hid hd; clear hd
            go_enter Tryd.func21, Tryd.ntmps21
            go_wp2_with fail
            refine (HB.out _ (by (repeat first | exact Fr.refl _ _ | exact Fr.drewN _ _ _ | apply Fr.drew | apply Fr.alloc | apply Fr.setAt | apply Fr.moreN))).mono ?_
            rintro e w5 ⟨rfl, n5, rfl⟩
            rcases HDB.out with hd | hd
            · rw [hd]
              have HD := Lib.hid (of_decide_eq_true hd); clear hd
              go_wp2_with fail
              refine (HL.out _ (by (repeat first | exact Fr.refl _ _ | exact Fr.drewN _ _ _ | apply Fr.drew | apply Fr.alloc | apply Fr.setAt | apply Fr.moreN))).mono ?_
              rintro e w6 ⟨⟨v, rfl, hv⟩, fy⟩
              obtain ⟨hb0, hb1⟩ := two_boxes fy
              obtain ⟨q0, q1, q2, q3, q4, q5, q6, qz, ql⟩ := seven_cells hb0
              obtain ⟨r0, r1, r2, r3, r4, r5, r6, rz, rl⟩ := seven_cells hb1
              have HV := Lib.hid hv; have FY := Lib.hid ((by (repeat first | exact Fr.refl _ _ | exact Fr.drewN _ _ _ | apply Fr.drew | apply Fr.alloc | apply Fr.setAt | apply Fr.moreN) : Fr no w _).trans fy (fun _ _ h => h))
              clear hv fy hb0 hb1
              cases v with
              | false =>
                go_wp2
                go_ret
                exact no1 FY.out (fun h => by have := HV.out.2 (HBS.out.1 h).2.2.2.2.2.1; cases this)
              | true =>
                go_wp2_with fail
                refine (HF.out _ FY.out).mono ?_
                rintro e w7 ⟨⟨v2, rfl, hv2⟩, fy2⟩
                have HV2 := Lib.hid hv2; have FY2 := Lib.hid (FY.out.trans fy2 (fun _ _ h => h))
                clear hv2 fy2
                go_wp2
                go_ret
                refine ⟨⟨v2, rfl, HV2.out.trans ⟨fun h => HBS.out.2 ⟨HK.out, HBB.out, HI.out, HT.out, HD.out, HV.out.1 trivial, h⟩, fun h => (HBS.out.1 h).2.2.2.2.2.2⟩⟩, FY2.out⟩
            · rw [hd]
              have HD := Lib.hid (of_decide_eq_false hd); clear hd
              go_wp2
              go_ret
              exact no1 (by (repeat first | exact Fr.refl _ _ | exact Fr.drewN _ _ _ | apply Fr.drew | apply Fr.alloc | apply Fr.setAt | apply Fr.moreN)) (fun h => HD.out (HBS.out.1 h).2.2.2.2.1)
          · have gt := strs_other ht
            go_enter Tryd.func21, Tryd.ntmps21
            go_wp2
            go_ret
            exact no1 (by (repeat first | exact Fr.refl _ _ | exact Fr.drewN _ _ _ | apply Fr.drew | apply Fr.alloc | apply Fr.setAt | apply Fr.moreN)) (fun h => ht (HBS.out.1 h).2.2.2.1)
        · have gi : (x.i == y.i) = false := by rw [beq_eq_false_iff_ne]; exact hi
          go_enter Tryd.func21, Tryd.ntmps21
          go_wp2
          go_ret
          exact no1 (by (repeat first | exact Fr.refl _ _ | exact Fr.drewN _ _ _ | apply Fr.drew | apply Fr.alloc | apply Fr.setAt | apply Fr.moreN)) (fun h => hi (HBS.out.1 h).2.2.1)
      · have gb : (x.b == y.b) = false := by rw [beq_eq_false_iff_ne]; exact hb
        have HBB := Lib.hid hb; clear hb
        go_enter Tryd.func21, Tryd.ntmps21
        go_wp2
        go_ret
        exact no1 (by (repeat first | exact Fr.refl _ _ | exact Fr.drewN _ _ _ | apply Fr.drew | apply Fr.alloc | apply Fr.setAt | apply Fr.moreN)) (fun h => HBB.out (HBS.out.1 h).2.1)
    · have gk : ((x.k.toNat : Int) == (y.k.toNat : Int)) = false := by
        rw [beq_eq_false_iff_ne]; intro h; exact hk (UInt8.toNat_inj.1 (by omega))
      have HK := Lib.hid hk; clear hk
      go_enter Tryd.func21, Tryd.ntmps21
      go_wp2
      go_ret
      exact no1 (by (repeat first | exact Fr.refl _ _ | exact Fr.drewN _ _ _ | apply Fr.drew | apply Fr.alloc | apply Fr.setAt | apply Fr.moreN)) (fun h => HK.out (HBS.out.1 h).1)

theorem samevs_any (l k : List (Tr Mm)) (w : World) (X Y : Value) (hx : In w X l) (hy : In w Y k) :
    Calls Tryd.prog 20 #[X, Y] w fun e w' => Tells (l.map bare = k.map bare) w e w' := samevs_of l k (fun x _ => samev_any x) w X Y hx hy
end Go.Proofs.YtgcicljklejmjaaDoor

/- Keys without a program: tuples that begin with some values. -/
namespace Go.Proofs.YtgcicljklejmjaaDoor
open Go.RowKit
theorem Diff.not_pre {a b s t : List UInt8} {v : Int} (h : Diff a b v) : ¬ (a ++ s <+: b ++ t) := by
  obtain ⟨p, c, d, ra, rb, rfl, rfl, h⟩ := h
  intro hp
  rw [List.append_assoc, List.append_assoc, List.prefix_append_right_inj, List.cons_append, List.cons_append, List.cons_prefix_cons] at hp
  obtain ⟨rfl, _⟩ := hp
  rcases h with ⟨h, _⟩ | ⟨h, _⟩ <;> exact absurd h (UInt8.lt_irrefl _)
namespace Tr
variable {α β : Type}
theorem enc_inj {x : Tr α} {y : Tr β} (hx : oneErr x = 0) (hy : oneErr y = 0) (nx : Nums x) (ny : Nums y) (h : enc x = enc y) : bare x = bare y := by
  obtain ⟨a1, a2, a3⟩ := one_ok hx nx
  obtain ⟨b1, b2, b3⟩ := one_ok hy ny
  have e1 := dec_enc 8 x [] a1 a2 a3
  have e2 := dec_enc 8 y [] b1 b2 b3
  rw [h, e2] at e1
  exact (Prod.mk.inj (Option.some.inj e1)).1.symm
theorem enc_bare {x : Tr α} {y : Tr β} (h : bare x = bare y) : enc x = enc y := by rw [← bare_enc x, ← bare_enc y, h]
theorem encT_append (d : Nat → Bool) : ∀ (i : Nat) (l k : List (Tr α)), encT d i (l ++ k) = encT d i l ++ encT d (i + l.length) k
  | _, [], _ => rfl
  | i, x :: l, k => by
    show encD (d i) x ++ encT d (i + 1) (l ++ k) = (encD (d i) x ++ encT d (i + 1) l) ++ _
    rw [encT_append d (i + 1) l k, List.append_assoc, List.length_cons, show i + 1 + l.length = i + (l.length + 1) by omega]
/-- A tuple's bytes begin with another's just if it begins with its values. -/
theorem encT_pre (d : Nat → Bool) : ∀ (i : Nat) (l : List (Tr α)) (k : List (Tr β)), (∀ x ∈ l, oneErr x = 0 ∧ Nums x) → (∀ y ∈ k, oneErr y = 0 ∧ Nums y) → (encT d i l <+: encT d i k ↔ l.length ≤ k.length ∧ (k.take l.length).map bare = l.map bare)
  | _, [], k, _, _ => by simp [encT]
  | i, x :: l, [], hl, _ => by
    obtain ⟨h1, h2⟩ := hl x (List.mem_cons_self ..)
    obtain ⟨c, r, hr⟩ := encD_ne (one_ok h1 h2).1.here (d i)
    unfold encT
    rw [hr]
    constructor
    · intro h; have := List.IsPrefix.length_le h; simp at this
    · rintro ⟨h, _⟩; simp at h
  | i, x :: l, y :: k, hl, hk => by
    obtain ⟨h1, h2⟩ := hl x (List.mem_cons_self ..)
    obtain ⟨h3, h4⟩ := hk y (List.mem_cons_self ..)
    have h := encD_asone (d i) x y (one_ok h1 h2).1 (one_ok h3 h4).1
    have ih := encT_pre d (i + 1) l k (fun x hx => hl x (List.mem_cons_of_mem _ hx)) (fun y hy => hk y (List.mem_cons_of_mem _ hy))
    have ha := enc_asone x y (one_ok h1 h2).1 (one_ok h3 h4).1
    show encD (d i) x ++ encT d (i + 1) l <+: encD (d i) y ++ encT d (i + 1) k ↔ _
    rw [List.length_cons, List.length_cons, List.take_succ_cons, List.map_cons, List.map_cons]
    by_cases hc : cmp x y = 0
    · have he := ha.1 hc
      rw [h.1 (by rw [hc]; cases d i <;> rfl), List.prefix_append_right_inj, ih]
      have hb := enc_inj h1 h3 h2 h4 he
      rw [← hb]
      constructor
      · rintro ⟨e1, e2⟩; exact ⟨by omega, by rw [e2]⟩
      · rintro ⟨e1, e2⟩; exact ⟨by omega, by simpa using e2⟩
    · have hd := h.2 (by cases d i <;> simp [hc])
      constructor
      · intro hp; exact absurd hp hd.not_pre
      · rintro ⟨_, e2⟩
        have e3 : bare y = bare x := by simpa using (List.cons.inj e2).1
        have e4 := ha.2 hc
        rw [enc_bare e3] at e4
        have := e4.cb
        rw [cb_self] at this
        exact absurd this.symm hc
end Tr
end Go.Proofs.YtgcicljklejmjaaDoor

/- known: of tuples that are there. -/
namespace Go.Proofs.YtgcicljklejmjaaDoor
open Go.RowKit Go.Shelf
open Tr

/-- A row of cells, as a slice. -/
theorem sl_cells {w : World} {g : Nat} {cs : Array Value} {T : TypeId} {fr : Nat × Nat} (h : w.heap[g]? = some (.cells cs T fr)) (sz n : Nat) (hc : cs.size = n * sz) (hn : n ≤ maxLen) : Sl w sz (.slice (some ⟨g, 0, none⟩) n n) n cs.toList := by
  refine ⟨by simpa using hc, .inr ⟨g, 0, n, rfl, Nat.le_refl _, hn, fun j u hu => ?_⟩⟩
  rw [cell_of_row w g (0 + j) _ _ fr h, Nat.zero_add]
  simpa using hu
theorem good_leaf (w : World) {k : UInt8} {b : Bool} {i : Int} {t : List UInt8} (hi : I64 i) (ht : t.length ≤ reachBytes) : Tr.Good w (.mk k b i t [] nil3 [] []) :=
  ⟨_, ⟨Sl.nil _ _, Sl.nil _ _, Sl.nil _ _, hi, ht, by simp [Tr.bs], by simp [Tr.l], by simp [Tr.f], (fun _ h => nomatch h), by simp [Tr.l], by simp [Tr.f]⟩, fun _ h => nomatch h⟩

def kA : Tr Mm := .mk 4 false 0 [97] [] nil3 [] []
def kB : Tr Mm := .mk 3 false 1 [] [] nil3 [] []
theorem kA_err : oneErr kA = 0 := by
  refine oneErr_zero.2 ⟨check_zero.2 ⟨by decide, ?_, ?_⟩, ?_, ?_⟩
  · unfold parts; rw [pre_eq]; decide
  · intro p hp
    rw [pre_eq] at hp
    have hp : p ∈ [(1, kA)] := hp
    rw [List.mem_singleton.1 hp]
    decide
  · unfold keyed
    rw [pre_eq]
    rfl
  · rw [enc_eq]; decide
theorem kB_err : oneErr kB = 0 := by
  refine oneErr_zero.2 ⟨check_zero.2 ⟨by decide, ?_, ?_⟩, ?_, ?_⟩
  · unfold parts; rw [pre_eq]; decide
  · intro p hp
    rw [pre_eq] at hp
    have hp : p ∈ [(1, kB)] := hp
    rw [List.mem_singleton.1 hp]
    decide
  · unfold keyed
    rw [pre_eq]
    rfl
  · rw [enc_eq]; decide
theorem k_bytes : encT (fallsB [false, true]) 0 [kA, kB] = [0x40, 0x61, 0, 1, 0xcf, 0x7f, 0xff, 0xff, 0xff, 0xff, 0xff, 0xff, 0xfe] := by
  simp only [encT, encD, fallsB]
  rw [enc_eq, enc_eq]
  decide
theorem k_tup : tupErr [kA, kB] = 0 := tupErr_zero.2 ⟨by simp, fun x hx => by
    simp only [List.mem_cons, List.not_mem_nil, or_false] at hx
    rcases hx with rfl | rfl
    · exact kA_err
    · exact kB_err, by rw [encT_len _ 0 0 _, ← encT_len (fallsB [false, true]) 0 0, k_bytes]; decide⟩
theorem k_nums : ∀ x ∈ [kA, kB], Nums x := fun x hx p hp => by
  simp only [List.mem_cons, List.not_mem_nil, or_false] at hx
  rcases hx with rfl | rfl
  · rw [pre_eq] at hp
    have hp : p ∈ [(1, kA)] := hp
    rw [List.mem_singleton.1 hp]
    exact ⟨by decide, by decide⟩
  · rw [pre_eq] at hp
    have hp : p ∈ [(1, kB)] := hp
    rw [List.mem_singleton.1 hp]
    exact ⟨by decide, by decide⟩
theorem k_dec : decT (fallsB [false, true]) 13 0 [0x40, 0x61, 0, 1, 0xcf, 0x7f, 0xff, 0xff, 0xff, 0xff, 0xff, 0xff, 0xfe] = .ok ([kA, kB].map bare) := by
  rw [← k_bytes]
  exact decT_enc _ [kA, kB] 13 0 (tupErr_zero.1 k_tup).2.1 k_nums (by simp) (by rw [k_bytes]; decide)
theorem k_after : after [1, 255] = some [2] := by decide

theorem two_allocs (w : World) (a b : Obj) : ((w.alloc a).alloc b).heap[w.heap.size]? = some a ∧ ((w.alloc a).alloc b).heap[w.heap.size + 1]? = some b := by
  have h1 := heap_alloc_new (w.alloc a) b
  rw [World.size_alloc] at h1
  exact ⟨((Fr.refl no _).alloc b).heap (heap_alloc_new w a) (fun h => h), h1⟩

set_option maxRecDepth 100000 in
set_option maxHeartbeats 2000000 in
theorem known_any (w : World) (hT : Tabs w) : Calls Tryd.prog 23 #[] w fun e w' => e = .returned (.bool true) ∧ Fr no w w' := by
  have HT := Lib.hid hT; clear hT
  go_enter Tryd.func23, Tryd.ntmps23
  go_wp2_with fail
  obtain ⟨h0, h1⟩ := two_allocs w (.cells #[.int .u8 4, .bool false, .int .i64 0, .string ⟨#[97]⟩, .slice none 0 0, .slice none 0 0, .slice none 0 0, .int .u8 3, .bool false, .int .i64 1, .string ⟨#[]⟩, .slice none 0 0, .slice none 0 0, .slice none 0 0] 33) (.cells #[.bool false, .bool true] 4)
  have fW := ((Fr.refl no w).alloc (.cells #[.int .u8 4, .bool false, .int .i64 0, .string ⟨#[97]⟩, .slice none 0 0, .slice none 0 0, .slice none 0 0, .int .u8 3, .bool false, .int .i64 1, .string ⟨#[]⟩, .slice none 0 0, .slice none 0 0, .slice none 0 0] 33)).alloc (.cells #[.bool false, .bool true] 4)
  generalize (w.alloc (.cells #[.int .u8 4, .bool false, .int .i64 0, .string ⟨#[97]⟩, .slice none 0 0, .slice none 0 0, .slice none 0 0, .int .u8 3, .bool false, .int .i64 1, .string ⟨#[]⟩, .slice none 0 0, .slice none 0 0, .slice none 0 0] 33)).alloc (.cells #[.bool false, .bool true] 4) = W at h0 h1 fW ⊢
  have hin : ∀ W', Fr no W W' → In W' (.slice (some ⟨w.heap.size, 0, none⟩) 2 2) [kA, kB] := fun W' f => ⟨sl_cells (f.heap h0 (fun h => h)) 7 2 rfl (by simp [maxLen]), fun y hy => by
    simp only [List.mem_cons, List.not_mem_nil, or_false] at hy
    rcases hy with rfl | rfl
    · exact good_leaf _ ⟨by decide, by decide⟩ (by simp [reachBytes])
    · exact good_leaf _ ⟨by decide, by decide⟩ (by simp [reachBytes]), by simp [reachBytes], by simp [reachBytes]⟩
  have hd1 : Sl W 1 (.slice (some ⟨w.heap.size + 1, 0, none⟩) 2 2) 2 (bls [false, true]) := sl_cells h1 1 2 rfl (by simp [maxLen])
  have henc := encode_any W _ _ [kA, kB] [false, true] (hin W (Fr.refl no W)) hd1 (by simp [reachBytes]) (HT.out.kept0 fW)
  have HIN := Lib.hid hin; have FW := Lib.hid fW
  clear h0 h1 fW hin hd1
  refine henc.mono ?_
  clear henc
  rintro e w2 ⟨f2, ⟨_, A, n, rfl, hn, ho, hfs⟩ | ⟨hne, _⟩⟩
  rotate_left
  · exact absurd k_tup hne
  rw [k_bytes] at hn ho
  obtain rfl : n = 13 := hn
  have F2 := Lib.hid f2; have HO := Lib.hid ho
  clear f2 ho hfs
  go_wp2_with fail
  have h1 := heap_alloc_new w2 (.cells #[.bool false, .bool true] 4)
  have f3 := (Fr.refl no w2).alloc (.cells #[.bool false, .bool true] 4)
  generalize w2.alloc (.cells #[.bool false, .bool true] 4) = W3 at h1 f3 ⊢
  have hd2 : Sl W3 1 (.slice (some ⟨w2.heap.size, 0, none⟩) 2 2) 2 (bls [false, true]) := sl_cells h1 1 2 rfl (by simp [maxLen])
  have hdec := decode_any W3 (.slice A 13 13) _ [0x40, 0x61, 0, 1, 0xcf, 0x7f, 0xff, 0xff, 0xff, 0xff, 0xff, 0xff, 0xfe] [false, true] ((HO.out.kept0 f3).sl) (by decide) (fun k hk => (HO.out.kept0 f3).lt k hk) hd2 (by simp [reachBytes]) (HT.out.kept0 ((FW.out.trans F2.out (fun _ _ h => h)).trans f3 (fun _ _ h => h)))
  have F3 := Lib.hid f3
  clear h1 f3 hd2
  refine hdec.mono ?_
  clear hdec
  rintro e w4 ⟨f4, ⟨ys, Y, yn, hdt, hyn, hy4, rfl, hvr⟩ | ⟨m, hdt, _⟩⟩
  rotate_left
  · exact absurd (k_dec.symm.trans hdt) (by simp)
  have hys : ys.map bare = [kA, kB].map bare := (Except.ok.inj (k_dec.symm.trans hdt)).symm
  have hyi := hvr.inn (by rw [← hyn]; omega)
  rw [← hyn] at hyi
  have F4 := Lib.hid f4; have HYS := Lib.hid hys; have HYI := Lib.hid hyi
  clear f4 hdt hys hvr hyi hyn
  go_wp2_with fail
  have h1 := heap_alloc_new w4 (.cells #[.int .u8 1, .int .u8 255] 5)
  have f5 := (Fr.refl no w4).alloc (.cells #[.int .u8 1, .int .u8 255] 5)
  generalize w4.alloc (.cells #[.int .u8 1, .int .u8 255] 5) = W5 at h1 f5 ⊢
  have haf := after_any W5 (.slice (some ⟨w4.heap.size, 0, none⟩) 2 2) [1, 255] (sl_cells h1 1 2 rfl (by simp [maxLen])) (by decide)
  have F5 := Lib.hid f5
  clear h1 f5
  refine haf.mono ?_
  clear haf
  rintro e w6 ⟨f6, ⟨hno, _⟩ | ⟨a, B, bn, hsa, rfl, hbn, hbo, _⟩⟩
  · rw [k_after] at hno; cases hno
  rw [k_after] at hsa
  obtain rfl : [2] = a := by simpa using hsa
  obtain rfl : bn = 1 := hbn
  have F6 := Lib.hid f6; have HBO := Lib.hid hbo
  clear f6 hbo
  have g0 : ((0 : Int) == 0) = true := rfl
  go_wp2_with fail
  have h1 := heap_alloc_new w6 (.cells #[.int .u8 64, .int .u8 97, .int .u8 0, .int .u8 1, .int .u8 207, .int .u8 127, .int .u8 255, .int .u8 255, .int .u8 255, .int .u8 255, .int .u8 255, .int .u8 255, .int .u8 254] 5)
  have f7 := (Fr.refl no w6).alloc (.cells #[.int .u8 64, .int .u8 97, .int .u8 0, .int .u8 1, .int .u8 207, .int .u8 127, .int .u8 255, .int .u8 255, .int .u8 255, .int .u8 255, .int .u8 255, .int .u8 255, .int .u8 254] 5)
  generalize w6.alloc (.cells #[.int .u8 64, .int .u8 97, .int .u8 0, .int .u8 1, .int .u8 207, .int .u8 127, .int .u8 255, .int .u8 255, .int .u8 255, .int .u8 255, .int .u8 255, .int .u8 255, .int .u8 254] 5) = W7 at h1 f7 ⊢
  have f26 := ((F3.out.trans F4.out (fun _ _ h => h)).trans F5.out (fun _ _ h => h)).trans F6.out (fun _ _ h => h)
  have hsm := same_any W7 (.slice A 13 13) (.slice (some ⟨w6.heap.size, 0, none⟩) 13 13) [0x40, 0x61, 0, 1, 0xcf, 0x7f, 0xff, 0xff, 0xff, 0xff, 0xff, 0xff, 0xfe] [0x40, 0x61, 0, 1, 0xcf, 0x7f, 0xff, 0xff, 0xff, 0xff, 0xff, 0xff, 0xfe] (((HO.out.kept0 f26).kept0 f7).sl) (sl_cells h1 1 13 rfl (by simp [maxLen])) (by decide) (by decide)
  have F7 := Lib.hid f7; have F26 := Lib.hid f26
  clear h1 f7 f26
  refine hsm.mono ?_
  clear hsm
  rintro e w8 ⟨rfl, n8, rfl⟩
  rw [decide_eq_true rfl]
  go_wp2_with fail
  have f67 := (F7.out).moreN n8
  have f48 := (F5.out.trans F6.out (fun _ _ h => h)).trans f67 (fun _ _ h => h)
  have hsv := samevs_any ys [kA, kB] (W7.drewN n8) (.slice Y yn yn) _ (HYI.out.kept0 f48) (HIN.out _ ((F2.out.trans F26.out (fun _ _ h => h)).trans f67 (fun _ _ h => h)))
  have F67 := Lib.hid f67
  clear f67 f48
  refine hsv.mono ?_
  clear hsv
  rintro e w9 ⟨⟨v, rfl, hv⟩, f9⟩
  obtain rfl : v = true := hv.2 HYS.out
  have F9 := Lib.hid f9
  clear f9 hv
  go_wp2_with fail
  have h1 := heap_alloc_new w9 (.cells #[.int .u8 2] 5)
  have f10 := (Fr.refl no w9).alloc (.cells #[.int .u8 2] 5)
  generalize w9.alloc (.cells #[.int .u8 2] 5) = W10 at h1 f10 ⊢
  have hsm := same_any W10 (.slice B 1 1) (.slice (some ⟨w9.heap.size, 0, none⟩) 1 1) [2] [2] ((((HBO.out.kept0 F67.out).kept0 F9.out).kept0 f10).sl) (sl_cells h1 1 1 rfl (by simp [maxLen])) (by decide) (by decide)
  have F10 := Lib.hid f10
  clear h1 f10
  refine hsm.mono ?_
  clear hsm
  rintro e w11 ⟨rfl, n11, rfl⟩
  rw [decide_eq_true rfl]
  go_wp2
  go_ret
  exact ⟨rfl, (((((FW.out.trans F2.out (fun _ _ h => h)).trans F26.out (fun _ _ h => h)).trans F67.out (fun _ _ h => h)).trans F9.out (fun _ _ h => h)).trans F10.out (fun _ _ h => h)).moreN n11⟩
end Go.Proofs.YtgcicljklejmjaaDoor
