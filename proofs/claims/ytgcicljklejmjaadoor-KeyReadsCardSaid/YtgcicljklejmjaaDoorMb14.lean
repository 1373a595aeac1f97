import Derived.Test.YtgcicljklejmjaaDoorMb13
import Derived.Test.YtgcicljklejmjaaDoorMb09

/- key.Split: the first value of bytes. Printed by mksplit.py. -/
namespace Go.Proofs.YtgcicljklejmjaaDoor
open Go.RowKit Go.Shelf
open Tr

theorem ow_setb {w : World} {e : TypeId} {g n c j : Nat} {l : List UInt8} (u : UInt8) (h : Ow w e 1 (.slice (some ⟨g, 0, none⟩) n c) n (bvs l)) : Ow (w.setCell ⟨g, j, none⟩ (.int .u8 u.toNat)) e 1 (.slice (some ⟨g, 0, none⟩) n c) n (bvs (l.set j u)) := by
  obtain ⟨_, cur, hcu, h1, h2, h3, h4⟩ := here h
  have hl := h.1
  refine ⟨by rw [bvs_length, List.length_set, ← bvs_length]; exact hl, .inr ⟨g, c, cur.setIfInBounds j (.int .u8 u.toNat), rfl, hp_same hcu j _, h1, h2, by simpa using h3, ?_⟩⟩
  rw [Array.toList_setIfInBounds, List.take_set, h4]
  unfold bvs
  rw [List.map_set]
  rfl

theorem turn_step {b : List UInt8} {j : Nat} (h : j < b.length) : (turn (b.take j) ++ b.drop j).set j (~~~b[j]) = turn (b.take (j + 1)) ++ b.drop (j + 1) := by
  have hl : (turn (b.take j)).length = j := by rw [turn_len, List.length_take]; omega
  rw [List.drop_eq_getElem_cons h, List.set_append_right _ _ (by omega), hl, Nat.sub_self, List.set_cons_zero, List.take_succ_eq_append_getElem h]
  unfold turn
  rw [List.map_append, List.append_assoc]
  rfl
theorem turn_at {b : List UInt8} {j : Nat} (h : j < b.length) : (turn (b.take j) ++ b.drop j)[j]'(by rw [List.length_append, turn_len, List.length_take, List.length_drop]; omega) = b[j] := by
  have hl : (turn (b.take j)).length = j := by rw [turn_len, List.length_take]; omega
  rw [List.getElem_append_right (by omega)]
  simp [hl]

theorem results_cell_row3 {P : Program} {fn : Func} {p u v : Tmp} {ty : TypeId} (h : fn.results = #[.cell p ty, .tmp u, .tmp v]) (tmps : Array Value) (w : World) (g : Nat) (t : TypeId) (cs : Array Value) (fr : Nat × Nat) (d : TypeDesc)
    (hp : tmps.getD p undef = .pointer (some ⟨g, 0, none⟩)) (hg : w.heap[g]? = some (.cells cs t fr))
    (hu : P.underlying ty = some d) (hd : (match d with | .struct _ | .array _ _ => true | _ => false) = true) (hi : (P.info? ty).map (·.size) = some cs.size) :
    (results fn tmps).run P w = .ok (.tuple #[.agg cs, tmps.getD u undef, tmps.getD v undef]) w := by
  have hp' : tmps[p]?.getD undef = .pointer (some ⟨g, 0, none⟩) := by simpa using hp
  simp [results, h, hp', asAddr, Result.andThen, run_loadVar_row w g t ty cs fr d hg hu hd hi]

/-- What Split says. -/
def SplitOut (down : Bool) (b : List UInt8) (w : World) (e : Ending) (w' : World) : Prop :=
  Fr no w w' ∧ ((∃ x s A n, splitE down b = some (bare x, s) ∧ n = s.length ∧ e = .returned (.tuple #[x.agg, .slice A n n, .int .u16 0]) ∧ Tr.Own w' x ∧ Tr.Good w' x ∧ (∀ k, Blk x k → w.heap.size ≤ k) ∧ Ow w' 5 1 (.slice A n n) n (bvs s) ∧ (∀ k, Value.ownBlock (.slice A n n) = some k → w.heap.size ≤ k ∧ ¬ Blk x k))
    ∨ (splitE down b = none ∧ e = .returned (.tuple #[.agg #[.int .u8 0, .bool false, .int .i64 0, .string ⟨#[]⟩, .slice none 0 0, .slice none 0 0, .slice none 0 0], .slice none 0 0, .int .u16 40])))

set_option maxRecDepth 100000 in
set_option maxHeartbeats 4000000 in
theorem split_any (w : World) (X : Value) (b : List UInt8) (down : Bool) (hx : Sl w 1 X b.length (bvs b)) (hl : b.length ≤ 1000000000) (hT : Tabs w) (hX : ∀ k, X.ownBlock = some k → k < w.heap.size) :
    Calls Tryd.prog 12 #[X, .bool down] w fun e w' => SplitOut down b w e w' := by
  obtain ⟨A, c, rfl, hc1, hc2⟩ := hx.form
  have HX := Lib.hid hx; have HT := Lib.hid hT; have HXB := Lib.hid hX
  clear hx hT hX
  cases down with
  | false =>
    go_enter Tryd.func12, Tryd.ntmps12
    go_wp2_with fail
    refine (bclone_any _ _ b (HX.out.kept0 (by (repeat first | exact Fr.refl _ _ | exact Fr.drewN _ _ _ | apply Fr.drew | apply Fr.alloc | apply Fr.setAt | apply Fr.moreN))) (by omega)).mono ?_
    rintro e v1 ⟨B, c1, rfl, ow1, nb1, f1⟩
    have hb1 := f1.heap (heap_alloc_new w (.cells #[.int .u8 0, .bool false, .int .i64 0, .string ⟨#[]⟩, .slice none 0 0, .slice none 0 0, .slice none 0 0] 33)) (fun h => h)
    have ff1 := (Fr.refl no w).alloc (.cells #[.int .u8 0, .bool false, .int .i64 0, .string ⟨#[]⟩, .slice none 0 0, .slice none 0 0, .slice none 0 0] 33) |>.trans f1 (fun _ _ h => h)
    have hn1 : ∀ k, Value.ownBlock (.slice B b.length c1) = some k → w.heap.size < k := fun k hk => by have := nb1 k hk; rw [World.size_alloc] at this; omega
    have HBV := Lib.hid hb1; have FV := Lib.hid ff1; have OW1 := Lib.hid ow1; have HN1 := Lib.hid hn1
    clear hb1 ff1 ow1 nb1 hn1 f1
    obtain ⟨z, hz⟩ : ∃ z, z = b := ⟨_, rfl⟩
    have hzl : z.length = b.length := by subst hz; first | rfl | exact turn_len _
    have owz : Ow v1 5 1 (.slice B b.length c1) b.length (bvs z) := by rw [hz]; exact OW1.out
    have HZL := Lib.hid hzl; have OWZ := Lib.hid owz; have HZ := Lib.hid hz; clear hzl owz hz
    go_wp2_with fail
    have hsz : (v1.alloc (.cells #[.slice B b.length c1, .bool false] 91)).heap.size = v1.heap.size + 1 := World.size_alloc _ _
    have hgv : w.heap.size < v1.heap.size := (Array.getElem?_eq_some_iff.1 HBV.out).1
    have hrd : Rdr (v1.heap.size + 1) (v1.alloc (.cells #[.slice B b.length c1, .bool false] 91)) v1.heap.size z false := by
      refine ⟨by omega, B, c1, ?_, ?_, fun k hk => ?_⟩
      · rw [HZL.out]; exact heap_alloc_new _ _
      · rw [HZL.out]; exact (OWZ.out.sl).kept0 ((Fr.refl no _).alloc _)
      · rw [HZL.out] at hk
        have := OWZ.out.lt k hk
        omega
    have hval := val_any (v1.heap.size + 1) v1.heap.size 9 (by omega) _ z hrd (by omega) (by rw [HZL.out]; omega)
    have hb := ((Fr.refl no v1).alloc (.cells #[.slice B b.length c1, .bool false] 91)).heap HBV.out (fun h => h)
    have ff := FV.out.trans ((Fr.refl no v1).alloc (.cells #[.slice B b.length c1, .bool false] 91)) (fun _ _ h => h)
    generalize v1.alloc (.cells #[.slice B b.length c1, .bool false] 91) = W at hsz hrd hval hb ff ⊢
    have HSZ := Lib.hid hsz; have HRD := Lib.hid hrd; have HVAL := Lib.hid hval; have HB := Lib.hid hb; have FW := Lib.hid ff
    clear hsz hrd hval hb ff
    refine HVAL.out.mono ?_
    rintro e w5 ⟨f5, ⟨x, s, hdc, rfl, hox, hbx, hr5, hln⟩ | ⟨hdc, ⟨jk, jb, ji, jt, JB, jbn, jbc, JL, jln, jlc, JF, jfn, jfc, rfl⟩, s, hr5, hln⟩⟩
    · have hb5 := f5.heap HB.out (fun h => by have h : w.heap.size = v1.heap.size := h; omega)
      have F5 := Lib.hid (FW.out.trans f5 (fun k hk h => by have h : k = v1.heap.size := h; omega))
      have hds := dec_some 9 _ _ _ hdc
      have hgx := own_good_of (N := 1000000001) (by omega) x hds.2.1 hds.2.2.1 (by have h1 := congrArg List.length hds.1; simp only [List.length_append] at h1; have := HZL.out; omega) hox
      obtain ⟨YB, yb, YL, yl, YF, yf, hfy⟩ := hgx.node.forms
      have hag := hfy.agg
      have hch := fun W' (f : Fr no w5 W') => check_any W' x (hgx.kept0 f) ((HT.out.kept0 F5.out).kept0 f)
      have hcl := fun W' (f : Fr no w5 W') => clone_any x W' (hgx.kept0 f)
      rw [hag] at hch hcl ⊢
      obtain ⟨y1, yz, yl1⟩ := hr5.cells
      obtain ⟨q0, q1, q2, q3, q4, q5, q6, qz, ql⟩ := seven_cells hb5
      have HB5 := Lib.hid hb5; have HOX := Lib.hid hox; have HGX := Lib.hid hgx; have HR5 := Lib.hid hr5; have HDC := Lib.hid hdc; have HLN := Lib.hid hln; have HCH := Lib.hid hch; have HCL := Lib.hid hcl
      clear f5 hb5 hox hgx hr5 hdc hln hch hcl hds hfy hag hbx
      go_wp2_with fail
      refine (HCH.out _ (by (repeat first | exact Fr.refl _ _ | exact Fr.drewN _ _ _ | apply Fr.drew | apply Fr.alloc | apply Fr.setAt | apply Fr.moreN))).mono ?_
      rintro e w6 ⟨rfl, f6⟩
      have hal := (Fr.refl no w5).alloc (.cells #[.int .u8 x.k.toNat, .bool x.b, .int .i64 x.i, .string ⟨x.t.toArray⟩, .slice YB x.bs.length yb, .slice YL x.l.length yl, .slice YF x.f.length yf] 33)
      have hx6 := f6.heap (heap_alloc_new w5 (.cells #[.int .u8 x.k.toNat, .bool x.b, .int .i64 x.i, .string ⟨x.t.toArray⟩, .slice YB x.bs.length yb, .slice YL x.l.length yl, .slice YF x.f.length yf] 33)) (fun h => h)
      have f56 := hal.trans f6 (fun _ _ h => h)
      have hb6 := f56.heap HB5.out (fun h => h)
      have hr6 := HR5.out.kept0 f56
      obtain ⟨_, RA, rc, hp1, hsl, hrn⟩ := hr6
      obtain ⟨y0, y1, yz, yl1⟩ := two_cells hp1
      obtain ⟨q0, q1, q2, q3, q4, q5, q6, qz, ql⟩ := seven_cells hb6
      obtain ⟨x0, x1, x2, x3, x4, x5, x6, xz, xl⟩ := seven_cells hx6
      have HB6 := Lib.hid hb6; have F56 := Lib.hid f56; have F6 := Lib.hid (F5.out.trans f56 (fun _ _ h => h))
      clear hal hx6 f56 hb6 hp1 hsl hrn f6
      by_cases hc : check x = 0
      · have hsp : splitE false b = some (bare x, b.drop (b.length - s.length)) := by
          unfold splitE; simp only [Bool.false_eq_true, if_false]; rw [← HZ.out, HDC.out]; simp only; rw [if_pos (by rw [bare_check]; exact hc)]
        have hcc : ((check x : Int) != 0) = false := by rw [hc]; rfl
        have hsl2 : s.length ≤ b.length := by have := HLN.out; have := HZL.out; omega
        have HSP := Lib.hid hsp; have HC := Lib.hid hc
        clear hsp hc
        obtain ⟨lo, hlo⟩ : ∃ lo, lo = b.length - s.length := ⟨_, rfl⟩
        have hi1 : IntKind.i64.wrap ((b.length : Int) - (s.length : Int)) = (lo : Int) := by
          rw [show (b.length : Int) - (s.length : Int) = (lo : Int) by omega]
          exact IntWalk.i64_in _ ⟨by omega, by omega⟩
        have hlb : lo ≤ b.length := by omega
        have hlc : lo ≤ c := by omega
        have HLO := Lib.hid hlo; have HI1 := Lib.hid hi1
        clear hlo hi1
        by_cases hcl : c = lo
        · skip
          subst hcl
          have hi1 := HI1.out
          have htl := fun W' (_ : Fr no w W') => (⟨rfl, .inl ⟨A, rfl, rfl⟩⟩ : Sl W' 1 (.slice A 0 0) ([] : List UInt8).length (bvs []))
          have hdl : ([] : List UInt8).length = 0 := rfl
          have HTL := Lib.hid htl; clear htl
          go_wp2_with fail
          refine wp_region_ord [0, 2, 3, 4, 5, 6, 7, 8, 9, 10, 11, 1, 12, 13, 14, 15, 16] (fun i => [Kd.l, Kd.g, Kd.p, Kd.p, Kd.p, Kd.p, Kd.p, Kd.p, Kd.l, Kd.p, Kd.p, Kd.p, Kd.g, Kd.g, Kd.e, Kd.p, Kd.p].getD i .e) (by kernel_rfl) (by kernel_rfl) ?_
          iterate 11
            first | refine wpX_pu rfl rfl rfl (by first | exact pu_move rfl | exact pu_assign rfl | exact pu_nilCheck rfl rfl | exact pu_binInt rfl rfl rfl | exact pu_conv rfl rfl (by kernel_rfl) | exact pu_fld rfl (by kernel_rfl) | exact pu_ix rfl rfl rfl (by kernel_rfl) | exact pu_unOp rfl | exact pu_binStr rfl rfl rfl | exact pu_len rfl rfl | exact pu_lens rfl rfl | exact pu_pick rfl | exact pu_slice rfl rfl) (fun K hK => ?_) | refine wpX_rd rfl rfl rfl (rd_load rfl) (fun K hK => ?_) | refine wpX_gr rfl rfl rfl (by first | exact gr_buildSlice rfl | exact gr_box rfl | exact gr_alloc rfl) (fun K hK => ?_) | refine wpX_ex rfl rfl rfl (fun K hK => ?_)
            try go_wp2
          refine wpX_ca rfl rfl rfl (fun K hK => ?_)
          go_wp2_with fail
          refine (HCL.out _ (Fr.drew F56.out)).mono ?_
          rintro e w7 ⟨y, rfl, hby, hoy, hny, f7⟩
          have F70 := Lib.hid f7
          have hgy := hoy.good hby HGX.out
          obtain ⟨ZB, zb, ZL, zl, ZF, zf, hfy⟩ := hgy.node.forms
          have f67 := (Fr.drew (Fr.refl no w6)).trans f7 (fun _ _ h => h)
          have hb7 := f67.heap HB6.out (fun h => h)
          have hny' : ∀ k, Blk y k → w.heap.size < k := fun k hk => by have h1 := hny k hk; have h2 := F6.out.size; have h3 : w6.drew.heap.size = w6.heap.size := rfl; have h4 := (Array.getElem?_eq_some_iff.1 HB6.out).1; omega
          have hag := hfy.agg
          rw [hag]
          have HBY := Lib.hid hby; have HOY := Lib.hid hoy; have HNY := Lib.hid hny'; have HGY := Lib.hid hgy; have HAG := Lib.hid hag; have F7 := Lib.hid (F6.out.trans f67 (fun _ _ h => h)); have HB7 := Lib.hid hb7
          clear hby hoy hny hny' hgy hfy hag f67 hb7 f7
          go_wp2
          obtain ⟨⟨xa, xb⟩, hext⟩ := F70.out.ext
          refine ⟨⟨xa, xb, hext⟩, hK _ _ ?_⟩
          clear hK K hext xa xb
          refine wpX_ca rfl rfl rfl (fun K hK => ?_)
          go_wp2_with fail
          have hbc := bclone_any w7 _ [] (HTL.out w7 F7.out) (by simp)
          simp only [List.length_nil] at hbc
          refine hbc.mono ?_
          clear hbc
          rintro e w8 ⟨D, c2, rfl, ow8, nb8, f8⟩
          have F80 := Lib.hid f8
          have hc2 : 0 ≤ c2 := by
            obtain ⟨A', c', h1, h2, _⟩ := ow8.sl.form
            cases h1; exact h2
          have owc := own_clip ow8
          have hb8 := f8.heap HB7.out (fun h => h)
          have hdn : ∀ k, Value.ownBlock (.slice D 0 0) = some k → w.heap.size < k ∧ ¬ Blk y k := fun k hk => by
            have h1 := nb8 k (by cases D <;> exact hk)
            have h2 := (Array.getElem?_eq_some_iff.1 HB7.out).1
            exact ⟨by omega, fun h => by have := HOY.out.lt k h; omega⟩
          obtain ⟨q0, q1, q2, q3, q4, q5, q6, qz, ql⟩ := seven_cells hb8
          have HOD := Lib.hid owc; have Hfalse := Lib.hid hdn; have HB8 := Lib.hid hb8; have F8 := Lib.hid f8
          clear ow8 nb8 f8 owc hb8 hdn
          go_wp2
          obtain ⟨⟨xa, xb⟩, hext⟩ := F80.out.ext
          refine ⟨⟨xa, xb, hext⟩, hK _ _ ?_⟩
          clear hK K hext xa xb
          refine wpX_ca rfl rfl rfl (fun K hK => ?_)
          go_wp2_with fail
          refine (bclip_any w8 D _ c2 hc2).mono ?_
          rintro e w9 ⟨rfl, hw⟩
          subst w9
          go_wp2
          refine ⟨⟨#[], _, (World.ext_self _).symm⟩, hK _ _ ?_⟩
          clear hK K
          refine wpX_ex rfl rfl rfl (fun K hK => ?_)
          go_simp
          refine hK _ _ ?_
          clear hK K
          iterate 2
            first | refine wpX_pu rfl rfl rfl (by first | exact pu_move rfl | exact pu_assign rfl | exact pu_nilCheck rfl rfl | exact pu_binInt rfl rfl rfl | exact pu_conv rfl rfl (by kernel_rfl) | exact pu_fld rfl (by kernel_rfl) | exact pu_ix rfl rfl rfl (by kernel_rfl) | exact pu_unOp rfl | exact pu_binStr rfl rfl rfl | exact pu_len rfl rfl | exact pu_lens rfl rfl | exact pu_pick rfl | exact pu_slice rfl rfl) (fun K hK => ?_) | refine wpX_rd rfl rfl rfl (rd_load rfl) (fun K hK => ?_) | refine wpX_gr rfl rfl rfl (by first | exact gr_buildSlice rfl | exact gr_box rfl | exact gr_alloc rfl) (fun K hK => ?_) | refine wpX_ex rfl rfl rfl (fun K hK => ?_)
            try go_wp2
          refine wpX_done ?_
          go_wp2
          have hset := set7_row (a := .int .u8 y.k.toNat) (b := .bool y.b) (c := .int .i64 y.i) (d := .string ⟨y.t.toArray⟩) (e := .slice ZB y.bs.length zb) (f := .slice ZL y.l.length zl) (h := .slice ZF y.f.length zf) HB8.out
          have hsf := set7_fr w8 w.heap.size (.int .u8 y.k.toNat) (.bool y.b) (.int .i64 y.i) (.string ⟨y.t.toArray⟩) (.slice ZB y.bs.length zb) (.slice ZL y.l.length zl) (.slice ZF y.f.length zf)
          unfold set7 at hset hsf
          refine bodyPost_ret (results_cell_row3 (P := Tryd.prog) rfl _ _ w.heap.size 33 _ (0, 0) _ rfl hset Tryd.underlying33 rfl (by kernel_rfl)) rfl ?_
          have hyo := ((HOY.out.kept0 F8.out).kept hsf (fun k hk h => by have := HNY.out k hk; omega) : Tr.Own _ y)
          exact ⟨(F7.out.trans F8.out (fun _ _ h => h)).trans hsf (fun k hk h => by omega), .inl ⟨y, b.drop (b.length - s.length), D, 0, by rw [HSP.out, HBY.out], by rw [← HLO.out]; (rw [List.length_drop]; omega), by rw [HAG.out]; rfl, hyo, hyo.good rfl HGY.out, fun k hk => Nat.le_of_lt (HNY.out k hk), by rw [← HLO.out]; exact (by rw [List.drop_eq_nil_of_le (by omega)]; exact HOD.out.kept hsf (fun k hk h => by have := (Hfalse.out k hk).1; omega)), fun k hk => ⟨Nat.le_of_lt (Hfalse.out k hk).1, (Hfalse.out k hk).2⟩⟩⟩
        · skip
          have hi1 := HI1.out
          have hdl : (b.drop lo).length = b.length - lo := List.length_drop
          have htl := fun W' (f : Fr no w W') => (Sl.tail1 (lo := lo) (HX.out.kept0 f) (by omega)).1
          rw [bvs_drop, ← hdl] at htl
          have HTL := Lib.hid htl; have HDL := Lib.hid hdl
          clear htl hdl
          go_wp2_with fail
          refine wp_region_ord [0, 2, 3, 4, 5, 6, 7, 8, 9, 10, 11, 1, 12, 13, 14, 15, 16] (fun i => [Kd.l, Kd.g, Kd.p, Kd.p, Kd.p, Kd.p, Kd.p, Kd.p, Kd.l, Kd.p, Kd.p, Kd.p, Kd.g, Kd.g, Kd.e, Kd.p, Kd.p].getD i .e) (by kernel_rfl) (by kernel_rfl) ?_
          iterate 11
            first | refine wpX_pu rfl rfl rfl (by first | exact pu_move rfl | exact pu_assign rfl | exact pu_nilCheck rfl rfl | exact pu_binInt rfl rfl rfl | exact pu_conv rfl rfl (by kernel_rfl) | exact pu_fld rfl (by kernel_rfl) | exact pu_ix rfl rfl rfl (by kernel_rfl) | exact pu_unOp rfl | exact pu_binStr rfl rfl rfl | exact pu_len rfl rfl | exact pu_lens rfl rfl | exact pu_pick rfl | exact pu_slice rfl rfl) (fun K hK => ?_) | refine wpX_rd rfl rfl rfl (rd_load rfl) (fun K hK => ?_) | refine wpX_gr rfl rfl rfl (by first | exact gr_buildSlice rfl | exact gr_box rfl | exact gr_alloc rfl) (fun K hK => ?_) | refine wpX_ex rfl rfl rfl (fun K hK => ?_)
            try go_wp2
          refine wpX_ca rfl rfl rfl (fun K hK => ?_)
          go_wp2_with fail
          refine (HCL.out _ (Fr.drew F56.out)).mono ?_
          rintro e w7 ⟨y, rfl, hby, hoy, hny, f7⟩
          have F70 := Lib.hid f7
          have hgy := hoy.good hby HGX.out
          obtain ⟨ZB, zb, ZL, zl, ZF, zf, hfy⟩ := hgy.node.forms
          have f67 := (Fr.drew (Fr.refl no w6)).trans f7 (fun _ _ h => h)
          have hb7 := f67.heap HB6.out (fun h => h)
          have hny' : ∀ k, Blk y k → w.heap.size < k := fun k hk => by have h1 := hny k hk; have h2 := F6.out.size; have h3 : w6.drew.heap.size = w6.heap.size := rfl; have h4 := (Array.getElem?_eq_some_iff.1 HB6.out).1; omega
          have hag := hfy.agg
          rw [hag]
          have HBY := Lib.hid hby; have HOY := Lib.hid hoy; have HNY := Lib.hid hny'; have HGY := Lib.hid hgy; have HAG := Lib.hid hag; have F7 := Lib.hid (F6.out.trans f67 (fun _ _ h => h)); have HB7 := Lib.hid hb7
          clear hby hoy hny hny' hgy hfy hag f67 hb7 f7
          go_wp2
          obtain ⟨⟨xa, xb⟩, hext⟩ := F70.out.ext
          refine ⟨⟨xa, xb, hext⟩, hK _ _ ?_⟩
          clear hK K hext xa xb
          refine wpX_ca rfl rfl rfl (fun K hK => ?_)
          go_wp2_with fail
          have hbc := bclone_any w7 _ (b.drop lo) (HTL.out w7 F7.out) (by have := HDL.out; omega)
          rw [HDL.out] at hbc
          refine hbc.mono ?_
          clear hbc
          rintro e w8 ⟨D, c2, rfl, ow8, nb8, f8⟩
          have F80 := Lib.hid f8
          have hc2 : (b.length - lo) ≤ c2 := by
            obtain ⟨A', c', h1, h2, _⟩ := ow8.sl.form
            cases h1; exact h2
          have owc := own_clip ow8
          have hb8 := f8.heap HB7.out (fun h => h)
          have hdn : ∀ k, Value.ownBlock (.slice D (b.length - lo) (b.length - lo)) = some k → w.heap.size < k ∧ ¬ Blk y k := fun k hk => by
            have h1 := nb8 k (by cases D <;> exact hk)
            have h2 := (Array.getElem?_eq_some_iff.1 HB7.out).1
            exact ⟨by omega, fun h => by have := HOY.out.lt k h; omega⟩
          obtain ⟨q0, q1, q2, q3, q4, q5, q6, qz, ql⟩ := seven_cells hb8
          have HOD := Lib.hid owc; have Hfalse := Lib.hid hdn; have HB8 := Lib.hid hb8; have F8 := Lib.hid f8
          clear ow8 nb8 f8 owc hb8 hdn
          go_wp2
          obtain ⟨⟨xa, xb⟩, hext⟩ := F80.out.ext
          refine ⟨⟨xa, xb, hext⟩, hK _ _ ?_⟩
          clear hK K hext xa xb
          refine wpX_ca rfl rfl rfl (fun K hK => ?_)
          go_wp2_with fail
          refine (bclip_any w8 D _ c2 hc2).mono ?_
          rintro e w9 ⟨rfl, hw⟩
          subst w9
          go_wp2
          refine ⟨⟨#[], _, (World.ext_self _).symm⟩, hK _ _ ?_⟩
          clear hK K
          refine wpX_ex rfl rfl rfl (fun K hK => ?_)
          go_simp
          refine hK _ _ ?_
          clear hK K
          iterate 2
            first | refine wpX_pu rfl rfl rfl (by first | exact pu_move rfl | exact pu_assign rfl | exact pu_nilCheck rfl rfl | exact pu_binInt rfl rfl rfl | exact pu_conv rfl rfl (by kernel_rfl) | exact pu_fld rfl (by kernel_rfl) | exact pu_ix rfl rfl rfl (by kernel_rfl) | exact pu_unOp rfl | exact pu_binStr rfl rfl rfl | exact pu_len rfl rfl | exact pu_lens rfl rfl | exact pu_pick rfl | exact pu_slice rfl rfl) (fun K hK => ?_) | refine wpX_rd rfl rfl rfl (rd_load rfl) (fun K hK => ?_) | refine wpX_gr rfl rfl rfl (by first | exact gr_buildSlice rfl | exact gr_box rfl | exact gr_alloc rfl) (fun K hK => ?_) | refine wpX_ex rfl rfl rfl (fun K hK => ?_)
            try go_wp2
          refine wpX_done ?_
          go_wp2
          have hset := set7_row (a := .int .u8 y.k.toNat) (b := .bool y.b) (c := .int .i64 y.i) (d := .string ⟨y.t.toArray⟩) (e := .slice ZB y.bs.length zb) (f := .slice ZL y.l.length zl) (h := .slice ZF y.f.length zf) HB8.out
          have hsf := set7_fr w8 w.heap.size (.int .u8 y.k.toNat) (.bool y.b) (.int .i64 y.i) (.string ⟨y.t.toArray⟩) (.slice ZB y.bs.length zb) (.slice ZL y.l.length zl) (.slice ZF y.f.length zf)
          unfold set7 at hset hsf
          refine bodyPost_ret (results_cell_row3 (P := Tryd.prog) rfl _ _ w.heap.size 33 _ (0, 0) _ rfl hset Tryd.underlying33 rfl (by kernel_rfl)) rfl ?_
          have hyo := ((HOY.out.kept0 F8.out).kept hsf (fun k hk h => by have := HNY.out k hk; omega) : Tr.Own _ y)
          exact ⟨(F7.out.trans F8.out (fun _ _ h => h)).trans hsf (fun k hk h => by omega), .inl ⟨y, b.drop (b.length - s.length), D, (b.length - lo), by rw [HSP.out, HBY.out], by rw [← HLO.out]; rw [List.length_drop], by rw [HAG.out]; rfl, hyo, hyo.good rfl HGY.out, fun k hk => Nat.le_of_lt (HNY.out k hk), by rw [← HLO.out]; exact HOD.out.kept hsf (fun k hk h => by have := (Hfalse.out k hk).1; omega), fun k hk => ⟨Nat.le_of_lt (Hfalse.out k hk).1, (Hfalse.out k hk).2⟩⟩⟩
      · have hsp : splitE false b = none := by
          unfold splitE; simp only [Bool.false_eq_true, if_false]; rw [← HZ.out, HDC.out]; simp only; rw [if_neg (by rw [bare_check]; exact hc)]
        have hcc : ((check x : Int) != 0) = true := by rw [bne_iff_ne]; omega
        have HSP := Lib.hid hsp; have HC := Lib.hid hc
        clear hsp hc
        go_wp2
        have hset := set7_row (a := .int .u8 0) (b := .bool false) (c := .int .i64 0) (d := .string ⟨#[]⟩) (e := .slice none 0 0) (f := .slice none 0 0) (h := .slice none 0 0) HB6.out
        have hsf := set7_fr w6 w.heap.size (.int .u8 0) (.bool false) (.int .i64 0) (.string ⟨#[]⟩) (.slice none 0 0) (.slice none 0 0) (.slice none 0 0)
        unfold set7 at hset hsf
        refine bodyPost_ret (results_cell_row3 (P := Tryd.prog) rfl _ _ w.heap.size 33 _ (0, 0) _ rfl hset Tryd.underlying33 rfl (by kernel_rfl)) rfl ?_
        exact ⟨F6.out.trans hsf (fun k hk h => by omega), .inr ⟨HSP.out, rfl⟩⟩
    · have hb5 := f5.heap HB.out (fun h => by have h : w.heap.size = v1.heap.size := h; omega)
      have F5 := Lib.hid (FW.out.trans f5 (fun k hk h => by have h : k = v1.heap.size := h; omega))
      have hsp : splitE false b = none := by
        unfold splitE; simp only [Bool.false_eq_true, if_false]; rw [← HZ.out, hdc]
      obtain ⟨y1, yz, yl1⟩ := hr5.cells
      obtain ⟨q0, q1, q2, q3, q4, q5, q6, qz, ql⟩ := seven_cells hb5
      have HB5 := Lib.hid hb5; have HSP := Lib.hid hsp
      clear f5 hb5 hr5 hdc hln hsp
      go_wp2
      have hset := set7_row (a := .int .u8 0) (b := .bool false) (c := .int .i64 0) (d := .string ⟨#[]⟩) (e := .slice none 0 0) (f := .slice none 0 0) (h := .slice none 0 0) HB5.out
      have hsf := set7_fr w5 w.heap.size (.int .u8 0) (.bool false) (.int .i64 0) (.string ⟨#[]⟩) (.slice none 0 0) (.slice none 0 0) (.slice none 0 0)
      unfold set7 at hset hsf
      have hset2 := ((Fr.refl no _).alloc (.cells #[.int .u8 jk, .bool jb, .int .i64 ji, .string jt, .slice JB jbn jbc, .slice JL jln jlc, .slice JF jfn jfc] 33)).heap hset (fun h => h)
      refine bodyPost_ret (results_cell_row3 (P := Tryd.prog) rfl _ _ w.heap.size 33 _ (0, 0) _ rfl hset2 Tryd.underlying33 rfl (by kernel_rfl)) rfl ?_
      exact ⟨(F5.out.trans hsf (fun k hk h => absurd h (Nat.ne_of_lt hk))).alloc _, .inr ⟨HSP.out, rfl⟩⟩
  | true =>
    go_enter Tryd.func12, Tryd.ntmps12
    go_wp2_with fail
    refine (bclone_any _ _ b (HX.out.kept0 (by (repeat first | exact Fr.refl _ _ | exact Fr.drewN _ _ _ | apply Fr.drew | apply Fr.alloc | apply Fr.setAt | apply Fr.moreN))) (by omega)).mono ?_
    rintro e v1 ⟨B, c1, rfl, ow1, nb1, f1⟩
    have hb1 := f1.heap (heap_alloc_new w (.cells #[.int .u8 0, .bool false, .int .i64 0, .string ⟨#[]⟩, .slice none 0 0, .slice none 0 0, .slice none 0 0] 33)) (fun h => h)
    have ff1 := (Fr.refl no w).alloc (.cells #[.int .u8 0, .bool false, .int .i64 0, .string ⟨#[]⟩, .slice none 0 0, .slice none 0 0, .slice none 0 0] 33) |>.trans f1 (fun _ _ h => h)
    have hn1 : ∀ k, Value.ownBlock (.slice B b.length c1) = some k → w.heap.size < k := fun k hk => by have := nb1 k hk; rw [World.size_alloc] at this; omega
    have HB1 := Lib.hid hb1; have FF1 := Lib.hid ff1; have OW1 := Lib.hid ow1; have HN1 := Lib.hid hn1
    clear hb1 ff1 ow1 nb1 hn1 f1
    go_wp2
    go_loopw [16] (fun iv wr => ∃ j : Nat, j ≤ b.length ∧ iv = .int .i64 j ∧ Ow wr 5 1 (.slice B b.length c1) b.length (bvs (turn (b.take j) ++ b.drop j)) ∧ Fr (fun k => Value.ownBlock (.slice B b.length c1) = some k) v1 wr) (fun iv _ => b.length - (intOf iv).toNat)
    case atStart => exact ⟨0, Nat.zero_le _, rfl, OW1.out, Fr.refl _ _⟩
    case round =>
      obtain ⟨j, hj, rfl, how, hfr⟩ := hrel
      by_cases hlt : j < b.length
      · obtain ⟨g, hg⟩ := here_some how (by omega)
        have hgb : Value.ownBlock (.slice B b.length c1) = some g := by rw [hg]; rfl
        subst hg
        have hll : (turn (b.take j) ++ b.drop j).length = b.length := by rw [List.length_append, turn_len, List.length_take, List.length_drop]; omega
        have hsl := how.sl
        rw [← hll] at hsl
        obtain ⟨g', o', hA, hcj⟩ := hsl.byte j (by omega)
        simp only [Option.some.injEq, Addr.mk.injEq, and_true] at hA
        obtain ⟨rfl, rfl⟩ := hA
        rw [turn_at hlt, Nat.zero_add] at hcj
        obtain ⟨_, cur, hcu, -⟩ := here how
        have gz : ∀ q, wr.frozen? ⟨g, q, none⟩ = false := fun q => by simp [World.frozen?, hcu]
        have gl := (Array.getElem?_eq_some_iff.1 hcu).1
        have hset := Fr.setCell (Fr.refl (fun k => Value.ownBlock (.slice (some ⟨g, 0, none⟩) b.length c1) = some k) wr) ⟨g, j, none⟩ (.int .u8 (~~~b[j]).toNat) (fun _ => rfl)
        have how2 := ow_setb (j := j) (~~~b[j]) how
        rw [turn_step hlt] at how2
        have HSET := Lib.hid (hfr.trans hset (fun _ _ h => h)); have HOW2 := Lib.hid how2
        clear how hfr hll hsl hcu hset how2 hgb
        go_wp2
        have hx8 : bits BinOp.xor IntKind.u8 (if IntKind.u8.signed = true then -1 else IntKind.u8.max) (b[j].toNat : Int) = ((~~~b[j]).toNat : Int) := not8 _
        go_roundw
        case rel => rw [hx8]; exact ⟨j + 1, by omega, by go_num, HOW2.out, HSET.out⟩
        case measure => simp [intOf]; omega
      · obtain rfl : j = b.length := by omega
        rw [List.take_length, List.drop_length, List.append_nil] at how
        have hbr := hfr.heap HB1.out (fun h => by have := HN1.out _ h; omega)
        have ffr := FF1.out.trans hfr (fun k hk h => by have := HN1.out k h; omega)
        have HBV := Lib.hid hbr; have FV := Lib.hid ffr; have OW2 := Lib.hid how
        clear hbr ffr how hfr
        obtain ⟨z, hz⟩ : ∃ z, z = turn b := ⟨_, rfl⟩
        have hzl : z.length = b.length := by subst hz; first | rfl | exact turn_len _
        have owz : Ow wr 5 1 (.slice B b.length c1) b.length (bvs z) := by rw [hz]; exact OW2.out
        have HZL := Lib.hid hzl; have OWZ := Lib.hid owz; have HZ := Lib.hid hz; clear hzl owz hz
        go_wp2_with fail
        have hsz : (wr.alloc (.cells #[.slice B b.length c1, .bool false] 91)).heap.size = wr.heap.size + 1 := World.size_alloc _ _
        have hgv : w.heap.size < wr.heap.size := (Array.getElem?_eq_some_iff.1 HBV.out).1
        have hrd : Rdr (wr.heap.size + 1) (wr.alloc (.cells #[.slice B b.length c1, .bool false] 91)) wr.heap.size z false := by
          refine ⟨by omega, B, c1, ?_, ?_, fun k hk => ?_⟩
          · rw [HZL.out]; exact heap_alloc_new _ _
          · rw [HZL.out]; exact (OWZ.out.sl).kept0 ((Fr.refl no _).alloc _)
          · rw [HZL.out] at hk
            have := OWZ.out.lt k hk
            omega
        have hval := val_any (wr.heap.size + 1) wr.heap.size 9 (by omega) _ z hrd (by omega) (by rw [HZL.out]; omega)
        have hb := ((Fr.refl no wr).alloc (.cells #[.slice B b.length c1, .bool false] 91)).heap HBV.out (fun h => h)
        have ff := FV.out.trans ((Fr.refl no wr).alloc (.cells #[.slice B b.length c1, .bool false] 91)) (fun _ _ h => h)
        generalize wr.alloc (.cells #[.slice B b.length c1, .bool false] 91) = W at hsz hrd hval hb ff ⊢
        have HSZ := Lib.hid hsz; have HRD := Lib.hid hrd; have HVAL := Lib.hid hval; have HB := Lib.hid hb; have FW := Lib.hid ff
        clear hsz hrd hval hb ff
        refine HVAL.out.mono ?_
        rintro e w5 ⟨f5, ⟨x, s, hdc, rfl, hox, hbx, hr5, hln⟩ | ⟨hdc, ⟨jk, jb, ji, jt, JB, jbn, jbc, JL, jln, jlc, JF, jfn, jfc, rfl⟩, s, hr5, hln⟩⟩
        · have hb5 := f5.heap HB.out (fun h => by have h : w.heap.size = wr.heap.size := h; omega)
          have F5 := Lib.hid (FW.out.trans f5 (fun k hk h => by have h : k = wr.heap.size := h; omega))
          have hds := dec_some 9 _ _ _ hdc
          have hgx := own_good_of (N := 1000000001) (by omega) x hds.2.1 hds.2.2.1 (by have h1 := congrArg List.length hds.1; simp only [List.length_append] at h1; have := HZL.out; omega) hox
          obtain ⟨YB, yb, YL, yl, YF, yf, hfy⟩ := hgx.node.forms
          have hag := hfy.agg
          have hch := fun W' (f : Fr no w5 W') => check_any W' x (hgx.kept0 f) ((HT.out.kept0 F5.out).kept0 f)
          have hcl := fun W' (f : Fr no w5 W') => clone_any x W' (hgx.kept0 f)
          rw [hag] at hch hcl ⊢
          obtain ⟨y1, yz, yl1⟩ := hr5.cells
          obtain ⟨q0, q1, q2, q3, q4, q5, q6, qz, ql⟩ := seven_cells hb5
          have HB5 := Lib.hid hb5; have HOX := Lib.hid hox; have HGX := Lib.hid hgx; have HR5 := Lib.hid hr5; have HDC := Lib.hid hdc; have HLN := Lib.hid hln; have HCH := Lib.hid hch; have HCL := Lib.hid hcl
          clear f5 hb5 hox hgx hr5 hdc hln hch hcl hds hfy hag hbx
          go_wp2_with fail
          refine (HCH.out _ (by (repeat first | exact Fr.refl _ _ | exact Fr.drewN _ _ _ | apply Fr.drew | apply Fr.alloc | apply Fr.setAt | apply Fr.moreN))).mono ?_
          rintro e w6 ⟨rfl, f6⟩
          have hal := (Fr.refl no w5).alloc (.cells #[.int .u8 x.k.toNat, .bool x.b, .int .i64 x.i, .string ⟨x.t.toArray⟩, .slice YB x.bs.length yb, .slice YL x.l.length yl, .slice YF x.f.length yf] 33)
          have hx6 := f6.heap (heap_alloc_new w5 (.cells #[.int .u8 x.k.toNat, .bool x.b, .int .i64 x.i, .string ⟨x.t.toArray⟩, .slice YB x.bs.length yb, .slice YL x.l.length yl, .slice YF x.f.length yf] 33)) (fun h => h)
          have f56 := hal.trans f6 (fun _ _ h => h)
          have hb6 := f56.heap HB5.out (fun h => h)
          have hr6 := HR5.out.kept0 f56
          obtain ⟨_, RA, rc, hp1, hsl, hrn⟩ := hr6
          obtain ⟨y0, y1, yz, yl1⟩ := two_cells hp1
          obtain ⟨q0, q1, q2, q3, q4, q5, q6, qz, ql⟩ := seven_cells hb6
          obtain ⟨x0, x1, x2, x3, x4, x5, x6, xz, xl⟩ := seven_cells hx6
          have HB6 := Lib.hid hb6; have F56 := Lib.hid f56; have F6 := Lib.hid (F5.out.trans f56 (fun _ _ h => h))
          clear hal hx6 f56 hb6 hp1 hsl hrn f6
          by_cases hc : check x = 0
          · have hsp : splitE true b = some (bare x, b.drop (b.length - s.length)) := by
              unfold splitE; simp only [if_true]; rw [← HZ.out, HDC.out]; simp only; rw [if_pos (by rw [bare_check]; exact hc)]
            have hcc : ((check x : Int) != 0) = false := by rw [hc]; rfl
            have hsl2 : s.length ≤ b.length := by have := HLN.out; have := HZL.out; omega
            have HSP := Lib.hid hsp; have HC := Lib.hid hc
            clear hsp hc
            obtain ⟨lo, hlo⟩ : ∃ lo, lo = b.length - s.length := ⟨_, rfl⟩
            have hi1 : IntKind.i64.wrap ((b.length : Int) - (s.length : Int)) = (lo : Int) := by
              rw [show (b.length : Int) - (s.length : Int) = (lo : Int) by omega]
              exact IntWalk.i64_in _ ⟨by omega, by omega⟩
            have hlb : lo ≤ b.length := by omega
            have hlc : lo ≤ c := by omega
            have HLO := Lib.hid hlo; have HI1 := Lib.hid hi1
            clear hlo hi1
            by_cases hcl : c = lo
            · skip
              subst hcl
              have hi1 := HI1.out
              have htl := fun W' (_ : Fr no w W') => (⟨rfl, .inl ⟨A, rfl, rfl⟩⟩ : Sl W' 1 (.slice A 0 0) ([] : List UInt8).length (bvs []))
              have hdl : ([] : List UInt8).length = 0 := rfl
              have HTL := Lib.hid htl; clear htl
              go_wp2_with fail
              refine wp_region_ord [0, 2, 3, 4, 5, 6, 7, 8, 9, 10, 11, 1, 12, 13, 14, 15, 16] (fun i => [Kd.l, Kd.g, Kd.p, Kd.p, Kd.p, Kd.p, Kd.p, Kd.p, Kd.l, Kd.p, Kd.p, Kd.p, Kd.g, Kd.g, Kd.e, Kd.p, Kd.p].getD i .e) (by kernel_rfl) (by kernel_rfl) ?_
              iterate 11
                first | refine wpX_pu rfl rfl rfl (by first | exact pu_move rfl | exact pu_assign rfl | exact pu_nilCheck rfl rfl | exact pu_binInt rfl rfl rfl | exact pu_conv rfl rfl (by kernel_rfl) | exact pu_fld rfl (by kernel_rfl) | exact pu_ix rfl rfl rfl (by kernel_rfl) | exact pu_unOp rfl | exact pu_binStr rfl rfl rfl | exact pu_len rfl rfl | exact pu_lens rfl rfl | exact pu_pick rfl | exact pu_slice rfl rfl) (fun K hK => ?_) | refine wpX_rd rfl rfl rfl (rd_load rfl) (fun K hK => ?_) | refine wpX_gr rfl rfl rfl (by first | exact gr_buildSlice rfl | exact gr_box rfl | exact gr_alloc rfl) (fun K hK => ?_) | refine wpX_ex rfl rfl rfl (fun K hK => ?_)
                try go_wp2
              refine wpX_ca rfl rfl rfl (fun K hK => ?_)
              go_wp2_with fail
              refine (HCL.out _ (Fr.drew F56.out)).mono ?_
              rintro e w7 ⟨y, rfl, hby, hoy, hny, f7⟩
              have F70 := Lib.hid f7
              have hgy := hoy.good hby HGX.out
              obtain ⟨ZB, zb, ZL, zl, ZF, zf, hfy⟩ := hgy.node.forms
              have f67 := (Fr.drew (Fr.refl no w6)).trans f7 (fun _ _ h => h)
              have hb7 := f67.heap HB6.out (fun h => h)
              have hny' : ∀ k, Blk y k → w.heap.size < k := fun k hk => by have h1 := hny k hk; have h2 := F6.out.size; have h3 : w6.drew.heap.size = w6.heap.size := rfl; have h4 := (Array.getElem?_eq_some_iff.1 HB6.out).1; omega
              have hag := hfy.agg
              rw [hag]
              have HBY := Lib.hid hby; have HOY := Lib.hid hoy; have HNY := Lib.hid hny'; have HGY := Lib.hid hgy; have HAG := Lib.hid hag; have F7 := Lib.hid (F6.out.trans f67 (fun _ _ h => h)); have HB7 := Lib.hid hb7
              clear hby hoy hny hny' hgy hfy hag f67 hb7 f7
              go_wp2
              obtain ⟨⟨xa, xb⟩, hext⟩ := F70.out.ext
              refine ⟨⟨xa, xb, hext⟩, hK _ _ ?_⟩
              clear hK K hext xa xb
              refine wpX_ca rfl rfl rfl (fun K hK => ?_)
              go_wp2_with fail
              have hbc := bclone_any w7 _ [] (HTL.out w7 F7.out) (by simp)
              simp only [List.length_nil] at hbc
              refine hbc.mono ?_
              clear hbc
              rintro e w8 ⟨D, c2, rfl, ow8, nb8, f8⟩
              have F80 := Lib.hid f8
              have hc2 : 0 ≤ c2 := by
                obtain ⟨A', c', h1, h2, _⟩ := ow8.sl.form
                cases h1; exact h2
              have owc := own_clip ow8
              have hb8 := f8.heap HB7.out (fun h => h)
              have hdn : ∀ k, Value.ownBlock (.slice D 0 0) = some k → w.heap.size < k ∧ ¬ Blk y k := fun k hk => by
                have h1 := nb8 k (by cases D <;> exact hk)
                have h2 := (Array.getElem?_eq_some_iff.1 HB7.out).1
                exact ⟨by omega, fun h => by have := HOY.out.lt k h; omega⟩
              obtain ⟨q0, q1, q2, q3, q4, q5, q6, qz, ql⟩ := seven_cells hb8
              have HOD := Lib.hid owc; have Htrue := Lib.hid hdn; have HB8 := Lib.hid hb8; have F8 := Lib.hid f8
              clear ow8 nb8 f8 owc hb8 hdn
              go_wp2
              obtain ⟨⟨xa, xb⟩, hext⟩ := F80.out.ext
              refine ⟨⟨xa, xb, hext⟩, hK _ _ ?_⟩
              clear hK K hext xa xb
              refine wpX_ca rfl rfl rfl (fun K hK => ?_)
              go_wp2_with fail
              refine (bclip_any w8 D _ c2 hc2).mono ?_
              rintro e w9 ⟨rfl, hw⟩
              subst w9
              go_wp2
              refine ⟨⟨#[], _, (World.ext_self _).symm⟩, hK _ _ ?_⟩
              clear hK K
              refine wpX_ex rfl rfl rfl (fun K hK => ?_)
              go_simp
              refine hK _ _ ?_
              clear hK K
              iterate 2
                first | refine wpX_pu rfl rfl rfl (by first | exact pu_move rfl | exact pu_assign rfl | exact pu_nilCheck rfl rfl | exact pu_binInt rfl rfl rfl | exact pu_conv rfl rfl (by kernel_rfl) | exact pu_fld rfl (by kernel_rfl) | exact pu_ix rfl rfl rfl (by kernel_rfl) | exact pu_unOp rfl | exact pu_binStr rfl rfl rfl | exact pu_len rfl rfl | exact pu_lens rfl rfl | exact pu_pick rfl | exact pu_slice rfl rfl) (fun K hK => ?_) | refine wpX_rd rfl rfl rfl (rd_load rfl) (fun K hK => ?_) | refine wpX_gr rfl rfl rfl (by first | exact gr_buildSlice rfl | exact gr_box rfl | exact gr_alloc rfl) (fun K hK => ?_) | refine wpX_ex rfl rfl rfl (fun K hK => ?_)
                try go_wp2
              refine wpX_done ?_
              go_wp2
              have hset := set7_row (a := .int .u8 y.k.toNat) (b := .bool y.b) (c := .int .i64 y.i) (d := .string ⟨y.t.toArray⟩) (e := .slice ZB y.bs.length zb) (f := .slice ZL y.l.length zl) (h := .slice ZF y.f.length zf) HB8.out
              have hsf := set7_fr w8 w.heap.size (.int .u8 y.k.toNat) (.bool y.b) (.int .i64 y.i) (.string ⟨y.t.toArray⟩) (.slice ZB y.bs.length zb) (.slice ZL y.l.length zl) (.slice ZF y.f.length zf)
              unfold set7 at hset hsf
              refine bodyPost_ret (results_cell_row3 (P := Tryd.prog) rfl _ _ w.heap.size 33 _ (0, 0) _ rfl hset Tryd.underlying33 rfl (by kernel_rfl)) rfl ?_
              have hyo := ((HOY.out.kept0 F8.out).kept hsf (fun k hk h => by have := HNY.out k hk; omega) : Tr.Own _ y)
              exact ⟨(F7.out.trans F8.out (fun _ _ h => h)).trans hsf (fun k hk h => by omega), .inl ⟨y, b.drop (b.length - s.length), D, 0, by rw [HSP.out, HBY.out], by rw [← HLO.out]; (rw [List.length_drop]; omega), by rw [HAG.out]; rfl, hyo, hyo.good rfl HGY.out, fun k hk => Nat.le_of_lt (HNY.out k hk), by rw [← HLO.out]; exact (by rw [List.drop_eq_nil_of_le (by omega)]; exact HOD.out.kept hsf (fun k hk h => by have := (Htrue.out k hk).1; omega)), fun k hk => ⟨Nat.le_of_lt (Htrue.out k hk).1, (Htrue.out k hk).2⟩⟩⟩
            · skip
              have hi1 := HI1.out
              have hdl : (b.drop lo).length = b.length - lo := List.length_drop
              have htl := fun W' (f : Fr no w W') => (Sl.tail1 (lo := lo) (HX.out.kept0 f) (by omega)).1
              rw [bvs_drop, ← hdl] at htl
              have HTL := Lib.hid htl; have HDL := Lib.hid hdl
              clear htl hdl
              go_wp2_with fail
              refine wp_region_ord [0, 2, 3, 4, 5, 6, 7, 8, 9, 10, 11, 1, 12, 13, 14, 15, 16] (fun i => [Kd.l, Kd.g, Kd.p, Kd.p, Kd.p, Kd.p, Kd.p, Kd.p, Kd.l, Kd.p, Kd.p, Kd.p, Kd.g, Kd.g, Kd.e, Kd.p, Kd.p].getD i .e) (by kernel_rfl) (by kernel_rfl) ?_
              iterate 11
                first | refine wpX_pu rfl rfl rfl (by first | exact pu_move rfl | exact pu_assign rfl | exact pu_nilCheck rfl rfl | exact pu_binInt rfl rfl rfl | exact pu_conv rfl rfl (by kernel_rfl) | exact pu_fld rfl (by kernel_rfl) | exact pu_ix rfl rfl rfl (by kernel_rfl) | exact pu_unOp rfl | exact pu_binStr rfl rfl rfl | exact pu_len rfl rfl | exact pu_lens rfl rfl | exact pu_pick rfl | exact pu_slice rfl rfl) (fun K hK => ?_) | refine wpX_rd rfl rfl rfl (rd_load rfl) (fun K hK => ?_) | refine wpX_gr rfl rfl rfl (by first | exact gr_buildSlice rfl | exact gr_box rfl | exact gr_alloc rfl) (fun K hK => ?_) | refine wpX_ex rfl rfl rfl (fun K hK => ?_)
                try go_wp2
              refine wpX_ca rfl rfl rfl (fun K hK => ?_)
              go_wp2_with fail
              refine (HCL.out _ (Fr.drew F56.out)).mono ?_
              rintro e w7 ⟨y, rfl, hby, hoy, hny, f7⟩
              have F70 := Lib.hid f7
              have hgy := hoy.good hby HGX.out
              obtain ⟨ZB, zb, ZL, zl, ZF, zf, hfy⟩ := hgy.node.forms
              have f67 := (Fr.drew (Fr.refl no w6)).trans f7 (fun _ _ h => h)
              have hb7 := f67.heap HB6.out (fun h => h)
              have hny' : ∀ k, Blk y k → w.heap.size < k := fun k hk => by have h1 := hny k hk; have h2 := F6.out.size; have h3 : w6.drew.heap.size = w6.heap.size := rfl; have h4 := (Array.getElem?_eq_some_iff.1 HB6.out).1; omega
              have hag := hfy.agg
              rw [hag]
              have HBY := Lib.hid hby; have HOY := Lib.hid hoy; have HNY := Lib.hid hny'; have HGY := Lib.hid hgy; have HAG := Lib.hid hag; have F7 := Lib.hid (F6.out.trans f67 (fun _ _ h => h)); have HB7 := Lib.hid hb7
              clear hby hoy hny hny' hgy hfy hag f67 hb7 f7
              go_wp2
              obtain ⟨⟨xa, xb⟩, hext⟩ := F70.out.ext
              refine ⟨⟨xa, xb, hext⟩, hK _ _ ?_⟩
              clear hK K hext xa xb
              refine wpX_ca rfl rfl rfl (fun K hK => ?_)
              go_wp2_with fail
              have hbc := bclone_any w7 _ (b.drop lo) (HTL.out w7 F7.out) (by have := HDL.out; omega)
              rw [HDL.out] at hbc
              refine hbc.mono ?_
              clear hbc
              rintro e w8 ⟨D, c2, rfl, ow8, nb8, f8⟩
              have F80 := Lib.hid f8
              have hc2 : (b.length - lo) ≤ c2 := by
                obtain ⟨A', c', h1, h2, _⟩ := ow8.sl.form
                cases h1; exact h2
              have owc := own_clip ow8
              have hb8 := f8.heap HB7.out (fun h => h)
              have hdn : ∀ k, Value.ownBlock (.slice D (b.length - lo) (b.length - lo)) = some k → w.heap.size < k ∧ ¬ Blk y k := fun k hk => by
                have h1 := nb8 k (by cases D <;> exact hk)
                have h2 := (Array.getElem?_eq_some_iff.1 HB7.out).1
                exact ⟨by omega, fun h => by have := HOY.out.lt k h; omega⟩
              obtain ⟨q0, q1, q2, q3, q4, q5, q6, qz, ql⟩ := seven_cells hb8
              have HOD := Lib.hid owc; have Htrue := Lib.hid hdn; have HB8 := Lib.hid hb8; have F8 := Lib.hid f8
              clear ow8 nb8 f8 owc hb8 hdn
              go_wp2
              obtain ⟨⟨xa, xb⟩, hext⟩ := F80.out.ext
              refine ⟨⟨xa, xb, hext⟩, hK _ _ ?_⟩
              clear hK K hext xa xb
              refine wpX_ca rfl rfl rfl (fun K hK => ?_)
              go_wp2_with fail
              refine (bclip_any w8 D _ c2 hc2).mono ?_
              rintro e w9 ⟨rfl, hw⟩
              subst w9
              go_wp2
              refine ⟨⟨#[], _, (World.ext_self _).symm⟩, hK _ _ ?_⟩
              clear hK K
              refine wpX_ex rfl rfl rfl (fun K hK => ?_)
              go_simp
              refine hK _ _ ?_
              clear hK K
              iterate 2
                first | refine wpX_pu rfl rfl rfl (by first | exact pu_move rfl | exact pu_assign rfl | exact pu_nilCheck rfl rfl | exact pu_binInt rfl rfl rfl | exact pu_conv rfl rfl (by kernel_rfl) | exact pu_fld rfl (by kernel_rfl) | exact pu_ix rfl rfl rfl (by kernel_rfl) | exact pu_unOp rfl | exact pu_binStr rfl rfl rfl | exact pu_len rfl rfl | exact pu_lens rfl rfl | exact pu_pick rfl | exact pu_slice rfl rfl) (fun K hK => ?_) | refine wpX_rd rfl rfl rfl (rd_load rfl) (fun K hK => ?_) | refine wpX_gr rfl rfl rfl (by first | exact gr_buildSlice rfl | exact gr_box rfl | exact gr_alloc rfl) (fun K hK => ?_) | refine wpX_ex rfl rfl rfl (fun K hK => ?_)
                try go_wp2
              refine wpX_done ?_
              go_wp2
              have hset := set7_row (a := .int .u8 y.k.toNat) (b := .bool y.b) (c := .int .i64 y.i) (d := .string ⟨y.t.toArray⟩) (e := .slice ZB y.bs.length zb) (f := .slice ZL y.l.length zl) (h := .slice ZF y.f.length zf) HB8.out
              have hsf := set7_fr w8 w.heap.size (.int .u8 y.k.toNat) (.bool y.b) (.int .i64 y.i) (.string ⟨y.t.toArray⟩) (.slice ZB y.bs.length zb) (.slice ZL y.l.length zl) (.slice ZF y.f.length zf)
              unfold set7 at hset hsf
              refine bodyPost_ret (results_cell_row3 (P := Tryd.prog) rfl _ _ w.heap.size 33 _ (0, 0) _ rfl hset Tryd.underlying33 rfl (by kernel_rfl)) rfl ?_
              have hyo := ((HOY.out.kept0 F8.out).kept hsf (fun k hk h => by have := HNY.out k hk; omega) : Tr.Own _ y)
              exact ⟨(F7.out.trans F8.out (fun _ _ h => h)).trans hsf (fun k hk h => by omega), .inl ⟨y, b.drop (b.length - s.length), D, (b.length - lo), by rw [HSP.out, HBY.out], by rw [← HLO.out]; rw [List.length_drop], by rw [HAG.out]; rfl, hyo, hyo.good rfl HGY.out, fun k hk => Nat.le_of_lt (HNY.out k hk), by rw [← HLO.out]; exact HOD.out.kept hsf (fun k hk h => by have := (Htrue.out k hk).1; omega), fun k hk => ⟨Nat.le_of_lt (Htrue.out k hk).1, (Htrue.out k hk).2⟩⟩⟩
          · have hsp : splitE true b = none := by
              unfold splitE; simp only [if_true]; rw [← HZ.out, HDC.out]; simp only; rw [if_neg (by rw [bare_check]; exact hc)]
            have hcc : ((check x : Int) != 0) = true := by rw [bne_iff_ne]; omega
            have HSP := Lib.hid hsp; have HC := Lib.hid hc
            clear hsp hc
            go_wp2
            have hset := set7_row (a := .int .u8 0) (b := .bool false) (c := .int .i64 0) (d := .string ⟨#[]⟩) (e := .slice none 0 0) (f := .slice none 0 0) (h := .slice none 0 0) HB6.out
            have hsf := set7_fr w6 w.heap.size (.int .u8 0) (.bool false) (.int .i64 0) (.string ⟨#[]⟩) (.slice none 0 0) (.slice none 0 0) (.slice none 0 0)
            unfold set7 at hset hsf
            refine bodyPost_ret (results_cell_row3 (P := Tryd.prog) rfl _ _ w.heap.size 33 _ (0, 0) _ rfl hset Tryd.underlying33 rfl (by kernel_rfl)) rfl ?_
            exact ⟨F6.out.trans hsf (fun k hk h => by omega), .inr ⟨HSP.out, rfl⟩⟩
        · have hb5 := f5.heap HB.out (fun h => by have h : w.heap.size = wr.heap.size := h; omega)
          have F5 := Lib.hid (FW.out.trans f5 (fun k hk h => by have h : k = wr.heap.size := h; omega))
          have hsp : splitE true b = none := by
            unfold splitE; simp only [if_true]; rw [← HZ.out, hdc]
          obtain ⟨y1, yz, yl1⟩ := hr5.cells
          obtain ⟨q0, q1, q2, q3, q4, q5, q6, qz, ql⟩ := seven_cells hb5
          have HB5 := Lib.hid hb5; have HSP := Lib.hid hsp
          clear f5 hb5 hr5 hdc hln hsp
          go_wp2
          have hset := set7_row (a := .int .u8 0) (b := .bool false) (c := .int .i64 0) (d := .string ⟨#[]⟩) (e := .slice none 0 0) (f := .slice none 0 0) (h := .slice none 0 0) HB5.out
          have hsf := set7_fr w5 w.heap.size (.int .u8 0) (.bool false) (.int .i64 0) (.string ⟨#[]⟩) (.slice none 0 0) (.slice none 0 0) (.slice none 0 0)
          unfold set7 at hset hsf
          have hset2 := ((Fr.refl no _).alloc (.cells #[.int .u8 jk, .bool jb, .int .i64 ji, .string jt, .slice JB jbn jbc, .slice JL jln jlc, .slice JF jfn jfc] 33)).heap hset (fun h => h)
          refine bodyPost_ret (results_cell_row3 (P := Tryd.prog) rfl _ _ w.heap.size 33 _ (0, 0) _ rfl hset2 Tryd.underlying33 rfl (by kernel_rfl)) rfl ?_
          exact ⟨(F5.out.trans hsf (fun k hk h => absurd h (Nat.ne_of_lt hk))).alloc _, .inr ⟨HSP.out, rfl⟩⟩
end Go.Proofs.YtgcicljklejmjaaDoor
