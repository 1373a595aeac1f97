import Derived.Test.YtgcicljklejmjaaDoorMr02
import Derived.Test.YtgcicljklejmjaaDoorMb15
import Derived.Test.YtgcicljklejmjaaDoorMb13
import Derived.Test.YtgcicljklejmjaaDoorMb17
import Derived.Test.YtgcicljklejmjaaDoorMb07
import Derived.Test.YtgcicljklejmjaaDoorMb09

/- The document's reading of keys: rising of lists, and all of it. Printed by mkrd4d.py. -/
namespace Go.Proofs.YtgcicljklejmjaaDoor
open Go.RowKit Go.Shelf
open Tr

theorem VRow.kept_lt {lo : Nat} {w w1 : World} {ys : List (Tr Mm)} {A : Option Addr} {c : Nat} {S : Nat → Prop} (h : VRow lo w ys A c) (f : Fr S w w1) (hS : ∀ k, S k → k < lo) : VRow lo w1 ys A c :=
  ⟨h.ow.kept f (fun k hk h1 => by have := h.own k hk; have := hS k h1; omega), h.own,
    fun y hy => (h.each y hy).kept f (fun k hk h1 => by have := (h.yn y hy k hk).1; have := hS k h1; omega),
    fun y hy => ((h.each y hy).kept f (fun k hk h1 => by have := (h.yn y hy k hk).1; have := hS k h1; omega)).good rfl (h.good y hy), h.pw, h.yn⟩

/-- A list under way. -/
structure RL (d : Nat) (w wr : World) (r : List UInt8) (ys : List (Tr Mm)) (j : Nat) (A : Option Addr) (c : Nat) : Prop where
  fr : Fr no w wr
  res : wr.heap[w.heap.size]? = some (.cells #[.int .u8 0, .bool false, .int .i64 0, .string ⟨#[]⟩, .slice none 0 0, .slice none 0 0, .slice none 0 0] 33 (0, 0))
  zer : wr.heap[w.heap.size + 1]? = some (.cells #[.int .u8 0, .bool false, .int .i64 0, .string ⟨#[]⟩, .slice none 0 0, .slice none 0 0, .slice none 0 0] 33 (0, 0))
  row : wr.heap[w.heap.size + 2]? = some (.cells #[.int .u8 6, .bool false, .int .i64 0, .string ⟨#[]⟩, .slice none 0 0, .slice A ys.length c, .slice none 0 0] 33 (0, 0))
  vr : VRow (w.heap.size + 3) wr ys A c
  dl : ∃ n, (r.drop j).length < n ∧ decL (dec d) (r.length + 1) r = (decL (dec d) n (r.drop j)).map (fun q => (ys.map bare ++ q.1, q.2))
  jr : j ≤ r.length
  ly : ys.length ≤ j
theorem RL.lt {d : Nat} {w wr : World} {r : List UInt8} {ys : List (Tr Mm)} {j : Nat} {A : Option Addr} {c : Nat} (h : RL d w wr r ys j A c) : w.heap.size + 2 < wr.heap.size := (Array.getElem?_eq_some_iff.1 h.row).1
theorem RL.first (d : Nat) (w : World) (r : List UInt8) : RL d w (((w.alloc (.cells #[.int .u8 0, .bool false, .int .i64 0, .string ⟨#[]⟩, .slice none 0 0, .slice none 0 0, .slice none 0 0] 33)).alloc (.cells #[.int .u8 0, .bool false, .int .i64 0, .string ⟨#[]⟩, .slice none 0 0, .slice none 0 0, .slice none 0 0] 33)).alloc (.cells #[.int .u8 6, .bool false, .int .i64 0, .string ⟨#[]⟩, .slice none 0 0, .slice none 0 0, .slice none 0 0] 33)) r [] 0 none 0 := by
  have h2 := two_allocs w (.cells #[.int .u8 0, .bool false, .int .i64 0, .string ⟨#[]⟩, .slice none 0 0, .slice none 0 0, .slice none 0 0] 33) (.cells #[.int .u8 0, .bool false, .int .i64 0, .string ⟨#[]⟩, .slice none 0 0, .slice none 0 0, .slice none 0 0] 33)
  have h3 := heap_alloc_new ((w.alloc (.cells #[.int .u8 0, .bool false, .int .i64 0, .string ⟨#[]⟩, .slice none 0 0, .slice none 0 0, .slice none 0 0] 33)).alloc (.cells #[.int .u8 0, .bool false, .int .i64 0, .string ⟨#[]⟩, .slice none 0 0, .slice none 0 0, .slice none 0 0] 33)) (.cells #[.int .u8 6, .bool false, .int .i64 0, .string ⟨#[]⟩, .slice none 0 0, .slice none 0 0, .slice none 0 0] 33)
  rw [World.size_alloc, World.size_alloc] at h3
  refine ⟨(((Fr.refl no w).alloc _).alloc _).alloc _, ((Fr.refl no _).alloc _).heap h2.1 (fun h => h), ((Fr.refl no _).alloc _).heap h2.2 (fun h => h), h3, VRow.nil _ _, ⟨r.length + 1, by simp, ?_⟩, Nat.zero_le _, Nat.le_refl _⟩
  rw [List.drop_zero]
  cases decL (dec d) (r.length + 1) r <;> simp
theorem drop_rest {d : Nat} {b s : List UInt8} {x : Tr Unit} (h : dec d b = some (x, s)) : b.drop (b.length - s.length) = s ∧ s.length < b.length := by
  obtain ⟨h1, h2, _, _⟩ := dec_some d b x s h
  obtain ⟨q, hq⟩ := enc_head h2.here
  rw [h1, List.length_append]
  refine ⟨?_, by rw [hq, List.length_cons]; omega⟩
  rw [show (enc x).length + s.length - s.length = (enc x).length by omega, List.drop_left]
theorem RL.step {d m : Nat} {w wr w5 W6 w7 : World} {r s2 : List UInt8} {ys : List (Tr Mm)} {j : Nat} {A A' : Option Addr} {c c' : Nat} {y : Tr Mm}
    (h : RL d w wr r ys j A c) (f5 : Fr no wr w5) (hd : dec d (r.drop j) = some (bare y, s2)) (ho : Tr.Own w5 y) (hg : Tr.Good w5 y) (hb : ∀ k, Blk y k → wr.heap.size < k) (hs : (r.drop j).head? ≠ some 1) (f6 : Fr no w5 W6)
    (o7 : Ow w7 33 7 (.slice A' (ys.length + 1) c') (ys.length + 1) (ys.flatMap cells ++ y.cells))
    (f7 : Fr (fun k => Value.ownBlock (.slice A ys.length c) = some k) W6 w7) (st : Stays W6 w7 (.slice A ys.length c) (.slice A' (ys.length + 1) c') ys.length (ys.length + 1)) (hm : m = (r.drop j).length - s2.length) :
    RL d w (w7.setCell ⟨w.heap.size + 2, 5, none⟩ (.slice A' (ys.length + 1) c')) r (ys ++ [y]) (j + m) A' c' := by
  have hlt := h.lt
  have hset := Fr.setCell (Fr.refl (fun k => k = w.heap.size + 2) w7) ⟨w.heap.size + 2, 5, none⟩ (.slice A' (ys.length + 1) c') (fun _ => rfl)
  have f57 : Fr (fun k => Value.ownBlock (.slice A ys.length c) = some k) wr w7 := ((f5.mono (fun _ _ h => h.elim)).trans f6 (fun _ _ h => h.elim)).trans f7 (fun _ _ h => h)
  have hv : VRow (w.heap.size + 3) w7 (ys ++ [y]) A' c' := h.vr.push (by omega) f5 ho hg (fun k hk => Nat.le_of_lt (hb k hk)) f6 o7 f7 st
  obtain ⟨hdr, hdl⟩ := drop_rest hd
  rw [← hm, List.drop_drop] at hdr
  have hmr : j + m ≤ r.length := by rw [hm, List.length_drop]; have := h.jr; omega
  have hm1 : 1 ≤ m := by omega
  have e1 : (ys ++ [y]).length = ys.length + 1 := by rw [List.length_append]; rfl
  refine ⟨(h.fr.trans f57 (fun k hk h1 => by have := h.vr.own k h1; omega)).trans hset (fun k hk h1 => by omega), ?_, ?_, ?_, hv.kept_lt hset (fun k h1 => by omega), ?_, hmr, by rw [e1]; have := h.ly; omega⟩
  · exact hset.heap (f57.heap h.res (fun h1 => by have := h.vr.own _ h1; omega)) (fun h1 => by omega)
  · exact hset.heap (f57.heap h.zer (fun h1 => by have := h.vr.own _ h1; omega)) (fun h1 => by omega)
  · have hr7 := f57.heap h.row (fun h1 => by have := h.vr.own _ h1; omega)
    rw [hp_same hr7 5, e1]
    rfl
  · obtain ⟨n, hn, hdl2⟩ := h.dl
    cases n with
    | zero => omega
    | succ n =>
      refine ⟨n, by rw [hdr]; omega, ?_⟩
      rw [hdl2, decL_next _ _ _ hs (dec_nil d), hd, hdr]
      simp only
      cases decL (dec d) n s2 <;> simp
theorem RL.stop {d : Nat} {w wr : World} {r : List UInt8} {ys : List (Tr Mm)} {j : Nat} {A : Option Addr} {c : Nat} (h : RL d w wr r ys j A c) (hj : j = r.length) : dec (d + 1) (96 :: r) = none := by
  obtain ⟨n, hn, hdl⟩ := h.dl
  subst hj
  rw [List.drop_length] at hn hdl
  rw [dec96, hdl]
  cases n with
  | zero => exact absurd hn (Nat.not_lt_zero _)
  | succ n => rfl
theorem RL.none {d : Nat} {w wr : World} {r : List UInt8} {ys : List (Tr Mm)} {j : Nat} {A : Option Addr} {c : Nat} (h : RL d w wr r ys j A c) (hs : (r.drop j).head? ≠ some 1) (hd : dec d (r.drop j) = none) : dec (d + 1) (96 :: r) = none := by
  obtain ⟨n, hn, hdl⟩ := h.dl
  rw [dec96, hdl]
  cases n with
  | zero => exact absurd hn (Nat.not_lt_zero _)
  | succ n => rw [decL_next _ _ _ hs (dec_nil d), hd]; rfl
theorem RL.done {d : Nat} {w wr : World} {r : List UInt8} {ys : List (Tr Mm)} {j : Nat} {A : Option Addr} {c : Nat} (h : RL d w wr r ys j A c) {s : List UInt8} (hd : r.drop j = 1 :: s) : dec (d + 1) (96 :: r) = some (.mk 6 false 0 [] [] () (ys.map bare) [], s) := by
  obtain ⟨n, hn, hdl⟩ := h.dl
  rw [dec96, hdl, hd]
  cases n with
  | zero => exact absurd hn (Nat.not_lt_zero _)
  | succ n => rw [decL_one]; simp

set_option maxRecDepth 100000 in
set_option maxHeartbeats 1000000 in
theorem ris_list (d : Nat) (hd : d ≤ 8) (IH : ∀ (w : World) (X : Value) (b : List UInt8), Sl w 1 X b.length (bvs b) → b.length ≤ 1000000 → Calls Tryd.prog 40 #[X, .int .i64 (d : Int)] w fun e w' => Ris d b w e w') (w : World) (g o c : Nat) (r : List UInt8) (hx : Sl w 1 (.slice (some ⟨g, o, none⟩) (r.length + 1) c) (r.length + 1) (bvs (96 :: r))) (hl : r.length ≤ 1000000) : Calls Tryd.prog 40 #[.slice (some ⟨g, o, none⟩) (r.length + 1) c, .int .i64 ((d + 1 : Nat) : Int)] w fun e w' => Ris (d + 1) (96 :: r) w e w' := by
  have hcell : w.cell? ⟨g, o, none⟩ = some (.int .u8 96) := by
    obtain ⟨g', o', e, h⟩ := Sl.byte (l := 96 :: r) hx 0 (by simp)
    simp only [Option.some.injEq, Addr.mk.injEq, and_true] at e
    obtain ⟨rfl, rfl⟩ := e
    exact h
  have hgl := World.block_lt_of_cell? w _ hcell
  have hd0 : (((d : Int) + 1) == 0) = false := by rw [beq_eq_false_iff_ne]; omega
  have hr0 : (((r.length : Int) + 1) == 0) = false := by rw [beq_eq_false_iff_ne]; omega
  have hd1 : IntKind.i64.wrap ((d : Int) + 1 - 1) = (d : Int) := IntWalk.i64_in _ ⟨by omega, by omega⟩ |>.trans (by omega)
  have hcl : r.length + 1 ≤ c := by
    obtain ⟨A', c', h1, h2, _⟩ := hx.form
    cases h1; exact h2
  have HX := Lib.hid hx; have IHH := Lib.hid IH
  clear hx IH
  have HF := Lib.hid (RL.first d w r)
  go_enter Tryd.func40, Tryd.ntmps40
  go_wp2
  go_loopw [14] (fun iv wr => ∃ (j : Nat) (ys : List (Tr Mm)) (A : Option Addr) (ac : Nat), iv = .int .i64 ((j : Int) + 1) ∧ RL d w wr r ys j A ac) (fun iv _ => r.length + 1 - (intOf iv).toNat)
  case atStart => exact ⟨0, [], none, 0, rfl, HF.out⟩
  case round =>
    clear HF hcell hgl
    obtain ⟨j, ys, A, ac, rfl, hrl⟩ := hrel
    obtain ⟨q0, q1, q2, q3, q4, q5, q6, qz, ql⟩ := seven_cells hrl.row
    obtain ⟨x0, x1, x2, x3, x4, x5, x6, xz, xl⟩ := seven_cells hrl.zer
    obtain ⟨z0, z1, z2, z3, z4, z5, z6, zz, zl⟩ := seven_cells hrl.res
    have hjr := hrl.jr
    have hly := hrl.ly
    have HRL := Lib.hid hrl
    clear hrl
    by_cases hlt : j < r.length
    · have hdj : r.drop j = r[j] :: r.drop (j + 1) := List.drop_eq_getElem_cons hlt
      have hcj : wr.cell? ⟨g, o + (j + 1), none⟩ = some (.int .u8 r[j].toNat) := by
        obtain ⟨g', o', e, h⟩ := Sl.byte (l := 96 :: r) (HX.out.kept0 HRL.out.fr) (j + 1) (by simp; omega)
        simp only [Option.some.injEq, Addr.mk.injEq, and_true] at e
        obtain ⟨rfl, rfl⟩ := e
        exact h
      by_cases h1 : r[j] = 1
      · have g1 : ((r[j].toNat : Int) != 1) = false := by rw [h1]; rfl
        have hdc := HRL.out.done (hdj.trans (by rw [h1]))
        have HDC := Lib.hid hdc
        clear hdc hdj h1
        go_wp2
        have hset := set7_row (a := .int .u8 6) (b := .bool false) (c := .int .i64 0) (d := .string ⟨#[]⟩) (e := .slice none 0 0) (f := .slice A ys.length ac) (h := .slice none 0 0) HRL.out.res
        have hsf := set7_fr wr w.heap.size (.int .u8 6) (.bool false) (.int .i64 0) (.string ⟨#[]⟩) (.slice none 0 0) (.slice A ys.length ac) (.slice none 0 0)
        unfold set7 at hset hsf
        refine bodyPost_ret (results_cell_row2 (P := Tryd.prog) rfl _ _ w.heap.size 33 _ (0, 0) _ rfl hset Tryd.underlying33 rfl (by kernel_rfl)) rfl ?_
        exact ris_good (n := j + 1 + 1) (x := .mk 6 false 0 [] [] (.slice none 0 0, .slice A ys.length ac, .slice none 0 0) ys []) (by rw [HDC.out, bare_eq]; rfl) (own_list HRL.out.vr.ow HRL.out.vr.each HRL.out.vr.pw (fun y hy k hk => (HRL.out.vr.yn y hy k hk).2) _ _ _) (fun k hk => by
          rcases blk_list hk with h | ⟨y, hy, h⟩
          · have := HRL.out.vr.own k h; omega
          · have := (HRL.out.vr.yn y hy k h).1; omega) HRL.out.fr hsf rfl (by simp only [List.length_cons, List.length_drop]; omega)
      · have g1 : ((r[j].toNat : Int) != 1) = true := by rw [bne_iff_ne]; intro h; exact h1 (UInt8.toNat_inj.1 (by have e : (1 : UInt8).toNat = 1 := rfl; omega))
        have hsh : (r.drop j).head? ≠ some 1 := fun h => h1 (by rw [hdj, List.head?_cons] at h; exact Option.some.inj h)
        have htl : Sl wr 1 (.slice (some ⟨g, o + (j + 1), none⟩) (r.length - j) (c - (j + 1))) (r.drop j).length (bvs (r.drop j)) := by
          have h := (Sl.tail1 (lo := j + 1) (HX.out.kept0 HRL.out.fr) (by omega)).1
          rw [show r.length + 1 - (j + 1) = r.length - j by omega] at h
          rw [bvs_drop] at h
          rw [List.length_drop]
          exact h
        have hne : ¬ c = j + 1 := by omega
        have hri := IHH.out wr _ (r.drop j) htl (by rw [List.length_drop]; omega)
        have HRI := Lib.hid hri; have HSH := Lib.hid hsh
        clear hri hsh htl hdj h1
        go_wp2_with fail
        refine HRI.out.mono ?_
        rintro e w5 ⟨f5, ⟨y, s2, hdc, rfl, hoy, hby⟩ | ⟨hdc, rfl⟩⟩
        · have hds := dec_some d _ _ _ hdc
          have hgy := own_good_of (N := 1000001) (by omega) y hds.2.1 hds.2.2.1 (by have h1 := congrArg List.length hds.1; rw [List.length_append, List.length_drop] at h1; omega) hoy
          obtain ⟨YB, yb, YL, yl, YF, yf, hfy⟩ := hgy.node.forms
          rw [hfy.agg]
          have hyc : y.cells = [.int .u8 y.k.toNat, .bool y.b, .int .i64 y.i, .string ⟨y.t.toArray⟩, .slice YB y.bs.length yb, .slice YL y.l.length yl, .slice YF y.f.length yf] := by unfold cells; rw [hfy.B, hfy.L, hfy.F]
          have hdr := drop_rest hdc
          obtain ⟨m, hm⟩ : ∃ m, m = (r.drop j).length - s2.length := ⟨_, rfl⟩
          rw [← hm]
          have hmz : ((m : Int) == 0) = false := by rw [beq_eq_false_iff_ne]; omega
          have hml : j + m ≤ r.length := by rw [hm, List.length_drop]; omega
          have hm1 : 1 ≤ m := by omega
          have hb5 := f5.heap HRL.out.row (fun h => h)
          obtain ⟨q0, q1, q2, q3, q4, q5, q6, qz, ql⟩ := seven_cells hb5
          have hal := (Fr.refl no w5).alloc (.cells #[.int .u8 y.k.toNat, .bool y.b, .int .i64 y.i, .string ⟨y.t.toArray⟩, .slice YB y.bs.length yb, .slice YL y.l.length yl, .slice YF y.f.length yf] 33)
          have hal2 := hal.alloc (.cells #[.int .u8 y.k.toNat, .bool y.b, .int .i64 y.i, .string ⟨y.t.toArray⟩, .slice YB y.bs.length yb, .slice YL y.l.length yl, .slice YF y.f.length yf] 33)
          have hbx := built7 (w5.alloc (.cells #[.int .u8 y.k.toNat, .bool y.b, .int .i64 y.i, .string ⟨y.t.toArray⟩, .slice YB y.bs.length yb, .slice YL y.l.length yl, .slice YF y.f.length yf] 33)) (.int .u8 y.k.toNat) (.bool y.b) (.int .i64 y.i) (.string ⟨y.t.toArray⟩) (.slice YB y.bs.length yb) (.slice YL y.l.length yl) (.slice YF y.f.length yf) 33
          rw [World.size_alloc] at hbx
          have HM := Lib.hid hm; have HDC := Lib.hid hdc; have HOY := Lib.hid hoy; have HBY := Lib.hid hby; have HGY := Lib.hid hgy; have HYC := Lib.hid hyc; have F5 := Lib.hid f5; have HAL := Lib.hid hal2; have HBX := Lib.hid hbx; have HB5 := Lib.hid hb5
          clear hm hdc hoy hby hgy hyc f5 hal hal2 hbx hb5 hds hfy hdr
          go_wp2_with (at_builtin; refine wpList_apo (n := ys.length) (xs := ys.flatMap cells) (m := 1) (news := [.int .u8 y.k.toNat, .bool y.b, .int .i64 y.i, .string ⟨y.t.toArray⟩, .slice YB y.bs.length yb, .slice YL y.l.length yl, .slice YF y.f.length yf]) rfl (.tmp 120) (.tmp 122) 25 rfl tbV ((HRL.out.vr.ow.kept0 F5.out).kept0 HAL.out) HBX.out rfl rfl (by intro u hu; simp only [List.mem_cons, List.not_mem_nil, or_false] at hu; rcases hu with rfl | rfl | rfl | rfl | rfl | rfl | rfl <;> rfl) ?b1 ?b2 ?go)
          case b1 => simp only [maxLen]; omega
          case b2 => omega
          case go =>
            intro A' N c' w7 hN ho7 _ hf7 hs7
            subst hN
            have hst := HRL.out.step F5.out HDC.out HOY.out HGY.out HBY.out HSH.out HAL.out (by rw [HYC.out]; exact ho7) hf7 hs7 HM.out
            have hr7 := hf7.heap (HAL.out.heap HB5.out (fun h => h)) (fun h => by have := HRL.out.vr.own _ h; omega)
            obtain ⟨q0, q1, q2, q3, q4, q5, q6, qz, ql⟩ := seven_cells hr7
            have HST := Lib.hid hst
            clear ho7 hf7 hs7 hst hr7
            go_wp2
            go_roundw
            case rel => exact ⟨j + m, ys ++ [y], A', c', by go_num, HST.out⟩
            case measure => simp [intOf]; omega
        · have hb5 := f5.heap HRL.out.res (fun h => h)
          have hz5 := f5.heap HRL.out.zer (fun h => h)
          obtain ⟨z0, z1, z2, z3, z4, z5, z6, zz, zl⟩ := seven_cells hb5
          obtain ⟨x0, x1, x2, x3, x4, x5, x6, xz, xl⟩ := seven_cells hz5
          have HDC := Lib.hid (HRL.out.none HSH.out hdc)
          have F5 := Lib.hid (HRL.out.fr.trans f5 (fun _ _ h => h)); have HB5 := Lib.hid hb5
          clear hdc f5 hb5 hz5
          go_wp2
          have hset := set7_row (a := .int .u8 0) (b := .bool false) (c := .int .i64 0) (d := .string ⟨#[]⟩) (e := .slice none 0 0) (f := .slice none 0 0) (h := .slice none 0 0) HB5.out
          have hsf := set7_fr w5 w.heap.size (.int .u8 0) (.bool false) (.int .i64 0) (.string ⟨#[]⟩) (.slice none 0 0) (.slice none 0 0) (.slice none 0 0)
          unfold set7 at hset hsf
          have hset2 := ((Fr.refl no _).alloc (.cells #[.int .u8 0, .bool false, .int .i64 0, .string ⟨#[]⟩, .slice none 0 0, .slice none 0 0, .slice none 0 0] 33)).heap hset (fun h => h)
          refine bodyPost_ret (results_cell_row2 (P := Tryd.prog) rfl _ _ w.heap.size 33 _ (0, 0) _ rfl hset2 Tryd.underlying33 rfl (by kernel_rfl)) rfl ?_
          exact ris_bad HDC.out F5.out (hsf.alloc _) rfl
    · obtain rfl : j = r.length := by omega
      have HDC := Lib.hid (HRL.out.stop rfl)
      go_wp2
      have hset := set7_row (a := .int .u8 0) (b := .bool false) (c := .int .i64 0) (d := .string ⟨#[]⟩) (e := .slice none 0 0) (f := .slice none 0 0) (h := .slice none 0 0) HRL.out.res
      have hsf := set7_fr wr w.heap.size (.int .u8 0) (.bool false) (.int .i64 0) (.string ⟨#[]⟩) (.slice none 0 0) (.slice none 0 0) (.slice none 0 0)
      unfold set7 at hset hsf
      refine bodyPost_ret (results_cell_row2 (P := Tryd.prog) rfl _ _ w.heap.size 33 _ (0, 0) _ rfl hset Tryd.underlying33 rfl (by kernel_rfl)) rfl ?_
      exact ris_bad HDC.out HRL.out.fr hsf rfl

theorem rising4_any : ∀ (d : Nat) (_ : d ≤ 9) (w : World) (X : Value) (b : List UInt8), Sl w 1 X b.length (bvs b) → b.length ≤ 1000000 →
    Calls Tryd.prog 40 #[X, .int .i64 (d : Int)] w fun e w' => Ris d b w e w' := by
  intro d
  induction d with
  | zero =>
    intro _ w X b hx hl
    obtain ⟨A, c, rfl, _, _⟩ := hx.form
    exact ris_zero w A _ c b
  | succ d ih =>
    intro hd w X b hx hl
    obtain ⟨A, c, rfl, _, _⟩ := hx.form
    cases b with
    | nil => exact ris_nil w A c (d + 1)
    | cons c0 r =>
      obtain ⟨g, o, rfl, _⟩ := Sl.byte hx 0 (by simp)
      have hr : r.length ≤ 1000000 := by simp only [List.length_cons] at hl; omega
      by_cases h1 : c0 = 16
      · subst h1; exact ris_null w g o c d r hx hr
      by_cases h2 : c0 = 32
      · subst h2; exact ris_no w g o c d r hx hr
      by_cases h3 : c0 = 33
      · subst h3; exact ris_yes w g o c d r hx hr
      by_cases h4 : c0 = 48
      · subst h4; exact ris_int w g o c d r hx hr
      by_cases h5 : c0 = 64
      · subst h5; exact ris_text w g o c d r hx hr
      by_cases h6 : c0 = 80
      · subst h6; exact ris_raw w g o c d r hx hr
      by_cases h7 : c0 = 96
      · subst h7; exact ris_list d (by omega) (ih (by omega)) w g o c r hx hr
      exact ris_other w c0 ⟨h1, h2, h3, h4, h5, h6, h7⟩ g o c d r hx hr
end Go.Proofs.YtgcicljklejmjaaDoor

/- codicilref04.Cmp: the order of tuples. -/
namespace Go.Proofs.YtgcicljklejmjaaDoor
open Go.RowKit Go.Shelf
open Tr

theorem cmpL_range (l : List (Tr Mm)) : ∀ (k : List (Tr Mm)), (∀ x ∈ l, ∀ y : Tr Mm, -1 ≤ cmp x y ∧ cmp x y ≤ 1) → -1 ≤ cmpL l k ∧ cmpL l k ≤ 1 := by
  induction l with
  | nil => intro k _; cases k <;> (rw [cmpL]; omega)
  | cons x l ih =>
    intro k h
    cases k with
    | nil => rw [cmpL]; omega
    | cons y k =>
      rw [cmpL]
      split
      · exact h x (.head _) y
      · exact ih k (fun z hz => h z (.tail _ hz))
theorem cmpF_range (l : List (List UInt8 × Tr Mm)) : ∀ (k : List (List UInt8 × Tr Mm)), (∀ p ∈ l, ∀ y : Tr Mm, -1 ≤ cmp p.2 y ∧ cmp p.2 y ≤ 1) → -1 ≤ cmpF l k ∧ cmpF l k ≤ 1 := by
  induction l with
  | nil => intro k _; cases k <;> (rw [cmpF]; omega)
  | cons p l ih =>
    intro k h
    obtain ⟨n, x⟩ := p
    cases k with
    | nil => rw [cmpF]; omega
    | cons q k =>
      obtain ⟨m, y⟩ := q
      rw [cmpF]
      split
      · have := cb_range n m; omega
      · split
        · exact h (n, x) (.head _) y
        · exact ih k (fun z hz => h z (.tail _ hz))
theorem cmp_range (x : Tr Mm) : ∀ y : Tr Mm, -1 ≤ cmp x y ∧ cmp x y ≤ 1 := by
  induction x using Tr.ind with
  | h x ih =>
    intro y
    have hL := cmpL_range x.l y.l (fun z hz => ih z (List.mem_append_left _ hz))
    have hF := cmpF_range x.f y.f (fun p hp => ih p.2 (List.mem_append_right _ (List.mem_map_of_mem hp)))
    have h1 := cb_range x.t y.t
    have h2 := cb_range x.bs y.bs
    rw [cmp]
    repeat' split
    all_goals omega

set_option maxRecDepth 100000 in
set_option maxHeartbeats 400000 in
theorem falls4_any (w : World) (D : Value) (dl : List Bool) (i : Nat) (hd : Sl w 1 D dl.length (bls dl)) (hn : dl.length ≤ reachBytes) :
    Calls Tryd.prog 39 #[D, .int .i64 (i : Int)] w fun e w' => e = .returned (.bool (fallsB dl i)) ∧ w' = w := by
  obtain ⟨A, c, rfl, hc1, hc2⟩ := hd.form
  have hn : dl.length ≤ 140737488351232 := hn
  by_cases h : i < dl.length
  · obtain ⟨b, o, rfl, h1⟩ := bls_at hd i h
    have he : fallsB dl i = dl[i] := by unfold fallsB; simp [h]
    rw [he]
    have HD := Lib.hid hd; clear hd he
    go_enter Tryd.func39, Tryd.ntmps39
    go_wp2
    go_ret
    exact ⟨rfl, rfl⟩
  · have he : fallsB dl i = false := by unfold fallsB; simp [List.getElem?_eq_none (Nat.le_of_not_lt h)]
    rw [he]
    have HD := Lib.hid hd; clear hd he
    go_enter Tryd.func39, Tryd.ntmps39
    go_wp2
    go_ret
    exact ⟨rfl, rfl⟩

theorem cmpT_step (d : Nat → Bool) {l k : List (Tr Mm)} {j : Nat} (h1 : j < l.length) (h2 : j < k.length) : cmpT d j (l.drop j) (k.drop j) = if cmp l[j] k[j] ≠ 0 then (if d j then - cmp l[j] k[j] else cmp l[j] k[j]) else cmpT d (j + 1) (l.drop (j + 1)) (k.drop (j + 1)) := by
  rw [List.drop_eq_getElem_cons h1, List.drop_eq_getElem_cons h2, cmpT]
theorem cmpT_end (d : Nat → Bool) {l k : List (Tr Mm)} {j : Nat} (h1 : j ≤ l.length) (h2 : j ≤ k.length) (h : j = l.length ∨ j = k.length) : cmpT d j (l.drop j) (k.drop j) = numC l.length k.length := by
  have hl : (l.drop j).length = l.length - j := List.length_drop
  have hk : (k.drop j).length = k.length - j := List.length_drop
  unfold numC
  match e1 : l.drop j, e2 : k.drop j with
  | [], [] => rw [e1] at hl; rw [e2] at hk; simp only [List.length_nil] at hl hk; rw [cmpT, if_neg (by omega), if_neg (by omega)]
  | [], _ :: _ => rw [e1] at hl; rw [e2] at hk; simp only [List.length_nil, List.length_cons] at hl hk; rw [cmpT, if_pos (by omega)]
  | _ :: _, [] => rw [e1] at hl; rw [e2] at hk; simp only [List.length_nil, List.length_cons] at hl hk; rw [cmpT, if_neg (by omega), if_pos (by omega)]
  | _ :: _, _ :: _ => rw [e1] at hl; rw [e2] at hk; simp only [List.length_cons] at hl hk; omega

set_option maxRecDepth 100000 in
set_option maxHeartbeats 4000000 in
theorem cmp4_any (w : World) (X Y D : Value) (l k : List (Tr Mm)) (dl : List Bool) (hx : In w X l) (hy : In w Y k) (hd : Sl w 1 D dl.length (bls dl)) (hdn : dl.length ≤ reachBytes) :
    Calls Tryd.prog 28 #[X, Y, D] w fun e w' => e = .returned (.int .i64 (cmpT (fallsB dl) 0 l k)) ∧ Fr no w w' := by
  obtain ⟨A, c, rfl, _, _⟩ := hx.sl.form
  obtain ⟨B, bc, rfl, _, _⟩ := hy.sl.form
  obtain ⟨DA, dc, rfl, _, _⟩ := hd.form
  have hnl : l.length ≤ 140737488351232 := hx.n
  have hnk : k.length ≤ 140737488351232 := hy.n
  have HX := Lib.hid hx; have HY := Lib.hid hy; have HD := Lib.hid hd; have HDN := Lib.hid hdn
  clear hx hy hd hdn
  go_enter Tryd.func28, Tryd.ntmps28
  go_wp2
  go_loopw [7] (fun iv wr => ∃ j : Nat, j ≤ l.length ∧ j ≤ k.length ∧ iv = .int .i64 j ∧ Fr no w wr ∧ cmpT (fallsB dl) 0 l k = cmpT (fallsB dl) j (l.drop j) (k.drop j)) (fun iv _ => l.length - (intOf iv).toNat)
  case atStart => exact ⟨0, Nat.zero_le _, Nat.zero_le _, rfl, Fr.refl _ _, rfl⟩
  case round =>
    obtain ⟨j, hj, hj2, rfl, hfr, hcm⟩ := hrel
    have FR := Lib.hid hfr; have HCM := Lib.hid hcm
    clear hfr hcm
    by_cases hlt : j < l.length ∧ j < k.length
    · obtain ⟨hlt, hlt2⟩ := hlt
      have h1 := HX.out.kept0 FR.out
      have h2 := HY.out.kept0 FR.out
      obtain ⟨xb, xo, KB, kb, KL, kl, KF, kf, rfl, hfj, a0, a1, a2, a3, a4, a5, a6, hgl⟩ := In.get h1 j hlt
      obtain ⟨yb, yo, MB, mb, ML, ml, MF, mf, rfl, hgj, b0, b1, b2, b3, b4, b5, b6, hgm⟩ := In.get h2 j hlt2
      have hcall := fun W (f : Fr no wr W) => cmp_any l[j] k[j] W ((h1.good _ (List.getElem_mem _)).kept0 f) ((h2.good _ (List.getElem_mem _)).kept0 f)
      have hrg := cmp_range l[j] k[j]
      rw [hfj.agg, hgj.agg] at hcall
      have hst := cmpT_step (fallsB dl) hlt hlt2
      have hneg : IntKind.i64.wrap (- cmp l[j] k[j]) = - cmp l[j] k[j] := IntWalk.i64_in _ ⟨by omega, by omega⟩
      have HC := Lib.hid hcall; have HST := Lib.hid hst
      clear hcall hst h1 h2 hfj hgj hrg
      go_wp2_with fail
      refine wp_region_ord (List.range 10) (fun i => [Kd.p, Kd.p, Kd.p, Kd.l, Kd.p, Kd.p, Kd.p, Kd.l, Kd.g, Kd.p].getD i .e) (by kernel_rfl) (by kernel_rfl) ?_
      iterate 8
        first | refine wpX_pu rfl rfl rfl (by first | exact pu_move rfl | exact pu_assign rfl | exact pu_nilCheck rfl rfl | exact pu_binInt rfl rfl rfl | exact pu_conv rfl rfl (by kernel_rfl) | exact pu_fld rfl (by kernel_rfl) | exact pu_ix rfl rfl rfl (by kernel_rfl) | exact pu_unOp rfl | exact pu_binStr rfl rfl rfl | exact pu_len rfl rfl | exact pu_lens rfl rfl | exact pu_pick rfl | exact pu_slice rfl rfl) (fun K hK => ?_) | refine wpX_rd rfl rfl rfl (rd_load rfl) (fun K hK => ?_) | refine wpX_gr rfl rfl rfl (by first | exact gr_buildSlice rfl | exact gr_box rfl | exact gr_alloc rfl) (fun K hK => ?_) | refine wpX_ex rfl rfl rfl (fun K hK => ?_)
        try go_wp2
      refine wpX_ca rfl rfl rfl (fun K hK => ?_)
      go_wp2_with fail
      refine (HC.out _ (by (repeat first | exact Fr.refl _ _ | exact Fr.drewN _ _ _ | apply Fr.drew | apply Fr.alloc | apply Fr.setAt | apply Fr.moreN))).mono ?_
      rintro e w5 ⟨rfl, fy⟩
      have F50 := Lib.hid fy; have F5 := Lib.hid (FR.out.trans ((by (repeat first | exact Fr.refl _ _ | exact Fr.drewN _ _ _ | apply Fr.drew | apply Fr.alloc | apply Fr.setAt | apply Fr.moreN) : Fr no wr _).trans fy (fun _ _ h => h)) (fun _ _ h => h))
      clear fy
      by_cases hc : cmp l[j] k[j] = 0
      · have hst : cmpT (fallsB dl) 0 l k = cmpT (fallsB dl) (j + 1) (l.drop (j + 1)) (k.drop (j + 1)) := by rw [HCM.out, HST.out, if_neg (by simpa using hc)]
        have HS2 := Lib.hid hst
        rw [hc] at hneg ⊢
        clear hst hc hneg
        go_wp2
        obtain ⟨⟨ea, eb⟩, hext⟩ := F50.out.ext
        refine ⟨⟨ea, eb, hext⟩, hK _ _ ?_⟩
        clear hK K hext ea eb
        first | refine wpX_pu rfl rfl rfl (by first | exact pu_move rfl | exact pu_assign rfl | exact pu_nilCheck rfl rfl | exact pu_binInt rfl rfl rfl | exact pu_conv rfl rfl (by kernel_rfl) | exact pu_fld rfl (by kernel_rfl) | exact pu_ix rfl rfl rfl (by kernel_rfl) | exact pu_unOp rfl | exact pu_binStr rfl rfl rfl | exact pu_len rfl rfl | exact pu_lens rfl rfl | exact pu_pick rfl | exact pu_slice rfl rfl) (fun K hK => ?_) | refine wpX_rd rfl rfl rfl (rd_load rfl) (fun K hK => ?_) | refine wpX_gr rfl rfl rfl (by first | exact gr_buildSlice rfl | exact gr_box rfl | exact gr_alloc rfl) (fun K hK => ?_) | refine wpX_ex rfl rfl rfl (fun K hK => ?_)
        try go_wp2
        refine wpX_done ?_
        clear a0 a1 a2 a3 a4 a5 a6 b0 b1 b2 b3 b4 b5 b6 hgl hgm
        go_wp2
        go_roundw
        case rel => exact ⟨j + 1, by omega, by omega, by go_num, F5.out, HS2.out⟩
        case measure => simp [intOf]; omega
      · have hst : cmpT (fallsB dl) 0 l k = if fallsB dl j then - cmp l[j] k[j] else cmp l[j] k[j] := by rw [HCM.out, HST.out, if_pos hc]
        have gc : (cmp l[j] k[j] != 0) = true := by rw [bne_iff_ne]; exact hc
        have HS2 := Lib.hid hst
        clear hst hc
        go_wp2
        obtain ⟨⟨ea, eb⟩, hext⟩ := F50.out.ext
        refine ⟨⟨ea, eb, hext⟩, hK _ _ ?_⟩
        clear hK K hext ea eb
        first | refine wpX_pu rfl rfl rfl (by first | exact pu_move rfl | exact pu_assign rfl | exact pu_nilCheck rfl rfl | exact pu_binInt rfl rfl rfl | exact pu_conv rfl rfl (by kernel_rfl) | exact pu_fld rfl (by kernel_rfl) | exact pu_ix rfl rfl rfl (by kernel_rfl) | exact pu_unOp rfl | exact pu_binStr rfl rfl rfl | exact pu_len rfl rfl | exact pu_lens rfl rfl | exact pu_pick rfl | exact pu_slice rfl rfl) (fun K hK => ?_) | refine wpX_rd rfl rfl rfl (rd_load rfl) (fun K hK => ?_) | refine wpX_gr rfl rfl rfl (by first | exact gr_buildSlice rfl | exact gr_box rfl | exact gr_alloc rfl) (fun K hK => ?_) | refine wpX_ex rfl rfl rfl (fun K hK => ?_)
        try go_wp2
        refine wpX_done ?_
        clear a0 a1 a2 a3 a4 a5 a6 b0 b1 b2 b3 b4 b5 b6 hgl hgm
        go_wp2_with fail
        refine (falls4_any w5 _ dl j (HD.out.kept0 F5.out) HDN.out).mono ?_
        rintro e w6 ⟨rfl, hw⟩
        subst w6
        cases hf : fallsB dl j with
        | true =>
          rw [hf, if_pos rfl] at HS2
          go_wp2
          go_ret
          exact ⟨by rw [HS2.out]; rfl, F5.out⟩
        | false =>
          rw [hf, if_neg (by simp)] at HS2
          go_wp2
          go_ret
          exact ⟨by rw [HS2.out]; rfl, F5.out⟩
    · have hen := cmpT_end (fallsB dl) hj hj2 (by omega)
      have HEN := Lib.hid (HCM.out.trans hen)
      clear hen
      have hn : ∀ a b : Int, (a < b ∧ numC a b = -1) ∨ (¬ a < b ∧ b < a ∧ numC a b = 1) ∨ (¬ a < b ∧ ¬ b < a ∧ numC a b = 0) := fun a b => by
        unfold numC
        by_cases h1 : a < b
        · left; exact ⟨h1, if_pos h1⟩
        · by_cases h2 : b < a
          · right; left; exact ⟨h1, h2, by rw [if_neg h1, if_pos h2]⟩
          · right; right; exact ⟨h1, h2, by rw [if_neg h1, if_neg h2]⟩
      rcases hn l.length k.length with ⟨h1, h2⟩ | ⟨h1, h2, h3⟩ | ⟨h1, h2, h3⟩
      · have HV := Lib.hid (HEN.out.trans h2)
        have hA1 : ¬ (j < l.length ∧ j < k.length) := hlt
        have hA2 : ¬ j < l.length := by omega
        clear h2 hlt hA1 hn
        go_wp2
        go_ret
        exact ⟨by rw [HV.out]; rfl, FR.out⟩
      · have HV := Lib.hid (HEN.out.trans h3)
        have hA1 : j < l.length := by omega
        have hA2 : ¬ j < k.length := by omega
        clear h3 hlt hn
        go_wp2
        go_ret
        exact ⟨by rw [HV.out]; rfl, FR.out⟩
      · have HV := Lib.hid (HEN.out.trans h3)
        have hA2 : ¬ j < l.length := by omega
        clear h3 hlt hn
        go_wp2
        go_ret
        exact ⟨by rw [HV.out]; rfl, FR.out⟩

end Go.Proofs.YtgcicljklejmjaaDoor

/- codicilref03.kids, deep, parts. -/
namespace Go.Proofs.YtgcicljklejmjaaDoor
open Go.RowKit Go.Shelf
open Tr

theorem parts_kids (x : Tr Mm) : parts x = 1 + (x.kids.map parts).sum := by
  unfold parts
  rw [pre_eq, List.length_cons, Nat.add_comm]
  congr 1
  rw [List.length_flatMap]
  congr 1
  exact List.map_congr_left (fun y _ => pre_len 2 1 y)
theorem parts_pos (x : Tr Mm) : 1 ≤ parts x := by rw [parts_kids]; omega
theorem sum_ge {α : Type} {f : α → Nat} {l : List α} (h : ∀ y ∈ l, 1 ≤ f y) : l.length ≤ (l.map f).sum := by
  induction l with
  | nil => simp
  | cons a l ih =>
    have h1 := h a (.head _)
    have h2 := ih (fun y hy => h y (.tail _ hy))
    simp only [List.length_cons, List.map_cons, List.sum_cons]
    omega
theorem sum_mem {α : Type} {f : α → Nat} {l : List α} {y : α} (h : y ∈ l) : f y ≤ (l.map f).sum := by
  induction l with
  | nil => cases h
  | cons a l ih =>
    simp only [List.map_cons, List.sum_cons]
    rcases List.mem_cons.1 h with rfl | h
    · omega
    · have := ih h; omega
theorem kids_le (x : Tr Mm) : x.kids.length ≤ parts x := by
  have := sum_ge (f := parts) (l := x.kids) (fun y _ => parts_pos y)
  rw [parts_kids]; omega
theorem parts_kid {x y : Tr Mm} (h : y ∈ x.kids) : parts y ≤ parts x := by
  have := sum_mem (f := parts) h
  rw [parts_kids x]; omega

set_option maxRecDepth 100000 in
set_option maxHeartbeats 4000000 in
theorem kids3_any (w : World) (x : Tr Mm) (hx : Tr.Good w x) (hp : parts x ≤ 1000000) : Calls Tryd.prog 92 #[x.agg] w fun e w' => ∃ A c, e = .returned (.slice A x.kids.length c) ∧ In w' (.slice A x.kids.length c) x.kids ∧ Fr no w w' := by
  obtain ⟨BA, bc, LA, lc, FA, fc, hf⟩ := hx.node.forms
  have hkl := kids_le x
  have hkk : x.kids.length = x.l.length + x.f.length := by unfold kids; rw [List.length_append, List.length_map]
  have hL := hx.inL; have hF := hx.inF
  rw [hf.agg]
  rw [hf.L] at hL; rw [hf.F] at hF
  have hlf : x.l.length + x.f.length ≤ 1000000 := by omega
  have HX := Lib.hid hx; have HL := Lib.hid hL; have HF := Lib.hid hF; have HKK := Lib.hid hkk
  clear hx hf hL hF hkl hkk hp
  go_enter Tryd.func92, Tryd.ntmps92
  have fz : Fr no w (w.alloc (.cells #[.int .u8 x.k.toNat, .bool x.b, .int .i64 x.i, .string ⟨x.t.toArray⟩, .slice BA x.bs.length bc, .slice LA x.l.length lc, .slice FA x.f.length fc] 33)) := (Fr.refl no w).alloc _
  have hb0 := heap_alloc_new w (.cells #[.int .u8 x.k.toNat, .bool x.b, .int .i64 x.i, .string ⟨x.t.toArray⟩, .slice BA x.bs.length bc, .slice LA x.l.length lc, .slice FA x.f.length fc] 33)
  have FZ := Lib.hid fz; have HB0 := Lib.hid hb0
  clear fz hb0
  go_wp2_with (at_builtin; refine wpList_apo (n := 0) (xs := []) (m := x.l.length) (news := x.l.flatMap cells) rfl (.tmp 5) (.tmp 7) 25 rfl tbV (ow_none _ _ _) (HL.out.kept0 FZ.out).sl rfl rfl (cells_one x.l (fun y hy => (HL.out.good y hy).node.forms)) ?b1 ?b2 ?go)
  case b1 => simp only [maxLen]; omega
  case b2 => omega
  case go =>
    intro P N pc w2 hN ho2 _ hf2 hs2
    obtain rfl : N = x.l.length := by omega
    have f2 : Fr no w w2 := FZ.out.trans hf2 (fun _ _ h => nomatch h)
    have hb2 := hf2.heap HB0.out (fun h => nomatch h)
    have hnew : ∀ k, Value.ownBlock (.slice P x.l.length pc) = some k → w.heap.size < k := fun k hk => by
      rcases stays_own hs2 k hk with h | h
      · cases h
      · rw [World.size_alloc] at h; omega
    have F2 := Lib.hid f2; have HB2 := Lib.hid hb2; have HO2 := Lib.hid ho2; have HN2 := Lib.hid hnew
    clear f2 hf2 hb2 ho2 hs2 hnew
    go_wp2
    go_loopw [3, 4] (fun ov iv wr => ∃ (j : Nat) (O : Option Addr) (oc : Nat), j ≤ x.f.length ∧ iv = .int .i64 (j : Int) ∧ ov = .slice O (x.l.length + j) oc ∧ Ow wr 33 7 (.slice O (x.l.length + j) oc) (x.l.length + j) ((x.l ++ (x.f.take j).map Prod.snd).flatMap cells) ∧ (∀ k, Value.ownBlock (.slice O (x.l.length + j) oc) = some k → w.heap.size < k) ∧ Fr no w wr ∧
      wr.heap[w.heap.size]? = some (.cells #[.int .u8 x.k.toNat, .bool x.b, .int .i64 x.i, .string ⟨x.t.toArray⟩, .slice BA x.bs.length bc, .slice LA x.l.length lc, .slice FA x.f.length fc] 33 (0, 0))) (fun _ iv _ => x.f.length - (intOf iv).toNat)
    case atStart => exact ⟨0, P, pc, Nat.zero_le _, rfl, rfl, by simpa using HO2.out, HN2.out, F2.out, HB2.out⟩
    case round =>
      obtain ⟨j, O, oc, hj, rfl, rfl, how, hon, hfr, hbr⟩ := hrel
      obtain ⟨q0, q1, q2, q3, q4, q5, q6, qz, ql⟩ := seven_cells hbr
      have HOW := Lib.hid how; have HON := Lib.hid hon; have FR := Lib.hid hfr; have HBR := Lib.hid hbr
      clear how hon hfr hbr
      by_cases hlt : j < x.f.length
      · have hFr := HF.out.kept0 FR.out
        obtain ⟨b, o, KB, kb, KL, kl, KF, kf, rfl, hfj, n0, r0, r1, r2, r3, r4, r5, r6, rl⟩ := InF.get hFr j hlt
        have hcl : x.f[j].2.cells = [.int .u8 x.f[j].2.k.toNat, .bool x.f[j].2.b, .int .i64 x.f[j].2.i, .string ⟨x.f[j].2.t.toArray⟩, .slice KB x.f[j].2.bs.length kb, .slice KL x.f[j].2.l.length kl, .slice KF x.f[j].2.f.length kf] := by unfold cells; rw [hfj.B, hfj.L, hfj.F]
        have hal := (Fr.refl no wr).alloc (.cells #[.int .u8 x.f[j].2.k.toNat, .bool x.f[j].2.b, .int .i64 x.f[j].2.i, .string ⟨x.f[j].2.t.toArray⟩, .slice KB x.f[j].2.bs.length kb, .slice KL x.f[j].2.l.length kl, .slice KF x.f[j].2.f.length kf] 33)
        have hbx := built7 wr (.int .u8 x.f[j].2.k.toNat) (.bool x.f[j].2.b) (.int .i64 x.f[j].2.i) (.string ⟨x.f[j].2.t.toArray⟩) (.slice KB x.f[j].2.bs.length kb) (.slice KL x.f[j].2.l.length kl) (.slice KF x.f[j].2.f.length kf) 33
        have HAL := Lib.hid hal; have HBX := Lib.hid hbx; have HCL := Lib.hid hcl
        clear hfj hFr hal hbx hcl
        go_wp2_with (at_builtin; refine wpList_apo (n := x.l.length + j) (xs := (x.l ++ (x.f.take j).map Prod.snd).flatMap cells) (m := 1) (news := [.int .u8 x.f[j].2.k.toNat, .bool x.f[j].2.b, .int .i64 x.f[j].2.i, .string ⟨x.f[j].2.t.toArray⟩, .slice KB x.f[j].2.bs.length kb, .slice KL x.f[j].2.l.length kl, .slice KF x.f[j].2.f.length kf]) rfl (.tmp 16) (.tmp 23) 25 rfl tbV (HOW.out.kept0 HAL.out) HBX.out rfl rfl (by intro u hu; simp only [List.mem_cons, List.not_mem_nil, or_false] at hu; rcases hu with rfl | rfl | rfl | rfl | rfl | rfl | rfl <;> rfl) ?c1 ?c2 ?go2)
        case c1 => simp only [maxLen]; omega
        case c2 => omega
        case go2 =>
          intro A' N c' w7 hN ho7 _ hf7 hs7
          obtain rfl : N = x.l.length + (j + 1) := by omega
          have fr7 : Fr no w w7 := (FR.out.trans HAL.out (fun _ _ h => h)).trans hf7 (fun k hk h => by have := HON.out k h; omega)
          have hb7 := hf7.heap (HAL.out.heap HBR.out (fun h => h)) (fun h => by have := HON.out _ h; omega)
          have hn7 : ∀ k, Value.ownBlock (.slice A' (x.l.length + (j + 1)) c') = some k → w.heap.size < k := fun k hk => by
            rcases stays_own hs7 k hk with h | h
            · exact HON.out k h
            · have h1 := FR.out.size; have h2 := (Array.getElem?_eq_some_iff.1 HBR.out).1; have h3 := HAL.out.size; omega
          have ho8 : Ow w7 33 7 (.slice A' (x.l.length + (j + 1)) c') (x.l.length + (j + 1)) ((x.l ++ (x.f.take (j + 1)).map Prod.snd).flatMap cells) := by
            rw [List.take_succ_eq_append_getElem hlt, List.map_append, ← List.append_assoc, List.flatMap_append, List.map_singleton, List.flatMap_singleton, HCL.out]
            simpa [List.flatMap_append, List.map_take, List.append_assoc] using ho7
          have F7 := Lib.hid fr7; have HB7 := Lib.hid hb7; have HN7 := Lib.hid hn7; have HO8 := Lib.hid ho8
          clear fr7 hb7 hn7 ho8 ho7 hf7 hs7 hN
          go_wp2
          go_roundw
          case rel => exact ⟨j + 1, A', c', by omega, by go_num, rfl, HO8.out, HN7.out, F7.out, HB7.out⟩
          case measure => simp [intOf]; omega
      · obtain rfl : j = x.f.length := by omega
        have hin : In wr (.slice O x.kids.length oc) x.kids := by
          refine ⟨?_, fun z hz => (HX.out.kids z hz).kept0 FR.out, by rw [HKK.out]; simp only [reachBytes]; omega, by rw [HKK.out]; simp only [reachBytes]; omega⟩
          have h := HOW.out.sl
          rw [List.take_length] at h
          rw [HKK.out]
          exact h
        have HIN := Lib.hid hin
        clear hin
        go_wp2
        go_ret
        exact ⟨O, oc, by rw [HKK.out]; rfl, HIN.out, FR.out⟩
end Go.Proofs.YtgcicljklejmjaaDoor

/- codicilref03.deep, parts, all. -/
namespace Go.Proofs.YtgcicljklejmjaaDoor
open Go.RowKit Go.Shelf
open Tr

set_option maxRecDepth 100000 in
set_option maxHeartbeats 2000000 in
theorem deep3_any (n : Nat) : ∀ (_ : n ≤ 1000) (x : Tr Mm) (w : World) (_ : Tr.Good w x) (_ : parts x ≤ 1000000), Calls Tryd.prog 73 #[x.agg, .int .i64 (n : Int)] w fun e w' => e = .returned (.bool (deep n x)) ∧ Fr no w w' := by
  induction n with
  | zero =>
    intro _ x w hx hp
    obtain ⟨BA, bc, LA, lc, FA, fc, hf⟩ := hx.node.forms
    rw [hf.agg]
    have hd : deep 0 x = true := rfl
    have HD := Lib.hid hd
    clear hd hf hx
    go_enter Tryd.func73, Tryd.ntmps73
    go_wp2
    go_ret
    exact ⟨by rw [HD.out]; rfl, by (repeat first | exact Fr.refl _ _ | exact Fr.drewN _ _ _ | apply Fr.drew | apply Fr.alloc | apply Fr.setAt | apply Fr.moreN)⟩
  | succ n ih =>
    intro hn x w hx hp
    obtain ⟨BA, bc, LA, lc, FA, fc, hf⟩ := hx.node.forms
    have hk := fun W (f : Fr no w W) => kids3_any W x (hx.kept0 f) hp
    have hkl := kids_le x
    have hd : deep (n + 1) x = x.kids.any (deep n) := rfl
    have hpk : ∀ y ∈ x.kids, parts y ≤ 1000000 := fun y hy => Nat.le_trans (parts_kid hy) hp
    rw [hf.agg] at hk ⊢
    have g0 : (((n + 1 : Nat) : Int) == 0) = false := by rw [beq_eq_false_iff_ne]; omega
    have hw : IntKind.i64.wrap ((n : Int) + 1 - 1) = (n : Int) := (IntWalk.i64_in _ ⟨by omega, by omega⟩).trans (by omega)
    have hk6 : x.kids.length ≤ 1000000 := by omega
    have HK := Lib.hid hk; have HD := Lib.hid hd; have IH := Lib.hid (ih (by omega)); have HPK := Lib.hid hpk
    clear hk hd hf hx ih hkl hpk
    go_enter Tryd.func73, Tryd.ntmps73
    go_wp2_with fail
    refine (HK.out _ (by (repeat first | exact Fr.refl _ _ | exact Fr.drewN _ _ _ | apply Fr.drew | apply Fr.alloc | apply Fr.setAt | apply Fr.moreN))).mono ?_
    rintro e w2 ⟨A, c, rfl, hin, f2⟩
    have F2 := Lib.hid ((by (repeat first | exact Fr.refl _ _ | exact Fr.drewN _ _ _ | apply Fr.drew | apply Fr.alloc | apply Fr.setAt | apply Fr.moreN) : Fr no w _).trans f2 (fun _ _ h => h)); have HIN := Lib.hid hin
    clear f2 hin
    go_wp2
    go_loopw [6] (fun iv wr => ∃ j : Nat, j ≤ x.kids.length ∧ iv = .int .i64 (j : Int) ∧ Fr no w2 wr ∧ ∀ i (hi : i < x.kids.length), i < j → deep n x.kids[i] = false) (fun iv _ => x.kids.length - (intOf iv).toNat)
    case atStart => exact ⟨0, Nat.zero_le _, rfl, Fr.refl _ _, fun i _ h => absurd h (Nat.not_lt_zero i)⟩
    case round =>
      obtain ⟨j, hj, rfl, hfr, hall⟩ := hrel
      have HALL := Lib.hid hall; have FR := Lib.hid hfr
      clear hall hfr
      by_cases hlt : j < x.kids.length
      · have hi2 := HIN.out.kept0 FR.out
        obtain ⟨b, o, KB, kb, KL, kl, KF, kf, rfl, hfj, q0, q1, q2, q3, q4, q5, q6, hgl⟩ := In.get hi2 j hlt
        have hcall := IH.out x.kids[j] wr (hi2.good _ (List.getElem_mem _)) (HPK.out _ (List.getElem_mem _))
        rw [hfj.agg] at hcall
        have HC := Lib.hid hcall
        clear hcall hfj hi2
        go_wp2_with fail
        refine HC.out.mono ?_
        rintro e w5 ⟨rfl, fy⟩
        have FY := Lib.hid (FR.out.trans fy (fun _ _ h => h))
        clear fy
        cases hdj : deep n x.kids[j] with
        | true =>
          have hv : deep (n + 1) x = true := by
            rw [HD.out, List.any_eq_true]
            exact ⟨_, List.getElem_mem hlt, hdj⟩
          have HV := Lib.hid hv
          clear hv hdj
          go_wp2
          go_ret
          exact ⟨by rw [HV.out]; rfl, F2.out.trans FY.out (fun _ _ h => h)⟩
        | false =>
          have HDJ := Lib.hid hdj
          clear hdj
          go_wp2
          go_roundw
          case rel => exact ⟨j + 1, by omega, by go_num, FY.out, fun i hi h => by
            by_cases e : i = j
            · subst e; exact HDJ.out
            · exact HALL.out i hi (by omega)⟩
          case measure => simp [intOf]; omega
      · have hv : deep (n + 1) x = false := by
          rw [HD.out, Bool.eq_false_iff]
          intro h
          rw [List.any_eq_true] at h
          obtain ⟨y, hy, h⟩ := h
          obtain ⟨i, hi, rfl⟩ := List.getElem_of_mem hy
          rw [HALL.out i hi (by omega)] at h
          cases h
        have HV := Lib.hid hv
        clear hv
        go_wp2
        go_ret
        exact ⟨by rw [HV.out]; rfl, F2.out.trans FR.out (fun _ _ h => h)⟩

/-- What parts says: as many as there are, or more than 512. -/
def PartsOut (x : Tr Mm) (n : Nat) (w : World) (e : Ending) (w' : World) : Prop := Fr no w w' ∧ ∃ N : Nat, e = .returned (.int .i64 (N : Int)) ∧ N ≤ n + parts x ∧ (n + parts x ≤ 512 → N = n + parts x) ∧ (512 < n + parts x → 512 < N)

set_option maxRecDepth 100000 in
set_option maxHeartbeats 2000000 in
theorem parts3_any (x : Tr Mm) : ∀ (w : World) (_ : Tr.Good w x) (_ : parts x ≤ 1000000) (n : Nat) (_ : n ≤ 512), Calls Tryd.prog 74 #[x.agg, .int .i64 (n : Int)] w fun e w' => PartsOut x n w e w' := by
  induction x using Tr.ind with
  | h x ih =>
    intro w hx hp n hn
    obtain ⟨BA, bc, LA, lc, FA, fc, hf⟩ := hx.node.forms
    have hk := fun W (f : Fr no w W) => kids3_any W x (hx.kept0 f) hp
    have hkl := kids_le x
    have hpe := parts_kids x
    have hpk : ∀ y ∈ x.kids, parts y ≤ 1000000 := fun y hy => Nat.le_trans (parts_kid hy) hp
    rw [hf.agg] at hk ⊢
    have hk6 : x.kids.length ≤ 1000000 := by omega
    have hw : IntKind.i64.wrap ((n : Int) + 1) = (n : Int) + 1 := IntWalk.i64_in _ ⟨by omega, by omega⟩
    have HK := Lib.hid hk; have HPE := Lib.hid hpe; have IH := Lib.hid ih; have HPK := Lib.hid hpk
    clear hk hf hx ih hkl hpk hpe
    go_enter Tryd.func74, Tryd.ntmps74
    go_wp2_with fail
    refine (HK.out _ (by (repeat first | exact Fr.refl _ _ | exact Fr.drewN _ _ _ | apply Fr.drew | apply Fr.alloc | apply Fr.setAt | apply Fr.moreN))).mono ?_
    rintro e w2 ⟨A, c, rfl, hin, f2⟩
    have F2 := Lib.hid ((by (repeat first | exact Fr.refl _ _ | exact Fr.drewN _ _ _ | apply Fr.drew | apply Fr.alloc | apply Fr.setAt | apply Fr.moreN) : Fr no w _).trans f2 (fun _ _ h => h)); have HIN := Lib.hid hin
    clear f2 hin
    go_wp2
    go_loopw [1, 6] (fun nv iv wr => ∃ j N : Nat, j ≤ x.kids.length ∧ iv = .int .i64 (j : Int) ∧ nv = .int .i64 (N : Int) ∧ Fr no w2 wr ∧ N ≤ n + 1 + ((x.kids.take j).map parts).sum ∧ (n + 1 + ((x.kids.take j).map parts).sum ≤ 512 → N = n + 1 + ((x.kids.take j).map parts).sum) ∧ (512 < n + 1 + ((x.kids.take j).map parts).sum → 512 < N)) (fun _ iv _ => x.kids.length - (intOf iv).toNat)
    case atStart => exact ⟨0, n + 1, Nat.zero_le _, rfl, by first | rfl | go_num, Fr.refl _ _, by simp, by simp, by simp⟩
    case round =>
      obtain ⟨j, N, hj, rfl, rfl, hfr, h1, h2, h3⟩ := hrel
      have FR := Lib.hid hfr; have H1 := Lib.hid h1; have H2 := Lib.hid h2; have H3 := Lib.hid h3
      clear hfr h1 h2 h3
      have hsum : ((x.kids.take j).map parts).sum ≤ (x.kids.map parts).sum := by
        conv => rhs; rw [← List.take_append_drop j x.kids, List.map_append, List.sum_append]
        omega
      have hNb : N ≤ 2000000 := by have := H1.out; have := HPE.out; omega
      by_cases hcase : j < x.kids.length ∧ N ≤ 512
      · obtain ⟨hlt, hN⟩ := hcase
        have hi2 := HIN.out.kept0 FR.out
        obtain ⟨b, o, KB, kb, KL, kl, KF, kf, rfl, hfj, q0, q1, q2, q3, q4, q5, q6, hgl⟩ := In.get hi2 j hlt
        have hcall := IH.out x.kids[j] (List.getElem_mem _) wr (hi2.good _ (List.getElem_mem _)) (HPK.out _ (List.getElem_mem _)) N hN
        rw [hfj.agg] at hcall
        have hsn : ((x.kids.take (j + 1)).map parts).sum = ((x.kids.take j).map parts).sum + parts x.kids[j] := by
          rw [List.take_succ_eq_append_getElem hlt, List.map_append, List.sum_append]; simp
        have HC := Lib.hid hcall; have HSN := Lib.hid hsn
        clear hcall hfj hi2 hsn hsum
        go_wp2_with fail
        refine HC.out.mono ?_
        rintro e w5 ⟨fy, M, rfl, m1, m2, m3⟩
        have FY := Lib.hid (FR.out.trans fy (fun _ _ h => h)); have M1 := Lib.hid m1; have M2 := Lib.hid m2; have M3 := Lib.hid m3
        clear fy m1 m2 m3
        have hN0 : N = n + 1 + ((x.kids.take j).map parts).sum := by
          rcases Nat.lt_or_ge 512 (n + 1 + ((x.kids.take j).map parts).sum) with h | h
          · have := H3.out h; omega
          · exact H2.out h
        have HN0 := Lib.hid hN0
        clear hN0
        go_wp2
        go_roundw
        case rel => exact ⟨j + 1, M, by omega, by go_num, rfl, FY.out, by have := M1.out; have := HSN.out; have := HN0.out; omega, fun h => by have h5 := HSN.out; have h6 := HN0.out; have := M2.out (by omega); omega, fun h => by have h5 := HSN.out; have h6 := HN0.out; exact M3.out (by omega)⟩
        case measure => simp [intOf]; omega
      · have hfin : PartsOut x n w (.returned (.int .i64 (N : Int))) wr := by
          refine ⟨F2.out.trans FR.out (fun _ _ h => h), N, rfl, by have := H1.out; have := HPE.out; omega, fun h => ?_, fun h => ?_⟩
          · have h5 := HPE.out
            have h6 := H2.out (by omega)
            have hjl : j = x.kids.length := by omega
            subst hjl
            rw [List.take_length] at h6
            omega
          · have h5 := HPE.out
            by_cases hjl : j = x.kids.length
            · subst hjl
              have h7 := H3.out
              rw [List.take_length] at h7
              exact h7 (by omega)
            · omega
        have HFIN := Lib.hid hfin
        clear hfin hsum
        by_cases hlt : j < x.kids.length
        · have hN : 512 < N := by omega
          clear hcase
          go_wp2
          go_ret
          exact HFIN.out
        · clear hcase
          go_wp2
          go_ret
          exact HFIN.out
end Go.Proofs.YtgcicljklejmjaaDoor

/- codicilref03.all, Check: behind its own (a hypothesis of these). -/
namespace Go.Proofs.YtgcicljklejmjaaDoor
open Go.RowKit Go.Shelf
open Tr

/-- What codicilref03.own is to say. -/
def Own3 : Prop := ∀ (x : Tr Mm) (w : World), Tr.Good w x → Calls Tryd.prog 93 #[x.agg] w fun e w' => e = .returned (.int .i64 (Tr.own x : Int)) ∧ Fr no w w'

theorem pre_own (x : Tr Mm) : ∀ d e : Nat, (pre d x).map (fun p => Tr.own p.2) = (pre e x).map (fun p => Tr.own p.2) := by
  induction x using Tr.ind with
  | h x ih =>
    intro d e
    rw [pre_eq d, pre_eq e]
    simp only [List.map_cons, List.map_flatMap]
    congr 1
    have : ∀ l : List (Tr Mm), (∀ y ∈ l, y ∈ x.kids) → (l.flatMap fun a => (pre (d + 1) a).map fun p => Tr.own p.2) = l.flatMap fun a => (pre (e + 1) a).map fun p => Tr.own p.2 := by
      intro l
      induction l with
      | nil => intro _; rfl
      | cons a l ih2 =>
        intro h
        rw [List.flatMap_cons, List.flatMap_cons, ih a (h a (.head _)) (d + 1) (e + 1), ih2 (fun y hy => h y (.tail _ hy))]
    exact this x.kids (fun y hy => hy)
theorem firstErr_flat {α : Type} (g : α → List Nat) (l : List α) : firstErr (l.flatMap g) = firstErr (l.map fun a => firstErr (g a)) := by
  induction l with
  | nil => rfl
  | cons a l ih =>
    rw [List.flatMap_cons, firstErr_append, ih, List.map_cons, firstErr]
theorem allErr_eq (x : Tr Mm) : allErr x = if Tr.own x ≠ 0 then Tr.own x else firstErr (x.kids.map allErr) := by
  unfold allErr
  rw [pre_eq]
  simp only [List.map_cons, List.map_flatMap, firstErr]
  have e : firstErr (x.kids.flatMap fun a => (pre 2 a).map fun p => Tr.own p.2) = firstErr (x.kids.map fun a => firstErr ((pre 1 a).map fun p => Tr.own p.2)) := by
    rw [firstErr_flat]
    congr 1
    exact List.map_congr_left (fun a _ => by rw [pre_own a 2 1])
  rw [e]
theorem firstErr_take {l : List Nat} {j : Nat} (h : firstErr (l.take j) ≠ 0) : firstErr l = firstErr (l.take j) := by
  conv => lhs; rw [← List.take_append_drop j l, firstErr_append, if_pos h]

set_option maxRecDepth 100000 in
set_option maxHeartbeats 2000000 in
theorem all3_any (ho : Own3) (x : Tr Mm) : ∀ (w : World) (_ : Tr.Good w x) (_ : parts x ≤ 1000000), Calls Tryd.prog 75 #[x.agg] w fun e w' => e = .returned (.int .i64 (allErr x : Int)) ∧ Fr no w w' := by
  induction x using Tr.ind with
  | h x ih =>
    intro w hx hp
    obtain ⟨BA, bc, LA, lc, FA, fc, hf⟩ := hx.node.forms
    have hk := fun W (f : Fr no w W) => kids3_any W x (hx.kept0 f) hp
    have how := fun W (f : Fr no w W) => ho x W (hx.kept0 f)
    have hkl := kids_le x
    have hae := allErr_eq x
    have hpk : ∀ y ∈ x.kids, parts y ≤ 1000000 := fun y hy => Nat.le_trans (parts_kid hy) hp
    rw [hf.agg] at hk how ⊢
    have hk6 : x.kids.length ≤ 1000000 := by omega
    have HK := Lib.hid hk; have HOW := Lib.hid how; have HAE := Lib.hid hae; have IH := Lib.hid ih; have HPK := Lib.hid hpk
    clear hk how hf hx ih hkl hpk hae ho
    go_enter Tryd.func75, Tryd.ntmps75
    go_wp2_with fail
    refine (HOW.out _ (by (repeat first | exact Fr.refl _ _ | exact Fr.drewN _ _ _ | apply Fr.drew | apply Fr.alloc | apply Fr.setAt | apply Fr.moreN))).mono ?_
    rintro e w1 ⟨rfl, f1⟩
    have hb1 := f1.heap (heap_alloc_new w (.cells #[.int .u8 x.k.toNat, .bool x.b, .int .i64 x.i, .string ⟨x.t.toArray⟩, .slice BA x.bs.length bc, .slice LA x.l.length lc, .slice FA x.f.length fc] 33)) (fun h => h)
    obtain ⟨q0, q1, q2, q3, q4, q5, q6, qz, ql⟩ := seven_cells hb1
    have F1 := Lib.hid ((by (repeat first | exact Fr.refl _ _ | exact Fr.drewN _ _ _ | apply Fr.drew | apply Fr.alloc | apply Fr.setAt | apply Fr.moreN) : Fr no w _).trans f1 (fun _ _ h => h))
    clear f1 hb1
    go_wp2_with fail
    refine (HK.out _ F1.out).mono ?_
    rintro e w2 ⟨A, c, rfl, hin, f2⟩
    have F2 := Lib.hid (F1.out.trans f2 (fun _ _ h => h)); have HIN := Lib.hid hin
    clear f2 hin q0 q1 q2 q3 q4 q5 q6 qz ql
    go_wp2
    go_loopw [3, 5] (fun ev iv wr => ∃ j E : Nat, j ≤ x.kids.length ∧ iv = .int .i64 (j : Int) ∧ ev = .int .i64 (E : Int) ∧ Fr no w2 wr ∧ E = (if Tr.own x ≠ 0 then Tr.own x else firstErr ((x.kids.take j).map allErr))) (fun _ iv _ => x.kids.length - (intOf iv).toNat)
    case atStart => exact ⟨0, Tr.own x, Nat.zero_le _, rfl, rfl, Fr.refl _ _, by split <;> simp_all [firstErr]⟩
    case round =>
      obtain ⟨j, E, hj, rfl, rfl, hfr, hE⟩ := hrel
      have FR := Lib.hid hfr; have HE := Lib.hid hE
      clear hfr hE
      by_cases hcase : j < x.kids.length ∧ E = 0
      · obtain ⟨hlt, hE0⟩ := hcase
        have hi2 := HIN.out.kept0 FR.out
        obtain ⟨b, o, KB, kb, KL, kl, KF, kf, rfl, hfj, q0, q1, q2, q3, q4, q5, q6, hgl⟩ := In.get hi2 j hlt
        have hcall := IH.out x.kids[j] (List.getElem_mem _) wr (hi2.good _ (List.getElem_mem _)) (HPK.out _ (List.getElem_mem _))
        rw [hfj.agg] at hcall
        have hnew : allErr x.kids[j] = (if Tr.own x ≠ 0 then Tr.own x else firstErr ((x.kids.take (j + 1)).map allErr)) := by
          have h := HE.out
          rw [hE0] at h
          have hox : ¬ Tr.own x ≠ 0 := fun h2 => by rw [if_pos h2] at h; omega
          rw [if_neg hox] at h ⊢
          rw [List.take_succ_eq_append_getElem hlt, List.map_append, firstErr_append, if_neg (by omega), List.map_singleton, firstErr, firstErr]
          split
          · rfl
          · omega
        have HC := Lib.hid hcall; have HNEW := Lib.hid hnew
        subst hE0
        clear hcall hfj hi2 hnew
        go_wp2_with fail
        refine HC.out.mono ?_
        rintro e w5 ⟨rfl, fy⟩
        have FY := Lib.hid (FR.out.trans fy (fun _ _ h => h))
        clear fy
        go_wp2
        go_roundw
        case rel => exact ⟨j + 1, allErr x.kids[j], by omega, by go_num, rfl, FY.out, HNEW.out⟩
        case measure => simp [intOf]; omega
      · have hfin : allErr x = E := by
          rw [HAE.out, HE.out]
          by_cases hox : Tr.own x ≠ 0
          · rw [if_pos hox, if_pos hox]
          · rw [if_neg hox, if_neg hox]
            by_cases hjl : j = x.kids.length
            · subst hjl; rw [List.take_length]
            · have hE0 : E ≠ 0 := fun h => hcase ⟨by omega, h⟩
              have h := HE.out
              rw [if_neg hox] at h
              rw [List.map_take] at h ⊢
              exact firstErr_take (by omega)
        have HFIN := Lib.hid hfin
        clear hfin
        by_cases hlt : j < x.kids.length
        · have gE : ((E : Int) == 0) = false := by rw [beq_eq_false_iff_ne]; intro h; exact hcase ⟨hlt, by omega⟩
          clear hcase
          go_wp2
          go_ret
          exact ⟨by rw [HFIN.out]; rfl, F2.out.trans FR.out (fun _ _ h => h)⟩
        · clear hcase
          go_wp2
          go_ret
          exact ⟨by rw [HFIN.out]; rfl, F2.out.trans FR.out (fun _ _ h => h)⟩

set_option maxRecDepth 100000 in
set_option maxHeartbeats 2000000 in
theorem check3_any (ho : Own3) (x : Tr Mm) (w : World) (hx : Tr.Good w x) (hp : parts x ≤ 1000000) : Calls Tryd.prog 31 #[x.agg] w fun e w' => e = .returned (.int .i64 (check x : Int)) ∧ Fr no w w' := by
  obtain ⟨BA, bc, LA, lc, FA, fc, hf⟩ := hx.node.forms
  have hd := fun W (f : Fr no w W) => deep3_any 8 (by omega) x W (hx.kept0 f) hp
  have hpt := fun W (f : Fr no w W) => parts3_any x W (hx.kept0 f) hp 0 (by omega)
  have hal := fun W (f : Fr no w W) => all3_any ho x W (hx.kept0 f) hp
  rw [hf.agg] at hd hpt hal ⊢
  have HD := Lib.hid hd; have HPT := Lib.hid hpt; have HAL := Lib.hid hal
  clear hd hpt hal hf hx ho
  go_enter Tryd.func31, Tryd.ntmps31
  go_wp2_with fail
  refine (HD.out _ (by (repeat first | exact Fr.refl _ _ | exact Fr.drewN _ _ _ | apply Fr.drew | apply Fr.alloc | apply Fr.setAt | apply Fr.moreN))).mono ?_
  rintro e w1 ⟨rfl, f1⟩
  have hb1 := f1.heap (heap_alloc_new w (.cells #[.int .u8 x.k.toNat, .bool x.b, .int .i64 x.i, .string ⟨x.t.toArray⟩, .slice BA x.bs.length bc, .slice LA x.l.length lc, .slice FA x.f.length fc] 33)) (fun h => h)
  obtain ⟨q0, q1, q2, q3, q4, q5, q6, qz, ql⟩ := seven_cells hb1
  have F1 := Lib.hid ((by (repeat first | exact Fr.refl _ _ | exact Fr.drewN _ _ _ | apply Fr.drew | apply Fr.alloc | apply Fr.setAt | apply Fr.moreN) : Fr no w _).trans f1 (fun _ _ h => h)); have HB1 := Lib.hid hb1
  clear f1 hb1
  cases hdp : deep 8 x with
  | true =>
    have hc : check x = 31 := by unfold check; rw [if_pos hdp]
    have HC := Lib.hid hc
    clear hc hdp
    go_wp2
    go_ret
    exact ⟨by rw [HC.out]; rfl, F1.out⟩
  | false =>
    have HDP := Lib.hid hdp
    clear hdp
    go_wp2_with fail
    refine (HPT.out _ F1.out).mono ?_
    rintro e w2 ⟨f2, N, rfl, hN1, hN2, hN3⟩
    have hb2 := f2.heap HB1.out (fun h => h)
    obtain ⟨q0, q1, q2, q3, q4, q5, q6, qz, ql⟩ := seven_cells hb2
    have F2 := Lib.hid (F1.out.trans f2 (fun _ _ h => h))
    clear f2 hb2
    by_cases h512 : 512 < N
    · have hc : check x = 32 := by
        unfold check
        rw [if_neg (by rw [HDP.out]; simp), if_pos (by rcases Nat.lt_or_ge 512 (parts x) with h | h; exact h; exact absurd (hN2 (by omega)) (by omega))]
      have HC := Lib.hid hc
      clear hc hN1 hN2 hN3
      go_wp2
      go_ret
      exact ⟨by rw [HC.out]; rfl, F2.out⟩
    · have hc : check x = allErr x := by
        unfold check
        rw [if_neg (by rw [HDP.out]; simp), if_neg (fun h => h512 (hN3 (by omega)))]
      have HC := Lib.hid hc
      clear hc hN1 hN2 hN3
      go_wp2_with fail
      refine (HAL.out _ F2.out).mono ?_
      rintro e w3 ⟨rfl, f3⟩
      have F3 := Lib.hid (F2.out.trans f3 (fun _ _ h => h))
      clear f3
      go_wp2
      go_ret
      exact ⟨by rw [HC.out]; rfl, F3.out⟩
end Go.Proofs.YtgcicljklejmjaaDoor
