import Derived.Test.YtijcleiekafoiaaGreatDoorMb16
import Derived.Test.YtijcleiekafoiaaGreatDoorMr05
import Derived.Test.YtijcleiekafoiaaGreatDoorMb21
import Derived.Test.YtijcleiekafoiaaGreatDoorRows
import Derived.Test.YtijcleiekafoiaaGreatDoorCards
import Derived.Test.YtijcleiekafoiaaGreatDoorTie
import Derived.Test.YtijcleiekafoiaaGreatDoorMb22
import Derived.Test.YtijcleiekafoiaaGreatDoorMb06
import Derived.WalkKit
import Derived.ProofKit
import Derived.OpenShut
import Derived.ChangeOld
import Derived.Below
import Derived.SizedLaws
import Derived.Lib.LaidIn
import Derived.Lib.LaidU8T
import Derived.Deep.DeepHandedRow
import Derived.Deep.DeepWitnessRowRef
import Derived.SevenTiedAt

/- DocReads: any bytes are the value that the chapter says, or refused. Printed by mkldocr.py. -/
namespace Go.Proofs.YtijcleiekafoiaaGreatDoor
open Go.RowKit Go.Shelf
open Tr

theorem docCode_le (b : List UInt8) : docCode b ≤ 50 := by unfold docCode; split <;> omega

set_option maxRecDepth 100000 in
set_option maxHeartbeats 16000000 in
theorem docreads_any (w : World) (X : Value) (b : List UInt8) (hx : Sl w 1 X b.length (bvs b)) (hbn : b.length ≤ reachBytes) (hX : ∀ k, X.ownBlock = some k → k < w.heap.size) (hT : Tabs w) :
    Calls Tryz.prog 4 #[X] w fun e w' => e = .returned (.bool true) ∧ Fr no w w' := by
  obtain ⟨XA, xc, rfl, _, _⟩ := hx.form
  have hbl : b.length ≤ 140737488351232 := hbn
  have HX := Lib.hid hx; have HT := Lib.hid hT; have HXX := Lib.hid hX; have HBL := Lib.hid hbl
  clear hx hT hX hbl
  by_cases hb2 : 100000 < b.length
  · have hbi : (100000 : Int) < (b.length : Int) := by omega
    go_enter Tryz.func4, Tryz.ntmps4
    go_wp2
    go_ret
    exact ⟨rfl, Fr.refl _ _⟩
  have hbi : ¬ (100000 : Int) < (b.length : Int) := by omega
  obtain ⟨er, her⟩ : ∃ er, er = docCode b := ⟨_, rfl⟩
  have hce : IntKind.i64.wrap (er : Int) = (er : Int) := err_i64 er (by rw [her]; have := docCode_le b; omega)
  have HER := Lib.hid her; have HCE := Lib.hid hce; have HIN := Lib.hid (ine_self er)
  clear her hce
  go_enter Tryz.func4, Tryz.ntmps4
  go_wp2_with fail
  refine (lent_any w _ b HX.out HBL.out).mono ?_
  rintro e w1 ⟨g, rfl, hgn, hlt, f1⟩
  have hgl : g < w1.heap.size := (Array.getElem?_eq_some_iff.1 hlt).1
  have HGN := Lib.hid hgn; have HGL := Lib.hid hgl; have HLT := Lib.hid hlt; have F1 := Lib.hid f1
  clear hgn hgl hlt f1 hb2
  go_wp2_with fail
  refine (docdec_any w1 _ b (HLT.out.sl HBL.out) HBL.out (HT.out.kept0 F1.out)).mono ?_
  rintro e w2 ⟨f2, y, rfl, hby, hoy, hgy, hky, hpy⟩
  rw [← HER.out]
  obtain ⟨BY, bY, LY, lY, FY, fY, hfy⟩ := hgy.node.forms
  have hay := hfy.agg
  rw [hay]
  have hyl := hoy.lt
  have HYL := Lib.hid hyl
  clear hyl
  have F2 := Lib.hid f2; have HBY := Lib.hid hby; have HOY := Lib.hid hoy; have HGY := Lib.hid hgy; have HKY := Lib.hid hky; have HPY := Lib.hid hpy; have HAY := Lib.hid hay
  clear f2 hby hoy hgy hky hpy hfy hay
  have hr := heap_alloc_new w2 (.cells #[.int .u8 y.k.toNat, .bool y.b, .int .i64 y.i, .string ⟨y.t.toArray⟩, .slice BY y.bs.length bY, .slice LY y.l.length lY, .slice FY y.f.length fY] 27)
  have hal := (Fr.refl no w2).alloc (.cells #[.int .u8 y.k.toNat, .bool y.b, .int .i64 y.i, .string ⟨y.t.toArray⟩, .slice BY y.bs.length bY, .slice LY y.l.length lY, .slice FY y.f.length fY] 27)
  have hsz : (w2.alloc (.cells #[.int .u8 y.k.toNat, .bool y.b, .int .i64 y.i, .string ⟨y.t.toArray⟩, .slice BY y.bs.length bY, .slice LY y.l.length lY, .slice FY y.f.length fY] 27)).heap.size = w2.heap.size + 1 := World.size_alloc _ _
  have HRY := Lib.hid hr; have F3 := Lib.hid hal; have HS3 := Lib.hid hsz
  clear hr hal hsz
  go_wp2_with fail
  generalize w2.alloc (.cells #[.int .u8 y.k.toNat, .bool y.b, .int .i64 y.i, .string ⟨y.t.toArray⟩, .slice BY y.bs.length bY, .slice LY y.l.length lY, .slice FY y.f.length fY] 27) = w3 at HRY F3 HS3 ⊢
  have F13 := Lib.hid (F2.out.trans F3.out (fun _ _ h => h))
  refine (docdec_any w3 _ b ((HLT.out.kept F13.out (fun h => h)).sl HBL.out) HBL.out (HT.out.kept0 (F1.out.trans F13.out (fun _ _ h => h)))).mono ?_
  rintro e w4 ⟨f4, u, rfl, hbu, hou, hgu, hku, hpu⟩
  rw [← HER.out]
  obtain ⟨BU, bU, LU, lU, FU, fU, hfu⟩ := hgu.node.forms
  have hau := hfu.agg
  rw [hau]
  have F34 := Lib.hid f4; have F14 := Lib.hid (F13.out.trans f4 (fun _ _ h => h)); have HBU := Lib.hid hbu; have HOU := Lib.hid hou; have HGU := Lib.hid hgu; have HKU := Lib.hid hku; have HPU := Lib.hid hpu; have HAU := Lib.hid hau
  clear f4 hbu hou hgu hku hpu hfu hau
  have hr := heap_alloc_new w4 (.cells #[.int .u8 u.k.toNat, .bool u.b, .int .i64 u.i, .string ⟨u.t.toArray⟩, .slice BU u.bs.length bU, .slice LU u.l.length lU, .slice FU u.f.length fU] 27)
  have hal := (Fr.refl no w4).alloc (.cells #[.int .u8 u.k.toNat, .bool u.b, .int .i64 u.i, .string ⟨u.t.toArray⟩, .slice BU u.bs.length bU, .slice LU u.l.length lU, .slice FU u.f.length fU] 27)
  have hsz : (w4.alloc (.cells #[.int .u8 u.k.toNat, .bool u.b, .int .i64 u.i, .string ⟨u.t.toArray⟩, .slice BU u.bs.length bU, .slice LU u.l.length lU, .slice FU u.f.length fU] 27)).heap.size = w4.heap.size + 1 := World.size_alloc _ _
  have HRU := Lib.hid hr; have F5 := Lib.hid hal; have HS5 := Lib.hid hsz
  clear hr hal hsz
  go_wp2_with fail
  generalize w4.alloc (.cells #[.int .u8 u.k.toNat, .bool u.b, .int .i64 u.i, .string ⟨u.t.toArray⟩, .slice BU u.bs.length bU, .slice LU u.l.length lU, .slice FU u.f.length fU] 27) = w5 at HRU F5 HS5 ⊢
  have F15 := Lib.hid (F14.out.trans F5.out (fun _ _ h => h))
  refine (whole_lent w5 g _ b b (HLT.out.kept F15.out (fun h => h)) (HX.out.kept0 (F1.out.trans F15.out (fun _ _ h => h))) HBL.out HBL.out).mono ?_
  rintro e w6 ⟨rfl, n6, hw6⟩
  first | rw [decide_eq_true (rfl : b = b)] | simp only [decide_true]
  have f6 : Fr no w5 w6 := by rw [hw6]; exact Fr.drewN _ _ _
  have F16 := Lib.hid (F15.out.trans f6 (fun _ _ h => h)); have F56 := Lib.hid f6
  clear hw6 f6
  go_wp2_with fail
  refine (spoil_lent w6 g b (HLT.out.kept F16.out (fun h => h)) HBL.out).mono ?_
  rintro e w7 ⟨rfl, f7⟩
  have hs0 := F1.out.size; have hs1 := F2.out.size; have hs2 := HS3.out; have hs3 := F34.out.size; have hs4 := HS5.out; have hs5 := F56.out.size; have hs7 := f7.size; have hsg := HGN.out; have hsl := HGL.out
  have F07 := Lib.hid (Fr.since (F1.out.trans F16.out (fun _ _ h => h)) f7 (fun k h => by have h : k = g := h; omega) : Fr no w w7)
  have hoy7 := ((HOY.out.kept0 (F3.out.trans (F34.out.trans (F5.out.trans F56.out (fun _ _ h => h)) (fun _ _ h => h)) (fun _ _ h => h))).kept f7 (fun k hk h => by have h : k = g := h; have := HKY.out k hk; omega))
  have hou7 := ((HOU.out.kept0 (F5.out.trans F56.out (fun _ _ h => h))).kept f7 (fun k hk h => by have h : k = g := h; have := HKU.out k hk; omega))
  have hry7 := f7.heap ((F34.out.trans (F5.out.trans F56.out (fun _ _ h => h)) (fun _ _ h => h)).heap HRY.out (fun h => h)) (fun h => by have h : w2.heap.size = g := h; omega)
  have hru7 := f7.heap (F56.out.heap HRU.out (fun h => h)) (fun h => by have h : w4.heap.size = g := h; omega)
  have HOY7 := Lib.hid hoy7; have HOU7 := Lib.hid hou7; have HRY7 := Lib.hid hry7; have HRU7 := Lib.hid hru7
  have HSZ := Lib.hid (And.intro hs0 (And.intro hs1 (And.intro hs2 (And.intro hs3 (And.intro hs4 (And.intro hs5 hs7))))))
  clear hoy7 hou7 hry7 hru7 f7 hs0 hs1 hs2 hs3 hs4 hs5 hs7 hsg hsl HRY HRU
  have hgy7 := HOY7.out.good rfl HGY.out
  have hgu7 := HOU7.out.good rfl HGU.out
  have HGY7 := Lib.hid hgy7; have HGU7 := Lib.hid hgu7
  clear hgy7 hgu7 HGY HGU HOY HOU
  go_wp2_with fail
  refine (decode5_any w7 _ b (HX.out.kept0 F07.out) HBL.out (fun k hk => Nat.lt_of_lt_of_le (HXX.out k hk) F07.out.size)).mono ?_
  rintro e w8 ⟨f8, z, rfl, hbz, hgz⟩
  rw [← HER.out]
  obtain ⟨BZ, bZ, LZ, lZ, FZ, fZ, hfz⟩ := hgz.node.forms
  have haz := hfz.agg
  rw [haz]
  have F8 := Lib.hid f8; have HBZ := Lib.hid hbz; have HGZ := Lib.hid hgz; have HAZ := Lib.hid haz
  clear f8 hbz hgz hfz haz
  have hr := heap_alloc_new w8 (.cells #[.int .u8 z.k.toNat, .bool z.b, .int .i64 z.i, .string ⟨z.t.toArray⟩, .slice BZ z.bs.length bZ, .slice LZ z.l.length lZ, .slice FZ z.f.length fZ] 27)
  have hal := (Fr.refl no w8).alloc (.cells #[.int .u8 z.k.toNat, .bool z.b, .int .i64 z.i, .string ⟨z.t.toArray⟩, .slice BZ z.bs.length bZ, .slice LZ z.l.length lZ, .slice FZ z.f.length fZ] 27)
  have HRZ := Lib.hid hr; have F9 := Lib.hid hal
  clear hr hal
  go_wp2_with fail
  generalize w8.alloc (.cells #[.int .u8 z.k.toNat, .bool z.b, .int .i64 z.i, .string ⟨z.t.toArray⟩, .slice BZ z.bs.length bZ, .slice LZ z.l.length lZ, .slice FZ z.f.length fZ] 27) = w9 at HRZ F9 ⊢
  have F79 := Lib.hid (F8.out.trans F9.out (fun _ _ h => h))
  refine (known5_any w9 (HT.out.kept0 (F07.out.trans F79.out (fun _ _ h => h)))).mono ?_
  rintro e w10 ⟨rfl, f10⟩
  have F710 := Lib.hid (F79.out.trans f10 (fun _ _ h => h)); have F910 := Lib.hid f10; have F810 := Lib.hid (F9.out.trans f10 (fun _ _ h => h))
  clear f10
  obtain ⟨p0, p1, p2, p3, p4, p5, p6, pz, pl⟩ := seven_cells (F710.out.heap HRY7.out (fun h => h))
  obtain ⟨r0, r1, r2, r3, r4, r5, r6, rz, rl⟩ := seven_cells (F910.out.heap HRZ.out (fun h => h))
  have hsv := samev_any y z w10 (HGY7.out.kept0 F710.out) (HGZ.out.kept0 F810.out)
  rw [HAY.out, HAZ.out] at hsv
  have HSV := Lib.hid hsv
  clear hsv
  have hce := HCE.out; have hin := HIN.out
  go_wp2_with fail
  refine HSV.out.mono ?_
  rintro e w11 ⟨⟨v, rfl, hv⟩, f11⟩
  obtain rfl : v = true := hv.2 (HBY.out.trans HBZ.out.symm)
  have F711 := Lib.hid (F710.out.trans f11 (fun _ _ h => h)); have F811 := Lib.hid (F810.out.trans f11 (fun _ _ h => h)); have F911 := Lib.hid (F910.out.trans f11 (fun _ _ h => h))
  clear hv f11 HSV p0 p1 p2 p3 p4 p5 p6 pz pl r0 r1 r2 r3 r4 r5 r6 rz rl
  obtain ⟨p0, p1, p2, p3, p4, p5, p6, pz, pl⟩ := seven_cells (F711.out.heap HRU7.out (fun h => h))
  obtain ⟨r0, r1, r2, r3, r4, r5, r6, rz, rl⟩ := seven_cells (F911.out.heap HRZ.out (fun h => h))
  have hsv := samev_any u z w11 (HGU7.out.kept0 F711.out) (HGZ.out.kept0 F811.out)
  rw [HAU.out, HAZ.out] at hsv
  have HSV := Lib.hid hsv
  clear hsv
  go_wp2_with fail
  refine HSV.out.mono ?_
  rintro e w12 ⟨⟨v, rfl, hv⟩, f12⟩
  obtain rfl : v = true := hv.2 (HBU.out.trans HBZ.out.symm)
  have F712 := Lib.hid (F711.out.trans f12 (fun _ _ h => h))
  clear hv f12 HSV p0 p1 p2 p3 p4 p5 p6 pz pl r0 r1 r2 r3 r4 r5 r6 rz rl hce hin
  have hrk := heap_alloc_new w12 (.cells #[.slice none 0 0, .slice none 0 0, .slice none 0 0, .slice none 0 0, .slice none 0 0, .slice none 0 0, .slice none 0 0, .slice none 0 0, .slice none 0 0, .slice none 0 0, .slice none 0 0, .slice none 0 0, .slice none 0 0, .slice none 0 0, .slice none 0 0, .slice none 0 0, .slice none 0 0, .slice none 0 0, .slice none 0 0, .slice none 0 0, .slice none 0 0, .slice none 0 0, .slice none 0 0] 63)
  have halk := (Fr.refl no w12).alloc (.cells #[.slice none 0 0, .slice none 0 0, .slice none 0 0, .slice none 0 0, .slice none 0 0, .slice none 0 0, .slice none 0 0, .slice none 0 0, .slice none 0 0, .slice none 0 0, .slice none 0 0, .slice none 0 0, .slice none 0 0, .slice none 0 0, .slice none 0 0, .slice none 0 0, .slice none 0 0, .slice none 0 0, .slice none 0 0, .slice none 0 0, .slice none 0 0, .slice none 0 0, .slice none 0 0] 63)
  have hszk : (w12.alloc (.cells #[.slice none 0 0, .slice none 0 0, .slice none 0 0, .slice none 0 0, .slice none 0 0, .slice none 0 0, .slice none 0 0, .slice none 0 0, .slice none 0 0, .slice none 0 0, .slice none 0 0, .slice none 0 0, .slice none 0 0, .slice none 0 0, .slice none 0 0, .slice none 0 0, .slice none 0 0, .slice none 0 0, .slice none 0 0, .slice none 0 0, .slice none 0 0, .slice none 0 0, .slice none 0 0] 63)).heap.size = w12.heap.size + 1 := World.size_alloc _ _
  obtain ⟨p0, p1, p2, p3, p4, p5, p6, pz, pl⟩ := seven_cells (F712.out.heap HRY7.out (fun h => h))
  have HRK := Lib.hid hrk; have F13b := Lib.hid halk; have HSK := Lib.hid hszk; have HPR := Lib.hid (F712.out.heap HRY7.out (fun h => h))
  clear hrk halk hszk
  go_wp2_with fail
  generalize w12.alloc (.cells #[.slice none 0 0, .slice none 0 0, .slice none 0 0, .slice none 0 0, .slice none 0 0, .slice none 0 0, .slice none 0 0, .slice none 0 0, .slice none 0 0, .slice none 0 0, .slice none 0 0, .slice none 0 0, .slice none 0 0, .slice none 0 0, .slice none 0 0, .slice none 0 0, .slice none 0 0, .slice none 0 0, .slice none 0 0, .slice none 0 0, .slice none 0 0, .slice none 0 0, .slice none 0 0] 63) = w13 at HRK F13b HSK ⊢
  clear p0 p1 p2 p3 p4 p5 p6 pz pl
  have hs12 := F712.out.size
  have HS12 := Lib.hid hs12
  clear hs12
  have hbc := bcv_nil HRK.out
  have hoy := HOY7.out.kept0 (F712.out.trans F13b.out (fun _ _ h => h))
  have hou := HOU7.out.kept0 (F712.out.trans F13b.out (fun _ _ h => h))
  have hcv := bc_value_any y w13 w12.heap.size V0 R0 hbc hoy (HGY7.out.kept0 (F712.out.trans F13b.out (fun _ _ h => h))) (fun k hk h => by have h1 := bcf_nil h; have h2 := HOY7.out.lt k hk; have h3 := HS12.out; omega) (fun i => by have := HPY.out; simp only [List.length_nil]; omega)
  rw [HAY.out] at hcv
  have HCV := Lib.hid hcv; have HOU13 := Lib.hid hou
  clear hbc hoy hou hcv
  refine HCV.out.mono ?_
  rintro e w14 ⟨rfl, V1, R1, g1⟩
  have G1 := Lib.hid g1; have F1214 := Lib.hid (g1.fr0 F13b.out rfl)
  clear g1 HCV
  obtain ⟨p0, p1, p2, p3, p4, p5, p6, pz, pl⟩ := seven_cells ((F712.out.trans F1214.out (fun _ _ h => h)).heap HRU7.out (fun h => h))
  have hcv := bc_value_any u w14 w12.heap.size V1 R1 G1.out.bc (HOU7.out.kept0 (F712.out.trans F1214.out (fun _ _ h => h))) (HGU7.out.kept0 (F712.out.trans F1214.out (fun _ _ h => h))) (fun k hk => G1.out.far (by have := HSK.out; omega) (by have h2 := HOU7.out.lt k hk; have h3 := HS12.out; omega) (fun hN => by have h1 := HKU.out k hk; have h2 := HYL.out k hN; have h3 := HSZ.out; omega)) (fun i => by have h1 := G1.out.len0 i; have h2 := HPY.out; have h3 := HPU.out; omega)
  rw [HAU.out] at hcv
  have HCV := Lib.hid hcv
  clear hcv
  go_wp2_with fail
  refine HCV.out.mono ?_
  rintro e w15 ⟨rfl, V2, R2, g2⟩
  have g12 := G1.out.trans (Fr.refl _ _) g2
  have G2 := Lib.hid g12; have F1215 := Lib.hid (g12.fr0 F13b.out rfl)
  clear g2 g12 HCV p0 p1 p2 p3 p4 p5 p6 pz pl
  go_wp2_with fail
  refine (bc_own w15 w12.heap.size V2 R2 G2.out.bc (fun i => by have h1 := G2.out.len0 i; have h2 := HPY.out; have h3 := HPU.out; omega)).mono ?_
  rintro e w16 ⟨rfl, f16⟩
  have F16b := Lib.hid f16
  clear f16
  go_wp2
  go_ret
  refine ⟨rfl, Fr.since (F07.out.trans (F712.out.trans F1215.out (fun _ _ h => h)) (fun _ _ h => h)) F16b.out (fun j hj => ?_)⟩
  obtain ⟨j1, _, hj⟩ := hj
  have h1 := HSZ.out
  have h2 := HS12.out
  have h3 := HSK.out
  have h4 := F07.out.size
  rcases G2.out.more j (.inr (.inr ⟨j1, hj⟩)) with h | h | h
  · have := bcf_nil h; omega
  · rcases h with h | h
    · have := HKY.out j h; omega
    · have := HKU.out j h; omega
  · omega
end Go.Proofs.YtijcleiekafoiaaGreatDoor

/- DocReads holds, for every input; its tied card. No condition but what its row lists. -/
namespace Go.Proofs.YtijcleiekafoiaaGreatDoor
open Go.ChangeShapes Go.WideShapes Go.ChangeAt Go.RowKit Go.Shelf
namespace RDocReads
theorem own : ownKnob Tryz.prog.godebug = none := by kernel_rfl
theorem laidOut : laidOutB Tryz.prog = true := by kernel_rfl

/-- A world in which the two tables lie. -/
noncomputable def laidWorld (os : Os) : World :=
  let w0 := World.holding Tryz.prog os ⟨#[], #[], []⟩
  let put (h : Array Obj) (g : Nat) (cs : Array Value) : Array Obj := h.modify g fun
    | .cells _ t frozen => .cells cs t frozen
    | o => o
  let h1 := put w0.heap 0 (Lib.firstTab.map fun z => Value.int .u8 z).toArray
  let h2 := put h1 1 ((List.range 16).flatMap fun i => [Value.int .u8 (Lib.accLo i), Value.int .u8 (Lib.accHi i)]).toArray
  { w0 with heap := h2 }
theorem laid_met (os : Os) (args : Array Value) : laidMet Tryz.prog Rows.docReadsRow.laid ((laidWorld os).forCall (fun _ _ => 0) ⟨#[], args, []⟩).memory :=
  (LaidIn.of_run (l := [("unicode/utf8.acceptRanges", Rows.laid_unicode_utf8_acceptRanges), ("unicode/utf8.first", Rows.laid_unicode_utf8_first)]) [0, 1] 8 (by kernel_rfl) (by kernel_rfl) (by kernel_rfl) (by kernel_rfl)).met

theorem witness_row (os : Os) {H : Type} (enc : TypeId × Value → H) :
    (OpenSpec.ofChange Rows.docReadsSpec).preRow enc Tryz.prog Tryz.f4 Rows.docReadsRow.domain false Rows.docReadsRow.laid ((laidWorld os).forCall (fun _ _ => 0) ⟨#[], #[.slice none 0 0], []⟩).memory #[.slice none 0 0] := by
  have hw : (DataW.whole enc Tryz.prog ((laidWorld os).forCall (fun _ _ => 0) ⟨#[], #[.slice none 0 0], []⟩).memory Tryz.f4.params.toList (OpenSpec.ofChange Rows.docReadsSpec).vars false #[.slice none 0 0].toList 8).map (fun x => (x.1, x.2.1)) = some ([.nil], []) := by kernel_rfl
  obtain ⟨⟨x1, x2, x3⟩, hx, hx1⟩ := Option.map_eq_some_iff.1 hw
  simp only [Prod.mk.injEq] at hx1
  obtain ⟨rfl, rfl⟩ := hx1
  exact OpenSpec.preRow_of_cond 8 hx (by kernel_rfl) (fun k hk => by cases hk) (by kernel_rfl) (laid_met os _)

set_option maxRecDepth 100000 in
set_option maxHeartbeats 2000000 in
theorem lifted (os : Os) (started : os.Started) (H : Type) (enc : TypeId × Value → H) (F : Stop.Interp) :
    ReturnsInHanded {} Tryz.checked os 4 .any ((OpenSpec.ofChange Rows.docReadsSpec).preRow enc Tryz.prog Tryz.f4 Rows.docReadsRow.domain false Rows.docReadsRow.laid) (((OpenSpec.ofChange Rows.docReadsSpec).at F).post enc Tryz.prog Tryz.f4 false true false false) := by
  refine returnsInHanded_of_row (C := Tryz.checked) (s := (OpenSpec.ofChange Rows.docReadsSpec)) own started (by kernel_rfl) Tryz.func4
    (witness_row_atRef (enc := enc) (C := Tryz.checked) false (laidWorld os) #[.slice none 0 0] rfl (by kernel_rfl) (by kernel_rfl) (by kernel_rfl) (witness_row os enc)) ?_
  intro W base args ds gs before hval0 hW hcnd hk0 hsz0 hL _ _
  have hval : ∀ (j : Nat) t v, Tryz.f4.params[j]? = some t → args[j]? = some v → Value.okWide Tryz.prog W .any base t v := hval0
  have hW' := hW
  obtain ⟨p, q, hA0, hV, rfl, hfz, hnd⟩ := hW
  have hA : DataW.TrodAll enc Tryz.prog W 0 (fun _ => true) true Tryz.f4.params.toList args.toList ds p := hA0
  have hTd : ∀ (j : Nat) t v, Tryz.f4.params.toList[j]? = some t → args.toList[j]? = some v → Td Tryz.prog W t v.cells.toList := fun j t v h1 h2 => Td.arg hA hsz0 j t v h1 h2
  have htab : Tabs W := utf8Tabs_of_readsT (U8Types.of196 lays_valid) ⟨by kernel_rfl, by kernel_rfl, by kernel_rfl, by kernel_rfl, by kernel_rfl, by kernel_rfl, by kernel_rfl⟩ (Lib.laidMet.reads (d := Rows.laid_unicode_utf8_first) hL (.tail _ (.head _))) (Lib.laidMet.reads (d := Rows.laid_unicode_utf8_acceptRanges) hL (.head _))
  clear hsz0 hcnd hk0
  rw [Tryz.params4] at hA hval hTd
  obtain ⟨v0, vs0, d0, ds0, p0, q0, hargs, rfl, rfl, h0, r0⟩ := trodAll_cons hA
  obtain ⟨rfl, rfl, rfl⟩ := trodAll_nil r0
  obtain rfl : args = #[v0] := by cases args; simp_all
  obtain ⟨rfl, rfl⟩ := trodVars_none hV
  have lt0 : ∀ x ∈ p0, x.block < W.heap.size := by obtain ⟨m, hm⟩ := h0; exact DataW.trod_lt m _ _ _ hm
  obtain ⟨a0, n0, c0, rfl⟩ := okWide_slice Tryz.underlying23 (hval 0 23 v0 rfl rfl)
  have lo0 : ∀ k, (Value.slice a0 n0 c0).ownBlock = some k → k < W.heap.size := okWide_lt Tryz.underlying23 (hval 0 23 _ rfl rfl)
  have td0 : Td Tryz.prog W 23 [.slice a0 n0 c0] := hTd 0 23 _ rfl rfl
  have walk : Calls Tryz.prog 4 #[.slice a0 n0 c0] W fun e w' => e = .returned (.bool true) ∧ Below W.heap.size W w' := by
    clear hA0 hTd hval hval0 hL
    obtain ⟨x0, l0, e0, s0, h0⟩ := td_bytes td0
    obtain rfl := (List.cons.inj e0).1
    exact (docreads_any W _ l0 s0 h0 lo0 htab).mono fun e w' ⟨h1, f⟩ => ⟨h1, f.below (fun _ _ h => h)⟩
  clear hA0 hval0 hTd
  refine walk.mono fun e W' ⟨he, bel⟩ => ?_
  subst he
  exact ⟨_, rfl, _, _, _, [], _, [], hW', trodAll_mk1 (shut_bool Tryz.underlying4 _), (trodAll_cons_mk (Below.trod laidOut (by kernel_rfl) (of_decide_eq_true (by kernel_rfl)) h0 bel lt0) trodAll_mk0), rfl, bel.frame _, fun h => by cases h⟩

theorem row : Rows.docReadsRow.holds Tryz.pinned (OpenSpec.ofChange Rows.docReadsSpec) :=
  OpenClaim.holds_of_cond 4 Tryz.f4 rfl rfl rfl rfl rfl rfl rfl ⟨rfl, rfl, rfl, rfl, rfl⟩ rfl rfl rfl rfl rfl (by kernel_rfl) Tryz.func4 (by kernel_rfl)
    (of_decide_eq_true (by kernel_rfl)) (by unfold Func.isWrapper; first | (rw [if_pos (by decide +kernel)]; kernel_rfl) | (rw [if_neg (of_decide_eq_false (by kernel_rfl))]; exact ⟨rfl, rfl⟩))
    (fun os started H enc _ F0 => by rw [OpenClaim.pre_eq_preRow]; exact lifted os started H enc F0)
theorem card : Claim7.holds Tryz.pinned (.plain (OpenSpec.ofChange Rows.docReadsSpec)) Rows.docReadsCard :=
  Claim7.holds_tied_plain_at .later [] [.data, .pinned] true Rows.docReadsCard.stood.harness Rows.docReadsCard.stood.looks
    row (fun _ h => by cases h) (by kernel_rfl) (fun _ h => by cases h) docReads_row_tie rfl ⟨rfl, rfl⟩ (by kernel_rfl) (by kernel_rfl)
    (fun f fn hf hfn => by
      obtain rfl : f = 4 := Option.some.inj ((show Tryz.prog.funcNamed "codicil/codicillaw05.DocReads" = some 4 by kernel_rfl).symm.trans hf) |>.symm
      obtain rfl : fn = Tryz.f4 := (Option.some.inj (Tryz.func4.symm.trans hfn)).symm
      exact ⟨by kernel_rfl, fun j t ht => by
        have hall : (Tryz.f4.params.toList.all fun t => Tryz.prog.wantsStandIn t == false) = true := by kernel_rfl
        have hm : t ∈ Tryz.f4.params.toList := by
          rw [Array.mem_toList_iff]
          exact Array.mem_of_getElem? ht
        exact (eq_of_beq (List.all_eq_true.1 hall t hm) : Tryz.prog.wantsStandIn t = false)⟩)
    (by kernel_rfl)
end RDocReads

/-- The card. -/
theorem docReads_holds : Rows.DocReadsCardSaid := RDocReads.card
#print axioms docReads_holds
end Go.Proofs.YtijcleiekafoiaaGreatDoor
