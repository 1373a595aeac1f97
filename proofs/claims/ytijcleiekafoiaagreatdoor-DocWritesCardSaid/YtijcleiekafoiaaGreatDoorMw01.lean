import Derived.Test.YtijcleiekafoiaaGreatDoorMb10
import Derived.Test.YtijcleiekafoiaaGreatDoorMb02
import Derived.Test.YtijcleiekafoiaaGreatDoorMb15
import Derived.Test.YtijcleiekafoiaaGreatDoorMb09
import Derived.Test.YtijcleiekafoiaaGreatDoorMb19

/- A row of bytes no older than lo, that grows; beside a row that stays. -/
namespace Go.Proofs.YtijcleiekafoiaaGreatDoor
open Go.RowKit
open Tr

structure NB (lo : Nat) (w : World) (A : Option Addr) (n c : Nat) (bs : List UInt8) : Prop where
  ow : Ow w 5 1 (.slice A n c) n (bvs bs)
  len : n = bs.length
  new : ∀ k, Value.ownBlock (.slice A n c) = some k → lo ≤ k
theorem NB.nil (lo : Nat) (w : World) : NB lo w none 0 0 [] := ⟨⟨by simp [bvs], .inl ⟨rfl, rfl⟩⟩, rfl, by simp [Value.ownBlock]⟩
theorem NB.kept0 {lo : Nat} {w w1 : World} {A : Option Addr} {n c : Nat} {bs : List UInt8} (h : NB lo w A n c bs) (f : Fr no w w1) : NB lo w1 A n c bs := ⟨h.ow.kept0 f, h.len, h.new⟩
theorem NB.more {lo : Nat} {w1 w2 : World} {A A' : Option Addr} {n N c c' m : Nat} {bs cs : List UInt8} (h : NB lo w1 A n c bs) (hm : m = cs.length) (hN : N = n + m) (ho : Ow w2 5 1 (.slice A' N c') N (bvs bs ++ bvs cs)) (hs : Stays w1 w2 (.slice A n c) (.slice A' N c') n N) (hlo : lo ≤ w1.heap.size) : NB lo w2 A' N c' (bs ++ cs) := by
  refine ⟨by rw [bvs_append]; exact ho, by rw [hN, List.length_append, h.len, hm], fun k hk => ?_⟩
  rcases hs with ⟨A1, c1, h1, h2⟩ | h1
  · simp only [Value.slice.injEq] at h1 h2
    obtain ⟨rfl, -, rfl⟩ := h1
    obtain ⟨rfl, -, rfl⟩ := h2
    refine h.new k ?_
    cases A' with
    | none => simp [Value.ownBlock] at hk
    | some a => exact hk
  · exact Nat.le_trans hlo (h1 k hk).1
theorem NB.fr {lo : Nat} {w w1 w2 : World} {A : Option Addr} {n c : Nat} {bs : List UInt8} (h : NB lo w A n c bs) (f : Fr (fun k => Value.ownBlock (.slice A n c) = some k) w1 w2) : Fr (fun k => lo ≤ k) w1 w2 := f.mono (fun k _ hk => h.new k hk)

/-- A row of bytes that grows since w, beside the row g that stays. -/
structure BW (w wr : World) (g : Nat) (o : Obj) (A : Option Addr) (n c : Nat) (bs : List UInt8) : Prop where
  nb : NB w.heap.size wr A n c bs
  fr : Fr no w wr
  row : wr.heap[g]? = some o
  ne : Value.ownBlock (.slice A n c) ≠ some g
theorem BW.kept0 {w wr w1 : World} {g : Nat} {o : Obj} {A : Option Addr} {n c : Nat} {bs : List UInt8} (h : BW w wr g o A n c bs) (f : Fr no wr w1) : BW w w1 g o A n c bs :=
  ⟨h.nb.kept0 f, h.fr.trans f (fun _ _ h => h), f.heap h.row (fun h => h), h.ne⟩
theorem BW.app {w wr wx W2 : World} {g : Nat} {o : Obj} {A A' : Option Addr} {n c N c' m : Nat} {bs cs : List UInt8} (h : BW w wr g o A n c bs) (f : Fr no wr wx) (hm : m = cs.length) (hN : N = n + m) (ho : Ow W2 5 1 (.slice A' N c') N (bvs bs ++ bvs cs))
    (hf : Fr (fun k => Value.ownBlock (.slice A n c) = some k) wx W2) (hs : Stays wx W2 (.slice A n c) (.slice A' N c') n N) : BW w W2 g o A' N c' (bs ++ cs) := by
  have hx := h.kept0 f
  refine ⟨hx.nb.more hm hN ho hs hx.fr.size, hx.fr.trans hf (fun k hk h1 => by have := h.nb.new k h1; omega), hf.heap hx.row h.ne, fun h1 => ?_⟩
  rcases stays_own hs g h1 with h2 | h2
  · exact h.ne h2
  · have := (Array.getElem?_eq_some_iff.1 hx.row).1
    omega
end Go.Proofs.YtijcleiekafoiaaGreatDoor

/- The document's answer for package code: the bytes of numbers and texts. Conditions: of Fixed: at most 8 bytes; of Text: fewer than 2^30 bytes. -/
namespace Go.Proofs.YtijcleiekafoiaaGreatDoor
open Go.RowKit

/-- A new row, all of it one's own. -/
def NewB (w w' : World) (v : Value) (bs : List UInt8) : Prop :=
  w'.ownsRow 0 5 1 v bs.length (bvs bs) ∧ (∀ k, v.ownBlock = some k → w.heap.size ≤ k) ∧ Fr no w w'

theorem NewB.form {w w' : World} {v : Value} {bs : List UInt8} (h : NewB w w' v bs) : ∃ A c, v = .slice A bs.length c := own_form h.1

theorem NewB.nil (w : World) : NewB w w (.slice none 0 0) [] := ⟨⟨rfl, .inl ⟨rfl, rfl⟩⟩, by simp [Value.ownBlock], Fr.refl _ _⟩

theorem NewB.more {w w1 wx w2 : World} {v v2 : Value} {bs cs : List UInt8} {N : Nat} (h : NewB w w1 v bs) (f : Fr no w1 wx) (ho : w2.ownsRow 0 5 1 v2 N (bvs bs ++ bvs cs))
    (hf : Fr (fun k => v.ownBlock = some k) wx w2) (hm : Moved wx w2 v v2) : N = (bs ++ cs).length ∧ NewB w w2 v2 (bs ++ cs) := by
  obtain ⟨h1, h2, h3⟩ := h
  rw [← bvs_append] at ho
  obtain rfl : N = (bs ++ cs).length := by have := ho.1; rw [bvs_length, Nat.mul_one] at this; exact this.symm
  refine ⟨rfl, ho, fun k hk => ?_, (h3.trans f (fun _ _ h => h)).trans hf (fun k hk h => by have := h2 k h; omega)⟩
  have s1 := h3.size; have s2 := f.size
  rcases hm with hm | hm
  · exact h2 k (hm ▸ hk)
  · have := hm k hk; omega

theorem and255 (x : Nat) (h : x < 18446744073709551616) : bits .and .u64 (x : Int) 255 = ((x % 256 : Nat) : Int) := by
  have := bits_and_u64_nat x 255 h (by omega)
  rw [show ((255 : Nat) : Int) = 255 from rfl] at this
  rw [this]
  congr 1
  exact Nat.and_two_pow_sub_one_eq_mod x 8

theorem shr255 (v e : Nat) (h : v < 18446744073709551616) : ([Value.int .u8 (bits .and .u64 ((v : Int) / 2 ^ e) 255 % 256)] : List Value) = bvs [UInt8.ofNat (v / 2 ^ e)] := by
  rw [← byte_shr]
  have e1 : ((v : Int) / 2 ^ e) = ((v / 2 ^ e : Nat) : Int) := by simp
  have h2 : v / 2 ^ e ≤ v := Nat.div_le_self _ _
  rw [e1, and255 _ (by omega)]
  congr 2
  omega

set_option maxRecDepth 100000 in
set_option maxHeartbeats 400000 in
theorem varint_ref (w : World) (n : Nat) (hv2 : lt64 n) :
    Calls Tryz.prog 85 #[.int .u64 n] w fun e w' => ∃ A c, e = .returned (.slice A (vi n).length c) ∧ NewB w w' (.slice A (vi n).length c) (vi n) := by
  have hvl := vi_length n (by have := hv2.out; omega)
  have HV := Lib.hid hv2; clear hv2
  go_enter Tryz.func85, Tryz.ntmps85
  go_wp2
  go_loopw [0, 3] (fun i s wr => ∃ (k : Nat) (d : List UInt8) (A : Option Addr) (c : Nat), k ≤ n ∧ i = .int .u64 (k : Int) ∧ s = .slice A d.length c ∧ d ++ vi k = vi n ∧ NewB w wr s d) (fun i s _ => (intOf i).toNat)
  case atStart => exact ⟨n, [], none, 0, Nat.le_refl _, rfl, rfl, rfl, NewB.nil w⟩
  case round =>
    obtain ⟨k, d, A, c, hkn, rfl, rfl, hd, hnew⟩ := hrel
    have hwk : IntKind.u64.wrap ((k : Int) / 128) = ((k / 128 : Nat) : Int) := by
      rw [wrap_u64_id _ (by omega) (by have := HV.out.out; omega)]; rfl
    have hdl : d.length ≤ 10 := by have h := congrArg List.length hd; simp at h; omega
    have HW := Lib.hid hnew; have HD := Lib.hid hd; clear hnew hd
    by_cases hk0 : 128 ≤ k
    · have hk1 : (127 : Int) < (k : Int) := by omega
      go_wp2_with (at_builtin; refine wpList_ap rfl (.tmp 6) (.tmp 11) 23 rfl tbB HW.out.1 ?fr ((Sl.built wr _ _).kept0 ((Fr.refl no _))) rfl rfl (by simp [Value.oneCell']) ?b1 ?b2 ?go)
      case fr => (repeat first | exact Fr.refl _ _ | apply Fr.drew | apply Fr.alloc)
      case b1 => simp only [maxLen]; omega
      case b2 => omega
      case go =>
        intro A' N c' w2 ho hf2 hm2
        have HO := Lib.hid ho; have HG := Lib.hid hf2; have HM := Lib.hid hm2; clear ho hf2 hm2
        go_wp2
        go_roundw
        case rel =>
          have ho := HO.out
          rw [show ((k : Int) % 128 + 128) = ((k % 128 + 128 : Nat) : Int) from by omega, byte_nat _ (by omega)] at ho
          obtain ⟨e1, e2⟩ := HW.out.more (by (repeat first | exact Fr.refl _ _ | apply Fr.drew | apply Fr.alloc)) ho HG.out HM.out
          refine ⟨k / 128, d ++ [UInt8.ofNat (k % 128 + 128)], A', c', by omega, by go_num, by rw [e1], ?_, e2⟩
          rw [← HD.out, List.append_assoc]
          conv => rhs; rw [vi]
          rw [dif_neg (by omega)]; rfl
        case measure => simp [intOf]; omega
    · have hk1 : ¬ (127 : Int) < (k : Int) := by omega
      clear hwk
      go_wp2_with (at_builtin; refine wpList_ap rfl (.tmp 15) (.tmp 18) 23 rfl tbB HW.out.1 ?fr ((Sl.built wr _ _).kept0 ((Fr.refl no _))) rfl rfl (by simp [Value.oneCell']) ?b1 ?b2 ?go)
      case fr => (repeat first | exact Fr.refl _ _ | apply Fr.drew | apply Fr.alloc)
      case b1 => simp only [maxLen]; omega
      case b2 => omega
      case go =>
        intro A' N c' w2 ho hf2 hm2
        have HO := Lib.hid ho; have HG := Lib.hid hf2; have HM := Lib.hid hm2; clear ho hf2 hm2
        go_wp2
        go_ret
        have e : vi n = d ++ [UInt8.ofNat k] := by rw [← HD.out, vi, dif_pos (by omega)]
        have ho := HO.out
        rw [byte_nat k (by omega)] at ho
        obtain ⟨e1, e2⟩ := HW.out.more (by (repeat first | exact Fr.refl _ _ | apply Fr.drew | apply Fr.alloc)) ho HG.out HM.out
        rw [e]
        subst e1
        exact ⟨A', c', rfl, e2⟩

theorem wrap64_id (n : Int) (h : -9223372036854775808 ≤ n) (h2 : n ≤ 9223372036854775807) : wrap64 n = n := by unfold wrap64; omega

set_option maxRecDepth 100000 in
set_option maxHeartbeats 400000 in
theorem zigzag_ref (w : World) (v : Int) (hv : -9223372036854775808 ≤ v) (hv2 : v ≤ 9223372036854775807) :
    Calls Tryz.prog 86 #[.int .i64 v] w fun e w' => e = .returned (.int .u64 (zz v : Nat)) ∧ w' = w := by
  by_cases h0 : v < 0
  · have H1 := Lib.hid hv; have H2 := Lib.hid hv2; clear hv hv2
    go_enter Tryz.func86, Tryz.ntmps86
    go_wp2
    go_ret
    have e : IntKind.u64.wrap (IntKind.u64.wrap (2 * IntKind.u64.wrap (wrap64 (-wrap64 (v + 1)))) + 1) = ((zz v : Nat) : Int) := by
      have h1 := H1.out; have h2 := H2.out
      rw [wrap64_id (v + 1) (by omega) (by omega), wrap64_id _ (by omega) (by omega), wrap_u64_id (-(v + 1)) (by omega) (by omega), wrap_u64_id (2 * -(v + 1)) (by omega) (by omega), wrap_u64_id _ (by omega) (by omega)]
      unfold zz
      rw [if_neg (by omega)]
      omega
    exact ⟨congrArg (fun z => Ending.returned (.int .u64 z)) e, rfl⟩
  · have H1 := Lib.hid hv; have H2 := Lib.hid hv2; clear hv hv2
    have h1 : 0 ≤ v := by omega
    go_enter Tryz.func86, Tryz.ntmps86
    go_wp2
    go_ret
    have e : IntKind.u64.wrap (2 * IntKind.u64.wrap v) = ((zz v : Nat) : Int) := by
      have h2 := H2.out
      rw [wrap_u64_id v (by omega) (by omega), wrap_u64_id _ (by omega) (by omega)]
      unfold zz
      rw [if_pos (by omega)]
      omega
    exact ⟨congrArg (fun z => Ending.returned (.int .u64 z)) e, rfl⟩

set_option maxRecDepth 100000 in
set_option maxHeartbeats 400000 in
theorem text_ref (w : World) (s : ByteArray) (hl : s.size ≤ 140737488351232) :
    Calls Tryz.prog 87 #[.string s] w fun e w' => ∃ A c, e = .returned (.slice A (vi s.size ++ s.data.toList).length c) ∧ NewB w w' (.slice A (vi s.size ++ s.data.toList).length c) (vi s.size ++ s.data.toList) := by
  go_enter Tryz.func87, Tryz.ntmps87
  go_wp2_with fail
  refine (varint_ref _ s.size ⟨by omega⟩).mono ?_
  rintro e w1 ⟨A, c, rfl, hn⟩
  have hvl := vi_length s.size (by omega)
  have HW := Lib.hid hn; clear hn
  go_wp2_with (at_builtin; refine wpList_aps rfl (.tmp 8) (.tmp 9) 23 9 rfl tbB (by kernel_rfl) HW.out.1 ?fr s rfl rfl ?b1 ?b2 ?go)
  case fr => (repeat first | exact Fr.refl _ _ | apply Fr.drew | apply Fr.alloc)
  case b1 => simp only [maxLen]; omega
  case b2 => omega
  case go =>
    intro A' N c' w2 ho hf2 hm2
    have HO := Lib.hid ho; have HG := Lib.hid hf2; have HM := Lib.hid hm2; clear ho hf2 hm2
    go_wp2
    go_ret
    obtain ⟨e1, e2⟩ := HW.out.more (Fr.refl _ _) HO.out HG.out HM.out
    subst e1
    exact ⟨A', c', rfl, e2⟩
end Go.Proofs.YtijcleiekafoiaaGreatDoor

/- codicilref03.kids, deep, parts. -/
namespace Go.Proofs.YtijcleiekafoiaaGreatDoor
open Go.RowKit
open Tr

theorem parts_kids (x : Tr Mm) : parts x = 1 + (x.kids.map parts).sum := by
  unfold parts
  rw [pre_eq, List.length_cons, Nat.add_comm]
  congr 1
  rw [List.length_flatMap]
  congr 1
  exact List.map_congr_left (fun y _ => pre_len 2 1 y)
theorem parts_pos (x : Tr Mm) : 1 ≤ parts x := by rw [parts_kids]; omega
theorem sum_ge {α : Type} {f : α → Nat} {l : List α} (h : ∀ y ∈ l, 1 ≤ f y) : l.length ≤ (l.map f).sum := by
  induction l with
  | nil => simp
  | cons a l ih =>
    have h1 := h a (.head _)
    have h2 := ih (fun y hy => h y (.tail _ hy))
    simp only [List.length_cons, List.map_cons, List.sum_cons]
    omega
theorem sum_mem {α : Type} {f : α → Nat} {l : List α} {y : α} (h : y ∈ l) : f y ≤ (l.map f).sum := by
  induction l with
  | nil => cases h
  | cons a l ih =>
    simp only [List.map_cons, List.sum_cons]
    rcases List.mem_cons.1 h with rfl | h
    · omega
    · have := ih h; omega
theorem kids_le (x : Tr Mm) : x.kids.length ≤ parts x := by
  have := sum_ge (f := parts) (l := x.kids) (fun y _ => parts_pos y)
  rw [parts_kids]; omega
theorem parts_kid {x y : Tr Mm} (h : y ∈ x.kids) : parts y ≤ parts x := by
  have := sum_mem (f := parts) h
  rw [parts_kids x]; omega

set_option maxRecDepth 100000 in
set_option maxHeartbeats 4000000 in
theorem kids3_any (w : World) (x : Tr Mm) (hx : Tr.Good w x) (hp : parts x ≤ 1000000) : Calls Tryz.prog 117 #[x.agg] w fun e w' => ∃ A c, e = .returned (.slice A x.kids.length c) ∧ In w' (.slice A x.kids.length c) x.kids ∧ Fr no w w' := by
  obtain ⟨BA, bc, LA, lc, FA, fc, hf⟩ := hx.node.forms
  have hkl := kids_le x
  have hkk : x.kids.length = x.l.length + x.f.length := by unfold kids; rw [List.length_append, List.length_map]
  have hL := hx.inL; have hF := hx.inF
  rw [hf.agg]
  rw [hf.L] at hL; rw [hf.F] at hF
  have hlf : x.l.length + x.f.length ≤ 1000000 := by omega
  have HX := Lib.hid hx; have HL := Lib.hid hL; have HF := Lib.hid hF; have HKK := Lib.hid hkk
  clear hx hf hL hF hkl hkk hp
  go_enter Tryz.func117, Tryz.ntmps117
  have fz : Fr no w (w.alloc (.cells #[.int .u8 x.k.toNat, .bool x.b, .int .i64 x.i, .string ⟨x.t.toArray⟩, .slice BA x.bs.length bc, .slice LA x.l.length lc, .slice FA x.f.length fc] 27)) := (Fr.refl no w).alloc _
  have hb0 := heap_alloc_new w (.cells #[.int .u8 x.k.toNat, .bool x.b, .int .i64 x.i, .string ⟨x.t.toArray⟩, .slice BA x.bs.length bc, .slice LA x.l.length lc, .slice FA x.f.length fc] 27)
  have FZ := Lib.hid fz; have HB0 := Lib.hid hb0
  clear fz hb0
  go_wp2_with (at_builtin; refine wpList_apo (n := 0) (xs := []) (m := x.l.length) (news := x.l.flatMap cells) rfl (.tmp 5) (.tmp 7) 24 rfl tbV (ow_none _ _ _) (HL.out.kept0 FZ.out).sl rfl rfl (cells_one x.l (fun y hy => (HL.out.good y hy).node.forms)) ?b1 ?b2 ?go)
  case b1 => simp only [maxLen]; omega
  case b2 => omega
  case go =>
    intro P N pc w2 hN ho2 _ hf2 hs2
    obtain rfl : N = x.l.length := by omega
    have f2 : Fr no w w2 := FZ.out.trans hf2 (fun _ _ h => nomatch h)
    have hb2 := hf2.heap HB0.out (fun h => nomatch h)
    have hnew : ∀ k, Value.ownBlock (.slice P x.l.length pc) = some k → w.heap.size < k := fun k hk => by
      rcases stays_own hs2 k hk with h | h
      · cases h
      · rw [World.size_alloc] at h; omega
    have F2 := Lib.hid f2; have HB2 := Lib.hid hb2; have HO2 := Lib.hid ho2; have HN2 := Lib.hid hnew
    clear f2 hf2 hb2 ho2 hs2 hnew
    go_wp2
    go_loopw [3, 4] (fun ov iv wr => ∃ (j : Nat) (O : Option Addr) (oc : Nat), j ≤ x.f.length ∧ iv = .int .i64 (j : Int) ∧ ov = .slice O (x.l.length + j) oc ∧ Ow wr 27 7 (.slice O (x.l.length + j) oc) (x.l.length + j) ((x.l ++ (x.f.take j).map Prod.snd).flatMap cells) ∧ (∀ k, Value.ownBlock (.slice O (x.l.length + j) oc) = some k → w.heap.size < k) ∧ Fr no w wr ∧
      wr.heap[w.heap.size]? = some (.cells #[.int .u8 x.k.toNat, .bool x.b, .int .i64 x.i, .string ⟨x.t.toArray⟩, .slice BA x.bs.length bc, .slice LA x.l.length lc, .slice FA x.f.length fc] 27 (0, 0))) (fun _ iv _ => x.f.length - (intOf iv).toNat)
    case atStart => exact ⟨0, P, pc, Nat.zero_le _, rfl, rfl, by simpa using HO2.out, HN2.out, F2.out, HB2.out⟩
    case round =>
      obtain ⟨j, O, oc, hj, rfl, rfl, how, hon, hfr, hbr⟩ := hrel
      obtain ⟨q0, q1, q2, q3, q4, q5, q6, qz, ql⟩ := seven_cells hbr
      have HOW := Lib.hid how; have HON := Lib.hid hon; have FR := Lib.hid hfr; have HBR := Lib.hid hbr
      clear how hon hfr hbr
      by_cases hlt : j < x.f.length
      · have hFr := HF.out.kept0 FR.out
        obtain ⟨b, o, KB, kb, KL, kl, KF, kf, rfl, hfj, n0, r0, r1, r2, r3, r4, r5, r6, rl⟩ := InF.get hFr j hlt
        have hcl : x.f[j].2.cells = [.int .u8 x.f[j].2.k.toNat, .bool x.f[j].2.b, .int .i64 x.f[j].2.i, .string ⟨x.f[j].2.t.toArray⟩, .slice KB x.f[j].2.bs.length kb, .slice KL x.f[j].2.l.length kl, .slice KF x.f[j].2.f.length kf] := by unfold cells; rw [hfj.B, hfj.L, hfj.F]
        have hal := (Fr.refl no wr).alloc (.cells #[.int .u8 x.f[j].2.k.toNat, .bool x.f[j].2.b, .int .i64 x.f[j].2.i, .string ⟨x.f[j].2.t.toArray⟩, .slice KB x.f[j].2.bs.length kb, .slice KL x.f[j].2.l.length kl, .slice KF x.f[j].2.f.length kf] 27)
        have hbx := built7 wr (.int .u8 x.f[j].2.k.toNat) (.bool x.f[j].2.b) (.int .i64 x.f[j].2.i) (.string ⟨x.f[j].2.t.toArray⟩) (.slice KB x.f[j].2.bs.length kb) (.slice KL x.f[j].2.l.length kl) (.slice KF x.f[j].2.f.length kf) 27
        have HAL := Lib.hid hal; have HBX := Lib.hid hbx; have HCL := Lib.hid hcl
        clear hfj hFr hal hbx hcl
        go_wp2_with (at_builtin; refine wpList_apo (n := x.l.length + j) (xs := (x.l ++ (x.f.take j).map Prod.snd).flatMap cells) (m := 1) (news := [.int .u8 x.f[j].2.k.toNat, .bool x.f[j].2.b, .int .i64 x.f[j].2.i, .string ⟨x.f[j].2.t.toArray⟩, .slice KB x.f[j].2.bs.length kb, .slice KL x.f[j].2.l.length kl, .slice KF x.f[j].2.f.length kf]) rfl (.tmp 16) (.tmp 23) 24 rfl tbV (HOW.out.kept0 HAL.out) HBX.out rfl rfl (by intro u hu; simp only [List.mem_cons, List.not_mem_nil, or_false] at hu; rcases hu with rfl | rfl | rfl | rfl | rfl | rfl | rfl <;> rfl) ?c1 ?c2 ?go2)
        case c1 => simp only [maxLen]; omega
        case c2 => omega
        case go2 =>
          intro A' N c' w7 hN ho7 _ hf7 hs7
          obtain rfl : N = x.l.length + (j + 1) := by omega
          have fr7 : Fr no w w7 := (FR.out.trans HAL.out (fun _ _ h => h)).trans hf7 (fun k hk h => by have := HON.out k h; omega)
          have hb7 := hf7.heap (HAL.out.heap HBR.out (fun h => h)) (fun h => by have := HON.out _ h; omega)
          have hn7 : ∀ k, Value.ownBlock (.slice A' (x.l.length + (j + 1)) c') = some k → w.heap.size < k := fun k hk => by
            rcases stays_own hs7 k hk with h | h
            · exact HON.out k h
            · have h1 := FR.out.size; have h2 := (Array.getElem?_eq_some_iff.1 HBR.out).1; have h3 := HAL.out.size; omega
          have ho8 : Ow w7 27 7 (.slice A' (x.l.length + (j + 1)) c') (x.l.length + (j + 1)) ((x.l ++ (x.f.take (j + 1)).map Prod.snd).flatMap cells) := by
            rw [List.take_succ_eq_append_getElem hlt, List.map_append, ← List.append_assoc, List.flatMap_append, List.map_singleton, List.flatMap_singleton, HCL.out]
            simpa [List.flatMap_append, List.map_take, List.append_assoc] using ho7
          have F7 := Lib.hid fr7; have HB7 := Lib.hid hb7; have HN7 := Lib.hid hn7; have HO8 := Lib.hid ho8
          clear fr7 hb7 hn7 ho8 ho7 hf7 hs7 hN
          go_wp2
          go_roundw
          case rel => exact ⟨j + 1, A', c', by omega, by go_num, rfl, HO8.out, HN7.out, F7.out, HB7.out⟩
          case measure => simp [intOf]; omega
      · obtain rfl : j = x.f.length := by omega
        have hin : In wr (.slice O x.kids.length oc) x.kids := by
          refine ⟨?_, fun z hz => (HX.out.kids z hz).kept0 FR.out, by rw [HKK.out]; simp only [reachBytes]; omega, by rw [HKK.out]; simp only [reachBytes]; omega⟩
          have h := HOW.out.sl
          rw [List.take_length] at h
          rw [HKK.out]
          exact h
        have HIN := Lib.hid hin
        clear hin
        go_wp2
        go_ret
        exact ⟨O, oc, by rw [HKK.out]; rfl, HIN.out, FR.out⟩
end Go.Proofs.YtijcleiekafoiaaGreatDoor

/- codicilref03.deep, parts, all. -/
namespace Go.Proofs.YtijcleiekafoiaaGreatDoor
open Go.RowKit Go.Shelf
open Tr

set_option maxRecDepth 100000 in
set_option maxHeartbeats 2000000 in
theorem deep3_any (n : Nat) : ∀ (_ : n ≤ 1000) (x : Tr Mm) (w : World) (_ : Tr.Good w x) (_ : parts x ≤ 1000000), Calls Tryz.prog 82 #[x.agg, .int .i64 (n : Int)] w fun e w' => e = .returned (.bool (deep n x)) ∧ Fr no w w' := by
  induction n with
  | zero =>
    intro _ x w hx hp
    obtain ⟨BA, bc, LA, lc, FA, fc, hf⟩ := hx.node.forms
    rw [hf.agg]
    have hd : deep 0 x = true := rfl
    have HD := Lib.hid hd
    clear hd hf hx
    go_enter Tryz.func82, Tryz.ntmps82
    go_wp2
    go_ret
    exact ⟨by rw [HD.out]; rfl, by (repeat first | exact Fr.refl _ _ | exact Fr.drewN _ _ _ | apply Fr.drew | apply Fr.alloc | apply Fr.setAt | apply Fr.moreN)⟩
  | succ n ih =>
    intro hn x w hx hp
    obtain ⟨BA, bc, LA, lc, FA, fc, hf⟩ := hx.node.forms
    have hk := fun W (f : Fr no w W) => kids3_any W x (hx.kept0 f) hp
    have hkl := kids_le x
    have hd : deep (n + 1) x = x.kids.any (deep n) := rfl
    have hpk : ∀ y ∈ x.kids, parts y ≤ 1000000 := fun y hy => Nat.le_trans (parts_kid hy) hp
    rw [hf.agg] at hk ⊢
    have g0 : (((n + 1 : Nat) : Int) == 0) = false := by rw [beq_eq_false_iff_ne]; omega
    have hw : IntKind.i64.wrap ((n : Int) + 1 - 1) = (n : Int) := (IntWalk.i64_in _ ⟨by omega, by omega⟩).trans (by omega)
    have hk6 : x.kids.length ≤ 1000000 := by omega
    have HK := Lib.hid hk; have HD := Lib.hid hd; have IH := Lib.hid (ih (by omega)); have HPK := Lib.hid hpk
    clear hk hd hf hx ih hkl hpk
    go_enter Tryz.func82, Tryz.ntmps82
    go_wp2_with fail
    refine (HK.out _ (by (repeat first | exact Fr.refl _ _ | exact Fr.drewN _ _ _ | apply Fr.drew | apply Fr.alloc | apply Fr.setAt | apply Fr.moreN))).mono ?_
    rintro e w2 ⟨A, c, rfl, hin, f2⟩
    have F2 := Lib.hid ((by (repeat first | exact Fr.refl _ _ | exact Fr.drewN _ _ _ | apply Fr.drew | apply Fr.alloc | apply Fr.setAt | apply Fr.moreN) : Fr no w _).trans f2 (fun _ _ h => h)); have HIN := Lib.hid hin
    clear f2 hin
    go_wp2
    go_loopw [6] (fun iv wr => ∃ j : Nat, j ≤ x.kids.length ∧ iv = .int .i64 (j : Int) ∧ Fr no w2 wr ∧ ∀ i (hi : i < x.kids.length), i < j → deep n x.kids[i] = false) (fun iv _ => x.kids.length - (intOf iv).toNat)
    case atStart => exact ⟨0, Nat.zero_le _, rfl, Fr.refl _ _, fun i _ h => absurd h (Nat.not_lt_zero i)⟩
    case round =>
      obtain ⟨j, hj, rfl, hfr, hall⟩ := hrel
      have HALL := Lib.hid hall; have FR := Lib.hid hfr
      clear hall hfr
      by_cases hlt : j < x.kids.length
      · have hi2 := HIN.out.kept0 FR.out
        obtain ⟨b, o, KB, kb, KL, kl, KF, kf, rfl, hfj, q0, q1, q2, q3, q4, q5, q6, hgl⟩ := In.get hi2 j hlt
        have hcall := IH.out x.kids[j] wr (hi2.good _ (List.getElem_mem _)) (HPK.out _ (List.getElem_mem _))
        rw [hfj.agg] at hcall
        have HC := Lib.hid hcall
        clear hcall hfj hi2
        go_wp2_with fail
        refine HC.out.mono ?_
        rintro e w5 ⟨rfl, fy⟩
        have FY := Lib.hid (FR.out.trans fy (fun _ _ h => h))
        clear fy
        cases hdj : deep n x.kids[j] with
        | true =>
          have hv : deep (n + 1) x = true := by
            rw [HD.out, List.any_eq_true]
            exact ⟨_, List.getElem_mem hlt, hdj⟩
          have HV := Lib.hid hv
          clear hv hdj
          go_wp2
          go_ret
          exact ⟨by rw [HV.out]; rfl, F2.out.trans FY.out (fun _ _ h => h)⟩
        | false =>
          have HDJ := Lib.hid hdj
          clear hdj
          go_wp2
          go_roundw
          case rel => exact ⟨j + 1, by omega, by go_num, FY.out, fun i hi h => by
            by_cases e : i = j
            · subst e; exact HDJ.out
            · exact HALL.out i hi (by omega)⟩
          case measure => simp [intOf]; omega
      · have hv : deep (n + 1) x = false := by
          rw [HD.out, Bool.eq_false_iff]
          intro h
          rw [List.any_eq_true] at h
          obtain ⟨y, hy, h⟩ := h
          obtain ⟨i, hi, rfl⟩ := List.getElem_of_mem hy
          rw [HALL.out i hi (by omega)] at h
          cases h
        have HV := Lib.hid hv
        clear hv
        go_wp2
        go_ret
        exact ⟨by rw [HV.out]; rfl, F2.out.trans FR.out (fun _ _ h => h)⟩

/-- What parts says: as many as there are, or more than 512. -/
def PartsOut (x : Tr Mm) (n : Nat) (w : World) (e : Ending) (w' : World) : Prop := Fr no w w' ∧ ∃ N : Nat, e = .returned (.int .i64 (N : Int)) ∧ N ≤ n + parts x ∧ (n + parts x ≤ 512 → N = n + parts x) ∧ (512 < n + parts x → 512 < N)

set_option maxRecDepth 100000 in
set_option maxHeartbeats 2000000 in
theorem parts3_any (x : Tr Mm) : ∀ (w : World) (_ : Tr.Good w x) (_ : parts x ≤ 1000000) (n : Nat) (_ : n ≤ 512), Calls Tryz.prog 83 #[x.agg, .int .i64 (n : Int)] w fun e w' => PartsOut x n w e w' := by
  induction x using Tr.ind with
  | h x ih =>
    intro w hx hp n hn
    obtain ⟨BA, bc, LA, lc, FA, fc, hf⟩ := hx.node.forms
    have hk := fun W (f : Fr no w W) => kids3_any W x (hx.kept0 f) hp
    have hkl := kids_le x
    have hpe := parts_kids x
    have hpk : ∀ y ∈ x.kids, parts y ≤ 1000000 := fun y hy => Nat.le_trans (parts_kid hy) hp
    rw [hf.agg] at hk ⊢
    have hk6 : x.kids.length ≤ 1000000 := by omega
    have hw : IntKind.i64.wrap ((n : Int) + 1) = (n : Int) + 1 := IntWalk.i64_in _ ⟨by omega, by omega⟩
    have HK := Lib.hid hk; have HPE := Lib.hid hpe; have IH := Lib.hid ih; have HPK := Lib.hid hpk
    clear hk hf hx ih hkl hpk hpe
    go_enter Tryz.func83, Tryz.ntmps83
    go_wp2_with fail
    refine (HK.out _ (by (repeat first | exact Fr.refl _ _ | exact Fr.drewN _ _ _ | apply Fr.drew | apply Fr.alloc | apply Fr.setAt | apply Fr.moreN))).mono ?_
    rintro e w2 ⟨A, c, rfl, hin, f2⟩
    have F2 := Lib.hid ((by (repeat first | exact Fr.refl _ _ | exact Fr.drewN _ _ _ | apply Fr.drew | apply Fr.alloc | apply Fr.setAt | apply Fr.moreN) : Fr no w _).trans f2 (fun _ _ h => h)); have HIN := Lib.hid hin
    clear f2 hin
    go_wp2
    go_loopw [1, 6] (fun nv iv wr => ∃ j N : Nat, j ≤ x.kids.length ∧ iv = .int .i64 (j : Int) ∧ nv = .int .i64 (N : Int) ∧ Fr no w2 wr ∧ N ≤ n + 1 + ((x.kids.take j).map parts).sum ∧ (n + 1 + ((x.kids.take j).map parts).sum ≤ 512 → N = n + 1 + ((x.kids.take j).map parts).sum) ∧ (512 < n + 1 + ((x.kids.take j).map parts).sum → 512 < N)) (fun _ iv _ => x.kids.length - (intOf iv).toNat)
    case atStart => exact ⟨0, n + 1, Nat.zero_le _, rfl, by first | rfl | go_num, Fr.refl _ _, by simp, by simp, by simp⟩
    case round =>
      obtain ⟨j, N, hj, rfl, rfl, hfr, h1, h2, h3⟩ := hrel
      have FR := Lib.hid hfr; have H1 := Lib.hid h1; have H2 := Lib.hid h2; have H3 := Lib.hid h3
      clear hfr h1 h2 h3
      have hsum : ((x.kids.take j).map parts).sum ≤ (x.kids.map parts).sum := by
        conv => rhs; rw [← List.take_append_drop j x.kids, List.map_append, List.sum_append]
        omega
      have hNb : N ≤ 2000000 := by have := H1.out; have := HPE.out; omega
      by_cases hcase : j < x.kids.length ∧ N ≤ 512
      · obtain ⟨hlt, hN⟩ := hcase
        have hi2 := HIN.out.kept0 FR.out
        obtain ⟨b, o, KB, kb, KL, kl, KF, kf, rfl, hfj, q0, q1, q2, q3, q4, q5, q6, hgl⟩ := In.get hi2 j hlt
        have hcall := IH.out x.kids[j] (List.getElem_mem _) wr (hi2.good _ (List.getElem_mem _)) (HPK.out _ (List.getElem_mem _)) N hN
        rw [hfj.agg] at hcall
        have hsn : ((x.kids.take (j + 1)).map parts).sum = ((x.kids.take j).map parts).sum + parts x.kids[j] := by
          rw [List.take_succ_eq_append_getElem hlt, List.map_append, List.sum_append]; simp
        have HC := Lib.hid hcall; have HSN := Lib.hid hsn
        clear hcall hfj hi2 hsn hsum
        go_wp2_with fail
        refine HC.out.mono ?_
        rintro e w5 ⟨fy, M, rfl, m1, m2, m3⟩
        have FY := Lib.hid (FR.out.trans fy (fun _ _ h => h)); have M1 := Lib.hid m1; have M2 := Lib.hid m2; have M3 := Lib.hid m3
        clear fy m1 m2 m3
        have hN0 : N = n + 1 + ((x.kids.take j).map parts).sum := by
          rcases Nat.lt_or_ge 512 (n + 1 + ((x.kids.take j).map parts).sum) with h | h
          · have := H3.out h; omega
          · exact H2.out h
        have HN0 := Lib.hid hN0
        clear hN0
        go_wp2
        go_roundw
        case rel => exact ⟨j + 1, M, by omega, by go_num, rfl, FY.out, by have := M1.out; have := HSN.out; have := HN0.out; omega, fun h => by have h5 := HSN.out; have h6 := HN0.out; have := M2.out (by omega); omega, fun h => by have h5 := HSN.out; have h6 := HN0.out; exact M3.out (by omega)⟩
        case measure => simp [intOf]; omega
      · have hfin : PartsOut x n w (.returned (.int .i64 (N : Int))) wr := by
          refine ⟨F2.out.trans FR.out (fun _ _ h => h), N, rfl, by have := H1.out; have := HPE.out; omega, fun h => ?_, fun h => ?_⟩
          · have h5 := HPE.out
            have h6 := H2.out (by omega)
            have hjl : j = x.kids.length := by omega
            subst hjl
            rw [List.take_length] at h6
            omega
          · have h5 := HPE.out
            by_cases hjl : j = x.kids.length
            · subst hjl
              have h7 := H3.out
              rw [List.take_length] at h7
              exact h7 (by omega)
            · omega
        have HFIN := Lib.hid hfin
        clear hfin hsum
        by_cases hlt : j < x.kids.length
        · have hN : 512 < N := by omega
          clear hcase
          go_wp2
          go_ret
          exact HFIN.out
        · clear hcase
          go_wp2
          go_ret
          exact HFIN.out
end Go.Proofs.YtijcleiekafoiaaGreatDoor

/- codicilref03.all, Check: behind its own (a hypothesis of these). -/
namespace Go.Proofs.YtijcleiekafoiaaGreatDoor
open Go.RowKit Go.Shelf
open Tr

/-- What codicilref03.own is to say. -/
def Own3 : Prop := ∀ (x : Tr Mm) (w : World), Tr.Good w x → Calls Tryz.prog 118 #[x.agg] w fun e w' => e = .returned (.int .i64 (Tr.own x : Int)) ∧ Fr no w w'

theorem pre_own (x : Tr Mm) : ∀ d e : Nat, (pre d x).map (fun p => Tr.own p.2) = (pre e x).map (fun p => Tr.own p.2) := by
  induction x using Tr.ind with
  | h x ih =>
    intro d e
    rw [pre_eq d, pre_eq e]
    simp only [List.map_cons, List.map_flatMap]
    congr 1
    have : ∀ l : List (Tr Mm), (∀ y ∈ l, y ∈ x.kids) → (l.flatMap fun a => (pre (d + 1) a).map fun p => Tr.own p.2) = l.flatMap fun a => (pre (e + 1) a).map fun p => Tr.own p.2 := by
      intro l
      induction l with
      | nil => intro _; rfl
      | cons a l ih2 =>
        intro h
        rw [List.flatMap_cons, List.flatMap_cons, ih a (h a (.head _)) (d + 1) (e + 1), ih2 (fun y hy => h y (.tail _ hy))]
    exact this x.kids (fun y hy => hy)
theorem firstErr_flat {α : Type} (g : α → List Nat) (l : List α) : firstErr (l.flatMap g) = firstErr (l.map fun a => firstErr (g a)) := by
  induction l with
  | nil => rfl
  | cons a l ih =>
    rw [List.flatMap_cons, firstErr_append, ih, List.map_cons, firstErr]
theorem allErr_eq (x : Tr Mm) : allErr x = if Tr.own x ≠ 0 then Tr.own x else firstErr (x.kids.map allErr) := by
  unfold allErr
  rw [pre_eq]
  simp only [List.map_cons, List.map_flatMap, firstErr]
  have e : firstErr (x.kids.flatMap fun a => (pre 2 a).map fun p => Tr.own p.2) = firstErr (x.kids.map fun a => firstErr ((pre 1 a).map fun p => Tr.own p.2)) := by
    rw [firstErr_flat]
    congr 1
    exact List.map_congr_left (fun a _ => by rw [pre_own a 2 1])
  rw [e]
theorem firstErr_take {l : List Nat} {j : Nat} (h : firstErr (l.take j) ≠ 0) : firstErr l = firstErr (l.take j) := by
  conv => lhs; rw [← List.take_append_drop j l, firstErr_append, if_pos h]

set_option maxRecDepth 100000 in
set_option maxHeartbeats 2000000 in
theorem all3_any (ho : Own3) (x : Tr Mm) : ∀ (w : World) (_ : Tr.Good w x) (_ : parts x ≤ 1000000), Calls Tryz.prog 84 #[x.agg] w fun e w' => e = .returned (.int .i64 (allErr x : Int)) ∧ Fr no w w' := by
  induction x using Tr.ind with
  | h x ih =>
    intro w hx hp
    obtain ⟨BA, bc, LA, lc, FA, fc, hf⟩ := hx.node.forms
    have hk := fun W (f : Fr no w W) => kids3_any W x (hx.kept0 f) hp
    have how := fun W (f : Fr no w W) => ho x W (hx.kept0 f)
    have hkl := kids_le x
    have hae := allErr_eq x
    have hpk : ∀ y ∈ x.kids, parts y ≤ 1000000 := fun y hy => Nat.le_trans (parts_kid hy) hp
    rw [hf.agg] at hk how ⊢
    have hk6 : x.kids.length ≤ 1000000 := by omega
    have HK := Lib.hid hk; have HOW := Lib.hid how; have HAE := Lib.hid hae; have IH := Lib.hid ih; have HPK := Lib.hid hpk
    clear hk how hf hx ih hkl hpk hae ho
    go_enter Tryz.func84, Tryz.ntmps84
    go_wp2_with fail
    refine (HOW.out _ (by (repeat first | exact Fr.refl _ _ | exact Fr.drewN _ _ _ | apply Fr.drew | apply Fr.alloc | apply Fr.setAt | apply Fr.moreN))).mono ?_
    rintro e w1 ⟨rfl, f1⟩
    have hb1 := f1.heap (heap_alloc_new w (.cells #[.int .u8 x.k.toNat, .bool x.b, .int .i64 x.i, .string ⟨x.t.toArray⟩, .slice BA x.bs.length bc, .slice LA x.l.length lc, .slice FA x.f.length fc] 27)) (fun h => h)
    obtain ⟨q0, q1, q2, q3, q4, q5, q6, qz, ql⟩ := seven_cells hb1
    have F1 := Lib.hid ((by (repeat first | exact Fr.refl _ _ | exact Fr.drewN _ _ _ | apply Fr.drew | apply Fr.alloc | apply Fr.setAt | apply Fr.moreN) : Fr no w _).trans f1 (fun _ _ h => h))
    clear f1 hb1
    go_wp2_with fail
    refine (HK.out _ F1.out).mono ?_
    rintro e w2 ⟨A, c, rfl, hin, f2⟩
    have F2 := Lib.hid (F1.out.trans f2 (fun _ _ h => h)); have HIN := Lib.hid hin
    clear f2 hin q0 q1 q2 q3 q4 q5 q6 qz ql
    go_wp2
    go_loopw [3, 5] (fun ev iv wr => ∃ j E : Nat, j ≤ x.kids.length ∧ iv = .int .i64 (j : Int) ∧ ev = .int .i64 (E : Int) ∧ Fr no w2 wr ∧ E = (if Tr.own x ≠ 0 then Tr.own x else firstErr ((x.kids.take j).map allErr))) (fun _ iv _ => x.kids.length - (intOf iv).toNat)
    case atStart => exact ⟨0, Tr.own x, Nat.zero_le _, rfl, rfl, Fr.refl _ _, by split <;> simp_all [firstErr]⟩
    case round =>
      obtain ⟨j, E, hj, rfl, rfl, hfr, hE⟩ := hrel
      have FR := Lib.hid hfr; have HE := Lib.hid hE
      clear hfr hE
      by_cases hcase : j < x.kids.length ∧ E = 0
      · obtain ⟨hlt, hE0⟩ := hcase
        have hi2 := HIN.out.kept0 FR.out
        obtain ⟨b, o, KB, kb, KL, kl, KF, kf, rfl, hfj, q0, q1, q2, q3, q4, q5, q6, hgl⟩ := In.get hi2 j hlt
        have hcall := IH.out x.kids[j] (List.getElem_mem _) wr (hi2.good _ (List.getElem_mem _)) (HPK.out _ (List.getElem_mem _))
        rw [hfj.agg] at hcall
        have hnew : allErr x.kids[j] = (if Tr.own x ≠ 0 then Tr.own x else firstErr ((x.kids.take (j + 1)).map allErr)) := by
          have h := HE.out
          rw [hE0] at h
          have hox : ¬ Tr.own x ≠ 0 := fun h2 => by rw [if_pos h2] at h; omega
          rw [if_neg hox] at h ⊢
          rw [List.take_succ_eq_append_getElem hlt, List.map_append, firstErr_append, if_neg (by omega), List.map_singleton, firstErr, firstErr]
          split
          · rfl
          · omega
        have HC := Lib.hid hcall; have HNEW := Lib.hid hnew
        subst hE0
        clear hcall hfj hi2 hnew
        go_wp2_with fail
        refine HC.out.mono ?_
        rintro e w5 ⟨rfl, fy⟩
        have FY := Lib.hid (FR.out.trans fy (fun _ _ h => h))
        clear fy
        go_wp2
        go_roundw
        case rel => exact ⟨j + 1, allErr x.kids[j], by omega, by go_num, rfl, FY.out, HNEW.out⟩
        case measure => simp [intOf]; omega
      · have hfin : allErr x = E := by
          rw [HAE.out, HE.out]
          by_cases hox : Tr.own x ≠ 0
          · rw [if_pos hox, if_pos hox]
          · rw [if_neg hox, if_neg hox]
            by_cases hjl : j = x.kids.length
            · subst hjl; rw [List.take_length]
            · have hE0 : E ≠ 0 := fun h => hcase ⟨by omega, h⟩
              have h := HE.out
              rw [if_neg hox] at h
              rw [List.map_take] at h ⊢
              exact firstErr_take (by omega)
        have HFIN := Lib.hid hfin
        clear hfin
        by_cases hlt : j < x.kids.length
        · have gE : ((E : Int) == 0) = false := by rw [beq_eq_false_iff_ne]; intro h; exact hcase ⟨hlt, by omega⟩
          clear hcase
          go_wp2
          go_ret
          exact ⟨by rw [HFIN.out]; rfl, F2.out.trans FR.out (fun _ _ h => h)⟩
        · clear hcase
          go_wp2
          go_ret
          exact ⟨by rw [HFIN.out]; rfl, F2.out.trans FR.out (fun _ _ h => h)⟩

set_option maxRecDepth 100000 in
set_option maxHeartbeats 2000000 in
theorem check3_any (ho : Own3) (x : Tr Mm) (w : World) (hx : Tr.Good w x) (hp : parts x ≤ 1000000) : Calls Tryz.prog 33 #[x.agg] w fun e w' => e = .returned (.int .i64 (check x : Int)) ∧ Fr no w w' := by
  obtain ⟨BA, bc, LA, lc, FA, fc, hf⟩ := hx.node.forms
  have hd := fun W (f : Fr no w W) => deep3_any 8 (by omega) x W (hx.kept0 f) hp
  have hpt := fun W (f : Fr no w W) => parts3_any x W (hx.kept0 f) hp 0 (by omega)
  have hal := fun W (f : Fr no w W) => all3_any ho x W (hx.kept0 f) hp
  rw [hf.agg] at hd hpt hal ⊢
  have HD := Lib.hid hd; have HPT := Lib.hid hpt; have HAL := Lib.hid hal
  clear hd hpt hal hf hx ho
  go_enter Tryz.func33, Tryz.ntmps33
  go_wp2_with fail
  refine (HD.out _ (by (repeat first | exact Fr.refl _ _ | exact Fr.drewN _ _ _ | apply Fr.drew | apply Fr.alloc | apply Fr.setAt | apply Fr.moreN))).mono ?_
  rintro e w1 ⟨rfl, f1⟩
  have hb1 := f1.heap (heap_alloc_new w (.cells #[.int .u8 x.k.toNat, .bool x.b, .int .i64 x.i, .string ⟨x.t.toArray⟩, .slice BA x.bs.length bc, .slice LA x.l.length lc, .slice FA x.f.length fc] 27)) (fun h => h)
  obtain ⟨q0, q1, q2, q3, q4, q5, q6, qz, ql⟩ := seven_cells hb1
  have F1 := Lib.hid ((by (repeat first | exact Fr.refl _ _ | exact Fr.drewN _ _ _ | apply Fr.drew | apply Fr.alloc | apply Fr.setAt | apply Fr.moreN) : Fr no w _).trans f1 (fun _ _ h => h)); have HB1 := Lib.hid hb1
  clear f1 hb1
  cases hdp : deep 8 x with
  | true =>
    have hc : check x = 31 := by unfold check; rw [if_pos hdp]
    have HC := Lib.hid hc
    clear hc hdp
    go_wp2
    go_ret
    exact ⟨by rw [HC.out]; rfl, F1.out⟩
  | false =>
    have HDP := Lib.hid hdp
    clear hdp
    go_wp2_with fail
    refine (HPT.out _ F1.out).mono ?_
    rintro e w2 ⟨f2, N, rfl, hN1, hN2, hN3⟩
    have hb2 := f2.heap HB1.out (fun h => h)
    obtain ⟨q0, q1, q2, q3, q4, q5, q6, qz, ql⟩ := seven_cells hb2
    have F2 := Lib.hid (F1.out.trans f2 (fun _ _ h => h))
    clear f2 hb2
    by_cases h512 : 512 < N
    · have hc : check x = 32 := by
        unfold check
        rw [if_neg (by rw [HDP.out]; simp), if_pos (by rcases Nat.lt_or_ge 512 (parts x) with h | h; exact h; exact absurd (hN2 (by omega)) (by omega))]
      have HC := Lib.hid hc
      clear hc hN1 hN2 hN3
      go_wp2
      go_ret
      exact ⟨by rw [HC.out]; rfl, F2.out⟩
    · have hc : check x = allErr x := by
        unfold check
        rw [if_neg (by rw [HDP.out]; simp), if_neg (fun h => h512 (hN3 (by omega)))]
      have HC := Lib.hid hc
      clear hc hN1 hN2 hN3
      go_wp2_with fail
      refine (HAL.out _ F2.out).mono ?_
      rintro e w3 ⟨rfl, f3⟩
      have F3 := Lib.hid (F2.out.trans f3 (fun _ _ h => h))
      clear f3
      go_wp2
      go_ret
      exact ⟨by rw [HC.out]; rfl, F3.out⟩
end Go.Proofs.YtijcleiekafoiaaGreatDoor

/- codicilref03.Runes, Name. -/
namespace Go.Proofs.YtijcleiekafoiaaGreatDoor
open Go.RowKit Go.Lib

/-- How many runes; -1: none. -/
def runesV (l : List UInt8) : Int := if validD l then (runeCountL l : Int) else -1

theorem ba_extract (l : List UInt8) (k : Nat) : (⟨l.toArray⟩ : ByteArray).extract k l.length = ⟨(l.drop k).toArray⟩ := by
  apply ByteArray.ext
  simp only [ByteArray.data_extract, List.extract_toArray, List.extract_eq_take_drop]
  rw [List.take_of_length_le (by rw [List.length_drop]; omega)]

set_option maxRecDepth 100000 in
set_option maxHeartbeats 2000000 in
theorem runes3_any (w : World) (l : List UInt8) (hn : l.length ≤ reachBytes) : Calls Tryz.prog 132 #[.string ⟨l.toArray⟩] w fun e w' => e = .returned (.int .i64 (runesV l)) ∧ w' = w := by
  have hn : l.length ≤ 140737488351232 := hn
  go_enter Tryz.func132, Tryz.ntmps132
  go_wp2
  go_loop [0, 3] (fun sv nv => ∃ (s : List UInt8) (n : Nat), sv = .string ⟨s.toArray⟩ ∧ nv = .int .i64 (n : Int) ∧ n + s.length ≤ l.length ∧ validD l = validD s ∧ runeCountL l = n + runeCountL s) (fun sv _ => match sv with | .string b => b.size | _ => 0)
  case atStart => exact ⟨l, 0, rfl, rfl, by omega, rfl, by omega⟩
  case round =>
    obtain ⟨s, n, rfl, rfl, hsl, hv, hc⟩ := hrel
    have HV := Lib.hid hv; have HC := Lib.hid hc
    clear hv hc
    cases s with
    | nil =>
      have hr : runesV l = (n : Int) := by
        unfold runesV
        rw [HV.out, HC.out, count_nil]
        simp [validD_nil]
      have HR := Lib.hid hr; clear hr
      go_wp2
      go_ret
      exact ⟨by rw [HR.out]; rfl, rfl⟩
    | cons c r =>
      simp only [List.length_cons] at hsl
      have hru := rune_any w (c :: r) (by simp only [List.length_cons, reachBytes]; omega)
      have HRU := Lib.hid hru
      clear hru
      by_cases hk : (runeR (c :: r)).2 = 0
      · have hb : runesV l = -1 := by unfold runesV; rw [HV.out, validD_bad (by simp) hk]; rfl
        have HB := Lib.hid hb
        have gk : (((runeR (c :: r)).2 : Int) == 0) = true := by rw [hk]; rfl
        clear hb hk
        go_wp2_with fail
        refine HRU.out.mono ?_
        rintro e w' ⟨rfl, hw⟩
        subst w'
        go_wp2
        go_ret
        exact ⟨by rw [HB.out]; rfl, rfl⟩
      · have hs1 := validD_step hk
        have hs2 := count_step hk
        have hle := runeR_le (l := c :: r)
        have gk : (((runeR (c :: r)).2 : Int) == 0) = false := by rw [beq_eq_false_iff_ne]; omega
        have hdl : ((c :: r).drop (runeR (c :: r)).2).length = r.length + 1 - (runeR (c :: r)).2 := by rw [List.length_drop, List.length_cons]
        obtain ⟨k, hkk⟩ : ∃ k, k = (runeR (c :: r)).2 := ⟨_, rfl⟩
        rw [← hkk] at hs1 hs2 hle gk hdl hk
        have HKK := Lib.hid hkk; have HS1 := Lib.hid hs1; have HS2 := Lib.hid hs2; have HDL := Lib.hid hdl
        have hrp : RuneOut (c :: r) = RuneOut (c :: r) := rfl
        clear hkk hs1 hs2 hdl hrp
        simp only [List.length_cons] at hle
        go_wp2_with fail
        refine HRU.out.mono ?_
        rintro e w' ⟨rfl, hw⟩
        subst w'
        rw [← HKK.out]
        have hex := ba_extract (c :: r) k
        rw [List.length_cons] at hex
        have HEX := Lib.hid hex; clear hex
        go_wp2
        go_round
        case rel => exact ⟨(c :: r).drop k, n + 1, by rw [HEX.out], by first | rfl | go_num, by rw [HDL.out]; omega, HV.out.trans HS1.out, by rw [HC.out, HS2.out]; omega⟩
        case measure =>
          show ((⟨(c :: r).toArray⟩ : ByteArray).extract k (r.length + 1)).size < (⟨(c :: r).toArray⟩ : ByteArray).size
          rw [HEX.out]
          show ((c :: r).drop k).toArray.size < (c :: r).toArray.size
          rw [List.size_toArray, List.size_toArray, HDL.out, List.length_cons]
          omega
end Go.Proofs.YtijcleiekafoiaaGreatDoor
