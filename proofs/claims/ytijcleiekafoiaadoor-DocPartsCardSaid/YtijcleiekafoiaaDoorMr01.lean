import Derived.Test.YtijcleiekafoiaaDoorMb10
import Derived.Test.YtijcleiekafoiaaDoorMb16
import Derived.Test.YtijcleiekafoiaaDoorRows
import Derived.Test.YtijcleiekafoiaaDoorCards
import Derived.Test.YtijcleiekafoiaaDoorTie
import Derived.Test.YtijcleiekafoiaaDoorMb17
import Derived.Test.YtijcleiekafoiaaDoorMb06
import Derived.WalkKit
import Derived.ProofKit
import Derived.OpenShut
import Derived.ChangeOld
import Derived.Below
import Derived.SizedLaws
import Derived.Lib.LaidIn
import Derived.Lib.LaidU8T
import Derived.Deep.DeepHandedRow
import Derived.Deep.DeepWitnessRowRef
import Derived.SevenTiedAt

/- A row of bytes no older than lo, that grows; beside a row that stays. -/
namespace Go.Proofs.YtijcleiekafoiaaDoor
open Go.RowKit
open Tr

structure NB (lo : Nat) (w : World) (A : Option Addr) (n c : Nat) (bs : List UInt8) : Prop where
  ow : Ow w 5 1 (.slice A n c) n (bvs bs)
  len : n = bs.length
  new : ∀ k, Value.ownBlock (.slice A n c) = some k → lo ≤ k
theorem NB.nil (lo : Nat) (w : World) : NB lo w none 0 0 [] := ⟨⟨by simp [bvs], .inl ⟨rfl, rfl⟩⟩, rfl, by simp [Value.ownBlock]⟩
theorem NB.kept0 {lo : Nat} {w w1 : World} {A : Option Addr} {n c : Nat} {bs : List UInt8} (h : NB lo w A n c bs) (f : Fr no w w1) : NB lo w1 A n c bs := ⟨h.ow.kept0 f, h.len, h.new⟩
theorem NB.more {lo : Nat} {w1 w2 : World} {A A' : Option Addr} {n N c c' m : Nat} {bs cs : List UInt8} (h : NB lo w1 A n c bs) (hm : m = cs.length) (hN : N = n + m) (ho : Ow w2 5 1 (.slice A' N c') N (bvs bs ++ bvs cs)) (hs : Stays w1 w2 (.slice A n c) (.slice A' N c') n N) (hlo : lo ≤ w1.heap.size) : NB lo w2 A' N c' (bs ++ cs) := by
  refine ⟨by rw [bvs_append]; exact ho, by rw [hN, List.length_append, h.len, hm], fun k hk => ?_⟩
  rcases hs with ⟨A1, c1, h1, h2⟩ | h1
  · simp only [Value.slice.injEq] at h1 h2
    obtain ⟨rfl, -, rfl⟩ := h1
    obtain ⟨rfl, -, rfl⟩ := h2
    refine h.new k ?_
    cases A' with
    | none => simp [Value.ownBlock] at hk
    | some a => exact hk
  · exact Nat.le_trans hlo (h1 k hk).1
theorem NB.fr {lo : Nat} {w w1 w2 : World} {A : Option Addr} {n c : Nat} {bs : List UInt8} (h : NB lo w A n c bs) (f : Fr (fun k => Value.ownBlock (.slice A n c) = some k) w1 w2) : Fr (fun k => lo ≤ k) w1 w2 := f.mono (fun k _ hk => h.new k hk)

/-- A row of bytes that grows since w, beside the row g that stays. -/
structure BW (w wr : World) (g : Nat) (o : Obj) (A : Option Addr) (n c : Nat) (bs : List UInt8) : Prop where
  nb : NB w.heap.size wr A n c bs
  fr : Fr no w wr
  row : wr.heap[g]? = some o
  ne : Value.ownBlock (.slice A n c) ≠ some g
theorem BW.kept0 {w wr w1 : World} {g : Nat} {o : Obj} {A : Option Addr} {n c : Nat} {bs : List UInt8} (h : BW w wr g o A n c bs) (f : Fr no wr w1) : BW w w1 g o A n c bs :=
  ⟨h.nb.kept0 f, h.fr.trans f (fun _ _ h => h), f.heap h.row (fun h => h), h.ne⟩
theorem BW.app {w wr wx W2 : World} {g : Nat} {o : Obj} {A A' : Option Addr} {n c N c' m : Nat} {bs cs : List UInt8} (h : BW w wr g o A n c bs) (f : Fr no wr wx) (hm : m = cs.length) (hN : N = n + m) (ho : Ow W2 5 1 (.slice A' N c') N (bvs bs ++ bvs cs))
    (hf : Fr (fun k => Value.ownBlock (.slice A n c) = some k) wx W2) (hs : Stays wx W2 (.slice A n c) (.slice A' N c') n N) : BW w W2 g o A' N c' (bs ++ cs) := by
  have hx := h.kept0 f
  refine ⟨hx.nb.more hm hN ho hs hx.fr.size, hx.fr.trans hf (fun k hk h1 => by have := h.nb.new k h1; omega), hf.heap hx.row h.ne, fun h1 => ?_⟩
  rcases stays_own hs g h1 with h2 | h2
  · exact h.ne h2
  · have := (Array.getElem?_eq_some_iff.1 hx.row).1
    omega
end Go.Proofs.YtijcleiekafoiaaDoor

/- DocParts: a list's bytes are its tag, how many there are, and the bytes of its values. Printed by mkldocp.py. -/
namespace Go.Proofs.YtijcleiekafoiaaDoor
open Go.RowKit Go.Shelf
open Tr

/-- A list as a value. -/
def listV (X : Value) (l : List (Tr Mm)) : Tr Mm := .mk 6 false 0 [] [] (.slice none 0 0, X, .slice none 0 0) l []
theorem listV_good {w : World} {X : Value} {l : List (Tr Mm)} (h : In w X l) : Tr.Good w (listV X l) :=
  ⟨_, ⟨Sl.nil _ _, h.sl, Sl.nil _ _, (show I64 0 from ⟨by decide, by decide⟩), by simp [listV, Tr.t], by simp [listV, Tr.bs], h.n, by simp [listV, Tr.f], (fun _ h => nomatch h), h.nw, by simp [listV, Tr.f]⟩, fun y hy => h.good y (by simpa [listV, Tr.kids, Tr.l, Tr.f] using hy)⟩
theorem listV_kids (X : Value) (l : List (Tr Mm)) : (listV X l).kids = l := by simp [listV, Tr.kids, Tr.l, Tr.f]
theorem listV_denc (X : Value) (l : List (Tr Mm)) : denc (listV X l) = 7 :: (vi l.length ++ l.flatMap denc) := by rw [denc_eq]; rfl
theorem sum_of {β : Type} (f g : β → Nat) : ∀ l : List β, (∀ y ∈ l, f y ≤ g y) → (l.map f).sum ≤ (l.map g).sum
  | [], _ => Nat.le_refl _
  | y :: l, h => by
    have := h y (.head _)
    have := sum_of f g l fun z hz => h z (.tail _ hz)
    simp only [List.map_cons, List.sum_cons]; omega
theorem mem_sum {β : Type} (f : β → Nat) : ∀ (l : List β) (y : β), y ∈ l → f y ≤ (l.map f).sum
  | z :: l, y, h => by
    simp only [List.map_cons, List.sum_cons]
    rcases List.mem_cons.1 h with rfl | h
    · omega
    · have := mem_sum f l y h; omega
/-- A list that may be written: so may its values, and its bytes are theirs. -/
theorem list_plain (X : Value) (l : List (Tr Mm)) (h : docErr (listV X l) = 0) (hl : l.length ≤ 120) :
    (∀ y ∈ l, docErr y = 0) ∧ docBytes (listV X l) = [7, UInt8.ofNat l.length] ++ l.flatMap docBytes ∧ docSize (listV X l) = 2 + (l.map docSize).sum ∧ (docBytes (listV X l)).length = 2 + (l.map docSize).sum := by
  obtain ⟨hc, hn, hb⟩ := docErr_zero h
  obtain ⟨c1, c2, c3⟩ := check_zero.1 hc
  have hd : denc (listV X l) = [7, UInt8.ofNat l.length] ++ l.flatMap denc := by rw [listV_denc, vi_small _ (by omega)]; rfl
  have hy : ∀ y ∈ l, check y = 0 ∧ (denc y).length ≤ 8192 := fun y hy => by
    have hk : y ∈ (listV X l).kids := by rw [listV_kids]; exact hy
    refine ⟨check_zero.2 ⟨deep_more 7 y ?_, ?_, pre_kid (P := fun y => own y = 0) hk c3⟩, ?_⟩
    · unfold deep at c1
      rw [List.any_eq_false] at c1
      simpa using c1 y hk
    · have := mem_sum parts (listV X l).kids y hk
      rw [parts_sumk] at c2
      omega
    · have := len_mem_flat (f := denc) hy
      rw [hd, List.length_append] at hn
      omega
  have he : ∀ y ∈ l, docErr y = 0 := fun y h1 => by
    obtain ⟨h2, h3⟩ := hy y h1
    unfold docErr; rw [if_neg (by rw [h2]; simp), if_neg (by omega)]
  have hf : ∀ k : List (Tr Mm), (∀ y ∈ k, y ∈ l) → k.flatMap docBytes = k.flatMap denc ∧ (k.map docSize).sum = (k.flatMap denc).length := fun k hk => by
    induction k with
    | nil => exact ⟨rfl, rfl⟩
    | cons y k ih =>
      obtain ⟨i1, i2⟩ := ih fun z hz => hk z (.tail _ hz)
      have h1 := hk y (.head _)
      refine ⟨by rw [List.flatMap_cons, List.flatMap_cons, i1, (docErr_zero (he y h1)).2.2], ?_⟩
      rw [List.map_cons, List.sum_cons, List.flatMap_cons, List.length_append, i2]
      unfold docSize
      rw [if_pos (hy y h1).1]
  obtain ⟨f1, f2⟩ := hf l fun _ h => h
  have hlen : (denc (listV X l)).length = 2 + (l.map docSize).sum := by rw [hd, f2, List.length_append]; rfl
  refine ⟨he, by rw [hb, hd, f1], by unfold docSize at *; rw [if_pos hc]; exact hlen, by rw [hb]; exact hlen⟩
theorem sum_take {β : Type} (f : β → Nat) {l : List β} {j : Nat} (h : j < l.length) : ((l.take (j + 1)).map f).sum = ((l.take j).map f).sum + f l[j] := by
  rw [List.take_succ_eq_append_getElem h, List.map_append, List.sum_append]
  simp
theorem sum_take_le {β : Type} (f : β → Nat) (l : List β) (j : Nat) : ((l.take j).map f).sum ≤ (l.map f).sum := by
  conv => rhs; rw [← List.take_append_drop j l, List.map_append, List.sum_append]
  omega

set_option maxRecDepth 100000 in
set_option maxHeartbeats 16000000 in
theorem docparts_any (w : World) (X : Value) (l : List (Tr Mm)) (hx : In w X l) (hT : Tabs w) :
    Calls Tryd.prog 4 #[X] w fun e w' => e = .returned (.bool true) ∧ Fr no w w' := by
  obtain ⟨XA, xc, rfl, _, _⟩ := hx.sl.form
  have hnl : l.length ≤ 140737488351232 := hx.n
  have hr0 := heap_alloc_new w (.cells #[.int .u8 6, .bool false, .int .i64 0, .string ⟨#[]⟩, .slice none 0 0, .slice XA l.length xc, .slice none 0 0] 27)
  have hal := (Fr.refl no w).alloc (.cells #[.int .u8 6, .bool false, .int .i64 0, .string ⟨#[]⟩, .slice none 0 0, .slice XA l.length xc, .slice none 0 0] 27)
  have hm := fun W (f : Fr no w W) => muchv_any W (listV (.slice XA l.length xc) l) (listV_good (hx.kept0 f))
  rw [show (listV (.slice XA l.length xc) l).agg = .agg #[.int .u8 6, .bool false, .int .i64 0, .string ⟨#[]⟩, .slice none 0 0, .slice XA l.length xc, .slice none 0 0] from rfl] at hm
  have HX := Lib.hid hx; have HT := Lib.hid hT; have HM := Lib.hid hm; have HR0 := Lib.hid hr0; have HAL := Lib.hid hal; have HNL := Lib.hid hnl
  clear hx hT hm hr0 hal
  go_enter Tryd.func4, Tryd.ntmps4
  go_wp2_with fail
  generalize w.alloc (.cells #[.int .u8 6, .bool false, .int .i64 0, .string ⟨#[]⟩, .slice none 0 0, .slice XA l.length xc, .slice none 0 0] 27) = w0 at HR0 HAL ⊢
  refine (HM.out w0 HAL.out).mono ?_
  rintro e w1 ⟨f1, mb, rfl, hb⟩
  have F1 := Lib.hid (HAL.out.trans f1 (fun _ _ h => h)); have HR1 := Lib.hid (f1.heap HR0.out (fun h => h))
  clear f1 HR0 HM
  cases mb with
  | true =>
    go_wp2_with fail
    refine (known5_any w1 (HT.out.kept0 F1.out)).mono ?_
    rintro e w2 ⟨rfl, f2⟩
    have F2 := Lib.hid (F1.out.trans f2 (fun _ _ h => h))
    clear f2
    go_wp2
    go_ret
    exact ⟨rfl, F2.out⟩
  | false =>
  have hwg := hb rfl
  have hdl := denc_len _ (listV_good (HX.out.kept0 F1.out))
  rw [listV_denc] at hdl
  simp only [List.length_cons, List.length_append] at hdl
  have hnb : (l.flatMap denc).length ≤ 30000000 ∧ (denc (listV (.slice XA l.length xc) l)).length ≤ 900000000 := ⟨by omega, by rw [listV_denc]; simp only [List.length_cons, List.length_append]; omega⟩
  have HNB := Lib.hid hnb
  clear hb hwg hdl hnb
  by_cases hb2 : 120 < l.length
  · have hbi : (120 : Int) < (l.length : Int) := by omega
    go_wp2_with fail
    refine (known5_any w1 (HT.out.kept0 F1.out)).mono ?_
    rintro e w2 ⟨rfl, f2⟩
    have F2 := Lib.hid (F1.out.trans f2 (fun _ _ h => h))
    clear f2
    go_wp2
    go_ret
    exact ⟨rfl, F2.out⟩
  have hbi : ¬ (120 : Int) < (l.length : Int) := by omega
  have hl120 : l.length ≤ 120 := by omega
  have HL1 := Lib.hid hl120
  clear hb2 hl120
  go_wp2_with fail
  refine (known5_any w1 (HT.out.kept0 F1.out)).mono ?_
  rintro e w2 ⟨rfl, f2⟩
  have F2 := Lib.hid (F1.out.trans f2 (fun _ _ h => h)); have HR2 := Lib.hid (f2.heap HR1.out (fun h => h))
  clear f2 HR1
  obtain ⟨er, her⟩ : ∃ er, er = docErr (listV (.slice XA l.length xc) l) := ⟨_, rfl⟩
  obtain ⟨bs, hbs⟩ : ∃ bs, bs = docBytes (listV (.slice XA l.length xc) l) := ⟨_, rfl⟩
  have henc := docenc_any w2 (listV (.slice XA l.length xc) l) (listV_good (HX.out.kept0 F2.out)) (HT.out.kept0 F2.out) HNB.out.2
  have hsl : bs.length ≤ 8192 := by rw [hbs]; exact docBytes_len _
  rw [show (listV (.slice XA l.length xc) l).agg = .agg #[.int .u8 6, .bool false, .int .i64 0, .string ⟨#[]⟩, .slice none 0 0, .slice XA l.length xc, .slice none 0 0] from rfl, ← her, ← hbs] at henc
  have HENC := Lib.hid henc; have HER := Lib.hid her; have HBS := Lib.hid hbs; have HSL := Lib.hid hsl
  clear henc her hbs hsl
  obtain ⟨q0, q1, q2, q3, q4, q5, q6, qz, ql⟩ := seven_cells HR2.out
  go_wp2_with fail
  refine HENC.out.mono ?_
  rintro e w3 ⟨f3, A, n, rfl, hn, ho, hk⟩
  have F3 := Lib.hid (F2.out.trans f3 (fun _ _ h => h)); have HN := Lib.hid hn; have HO := Lib.hid ho; have HR3 := Lib.hid (f3.heap HR2.out (fun h => h))
  clear f3 hn ho hk HENC HR2 q0 q1 q2 q3 q4 q5 q6 qz ql
  have hub : IntKind.u8.wrap (l.length : Int) = ((UInt8.ofNat l.length).toNat : Int) := by
    have h1 := HL1.out
    rw [UInt8.toNat_ofNat']
    unfold IntKind.wrap
    simp [IntKind.signed, IntKind.bits]
  obtain ⟨lb, hlb⟩ : ∃ lb, lb = UInt8.ofNat l.length := ⟨_, rfl⟩
  rw [← hlb] at hub
  have hrw := heap_alloc_new w3 (.cells #[.int .u8 7, .int .u8 lb.toNat] 5)
  have halw := (Fr.refl no w3).alloc (.cells #[.int .u8 7, .int .u8 lb.toNat] 5)
  have hbw : BW w3 (w3.alloc (.cells #[.int .u8 7, .int .u8 lb.toNat] 5)) w.heap.size (.cells #[.int .u8 6, .bool false, .int .i64 0, .string ⟨#[]⟩, .slice none 0 0, .slice XA l.length xc, .slice none 0 0] 27 (0, 0)) (some ⟨w3.heap.size, 0, none⟩) 2 2 [7, lb] := by
    refine ⟨⟨⟨rfl, .inr ⟨w3.heap.size, 2, _, rfl, hrw, Nat.le_refl _, by simp [maxLen], Nat.le_refl _, rfl⟩⟩, rfl, fun k hk => by have h : w3.heap.size = k := (by simpa [Value.ownBlock] using hk); omega⟩, halw, halw.heap HR3.out (fun h => h), fun h => ?_⟩
    have h1 : w3.heap.size = w.heap.size := by simpa [Value.ownBlock] using h
    have h2 := (Array.getElem?_eq_some_iff.1 HR3.out).1
    omega
  have HBW := Lib.hid hbw; have HLB := Lib.hid hlb
  clear hrw halw hbw hlb
  go_wp2
  clear hub
  go_loopw [6, 7, 8] (fun wv sv iv wr => ∃ (j : Nat) (A : Option Addr) (n c : Nat), j ≤ l.length ∧ wv = .slice A n c ∧ sv = .int .i64 ((2 + ((l.take j).map docSize).sum : Nat) : Int) ∧ iv = .int .i64 (j : Int) ∧ BW w3 wr w.heap.size (.cells #[.int .u8 6, .bool false, .int .i64 0, .string ⟨#[]⟩, .slice none 0 0, .slice XA l.length xc, .slice none 0 0] 27 (0, 0)) A n c ([7, lb] ++ (l.take j).flatMap docBytes)) (fun _ _ iv _ => l.length - (intOf iv).toNat)
  case atStart => exact ⟨0, _, 2, 2, Nat.zero_le _, rfl, rfl, rfl, by simpa using HBW.out⟩
  case round =>
    obtain ⟨j, A2, n2, c2, hj, rfl, rfl, rfl, hbw⟩ := hrel
    have HB := Lib.hid hbw
    clear hbw HBW
    by_cases hlt : j < l.length
    · have hIn := HX.out.kept0 (F3.out.trans HB.out.fr (fun _ _ h => h))
      have hgj := hIn.good l[j] (List.getElem_mem _)
      have hdj : (denc l[j]).length ≤ 900000000 := by have h1 := len_mem_flat (f := denc) (List.getElem_mem hlt); have h2 := HNB.out.1; omega
      have hcall := fun W (f : Fr no wr W) => docenc_any W l[j] (hgj.kept0 f) (HT.out.kept0 (F3.out.trans (HB.out.fr.trans f (fun _ _ h => h)) (fun _ _ h => h))) hdj
      have hsize := fun W (f : Fr no wr W) => docsize_any W l[j] (hgj.kept0 f) (HT.out.kept0 (F3.out.trans (HB.out.fr.trans f (fun _ _ h => h)) (fun _ _ h => h))) hdj
      have hbj := docBytes_len l[j]
      have hnn : n2 + (docBytes l[j]).length ≤ 200000000 := by
        have h1 := HB.out.nb.len
        have h2 := flat_take_len docBytes l j
        have h3 : (l.flatMap docBytes).length ≤ (l.map fun _ => 8192).sum := by
          rw [List.length_flatMap]
          exact sum_of _ _ l fun y _ => docBytes_len y
        have h4 : (l.map fun _ => 8192).sum = l.length * 8192 := by rw [List.map_const', List.sum_replicate_nat]
        have h5 := HL1.out
        simp only [List.length_append, List.length_cons, List.length_nil] at h1
        omega
      have hsb : ((l.take j).map docSize).sum + docSize l[j] ≤ 30000000 := by
        have h1 := sum_take_le docSize l (j + 1)
        rw [sum_take docSize hlt] at h1
        have h2 := sum_flat docSize denc l fun y _ => docSize_len y
        have h3 := HNB.out.1
        omega
      have hwr : IntKind.i64.wrap (((2 + ((l.take j).map docSize).sum : Nat) : Int) + (docSize l[j] : Int)) = ((2 + ((l.take (j + 1)).map docSize).sum : Nat) : Int) := by
        rw [sum_take docSize hlt, show (((2 + ((l.take j).map docSize).sum : Nat) : Int) + (docSize l[j] : Int)) = ((2 + (((l.take j).map docSize).sum + docSize l[j]) : Nat) : Int) by omega]
        exact IntWalk.i64_in _ ⟨by omega, by omega⟩
      obtain ⟨S, hS⟩ : ∃ S : Nat, S = 2 + ((l.take j).map docSize).sum := ⟨_, rfl⟩
      obtain ⟨S', hS'⟩ : ∃ S' : Nat, S' = 2 + ((l.take (j + 1)).map docSize).sum := ⟨_, rfl⟩
      obtain ⟨d, hd⟩ : ∃ d : Nat, d = docSize l[j] := ⟨_, rfl⟩
      obtain ⟨fe, hfe⟩ : ∃ fe : Nat, fe = docErr l[j] := ⟨_, rfl⟩
      obtain ⟨xb, o, KB, kb, KL, kl, KF, kf, rfl, hfj, r0, r1, r2, r3, r4, r5, r6, hgl⟩ := In.get hIn j hlt
      rw [hfj.agg, ← hfe] at hcall
      rw [hfj.agg, ← hd] at hsize
      rw [← hS, ← hS', ← hd] at hwr
      rw [← hS]
      have hff : er = 0 → fe = 0 := fun h => by rw [hfe]; exact (list_plain _ l (HER.out.symm.trans h) HL1.out).1 _ (List.getElem_mem _)
      have HC := Lib.hid hcall; have HZ := Lib.hid hsize; have HNN := Lib.hid hnn; have HWR := Lib.hid hwr; have HS' := Lib.hid hS'; have HFF := Lib.hid hff
      have HD := Lib.hid hd
      clear hIn hgj hdj hcall hsize hbj hnn hsb hwr hS hS' hd hfe hfj hff
      go_wp2_with fail
      refine (HC.out wr (Fr.refl _ _)).mono ?_
      rintro e w4 ⟨f4, A4, n4, rfl, hn4, ho4, hk4⟩
      have HN4 := Lib.hid hn4; have HO4 := Lib.hid ho4; have HB4 := Lib.hid (HB.out.kept0 f4); have F4 := Lib.hid f4
      clear f4 hn4 ho4 hk4 r0 r1 r2 r3 r4 r5 r6 hgl HC
      by_cases h0 : er = 0
      · have hfz := HFF.out h0
        subst hfz
        have hen : ((er : Int) == 0) = true := by rw [beq_iff_eq]; omega
        rw [show ((0 : Nat) : Int) = 0 from rfl]
        clear h0
        go_wp2_with (at_builtin; refine wpList_apo (n := n2) (xs := bvs ([7, lb] ++ (l.take j).flatMap docBytes)) (m := n4) (news := bvs (docBytes l[j])) rfl (.tmp 54) (.tmp 55) 23 rfl tbB (HB4.out.nb.ow.kept0 (by (repeat first | exact Fr.refl _ _ | exact Fr.drewN _ _ _ | apply Fr.drew | apply Fr.alloc | apply Fr.setAt | apply Fr.moreN))) ((HO4.out.kept0 (by (repeat first | exact Fr.refl _ _ | exact Fr.drewN _ _ _ | apply Fr.drew | apply Fr.alloc | apply Fr.setAt | apply Fr.moreN))).sl) rfl rfl (bvs_one _) ?paa ?pab ?pac)
        case paa => have h1 := HNN.out; have h2 := HN4.out; simp only [maxLen]; omega
        case pab => have h1 := HNN.out; have h2 := HN4.out; omega
        case pac =>
          intro A5 n5 c5 w5 hN5 ho5 _ hf5 hs5
          have hb5 := HB4.out.app (cs := docBytes l[j]) (by (repeat first | exact Fr.refl _ _ | exact Fr.drewN _ _ _ | apply Fr.drew | apply Fr.alloc | apply Fr.setAt | apply Fr.moreN)) HN4.out hN5 (by simpa using ho5) hf5 hs5
          rw [List.append_assoc, ← flat_take hlt] at hb5
          have HB5 := Lib.hid hb5
          clear hN5 ho5 hf5 hs5 hb5
          have hIn := HX.out.kept0 (F3.out.trans HB5.out.fr (fun _ _ h => h))
          obtain ⟨xb2, o2, KB2, kb2, KL2, kl2, KF2, kf2, hbo, hfj, r0, r1, r2, r3, r4, r5, r6, hgl⟩ := In.get hIn j hlt
          have hz := docsize_any w5 l[j] (hIn.good l[j] (List.getElem_mem _)) (HT.out.kept0 (F3.out.trans HB5.out.fr (fun _ _ h => h))) (by have h1 := len_mem_flat (f := denc) (List.getElem_mem hlt); have h2 := HNB.out.1; omega)
          rw [hfj.agg] at hz
          cases hbo
          have HZ2 := Lib.hid hz
          clear hIn hfj hz HB4 HB HZ
          go_wp2_with fail
          refine HZ2.out.mono ?_
          rintro e w6 ⟨f6, rfl⟩
          have HB6 := Lib.hid (HB5.out.kept0 f6)
          have hwr := HWR.out
          clear f6 HZ2 HB5 r0 r1 r2 r3 r4 r5 r6 hgl
          rw [← HD.out]
          go_wp2
          go_roundw
          case rel =>
            first
              | exact ⟨j + 1, A5, n5, c5, hlt, rfl, by rw [HS'.out], by first | rfl | go_num, HB6.out⟩
              | ((repeat apply Exists.intro); exact ⟨⟨j + 1, A5, n5, c5, hlt, rfl, by rw [← HS'.out], (show Value.int .i64 ((j : Int) + 1) = .int .i64 ((j + 1 : Nat) : Int) by go_num), HB6.out⟩, rfl⟩)
          case measure => simp [intOf]; omega
      · have hen : ((er : Int) == 0) = false := by rw [beq_eq_false_iff_ne]; omega
        have HEN := Lib.hid h0
        clear h0
        go_wp2_with (at_builtin; refine wpList_apo (n := n2) (xs := bvs ([7, lb] ++ (l.take j).flatMap docBytes)) (m := n4) (news := bvs (docBytes l[j])) rfl (.tmp 54) (.tmp 55) 23 rfl tbB (HB4.out.nb.ow.kept0 (by (repeat first | exact Fr.refl _ _ | exact Fr.drewN _ _ _ | apply Fr.drew | apply Fr.alloc | apply Fr.setAt | apply Fr.moreN))) ((HO4.out.kept0 (by (repeat first | exact Fr.refl _ _ | exact Fr.drewN _ _ _ | apply Fr.drew | apply Fr.alloc | apply Fr.setAt | apply Fr.moreN))).sl) rfl rfl (bvs_one _) ?pba ?pbb ?pbc)
        case pba => have h1 := HNN.out; have h2 := HN4.out; simp only [maxLen]; omega
        case pbb => have h1 := HNN.out; have h2 := HN4.out; omega
        case pbc =>
          intro A5 n5 c5 w5 hN5 ho5 _ hf5 hs5
          have hb5 := HB4.out.app (cs := docBytes l[j]) (by (repeat first | exact Fr.refl _ _ | exact Fr.drewN _ _ _ | apply Fr.drew | apply Fr.alloc | apply Fr.setAt | apply Fr.moreN)) HN4.out hN5 (by simpa using ho5) hf5 hs5
          rw [List.append_assoc, ← flat_take hlt] at hb5
          have HB5 := Lib.hid hb5
          clear hN5 ho5 hf5 hs5 hb5
          have hIn := HX.out.kept0 (F3.out.trans HB5.out.fr (fun _ _ h => h))
          obtain ⟨xb2, o2, KB2, kb2, KL2, kl2, KF2, kf2, hbo, hfj, r0, r1, r2, r3, r4, r5, r6, hgl⟩ := In.get hIn j hlt
          have hz := docsize_any w5 l[j] (hIn.good l[j] (List.getElem_mem _)) (HT.out.kept0 (F3.out.trans HB5.out.fr (fun _ _ h => h))) (by have h1 := len_mem_flat (f := denc) (List.getElem_mem hlt); have h2 := HNB.out.1; omega)
          rw [hfj.agg] at hz
          cases hbo
          have HZ2 := Lib.hid hz
          clear hIn hfj hz HB4 HB HZ
          go_wp2_with fail
          refine HZ2.out.mono ?_
          rintro e w6 ⟨f6, rfl⟩
          have HB6 := Lib.hid (HB5.out.kept0 f6)
          have hwr := HWR.out
          clear f6 HZ2 HB5 r0 r1 r2 r3 r4 r5 r6 hgl
          rw [← HD.out]
          go_wp2
          go_roundw
          case rel =>
            first
              | exact ⟨j + 1, A5, n5, c5, hlt, rfl, by rw [HS'.out], by first | rfl | go_num, HB6.out⟩
              | ((repeat apply Exists.intro); exact ⟨⟨j + 1, A5, n5, c5, hlt, rfl, by rw [← HS'.out], (show Value.int .i64 ((j : Int) + 1) = .int .i64 ((j + 1 : Nat) : Int) by go_num), HB6.out⟩, rfl⟩)
          case measure => simp [intOf]; omega
    · obtain rfl : j = l.length := by omega
      have hb := HB.out
      rw [List.take_length] at hb
      rw [List.take_length]
      have HBB := Lib.hid hb
      obtain ⟨S, hS⟩ : ∃ S : Nat, S = 2 + (l.map docSize).sum := ⟨_, rfl⟩
      rw [← hS]
      have HS := Lib.hid hS
      clear hb HB hS
      by_cases h0 : er = 0
      · obtain ⟨p1, p2, p3, p4⟩ := list_plain (.slice XA l.length xc) l (HER.out.symm.trans h0) HL1.out
        rw [← HBS.out, ← HLB.out] at p2
        rw [← HS.out] at p3
        rw [← HBS.out, ← HN.out, ← HS.out] at p4
        rw [h0, show ((0 : Nat) : Int) = 0 from rfl]
        have HP2 := Lib.hid p2
        have hsz := fun W (f : Fr no wr W) => docsize_any W (listV (.slice XA l.length xc) l) (listV_good (HX.out.kept0 (F3.out.trans (HBB.out.fr.trans f (fun _ _ h => h)) (fun _ _ h => h)))) (HT.out.kept0 (F3.out.trans (HBB.out.fr.trans f (fun _ _ h => h)) (fun _ _ h => h))) HNB.out.2
        rw [show (listV (.slice XA l.length xc) l).agg = .agg #[.int .u8 6, .bool false, .int .i64 0, .string ⟨#[]⟩, .slice none 0 0, .slice XA l.length xc, .slice none 0 0] from rfl, p3] at hsz
        have HZ := Lib.hid hsz; have HP4 := Lib.hid p4
        clear h0 p1 p2 p3 p4 hsz
        go_wp2_with fail
        refine (same_any wr (.slice A n n) (.slice A2 n2 c2) bs bs (by rw [← HN.out]; exact (HO.out.kept0 HBB.out.fr).sl) (by
          have h1 := HBB.out.nb.len
          have h2 := HBB.out.nb.ow.sl
          rw [← HP2.out] at h1 h2
          rw [← h1]; exact h2) (by have := HSL.out; omega) (by have := HSL.out; omega)).mono ?_
        rintro e w4 ⟨rfl, n4, hw4⟩
        first | rw [decide_eq_true (rfl : bs = bs)] | simp only [decide_true]
        have f4 : Fr no wr w4 := by rw [hw4]; exact Fr.drewN _ _ _
        have F4 := Lib.hid f4
        clear hw4 f4
        obtain ⟨q0, q1, q2, q3, q4, q5, q6, qz, ql⟩ := seven_cells (F4.out.heap HBB.out.row (fun h => h))
        go_wp2_with fail
        refine (HZ.out w4 F4.out).mono ?_
        rintro e w5 ⟨f5, rfl⟩
        have F5 := Lib.hid (F3.out.trans (HBB.out.fr.trans (F4.out.trans f5 (fun _ _ h => h)) (fun _ _ h => h)) (fun _ _ h => h))
        have hs1 := ieq_self S
        have hs2 : ((n : Int) == (S : Int)) = true := by rw [HP4.out]; exact ieq_self S
        clear f5 HZ q0 q1 q2 q3 q4 q5 q6 qz ql
        go_wp2
        go_ret
        exact ⟨rfl, F5.out⟩
      · have hen : ((er : Int) != 0) = true := by rw [bne_iff_ne]; omega
        have hbe : bs = [] := by rw [HBS.out]; unfold docBytes; rw [if_neg (by rw [← HER.out]; exact h0)]
        have hn0 : n = 0 := by rw [HN.out, hbe]; rfl
        have hni : ((n : Int) == 0) = true := by rw [beq_iff_eq, hn0]; rfl
        clear hbe hn0 h0
        go_wp2
        go_ret
        exact ⟨rfl, F3.out.trans HBB.out.fr (fun _ _ h => h)⟩
end Go.Proofs.YtijcleiekafoiaaDoor

/- DocParts holds, for every input; its tied card. No condition but what its row lists. -/
namespace Go.Proofs.YtijcleiekafoiaaDoor
open Go.ChangeShapes Go.WideShapes Go.ChangeAt Go.RowKit Go.Shelf
namespace RDocParts
theorem own : ownKnob Tryd.prog.godebug = none := by kernel_rfl
theorem laidOut : laidOutB Tryd.prog = true := by kernel_rfl

/-- A world in which the two tables lie. -/
noncomputable def laidWorld (os : Os) : World :=
  let w0 := World.holding Tryd.prog os ⟨#[], #[], []⟩
  let put (h : Array Obj) (g : Nat) (cs : Array Value) : Array Obj := h.modify g fun
    | .cells _ t frozen => .cells cs t frozen
    | o => o
  let h1 := put w0.heap 0 (Lib.firstTab.map fun z => Value.int .u8 z).toArray
  let h2 := put h1 1 ((List.range 16).flatMap fun i => [Value.int .u8 (Lib.accLo i), Value.int .u8 (Lib.accHi i)]).toArray
  { w0 with heap := h2 }
theorem laid_met (os : Os) (args : Array Value) : laidMet Tryd.prog Rows.docPartsRow.laid ((laidWorld os).forCall (fun _ _ => 0) ⟨#[], args, []⟩).memory :=
  (LaidIn.of_run (l := [("unicode/utf8.acceptRanges", Rows.laid_unicode_utf8_acceptRanges), ("unicode/utf8.first", Rows.laid_unicode_utf8_first)]) [0, 1] 8 (by kernel_rfl) (by kernel_rfl) (by kernel_rfl) (by kernel_rfl)).met

theorem witness_row (os : Os) {H : Type} (enc : TypeId × Value → H) :
    (OpenSpec.ofChange Rows.docPartsSpec).preRow enc Tryd.prog Tryd.f4 Rows.docPartsRow.domain false Rows.docPartsRow.laid ((laidWorld os).forCall (fun _ _ => 0) ⟨#[], #[.slice none 0 0], []⟩).memory #[.slice none 0 0] := by
  have hw : (DataW.whole enc Tryd.prog ((laidWorld os).forCall (fun _ _ => 0) ⟨#[], #[.slice none 0 0], []⟩).memory Tryd.f4.params.toList (OpenSpec.ofChange Rows.docPartsSpec).vars false #[.slice none 0 0].toList 8).map (fun x => (x.1, x.2.1)) = some ([.nil], []) := by kernel_rfl
  obtain ⟨⟨x1, x2, x3⟩, hx, hx1⟩ := Option.map_eq_some_iff.1 hw
  simp only [Prod.mk.injEq] at hx1
  obtain ⟨rfl, rfl⟩ := hx1
  exact OpenSpec.preRow_of_cond 8 hx (by kernel_rfl) (fun k hk => by cases hk) (by kernel_rfl) (laid_met os _)

set_option maxRecDepth 100000 in
set_option maxHeartbeats 2000000 in
theorem lifted (os : Os) (started : os.Started) (H : Type) (enc : TypeId × Value → H) (F : Stop.Interp) :
    ReturnsInHanded {} Tryd.checked os 4 .any ((OpenSpec.ofChange Rows.docPartsSpec).preRow enc Tryd.prog Tryd.f4 Rows.docPartsRow.domain false Rows.docPartsRow.laid) (((OpenSpec.ofChange Rows.docPartsSpec).at F).post enc Tryd.prog Tryd.f4 false true false false) := by
  refine returnsInHanded_of_row (C := Tryd.checked) (s := (OpenSpec.ofChange Rows.docPartsSpec)) own started (by kernel_rfl) Tryd.func4
    (witness_row_atRef (enc := enc) (C := Tryd.checked) false (laidWorld os) #[.slice none 0 0] rfl (by kernel_rfl) (by kernel_rfl) (by kernel_rfl) (witness_row os enc)) ?_
  intro W base args ds gs before hval0 hW hcnd hk0 hsz0 hL _ _
  have hval : ∀ (j : Nat) t v, Tryd.f4.params[j]? = some t → args[j]? = some v → Value.okWide Tryd.prog W .any base t v := hval0
  have hW' := hW
  obtain ⟨p, q, hA0, hV, rfl, hfz, hnd⟩ := hW
  have hA : DataW.TrodAll enc Tryd.prog W 0 (fun _ => true) true Tryd.f4.params.toList args.toList ds p := hA0
  have hTd : ∀ (j : Nat) t v, Tryd.f4.params.toList[j]? = some t → args.toList[j]? = some v → Td Tryd.prog W t v.cells.toList := fun j t v h1 h2 => Td.arg hA hsz0 j t v h1 h2
  have htab : Tabs W := utf8Tabs_of_readsT (U8Types.of196 lays_valid) ⟨by kernel_rfl, by kernel_rfl, by kernel_rfl, by kernel_rfl, by kernel_rfl, by kernel_rfl, by kernel_rfl⟩ (Lib.laidMet.reads (d := Rows.laid_unicode_utf8_first) hL (.tail _ (.head _))) (Lib.laidMet.reads (d := Rows.laid_unicode_utf8_acceptRanges) hL (.head _))
  clear hsz0 hcnd hk0
  rw [Tryd.params4] at hA hval hTd
  obtain ⟨v0, vs0, d0, ds0, p0, q0, hargs, rfl, rfl, h0, r0⟩ := trodAll_cons hA
  obtain ⟨rfl, rfl, rfl⟩ := trodAll_nil r0
  obtain rfl : args = #[v0] := by cases args; simp_all
  obtain ⟨rfl, rfl⟩ := trodVars_none hV
  have lt0 : ∀ x ∈ p0, x.block < W.heap.size := by obtain ⟨m, hm⟩ := h0; exact DataW.trod_lt m _ _ _ hm
  obtain ⟨a0, n0, c0, rfl⟩ := okWide_slice Tryd.underlying24 (hval 0 24 v0 rfl rfl)
  have lo0 : ∀ k, (Value.slice a0 n0 c0).ownBlock = some k → k < W.heap.size := okWide_lt Tryd.underlying24 (hval 0 24 _ rfl rfl)
  have td0 : Td Tryd.prog W 24 [.slice a0 n0 c0] := hTd 0 24 _ rfl rfl
  have walk : Calls Tryd.prog 4 #[.slice a0 n0 c0] W fun e w' => e = .returned (.bool true) ∧ Below W.heap.size W w' := by
    clear hA0 hTd hval hval0 hL
    obtain ⟨x0, l0, e0, s0⟩ := open_values td0
    obtain rfl := (List.cons.inj e0).1
    exact (docparts_any W _ l0 s0 htab).mono fun e w' ⟨h1, f⟩ => ⟨h1, f.below (fun _ _ h => h)⟩
  clear hA0 hval0 hTd
  refine walk.mono fun e W' ⟨he, bel⟩ => ?_
  subst he
  exact ⟨_, rfl, _, _, _, [], _, [], hW', trodAll_mk1 (shut_bool Tryd.underlying4 _), (trodAll_cons_mk (Below.trod laidOut (by kernel_rfl) (of_decide_eq_true (by kernel_rfl)) h0 bel lt0) trodAll_mk0), rfl, bel.frame _, fun h => by cases h⟩

theorem row : Rows.docPartsRow.holds Tryd.pinned (OpenSpec.ofChange Rows.docPartsSpec) :=
  OpenClaim.holds_of_cond 4 Tryd.f4 rfl rfl rfl rfl rfl rfl rfl ⟨rfl, rfl, rfl, rfl, rfl⟩ rfl rfl rfl rfl rfl (by kernel_rfl) Tryd.func4 (by kernel_rfl)
    (of_decide_eq_true (by kernel_rfl)) (by unfold Func.isWrapper; first | (rw [if_pos (by decide +kernel)]; kernel_rfl) | (rw [if_neg (of_decide_eq_false (by kernel_rfl))]; exact ⟨rfl, rfl⟩))
    (fun os started H enc _ F0 => by rw [OpenClaim.pre_eq_preRow]; exact lifted os started H enc F0)
theorem card : Claim7.holds Tryd.pinned (.plain (OpenSpec.ofChange Rows.docPartsSpec)) Rows.docPartsCard :=
  Claim7.holds_tied_plain_at .later [] [.data, .pinned] true Rows.docPartsCard.stood.harness Rows.docPartsCard.stood.looks
    row (fun _ h => by cases h) (by kernel_rfl) (fun _ h => by cases h) docParts_row_tie rfl ⟨rfl, rfl⟩ (by kernel_rfl) (by kernel_rfl)
    (fun f fn hf hfn => by
      obtain rfl : f = 4 := Option.some.inj ((show Tryd.prog.funcNamed "codicil/codicillaw05.DocParts" = some 4 by kernel_rfl).symm.trans hf) |>.symm
      obtain rfl : fn = Tryd.f4 := (Option.some.inj (Tryd.func4.symm.trans hfn)).symm
      exact ⟨by kernel_rfl, fun j t ht => by
        have hall : (Tryd.f4.params.toList.all fun t => Tryd.prog.wantsStandIn t == false) = true := by kernel_rfl
        have hm : t ∈ Tryd.f4.params.toList := by
          rw [Array.mem_toList_iff]
          exact Array.mem_of_getElem? ht
        exact (eq_of_beq (List.all_eq_true.1 hall t hm) : Tryd.prog.wantsStandIn t = false)⟩)
    (by kernel_rfl)
end RDocParts

/-- The card. -/
theorem docParts_holds : Rows.DocPartsCardSaid := RDocParts.card
#print axioms docParts_holds
end Go.Proofs.YtijcleiekafoiaaDoor
