/- One call of a reader and of the document's reader ('reads'): they answer alike. -/
import Derived.Test.YtomnhblecnbmaaaRefS
import Derived.Test.YtomnhblecnbmaaaPuts
namespace Go.Proofs.Ytomnhblecnbmaaa
open Go.RowKit

/-- What reads leaves: the same answer of both, both at the same place. -/
def RdOut (w w' : World) (p q : Nat) (sv xv : Value) (l : List UInt8) (own : Prop) (e : Ending) : Prop :=
  ∃ (s' : RS) (bs : List UInt8) (v : Int) (A B : Option Addr) (c d : Nat), e = .returned (.tuple #[.int .u64 v, .int .u64 v, .slice A bs.length c, .slice B bs.length d]) ∧ bs.length ≤ 1000000000 ∧
    Sl w' 1 (.slice A bs.length c) bs.length (bvs bs) ∧ Sl w' 1 (.slice B bs.length d) bs.length (bvs bs) ∧
    (own → c = bs.length ∧ Ow w' 5 1 (.slice A bs.length c) bs.length (bvs bs) ∧ (∀ k, (Value.slice A bs.length c).ownBlock = some k → w.heap.size ≤ k) ∧ ∀ k, (Value.slice B bs.length d).ownBlock = some k → w.heap.size ≤ k) ∧
    Rr w' p sv l s' ∧ Rx w' q xv l s' ∧ Fr (fun k => k = p ∨ k = q) w w'

/-- Two readers over the same bytes, at the same place. -/
structure Both (w : World) (p q : Nat) (sv xv : Value) (l : List UInt8) (s : RS) : Prop where
  rr : Rr w p sv l s
  rx : Rx w q xv l s
  pq : p ≠ q
  sq : sv.ownBlock ≠ some q
  xp : xv.ownBlock ≠ some p

theorem Both.kept0 {w w1 : World} {p q : Nat} {sv xv : Value} {l : List UInt8} {s : RS} (h : Both w p q sv xv l s) (f : Fr no w w1) : Both w1 p q sv xv l s :=
  ⟨h.rr.kept f (fun h => h) (fun _ _ h => h), h.rx.kept f (fun h => h) (fun _ _ h => h), h.pq, h.sq, h.xp⟩

/-- Behind the reader's own step. -/
theorem Both.step {w w1 : World} {p q : Nat} {sv xv : Value} {l : List UInt8} {s s' : RS} (h : Both w p q sv xv l s) (_ : Rr w1 p sv l s') (f : Fr (At p) w w1) : Rx w1 q xv l s :=
  h.rx.kept f (fun e => h.pq e.symm) (fun k hk e => h.xp (by rw [hk]; exact congrArg some e))

theorem Both.step2 {w w1 w2 : World} {p q : Nat} {sv xv : Value} {l : List UInt8} {s s' : RS} (h : Both w p q sv xv l s) (hr : Rr w1 p sv l s') (f : Fr (At q) w1 w2) : Rr w2 p sv l s' :=
  hr.kept f h.pq (fun k hk e => h.sq (by rw [hk]; exact congrArg some e))

theorem fr_both {w w1 w2 : World} {p q : Nat} (f : Fr (At p) w w1) (g : Fr (At q) w1 w2) : Fr (fun k => k = p ∨ k = q) w w2 :=
  (f.mono (fun _ _ h => .inl h)).trans g (fun _ _ h => .inr h)

theorem fr_sooner {w w1 w2 : World} {S : Nat → Prop} (f : Fr no w w1) (g : Fr S w1 w2) : Fr S w w2 := (f.mono (fun _ _ h => h.elim)).trans g (fun _ _ h => h)

theorem results_tmp4 {fn : Func} {t u v x : Tmp} (h : fn.results = #[.tmp t, .tmp u, .tmp v, .tmp x]) (tmps : Array Value) (P : Program) (w : World) :
    (results fn tmps).run P w = .ok (.tuple #[tmps.getD t undef, tmps.getD u undef, tmps.getD v undef, tmps.getD x undef]) w := by
  simp [results, h]

theorem be_small (l : List UInt8) (s : RS) (n : Nat) : (be (s.take l n).1) < 256 ^ n := by
  have h1 := be_lt (s.take l n).1
  have h2 := take_len l n s
  have h3 : 256 ^ (s.take l n).1.length ≤ 256 ^ n := Nat.pow_le_pow_right (by omega) (by simpa using h2)
  omega


set_option maxRecDepth 100000 in
set_option maxHeartbeats 1000000 in
theorem reads_0 (w : World) (p q : Nat) (sv xv : Value) (l : List UInt8) (s : RS) (o : OpV) (w0 : World) (ho : o.Good w0) (h8 : o.k % 8 = 0) (h : Both w p q sv xv l s) :
    Calls Try.prog 25 #[.pointer (some ⟨p, 0, none⟩), .pointer (some ⟨q, 0, none⟩), .agg #[.int .u8 o.k, .int .u64 o.v, .int .i64 o.n, o.B]] w fun e w' => RdOut w w' p q sv xv l (o.k % 8 = 6) e := by
  obtain ⟨k, v, n, B, bs⟩ := o
  obtain ⟨hk, hv, hn0, hn1, hB⟩ := ho
  simp only at hk hv hn0 hn1 hB h8 ⊢
  obtain ⟨A, c, rfl, hc1, hc2⟩ := hB.form
  have H := Lib.hid (h.kept0 ((Fr.refl no w).alloc (.cells #[.int .u8 k, .int .u64 v, .int .i64 n, .slice A bs.length c] 69)))
  have e8 : (k : Int) % 8 = 0 := by omega
  have H6 := Lib.hid h8
  have HN := Lib.hid (And.intro hn0 hn1)
  have HNP := Lib.hid (And.intro (show w.heap.size ≠ p from fun e => by have := (four_cells h.rr.1).2.2.2.2.2; omega) (show w.heap.size ≠ q from fun e => by have := (four_cells h.rx.1).2.2.2.2.2; omega))
  have HQ := Lib.hid (four_cells h.rx.1).2.2.2.2.2
  clear h hv hn0 hn1 hB hc1 hc2 h8
  have hbe : (be (s.take l 1).1 : Int) < 256 := by have h : be (s.take l 1).1 < 256 ^ 1 := be_small l s 1; simp only [Nat.reducePow] at h; omega
  obtain ⟨b, hb⟩ : ∃ b, b = be (s.take l 1).1 := ⟨_, rfl⟩
  rw [← hb] at hbe
  have HB := Lib.hid hb; clear hb
  go_enter Try.func25, Try.ntmps25
  go_wp2_with fail
  refine (ru8_any p _ sv l s H.out.rr).mono ?_
  rintro e w1 ⟨rfl, hr, hf⟩
  have HR := Lib.hid hr; have HF := Lib.hid hf; clear hr hf
  rw [← HB.out]
  go_wp2_with fail
  refine (xfixed_any q _ xv l s 1 (by omega) (by omega) (H.out.step HR.out HF.out)).mono ?_
  rintro e w2 ⟨rfl, hx, hf2⟩
  have HX := Lib.hid hx; have HF2 := Lib.hid hf2; clear hx hf2
  rw [← HB.out]
  go_wp2
  (try simp only [Exit.inBlock, Exit.then])
  refine bodyPost_ret (results_tmp4 rfl _ _ _) rfl ?_
  refine ⟨_, [], _, none, none, 0, 0, rfl, Nat.zero_le _, Sl.nil _ _, Sl.nil _ _, fun h => by have := H6.out; omega, H.out.step2 HR.out HF2.out, HX.out, fr_sooner ((Fr.refl no w).alloc _) (fr_both HF.out HF2.out)⟩

set_option maxRecDepth 100000 in
set_option maxHeartbeats 1000000 in
theorem reads_1 (w : World) (p q : Nat) (sv xv : Value) (l : List UInt8) (s : RS) (o : OpV) (w0 : World) (ho : o.Good w0) (h8 : o.k % 8 = 1) (h : Both w p q sv xv l s) :
    Calls Try.prog 25 #[.pointer (some ⟨p, 0, none⟩), .pointer (some ⟨q, 0, none⟩), .agg #[.int .u8 o.k, .int .u64 o.v, .int .i64 o.n, o.B]] w fun e w' => RdOut w w' p q sv xv l (o.k % 8 = 6) e := by
  obtain ⟨k, v, n, B, bs⟩ := o
  obtain ⟨hk, hv, hn0, hn1, hB⟩ := ho
  simp only at hk hv hn0 hn1 hB h8 ⊢
  obtain ⟨A, c, rfl, hc1, hc2⟩ := hB.form
  have H := Lib.hid (h.kept0 ((Fr.refl no w).alloc (.cells #[.int .u8 k, .int .u64 v, .int .i64 n, .slice A bs.length c] 69)))
  have e8 : (k : Int) % 8 = 1 := by omega
  have H6 := Lib.hid h8
  have HN := Lib.hid (And.intro hn0 hn1)
  have HNP := Lib.hid (And.intro (show w.heap.size ≠ p from fun e => by have := (four_cells h.rr.1).2.2.2.2.2; omega) (show w.heap.size ≠ q from fun e => by have := (four_cells h.rx.1).2.2.2.2.2; omega))
  have HQ := Lib.hid (four_cells h.rx.1).2.2.2.2.2
  clear h hv hn0 hn1 hB hc1 hc2 h8
  have hbe : (be (s.take l 2).1 : Int) < 65536 := by have h : be (s.take l 2).1 < 256 ^ 2 := be_small l s 2; simp only [Nat.reducePow] at h; omega
  obtain ⟨b, hb⟩ : ∃ b, b = be (s.take l 2).1 := ⟨_, rfl⟩
  rw [← hb] at hbe
  have HB := Lib.hid hb; clear hb
  go_enter Try.func25, Try.ntmps25
  go_wp2_with fail
  refine (ru16_any p _ sv l s H.out.rr).mono ?_
  rintro e w1 ⟨rfl, hr, hf⟩
  have HR := Lib.hid hr; have HF := Lib.hid hf; clear hr hf
  rw [← HB.out]
  go_wp2_with fail
  refine (xfixed_any q _ xv l s 2 (by omega) (by omega) (H.out.step HR.out HF.out)).mono ?_
  rintro e w2 ⟨rfl, hx, hf2⟩
  have HX := Lib.hid hx; have HF2 := Lib.hid hf2; clear hx hf2
  rw [← HB.out]
  go_wp2
  (try simp only [Exit.inBlock, Exit.then])
  refine bodyPost_ret (results_tmp4 rfl _ _ _) rfl ?_
  refine ⟨_, [], _, none, none, 0, 0, rfl, Nat.zero_le _, Sl.nil _ _, Sl.nil _ _, fun h => by have := H6.out; omega, H.out.step2 HR.out HF2.out, HX.out, fr_sooner ((Fr.refl no w).alloc _) (fr_both HF.out HF2.out)⟩

set_option maxRecDepth 100000 in
set_option maxHeartbeats 1000000 in
theorem reads_2 (w : World) (p q : Nat) (sv xv : Value) (l : List UInt8) (s : RS) (o : OpV) (w0 : World) (ho : o.Good w0) (h8 : o.k % 8 = 2) (h : Both w p q sv xv l s) :
    Calls Try.prog 25 #[.pointer (some ⟨p, 0, none⟩), .pointer (some ⟨q, 0, none⟩), .agg #[.int .u8 o.k, .int .u64 o.v, .int .i64 o.n, o.B]] w fun e w' => RdOut w w' p q sv xv l (o.k % 8 = 6) e := by
  obtain ⟨k, v, n, B, bs⟩ := o
  obtain ⟨hk, hv, hn0, hn1, hB⟩ := ho
  simp only at hk hv hn0 hn1 hB h8 ⊢
  obtain ⟨A, c, rfl, hc1, hc2⟩ := hB.form
  have H := Lib.hid (h.kept0 ((Fr.refl no w).alloc (.cells #[.int .u8 k, .int .u64 v, .int .i64 n, .slice A bs.length c] 69)))
  have e8 : (k : Int) % 8 = 2 := by omega
  have H6 := Lib.hid h8
  have HN := Lib.hid (And.intro hn0 hn1)
  have HNP := Lib.hid (And.intro (show w.heap.size ≠ p from fun e => by have := (four_cells h.rr.1).2.2.2.2.2; omega) (show w.heap.size ≠ q from fun e => by have := (four_cells h.rx.1).2.2.2.2.2; omega))
  have HQ := Lib.hid (four_cells h.rx.1).2.2.2.2.2
  clear h hv hn0 hn1 hB hc1 hc2 h8
  have hbe : (be (s.take l 4).1 : Int) < 4294967296 := by have h : be (s.take l 4).1 < 256 ^ 4 := be_small l s 4; simp only [Nat.reducePow] at h; omega
  obtain ⟨b, hb⟩ : ∃ b, b = be (s.take l 4).1 := ⟨_, rfl⟩
  rw [← hb] at hbe
  have HB := Lib.hid hb; clear hb
  go_enter Try.func25, Try.ntmps25
  go_wp2_with fail
  refine (ru32_any p _ sv l s H.out.rr).mono ?_
  rintro e w1 ⟨rfl, hr, hf⟩
  have HR := Lib.hid hr; have HF := Lib.hid hf; clear hr hf
  rw [← HB.out]
  go_wp2_with fail
  refine (xfixed_any q _ xv l s 4 (by omega) (by omega) (H.out.step HR.out HF.out)).mono ?_
  rintro e w2 ⟨rfl, hx, hf2⟩
  have HX := Lib.hid hx; have HF2 := Lib.hid hf2; clear hx hf2
  rw [← HB.out]
  go_wp2
  (try simp only [Exit.inBlock, Exit.then])
  refine bodyPost_ret (results_tmp4 rfl _ _ _) rfl ?_
  refine ⟨_, [], _, none, none, 0, 0, rfl, Nat.zero_le _, Sl.nil _ _, Sl.nil _ _, fun h => by have := H6.out; omega, H.out.step2 HR.out HF2.out, HX.out, fr_sooner ((Fr.refl no w).alloc _) (fr_both HF.out HF2.out)⟩

set_option maxRecDepth 100000 in
set_option maxHeartbeats 1000000 in
theorem reads_3 (w : World) (p q : Nat) (sv xv : Value) (l : List UInt8) (s : RS) (o : OpV) (w0 : World) (ho : o.Good w0) (h8 : o.k % 8 = 3) (h : Both w p q sv xv l s) :
    Calls Try.prog 25 #[.pointer (some ⟨p, 0, none⟩), .pointer (some ⟨q, 0, none⟩), .agg #[.int .u8 o.k, .int .u64 o.v, .int .i64 o.n, o.B]] w fun e w' => RdOut w w' p q sv xv l (o.k % 8 = 6) e := by
  obtain ⟨k, v, n, B, bs⟩ := o
  obtain ⟨hk, hv, hn0, hn1, hB⟩ := ho
  simp only at hk hv hn0 hn1 hB h8 ⊢
  obtain ⟨A, c, rfl, hc1, hc2⟩ := hB.form
  have H := Lib.hid (h.kept0 ((Fr.refl no w).alloc (.cells #[.int .u8 k, .int .u64 v, .int .i64 n, .slice A bs.length c] 69)))
  have e8 : (k : Int) % 8 = 3 := by omega
  have H6 := Lib.hid h8
  have HN := Lib.hid (And.intro hn0 hn1)
  have HNP := Lib.hid (And.intro (show w.heap.size ≠ p from fun e => by have := (four_cells h.rr.1).2.2.2.2.2; omega) (show w.heap.size ≠ q from fun e => by have := (four_cells h.rx.1).2.2.2.2.2; omega))
  have HQ := Lib.hid (four_cells h.rx.1).2.2.2.2.2
  clear h hv hn0 hn1 hB hc1 hc2 h8
  obtain ⟨b, hb⟩ : ∃ b, b = be (s.take l 8).1 := ⟨_, rfl⟩
  have HB := Lib.hid hb; clear hb
  go_enter Try.func25, Try.ntmps25
  go_wp2_with fail
  refine (ru64_any p _ sv l s H.out.rr).mono ?_
  rintro e w1 ⟨rfl, hr, hf⟩
  have HR := Lib.hid hr; have HF := Lib.hid hf; clear hr hf
  rw [← HB.out]
  go_wp2_with fail
  refine (xfixed_any q _ xv l s 8 (by omega) (by omega) (H.out.step HR.out HF.out)).mono ?_
  rintro e w2 ⟨rfl, hx, hf2⟩
  have HX := Lib.hid hx; have HF2 := Lib.hid hf2; clear hx hf2
  rw [← HB.out]
  go_wp2
  (try simp only [Exit.inBlock, Exit.then])
  refine bodyPost_ret (results_tmp4 rfl _ _ _) rfl ?_
  refine ⟨_, [], _, none, none, 0, 0, rfl, Nat.zero_le _, Sl.nil _ _, Sl.nil _ _, fun h => by have := H6.out; omega, H.out.step2 HR.out HF2.out, HX.out, fr_sooner ((Fr.refl no w).alloc _) (fr_both HF.out HF2.out)⟩

set_option maxRecDepth 100000 in
set_option maxHeartbeats 1000000 in
theorem reads_4 (w : World) (p q : Nat) (sv xv : Value) (l : List UInt8) (s : RS) (o : OpV) (w0 : World) (ho : o.Good w0) (h8 : o.k % 8 = 4) (h : Both w p q sv xv l s) :
    Calls Try.prog 25 #[.pointer (some ⟨p, 0, none⟩), .pointer (some ⟨q, 0, none⟩), .agg #[.int .u8 o.k, .int .u64 o.v, .int .i64 o.n, o.B]] w fun e w' => RdOut w w' p q sv xv l (o.k % 8 = 6) e := by
  obtain ⟨k, v, n, B, bs⟩ := o
  obtain ⟨hk, hv, hn0, hn1, hB⟩ := ho
  simp only at hk hv hn0 hn1 hB h8 ⊢
  obtain ⟨A, c, rfl, hc1, hc2⟩ := hB.form
  have H := Lib.hid (h.kept0 ((Fr.refl no w).alloc (.cells #[.int .u8 k, .int .u64 v, .int .i64 n, .slice A bs.length c] 69)))
  have e8 : (k : Int) % 8 = 4 := by omega
  have H6 := Lib.hid h8
  have HN := Lib.hid (And.intro hn0 hn1)
  have HNP := Lib.hid (And.intro (show w.heap.size ≠ p from fun e => by have := (four_cells h.rr.1).2.2.2.2.2; omega) (show w.heap.size ≠ q from fun e => by have := (four_cells h.rx.1).2.2.2.2.2; omega))
  have HQ := Lib.hid (four_cells h.rx.1).2.2.2.2.2
  clear h hv hn0 hn1 hB hc1 hc2 h8
  go_enter Try.func25, Try.ntmps25
  go_wp2_with fail
  refine (rvar_any p _ sv l s H.out.rr).mono ?_
  rintro e w1 ⟨rfl, hr, hf⟩
  have HR := Lib.hid hr; have HF := Lib.hid hf; clear hr hf
  go_wp2_with fail
  refine (xvar_any q _ xv l s (H.out.step HR.out HF.out)).mono ?_
  rintro e w2 ⟨rfl, hx, hf2⟩
  have HX := Lib.hid hx; have HF2 := Lib.hid hf2; clear hx hf2
  go_wp2
  (try simp only [Exit.inBlock, Exit.then])
  refine bodyPost_ret (results_tmp4 rfl _ _ _) rfl ?_
  refine ⟨_, [], _, none, none, 0, 0, rfl, Nat.zero_le _, Sl.nil _ _, Sl.nil _ _, fun h => by have := H6.out; omega, H.out.step2 HR.out HF2.out, HX.out, fr_sooner ((Fr.refl no w).alloc _) (fr_both HF.out HF2.out)⟩

set_option maxRecDepth 100000 in
set_option maxHeartbeats 1000000 in
theorem reads_5 (w : World) (p q : Nat) (sv xv : Value) (l : List UInt8) (s : RS) (o : OpV) (w0 : World) (ho : o.Good w0) (h8 : o.k % 8 = 5) (h : Both w p q sv xv l s) :
    Calls Try.prog 25 #[.pointer (some ⟨p, 0, none⟩), .pointer (some ⟨q, 0, none⟩), .agg #[.int .u8 o.k, .int .u64 o.v, .int .i64 o.n, o.B]] w fun e w' => RdOut w w' p q sv xv l (o.k % 8 = 6) e := by
  obtain ⟨k, v, n, B, bs⟩ := o
  obtain ⟨hk, hv, hn0, hn1, hB⟩ := ho
  simp only at hk hv hn0 hn1 hB h8 ⊢
  obtain ⟨A, c, rfl, hc1, hc2⟩ := hB.form
  have H := Lib.hid (h.kept0 ((Fr.refl no w).alloc (.cells #[.int .u8 k, .int .u64 v, .int .i64 n, .slice A bs.length c] 69)))
  have e8 : (k : Int) % 8 = 5 := by omega
  have H6 := Lib.hid h8
  have HN := Lib.hid (And.intro hn0 hn1)
  have HNP := Lib.hid (And.intro (show w.heap.size ≠ p from fun e => by have := (four_cells h.rr.1).2.2.2.2.2; omega) (show w.heap.size ≠ q from fun e => by have := (four_cells h.rx.1).2.2.2.2.2; omega))
  have HQ := Lib.hid (four_cells h.rx.1).2.2.2.2.2
  clear h hv hn0 hn1 hB hc1 hc2 h8
  go_enter Try.func25, Try.ntmps25
  go_wp2_with fail
  refine (rsigned_any p _ sv l s H.out.rr).mono ?_
  rintro e w1 ⟨rfl, hr, hf⟩
  have HR := Lib.hid hr; have HF := Lib.hid hf; clear hr hf
  go_wp2_with fail
  refine (xsigned_any q _ xv l s (H.out.step HR.out HF.out)).mono ?_
  rintro e w2 ⟨rfl, hx, hf2⟩
  have HX := Lib.hid hx; have HF2 := Lib.hid hf2; clear hx hf2
  go_wp2
  (try simp only [Exit.inBlock, Exit.then])
  refine bodyPost_ret (results_tmp4 rfl _ _ _) rfl ?_
  refine ⟨_, [], _, none, none, 0, 0, rfl, Nat.zero_le _, Sl.nil _ _, Sl.nil _ _, fun h => by have := H6.out; omega, H.out.step2 HR.out HF2.out, HX.out, fr_sooner ((Fr.refl no w).alloc _) (fr_both HF.out HF2.out)⟩

theorem take_short (l : List UInt8) (s : RS) (n : Int) : (s.take l n).1.length ≤ l.length := by
  unfold RS.take
  split
  · simp
  · split
    · simp
    · split
      · simp
      · simp; omega

theorem bytes_fr (w : World) (e : TypeId) (s : ByteArray) : Fr no w (Lib.bytesWorld w e s) :=
  ⟨rfl, rfl, rfl, by rw [Lib.bytesWorld_size]; omega, fun k hk _ => Lib.bytesWorld_at_old w e s k hk⟩

theorem bytes_sl (w : World) (e : TypeId) (l : List UInt8) (h : l.length ≤ 1000000000) : Sl (Lib.bytesWorld w e ⟨l.toArray⟩) 1 (.slice (some ⟨w.heap.size, 0, none⟩) l.length (grownCap w l.length 0 e)) l.length (bvs l) := by
  refine ⟨by rw [bvs_length, Nat.mul_one], .inr ⟨w.heap.size, 0, _, rfl, grownCap_ge _ _ _ _, grownCap_le_maxLen _ _ _ _ (by simp only [maxLen]; omega), fun j u hu => ?_⟩⟩
  have hj := (List.getElem?_eq_some_iff.1 hu).1
  rw [bvs_length] at hj
  rw [bvs_get l j hj] at hu
  cases hu
  rw [Nat.zero_add, Lib.bytesWorld_cell w e ⟨l.toArray⟩ j (by simpa [ByteArray.size] using hj)]
  simp [List.getD, hj]

theorem text_short (l : List UInt8) (s : RS) : (s.text l).1.length ≤ l.length := by
  unfold RS.text
  split
  · simp
  · exact take_short _ _ _


set_option maxRecDepth 100000 in
set_option maxHeartbeats 1000000 in
theorem reads_6 (w : World) (p q : Nat) (sv xv : Value) (l : List UInt8) (s : RS) (o : OpV) (w0 : World) (ho : o.Good w0) (h8 : o.k % 8 = 6) (h : Both w p q sv xv l s) :
    Calls Try.prog 25 #[.pointer (some ⟨p, 0, none⟩), .pointer (some ⟨q, 0, none⟩), .agg #[.int .u8 o.k, .int .u64 o.v, .int .i64 o.n, o.B]] w fun e w' => RdOut w w' p q sv xv l (o.k % 8 = 6) e := by
  obtain ⟨k, v, n, B, bs⟩ := o
  obtain ⟨hk, hv, hn0, hn1, hB⟩ := ho
  simp only at hk hv hn0 hn1 hB h8 ⊢
  obtain ⟨A, c, rfl, hc1, hc2⟩ := hB.form
  have H := Lib.hid (h.kept0 ((Fr.refl no w).alloc (.cells #[.int .u8 k, .int .u64 v, .int .i64 n, .slice A bs.length c] 69)))
  have e8 : (k : Int) % 8 = 6 := by omega
  have H6 := Lib.hid h8
  have HN := Lib.hid (And.intro hn0 hn1)
  have HNP := Lib.hid (And.intro (show w.heap.size ≠ p from fun e => by have := (four_cells h.rr.1).2.2.2.2.2; omega) (show w.heap.size ≠ q from fun e => by have := (four_cells h.rx.1).2.2.2.2.2; omega))
  have HQ := Lib.hid (four_cells h.rx.1).2.2.2.2.2
  clear h hv hn0 hn1 hB hc1 hc2 h8
  go_enter Try.func25, Try.ntmps25
  go_wp2_with fail
  refine wp_region_inv (fun w' => w'.cell? ⟨w.heap.size, 2, none⟩ = some (.int .i64 n)) [0, 1, 2, 4, 5, 6, 3, 7, 8, 9, 10, 11] (fun i => [Kd.p, Kd.p, Kd.m, Kd.e, Kd.p, Kd.p, Kd.m, Kd.e, Kd.p, Kd.p, Kd.p, Kd.p].getD i .e) (by kernel_rfl) (by kernel_rfl) ?_ ?_
  · show World.cell? _ _ = _; unfold World.cell?; simp only [World.drew, heap_alloc_new]; simp
  iterate 2
    first | refine wpX_pu rfl rfl rfl (by first | exact pu_move rfl | exact pu_assign rfl | exact pu_nilCheck rfl rfl | exact pu_binInt rfl rfl rfl | exact pu_conv rfl rfl (by kernel_rfl) | exact pu_fld rfl (by kernel_rfl) | exact pu_ix rfl rfl rfl (by kernel_rfl) | exact pu_unOp rfl | exact pu_binStr rfl rfl rfl | exact pu_len rfl rfl | exact pu_lens rfl rfl | exact pu_pick rfl | exact pu_slice rfl rfl) (fun K hK => ?_) | refine wpX_rd rfl rfl rfl (rd_load rfl) (fun K hK => ?_) | refine wpX_gr rfl rfl rfl (by first | exact gr_buildSlice rfl | exact gr_box rfl | exact gr_alloc rfl) (fun K hK => ?_) | refine wpX_ex rfl rfl rfl (fun K hK => ?_)
    try go_wp2
  refine wpX_md (.int .i64 n) rfl rfl rfl (rd_load rfl) rfl (by simp) (fun w' hI => ?_) ?_
  · replace hI : w'.cell? ⟨w.heap.size, 2, none⟩ = some (.int .i64 n) := hI
    go_wp2
  go_simp
  iterate 2
    first | refine wpX_pu rfl rfl rfl (by first | exact pu_move rfl | exact pu_assign rfl | exact pu_nilCheck rfl rfl | exact pu_binInt rfl rfl rfl | exact pu_conv rfl rfl (by kernel_rfl) | exact pu_fld rfl (by kernel_rfl) | exact pu_ix rfl rfl rfl (by kernel_rfl) | exact pu_unOp rfl | exact pu_binStr rfl rfl rfl | exact pu_len rfl rfl | exact pu_lens rfl rfl | exact pu_pick rfl | exact pu_slice rfl rfl) (fun K hK => ?_) | refine wpX_rd rfl rfl rfl (rd_load rfl) (fun K hK => ?_) | refine wpX_gr rfl rfl rfl (by first | exact gr_buildSlice rfl | exact gr_box rfl | exact gr_alloc rfl) (fun K hK => ?_) | refine wpX_ex rfl rfl rfl (fun K hK => ?_)
    try go_wp2
  refine wpX_md (.int .i64 n) rfl rfl rfl (rd_load rfl) rfl (by simp) (fun w' hI => ?_) ?_
  · replace hI : w'.cell? ⟨w.heap.size, 2, none⟩ = some (.int .i64 n) := hI
    go_wp2
  go_simp
  refine wpX_es rfl rfl rfl (fun K hK => ?_)
  go_wp2_with fail
  refine (rraw_any p _ sv l s n HN.out.1 (H.out.kept0 (Fr.refl no _).drew).rr).mono ?_
  rintro e w1 ⟨A1, rfl, ho, hfr, hr, hf⟩
  have HR := Lib.hid hr; have HF := Lib.hid hf; have HO := Lib.hid ho; have HFR := Lib.hid hfr; clear hr hf ho hfr
  have hcell : w1.cell? ⟨w.heap.size, 2, none⟩ = some (.int .i64 n) := HF.out.cell (a := ⟨w.heap.size, 2, none⟩) (by unfold World.cell?; simp only [World.drew, heap_alloc_new]; simp) (fun h => HNP.out.1 h)
  have HC := Lib.hid hcell; clear hcell
  go_wp2
  refine hK _ _ HC.out ?_
  clear hK K
  refine wpX_es rfl rfl rfl (fun K hK => ?_)
  go_wp2_with fail
  refine (xraw_any q _ xv l s n HN.out.1 ((H.out.kept0 (Fr.refl no _).drew).step HR.out HF.out)).mono ?_
  rintro e w2 ⟨A2, c2, rfl, hs2, hfb, hx, hf2⟩
  have HFB := Lib.hid hfb; clear hfb
  have HX := Lib.hid hx; have HF2 := Lib.hid hf2; have HS2 := Lib.hid hs2; clear hx hf2 hs2
  have hcell : w2.cell? ⟨w.heap.size, 2, none⟩ = some (.int .i64 n) := HF2.out.cell (a := ⟨w.heap.size, 2, none⟩) HC.out (fun h => HNP.out.2 h)
  have HC2 := Lib.hid hcell; clear hcell
  go_wp2
  refine hK _ _ HC2.out ?_
  clear hK K
  iterate 4
    first | refine wpX_pu rfl rfl rfl (by first | exact pu_move rfl | exact pu_assign rfl | exact pu_nilCheck rfl rfl | exact pu_binInt rfl rfl rfl | exact pu_conv rfl rfl (by kernel_rfl) | exact pu_fld rfl (by kernel_rfl) | exact pu_ix rfl rfl rfl (by kernel_rfl) | exact pu_unOp rfl | exact pu_binStr rfl rfl rfl | exact pu_len rfl rfl | exact pu_lens rfl rfl | exact pu_pick rfl | exact pu_slice rfl rfl) (fun K hK => ?_) | refine wpX_rd rfl rfl rfl (rd_load rfl) (fun K hK => ?_) | refine wpX_gr rfl rfl rfl (by first | exact gr_buildSlice rfl | exact gr_box rfl | exact gr_alloc rfl) (fun K hK => ?_) | refine wpX_ex rfl rfl rfl (fun K hK => ?_)
    try go_wp2
  refine wpX_done ?_
  go_wp2
  (try simp only [Exit.inBlock, Exit.then])
  refine bodyPost_ret (results_tmp4 rfl _ _ _) rfl ?_
  have hnew : ∀ k, (Value.slice A1 (s.take l n).1.length (s.take l n).1.length).ownBlock = some k → w.heap.size + 1 ≤ k := fun k hk => by have := HFR.out k hk; simpa using this
  have hnq : ∀ k, (Value.slice A1 (s.take l n).1.length (s.take l n).1.length).ownBlock = some k → ¬ At q k := fun k hk e => by
    have := hnew k hk; have : k = q := e; have := HQ.out; omega
  refine ⟨_, (s.take l n).1, 0, A1, A2, _, c2, rfl, ?_, (HO.out.kept HF2.out hnq).sl, HS2.out, fun _ => ⟨rfl, HO.out.kept HF2.out hnq, fun k hk => by have := hnew k hk; omega, fun k hk => by have := HFB.out k hk; have := HF.out.size; simp at this; omega⟩, H.out.step2 HR.out HF2.out, HX.out, fr_sooner ((Fr.refl no w).alloc _) (fr_sooner ((Fr.refl no _).drew) (fr_both HF.out HF2.out))⟩
  have := take_short l s n; have := HR.out.2.2.2.2.1; omega

set_option maxRecDepth 100000 in
set_option maxHeartbeats 1000000 in
theorem reads_7 (w : World) (p q : Nat) (sv xv : Value) (l : List UInt8) (s : RS) (o : OpV) (w0 : World) (ho : o.Good w0) (h8 : o.k % 8 = 7) (h : Both w p q sv xv l s) :
    Calls Try.prog 25 #[.pointer (some ⟨p, 0, none⟩), .pointer (some ⟨q, 0, none⟩), .agg #[.int .u8 o.k, .int .u64 o.v, .int .i64 o.n, o.B]] w fun e w' => RdOut w w' p q sv xv l (o.k % 8 = 6) e := by
  obtain ⟨k, v, n, B, bs⟩ := o
  obtain ⟨hk, hv, hn0, hn1, hB⟩ := ho
  simp only at hk hv hn0 hn1 hB h8 ⊢
  obtain ⟨A, c, rfl, hc1, hc2⟩ := hB.form
  have H := Lib.hid (h.kept0 ((Fr.refl no w).alloc (.cells #[.int .u8 k, .int .u64 v, .int .i64 n, .slice A bs.length c] 69)))
  have e8 : (k : Int) % 8 = 7 := by omega
  have H6 := Lib.hid h8
  have HN := Lib.hid (And.intro hn0 hn1)
  have HNP := Lib.hid (And.intro (show w.heap.size ≠ p from fun e => by have := (four_cells h.rr.1).2.2.2.2.2; omega) (show w.heap.size ≠ q from fun e => by have := (four_cells h.rx.1).2.2.2.2.2; omega))
  have HQ := Lib.hid (four_cells h.rx.1).2.2.2.2.2
  clear h hv hn0 hn1 hB hc1 hc2 h8
  have hcv := fun (w' : World) (t : ByteArray) => Lib.run_convert_string_bytes (P := Try.prog) w' 9 22 5 t (u := .string) (by kernel_rfl) (by kernel_rfl) (by kernel_rfl)
  go_enter Try.func25, Try.ntmps25
  go_wp2_with fail
  refine (rtext_any p _ sv l s H.out.rr).mono ?_
  rintro e w1 ⟨rfl, hr, hf⟩
  have HR := Lib.hid hr; have HF := Lib.hid hf; clear hr hf
  go_wp2_with fail
  refine (xtext_any q _ xv l s ((H.out.step HR.out HF.out).kept (bytes_fr _ _ _) (fun h => h) (fun _ _ h => h))).mono ?_
  rintro e w2 ⟨rfl, hx, hf2⟩
  have HX := Lib.hid hx; have HF2 := Lib.hid hf2; clear hx hf2
  go_wp2
  (try simp only [Exit.inBlock, Exit.then])
  refine bodyPost_ret (results_tmp4 rfl _ _ _) rfl ?_
  have f2 := fr_sooner (bytes_fr w1 5 ⟨(s.text l).1.toArray⟩) HF2.out
  have hs1 := bytes_sl w1 5 (s.text l).1 (by have := text_short l s; have := HR.out.2.2.2.2.1; omega)
  have hs2 := bytes_sl w2 5 (s.text l).1 (by have := text_short l s; have := HR.out.2.2.2.2.1; omega)
  have hw1 := HF.out.size
  refine ⟨_, (s.text l).1, 0, _, _, _, _, rfl, ?_, (hs1.kept HF2.out (fun k hk e => ?_)).kept0 (bytes_fr _ _ _), hs2, fun h => by have := H6.out; omega, (H.out.step2 HR.out f2).kept (bytes_fr _ _ _) (fun h => h) (fun _ _ h => h), HX.out.kept (bytes_fr _ _ _) (fun h => h) (fun _ _ h => h), fr_sooner ((Fr.refl no w).alloc _) ((fr_both HF.out f2).trans (bytes_fr w2 5 ⟨(s.text l).1.toArray⟩) (fun _ _ h => h.elim))⟩
  · have := text_short l s; have := HR.out.2.2.2.2.1; omega
  · have h1 : w1.heap.size = k := by simpa [Value.ownBlock] using hk
    have h2 : k = q := e
    have := HQ.out
    simp at hw1
    omega
end Go.Proofs.Ytomnhblecnbmaaa
