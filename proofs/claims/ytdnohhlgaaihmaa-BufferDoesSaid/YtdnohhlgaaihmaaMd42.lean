import Derived.Test.YtdnohhlgaaihmaaMd40
import Derived.Test.YtdnohhlgaaihmaaMd34
import Derived.Test.YtdnohhlgaaihmaaMd41
import Derived.Test.YtdnohhlgaaihmaaMd05
import Derived.ProofKit
import Derived.ChangeMaps5
import Derived.OpenShut
import Derived.Test.YtdnohhlgaaihmaaRows
import Derived.WalkKit
import Derived.ChangeOld
import Derived.Below
import Derived.SizedLaws

/- law16: BufferDoes, from what came in. -/
namespace Go.Proofs.Ytdnohhlgaaihmaa
open Go.RowKit

theorem TolC.inc {w0 w w1 : World} {ov : Value} {os l : List SpV} (h : TolC w0 w ov os) (hp : os.map (fun x => (x.f, x.t, x.o)) = l.map (fun x => (x.f, x.t, x.o))) (hg : ∀ x ∈ l, x.Good w1) : InChanges w ov os := by
  have hgd := h.goods hp hg
  exact ⟨h.row, h.own, fun x hx => ⟨by obtain ⟨A, e⟩ := (h.form x hx).1; exact ⟨A, _, e⟩, by obtain ⟨A, e⟩ := (h.form x hx).2; exact ⟨A, _, e⟩⟩, fun x hx => ⟨(hgd x hx).lf, (hgd x hx).lt⟩, h.ne, h.ft, h.pw⟩

/-- An empty book. -/
theorem bc_nil {w : World} {b : Nat} (h : w.heap[b]? = some (.cells (cells23 fun _ => .slice none 0 0) 87 (0, 0))) : Bc w b (fun _ => .slice none 0 0) (fun _ => []) := by
  refine ⟨⟨h, fun i _ => ow_nil _ _ _, fun i _ => ⟨rfl, rfl⟩, fun i => by simp [Value.ownBlock], fun i j _ k hk => by simp [Value.ownBlock] at hk⟩, fun i v hv => (nomatch hv), fun i => List.Pairwise.nil, fun i j _ v hv => (nomatch hv), fun i v hv => (nomatch hv)⟩

set_option maxRecDepth 100000 in
set_option maxHeartbeats 16000000 in
theorem runs_walk (hdoes : ∀ (w0 w : World) (p g b : Nat) (lv uv sv ov : Value) (l L : List SpV) (us : List Und) (V : Nat → Value) (R : Nat → List Value) (U : Nat → Prop) (pr : List PrV) (o : OpB) (_ : Fr no w0 w) (_ : Dz w p lv uv l us g sv L b V R U w0.heap.size)
    (_ : Pairs w ov pr) (_ : ∀ k, (ov.ownBlock = some k ∨ ∃ y ∈ pr, y.K.ownBlock = some k ∨ y.V.ownBlock = some k) → U k) (_ : RisP pr) (_ : pr.length ≤ 200) (_ : o.Good w0) (_ : o.kb.length ≤ 30000 ∧ o.vb.length ≤ 30000) (_ : us.length ≤ 1000) (_ : ∀ i, (R i).length ≤ 50000),
    Calls Try.prog 34 #[.pointer (some ⟨p, 0, none⟩), .pointer (some ⟨g, 0, none⟩), ov, .agg #[.int .u8 o.k, o.K, o.V, .bool o.i, .int .i64 o.n], .pointer (some ⟨b, 0, none⟩)] w fun e w' => DoesP w w' p us g b R U w0.heap.size e)
    (w : World) (U X : Value) (ps : List PrV) (l : List OpB) (hu : Pairs w U ps) (hps : ps.length ≤ 200) (hx : OpsB w X l) (ho : over16 l = false) :
    Calls Try.prog 7 #[U, X] w fun e w' => e = .returned (.bool true) ∧ Fr no w w' := by
  obtain ⟨n1, n2⟩ := over16_short ho
  obtain ⟨UA, Uc, rfl, hUc, _⟩ := hu.sl.form
  obtain ⟨A, c, rfl, hc1, _⟩ := hx.sl.form
  have d1 : decide ((200 : Int) < (ps.length : Int)) = false := decide_eq_false (by omega)
  have HU := Lib.hid hu; have HX := Lib.hid hx; have HO := Lib.hid ho; have HS := Lib.hid n2; have HDO := Lib.hid hdoes; clear hu hx ho n2 hdoes
  go_enter Try.func7, Try.ntmps7
  go_wp2_with fail
  refine (much16_any w _ l HX.out).mono ?_
  rintro e w1 ⟨rfl, f1⟩
  rw [HO.out]
  have F1 := Lib.hid f1; clear f1
  go_wp2_with fail
  refine (bnew_any w1).mono ?_
  rintro e w2 ⟨p, rfl, hp, hb, f2⟩
  have F2 := Lib.hid (F1.out.trans f2 (fun _ _ h => h)); have HB := Lib.hid hb; have HPB := Lib.hid (show w.heap.size ≤ p by have := F1.out.size; omega); clear f2 hb hp
  go_wp2_with fail
  refine (known16_any w2).mono ?_
  rintro e w3 ⟨rfl, f3⟩
  have F3 := Lib.hid (F2.out.trans f3 (fun _ _ h => h)); have HB3 := Lib.hid (HB.out.kept0 f3); clear f3
  go_wp2_with fail
  refine (rising_any w3 _ ps (HU.out.kept0 F3.out) (by omega)).mono ?_
  rintro e w4 ⟨ov, L0, rfl, hpt, hLl, -, f4⟩
  have hR : (riseL L0).length ≤ 200 := by have := riseL_len L0; omega
  have hRr := rise_risP L0
  generalize riseL L0 = Q at hpt hR hRr
  obtain ⟨OA, oc, rfl, _, _⟩ := hpt.row.sl.form
  have F4 := Lib.hid (F3.out.trans f4 (fun _ _ h => h)); have HB4 := Lib.hid (HB3.out.kept0 f4); have HPT := Lib.hid hpt; have HRR := Lib.hid hRr; clear f4 hpt hLl hRr
  go_wp2_with fail
  obtain ⟨e1, e2, f5⟩ := two_new w4 32 87 [.slice none 0 0] [.slice none 0 0, .slice none 0 0, .slice none 0 0, .slice none 0 0, .slice none 0 0, .slice none 0 0, .slice none 0 0, .slice none 0 0, .slice none 0 0, .slice none 0 0, .slice none 0 0, .slice none 0 0, .slice none 0 0, .slice none 0 0, .slice none 0 0, .slice none 0 0, .slice none 0 0, .slice none 0 0, .slice none 0 0, .slice none 0 0, .slice none 0 0, .slice none 0 0, .slice none 0 0]
  generalize hg : w4.heap.size = g at e1 e2 ⊢
  generalize (w4.alloc (.cells #[.slice none 0 0] 32)).alloc (.cells #[.slice none 0 0, .slice none 0 0, .slice none 0 0, .slice none 0 0, .slice none 0 0, .slice none 0 0, .slice none 0 0, .slice none 0 0, .slice none 0 0, .slice none 0 0, .slice none 0 0, .slice none 0 0, .slice none 0 0, .slice none 0 0, .slice none 0 0, .slice none 0 0, .slice none 0 0, .slice none 0 0, .slice none 0 0, .slice none 0 0, .slice none 0 0, .slice none 0 0, .slice none 0 0] 87) = w5 at e1 e2 f5 ⊢
  have hg1 := Nat.le_of_eq hg
  have hse : ∀ k, SeF g (.slice none 0 0) [] k → k = g := fun k hk => by
    rcases hk with hk | hk | ⟨_, h, _⟩
    · exact hk
    · simp [Value.ownBlock] at hk
    · cases h
  have hbc : ∀ k, BcF (g + 1) (fun _ => .slice none 0 0) (fun _ => []) k → k = g + 1 := fun k hk => by
    rcases hk with hk | ⟨_, hk⟩ | ⟨_, _, h, _⟩
    · exact hk
    · simp [Value.ownBlock] at hk
    · cases h
  have hbf : ∀ k, BfF p (.slice none 0 0) [] (.slice none 0 0) [] k → k = p := fun k hk => by
    rcases hk with hk | hk | hk | ⟨_, h, _⟩ | ⟨_, h, _⟩
    · exact hk
    · simp [Value.ownBlock] at hk
    · simp [Value.ownBlock] at hk
    · cases h
    · cases h
  have hp3 : p < w3.heap.size := HB3.out.lt p (.inl rfl)
  have hp4 : p < w4.heap.size := HB4.out.lt p (.inl rfl)
  have hpw := HPB.out
  have hsz := F4.out.size
  have hs5 := f5.size
  have hnew := HPT.out.new
  have hdz : Dz w5 p (.slice none 0 0) (.slice none 0 0) [] [] g (.slice none 0 0) [] (g + 1) (fun _ => .slice none 0 0) (fun _ => []) (fun k => (Value.slice OA Q.length oc).ownBlock = some k ∨ ∃ y ∈ Q, y.K.ownBlock = some k ∨ y.V.ownBlock = some k) w.heap.size :=
    ⟨HB4.out.kept0 f5, ⟨e1, ow_nil _ _ _, (fun _ h => nomatch h), by simp [Value.ownBlock], (fun _ h => nomatch h)⟩, bc_nil e2, Sync.nil,
      fun k h1 h2 => by have := hbf k h1; have := hse k h2; omega, fun k h1 h2 => by have := hbf k h1; have := hbc k h2; omega, fun k h1 h2 => by have := hse k h1; have := hbc k h2; omega,
      fun k h1 h2 => by have := hbf k h1; have := hnew k h2; omega, fun k h1 h2 => by have := hse k h1; have := hnew k h2; omega, fun k h1 h2 => by have := hbc k h1; have := hnew k h2; omega,
      fun k hk => by
        rcases hk with hk | hk | hk
        · have := hbf k hk; omega
        · have := hse k hk; omega
        · have := hbc k hk; omega, fun k hk => by have := hnew k hk; omega, Nat.le_refl _⟩
  have HDZ := Lib.hid hdz; have F5 := Lib.hid (F4.out.trans f5 (fun _ _ h => h)); have HP5 := Lib.hid ((HPT.out.pairs (by omega)).kept0 f5)
  have hUU : ∀ k, ((Value.slice OA Q.length oc).ownBlock = some k ∨ ∃ y ∈ Q, y.K.ownBlock = some k ∨ y.V.ownBlock = some k) → (fun k => (Value.slice OA Q.length oc).ownBlock = some k ∨ ∃ y ∈ Q, y.K.ownBlock = some k ∨ y.V.ownBlock = some k) k := fun _ h => h
  generalize (fun k => (Value.slice OA Q.length oc).ownBlock = some k ∨ ∃ y ∈ Q, y.K.ownBlock = some k ∨ y.V.ownBlock = some k) = UU at HDZ hUU
  have HUU := Lib.hid hUU
  clear hUU hdz hg hg1 hse hbc hbf hp3 hp4 hpw hsz hs5 hnew e1 e2 f5 HB3 HB4 HB HPT HPB F1 F2 F3 F4
  go_loopw [9] (fun i wr => ∃ (j : Nat) (lv uv : Value) (bl : List SpV) (us : List Und) (sv : Value) (L : List SpV) (V : Nat → Value) (R : Nat → List Value), j ≤ l.length ∧ i = .int .i64 j ∧ Dz wr p lv uv bl us g sv L (g + 1) V R UU w.heap.size ∧ us.length ≤ j ∧ (∀ i, (R i).length ≤ 6 * j) ∧ Fr (DzS w.heap.size UU) w5 wr) (fun i _ => l.length - (intOf i).toNat)
  case atStart => exact ⟨0, _, _, _, _, _, _, _, _, Nat.zero_le _, rfl, HDZ.out, Nat.le_refl _, fun i => Nat.le_refl _, Fr.refl _ _⟩
  case round =>
    obtain ⟨j, lv, uv, bl, us, sv, L, V, R, hj, rfl, hd, hus, hRl, hf⟩ := hrel
    have HD := Lib.hid hd; have HRL := Lib.hid hRl; have HF := Lib.hid hf
    have FW := Lib.hid (F5.out.trans hf (fun k hk e => by have e1 : w.heap.size ≤ k := e.1; omega))
    have hbl := hd.len
    clear hd hRl hf
    by_cases hlt : j < l.length
    · obtain ⟨xb, xo, KA, kc, VA, vc, hA, -, q0, q1, q2, q3, q4, hk, hv⟩ := HX.out.at j hlt
      have hgo := HX.out.good l[j] (List.getElem_mem _)
      have HGO := Lib.hid (show OpB.Good w ⟨l[j].k, .slice KA l[j].kb.length kc, .slice VA l[j].vb.length vc, l[j].kb, l[j].vb, l[j].i, l[j].n⟩ from ⟨hgo.k, hk, hv, hgo.n0, hgo.n1, hgo.lk, hgo.lv⟩)
      have q0 := FW.out.cell q0 (fun h => h); have q1 := FW.out.cell q1 (fun h => h); have q2 := FW.out.cell q2 (fun h => h); have q3 := FW.out.cell q3 (fun h => h); have q4 := FW.out.cell q4 (fun h => h)
      have hss : l[j].kb.length ≤ 30000 ∧ l[j].vb.length ≤ 30000 := by have := HS.out l[j] (List.getElem_mem _); omega
      have HSS := Lib.hid hss
      subst hA
      clear hgo hk hv hss
      go_wp2_with fail
      refine (HDO.out w wr p g (g + 1) lv uv sv (.slice OA Q.length oc) bl L us V R UU Q ⟨l[j].k, .slice KA l[j].kb.length kc, .slice VA l[j].vb.length vc, l[j].kb, l[j].vb, l[j].i, l[j].n⟩ FW.out HD.out (HP5.out.kept HF.out (fun k hk e => e.2 (HUU.out k (.inl hk))) (fun y hy k hk e => e.2 (HUU.out k (.inr ⟨y, hy, hk⟩)))) HUU.out HRR.out hR HGO.out HSS.out (by omega) (fun i => by have := HRL.out i; omega)).mono ?_
      rintro e w6 ⟨rfl, lv2, uv2, bl2, us2, sv2, L2, V2, R2, hd2, f2, hu2, hr2⟩
      have HD2 := Lib.hid hd2; have F26 := Lib.hid f2; have HR2 := Lib.hid hr2
      clear hd2 f2 hr2 q0 q1 q2 q3 q4
      go_wp2
      go_roundw
      case rel => exact ⟨j + 1, lv2, uv2, bl2, us2, sv2, L2, V2, R2, hlt, by go_num, HD2.out, by omega, fun i => by have := HRL.out i; have := HR2.out i; omega, HF.out.trans F26.out (fun _ _ h => h)⟩
      case measure => simp [intOf]; omega
    · have d5 : decide ((j : Int) < (l.length : Int)) = false := decide_eq_false (by omega)
      go_wp2_with fail
      refine (changes_any wr p lv uv bl us HD.out.bf (by omega)).mono ?_
      rintro e w6 ⟨CA, os, rfl, ht, hpr, f6⟩
      have hol : os.length = bl.length := by have := congrArg List.length hpr; simpa using this
      have HOL := Lib.hid hol; clear hol
      have HT := Lib.hid ht; have HPR := Lib.hid hpr; have F6 := Lib.hid f6; have HIN := Lib.hid (ht.inc hpr HD.out.bf.good); have HD6 := Lib.hid (HD.out.kept0 f6); have HGD := Lib.hid (ht.goods hpr HD.out.bf.good); have HNW := Lib.hid (show ∀ k, InChangesF (.slice CA os.length os.length) os k → wr.heap.size ≤ k from fun k hk => ht.new k hk)
      clear ht hpr f6
      go_wp2_with fail
      refine (bc_Changes w6 (g + 1) V R _ os HD6.out.bc (fun i => by have := HRL.out i; omega) HIN.out (by have := HOL.out; omega) (fun k hk e => by have h1 := HNW.out k hk; have h2 := HD.out.bc.lt k e; omega)).mono ?_
      rintro e w7 hgr
      obtain ⟨rfl, Vz, Rz, hd7, -, hr7, fb7, -⟩ := HD6.out.book (by have := FW.out.size; have := F6.out.size; omega) (fun k hk => by
        have h1 := HNW.out k hk; have h2 := FW.out.size; have h4 := HD.out.ul
        exact ⟨by omega, fun e => by have := HD.out.bf.lt k e; omega, fun e => by have := HD.out.rf.lt k e; omega, fun e => by have := h4 k e; omega⟩) hgr
      have HD7 := Lib.hid hd7; have HR7 := Lib.hid hr7; have FB7 := Lib.hid fb7; have HT7 := Lib.hid (HT.out.kept fb7 (fun k hk => HD.out.bc.lt k hk))
      clear hgr hd7 hr7 fb7
      go_wp2_with fail
      refine (rchanges_any w7 g sv L HD7.out.rf (by have := HD.out.sy.1; omega)).mono ?_
      rintro e w8 ⟨ov2, rfl, h1, h2, f8⟩
      obtain ⟨C2, cc2, rfl, _, _⟩ := h1.form
      have H8 := Lib.hid h1.sl; have F8 := Lib.hid f8
      clear h1 h2 f8
      go_wp2_with fail
      refine (samech_any w8 _ _ os (chgL L) ((HT7.out.kept0 F8.out).row.sl) H8.out ((HT7.out.kept0 F8.out).goods HPR.out HD.out.bf.good) (fun z hz => (chg_good HD7.out.rf z hz).kept0 F8.out) (by have := HOL.out; omega)).mono ?_
      rintro e w9 ⟨rfl, f9⟩
      rw [decide_eq_true (show os.map SpV.pr = (chgL L).map SpV.pr from (show os.map SpV.pr = bl.map SpV.pr from HPR.out).trans HD.out.sy.now)]
      have F9 := Lib.hid (F8.out.trans f9 (fun _ _ h => h)); clear f9
      go_wp2_with fail
      refine (bc_own w9 (g + 1) Vz Rz (HD7.out.kept0 F9.out).bc (fun i => by have := HRL.out i; have h9 : (Rz i).length ≤ (R i).length + (2 * os.length + 1) := HR7.out i; have := HOL.out; omega)).mono ?_
      rintro e wz ⟨rfl, fz⟩
      have FZ := Lib.hid fz; clear fz
      go_wp2
      go_ret
      have hlo := HD7.out.lo
      have hlb := HD.out.lo
      exact ⟨rfl, (((FW.out.trans F6.out (fun _ _ h => h)).trans FB7.out (fun k hk e => by have := hlb k (.inr (.inr e)); omega)).trans F9.out (fun _ _ h => h)).trans FZ.out (fun k hk e => by
        obtain ⟨i, _, e2⟩ := e
        have := hlo k (.inr (.inr (.inr (.inr ⟨i, e2⟩)))); omega)⟩
end Go.Proofs.Ytdnohhlgaaihmaa

/- law16: BufferDoes of more than is looked at. -/
namespace Go.Proofs.Ytdnohhlgaaihmaa
open Go.RowKit
set_option maxRecDepth 100000 in
set_option maxHeartbeats 4000000 in
theorem does_over (w : World) (U X : Value) (n : Nat) (xs : List Value) (l : List OpB) (hu : Sl w 2 U n xs) (hx : OpsB w X l) (h : over16 l = true ∨ 200 < n) :
    Calls Try.prog 7 #[U, X] w fun e w' => e = .returned (.bool true) ∧ Fr no w w' := by
  obtain ⟨UA, Uc, rfl, hUc, hUm⟩ := hu.form
  obtain ⟨A, c, rfl, hc1, _⟩ := hx.sl.form
  unfold maxLen at hUm
  have HX := Lib.hid hx; clear hu hx
  rcases ho : over16 l with _ | _
  · have HO := Lib.hid ho; clear ho
    have h1 : 200 < n := by rcases h with h | h; rw [HO.out] at h; cases h; exact h
    have d1 : decide ((200 : Int) < (n : Int)) = true := decide_eq_true (by omega)
    clear h h1
    go_enter Try.func7, Try.ntmps7
    go_wp2_with fail
    refine (much16_any w _ l HX.out).mono ?_
    rintro e w1 ⟨rfl, f1⟩
    rw [HO.out]
    have F1 := Lib.hid f1; clear f1
    go_wp2
    go_ret
    exact ⟨rfl, F1.out⟩
  · have HO := Lib.hid ho; clear ho h
    go_enter Try.func7, Try.ntmps7
    go_wp2_with fail
    refine (much16_any w _ l HX.out).mono ?_
    rintro e w1 ⟨rfl, f1⟩
    rw [HO.out]
    have F1 := Lib.hid f1; clear f1
    go_wp2
    go_ret
    exact ⟨rfl, F1.out⟩

theorem does_walk (w : World) (U X : Value) (ps : List PrV) (l : List OpB) (hu : Pairs w U ps) (hps : ps.length ≤ 200) (hx : OpsB w X l) (ho : over16 l = false) :
    Calls Try.prog 7 #[U, X] w fun e w' => e = .returned (.bool true) ∧ Fr no w w' := runs_walk does_any w U X ps l hu hps hx ho
end Go.Proofs.Ytdnohhlgaaihmaa

/- Arguments that are bools, texts and small numbers, opened. -/
namespace Go.Proofs.Ytdnohhlgaaihmaa
open Go.RowKit Go.WideShapes
theorem open_bool_row {H : Type} {enc : TypeId × Value → H} {P : Program} {w : World} {base : Nat} {sp : Nat → Bool} {held : Bool} {r : Reach} {b0 : Nat} {t : TypeId} {v : Value} {d : DataW H} {ps : List MemPlace} (ht : P.underlying t = some .bool) (hval : Value.okWide P w r b0 t v) (hd : DataW.Trod enc P w base sp held t v d ps) :
    ∃ b, v = .bool b ∧ d = .lit (.bool b) ∧ ps = [] := by
  obtain ⟨b, rfl⟩ := okWide_bool ht hval
  obtain ⟨fuel, hf⟩ := hd
  obtain ⟨b', h, hx⟩ := DataW.trod_bool ht hf
  simp [Value.cells] at h
  subst h
  simp only [Prod.mk.injEq] at hx
  exact ⟨b, rfl, hx.1, hx.2⟩
theorem u16_of_wf {n : Int} (h : (Lit.int .u16 n).wf = true) : 0 ≤ n ∧ n < 65536 := by
  simp only [Lit.wf, Bool.and_eq_true, IntKind.min, IntKind.max, IntKind.signed, IntKind.bits] at h
  simp at h
  omega
theorem u32_of_wf {n : Int} (h : (Lit.int .u32 n).wf = true) : 0 ≤ n ∧ n < 4294967296 := by
  simp only [Lit.wf, Bool.and_eq_true, IntKind.min, IntKind.max, IntKind.signed, IntKind.bits] at h
  simp at h
  omega
end Go.Proofs.Ytdnohhlgaaihmaa

/- BufferDoes holds, for every input. No condition. -/
namespace Go.Proofs.Ytdnohhlgaaihmaa
open Go.ChangeShapes Go.WideShapes Go.ChangeAt Go.RowKit
namespace RBufferDoes
theorem own : ownKnob Try.prog.godebug = none := by kernel_rfl
theorem laidOut : laidOutB Try.prog = true := by kernel_rfl

set_option maxRecDepth 100000 in
theorem lifted (os : Os) (started : os.Started) (H : Type) (enc : TypeId × Value → H) :
    ReturnsInHanded {} Try.checked os 7 .any (Rows.bufferDoesSpec.pre6 enc Try.prog Try.f7 Rows.bufferDoesRow.domain false) (Rows.bufferDoesSpec.post enc Try.prog Try.f7 false true false false) := by
  refine returnsInHanded_of_change_sized (C := Try.checked) own started (by kernel_rfl) Try.func7
    (ChangeSpec.witness6 (enc := enc) (C := Try.checked) false ⟨#[], #[.slice none 0 0, .slice none 0 0], []⟩ 8 (by kernel_rfl) (by kernel_rfl) (by kernel_rfl) (by kernel_rfl)) ?_
  intro W base args ds gs before hval0 hW hcnd hsz0 _
  have hval : ∀ (j : Nat) t v, Try.f7.params[j]? = some t → args[j]? = some v → Value.okWide Try.prog W .any base t v := hval0
  have hW' := hW
  obtain ⟨p, q, hA0, hV, rfl, hfz, hnd⟩ := hW
  have hA : DataW.TrodAll enc Try.prog W 0 (fun _ => true) true Try.f7.params.toList args.toList ds p := hA0
  have hsz : (DataW.weightsEach Try.prog (Try.f7.params.toList ++ Rows.bufferDoesSpec.plain.varTypes Try.prog) (ds ++ gs)).all (· ≤ reachBytes) = true := hsz0
  have hTd : ∀ (j : Nat) t v, Try.f7.params.toList[j]? = some t → args.toList[j]? = some v → Td Try.prog W t v.cells.toList := fun j t v h1 h2 => Td.arg hA hsz j t v h1 h2
  clear hsz hsz0
  rw [Try.params7] at hA hval hTd
  obtain ⟨v0, vs0, d0, ds0, p0, q0, hargs, rfl, rfl, h0, r0⟩ := trodAll_cons hA
  obtain ⟨v1, vs1, d1, ds1, p1, q1, rfl, rfl, rfl, h1, r1⟩ := trodAll_cons r0
  obtain ⟨rfl, rfl, rfl⟩ := trodAll_nil r1
  obtain rfl : args = #[v0, v1] := by cases args; simp_all
  obtain ⟨rfl, rfl⟩ := trodVars_none hV
  obtain ⟨a0, n0, c0, rfl⟩ := okWide_slice Try.underlying22 (hval 0 22 v0 rfl rfl)
  have lt0 : ∀ x ∈ p0, x.block < W.heap.size := by obtain ⟨m, hm⟩ := h0; exact DataW.trod_lt m _ _ _ hm
  have lo0 : ∀ k, (Value.slice a0 n0 c0).ownBlock = some k → k < W.heap.size := okWide_lt Try.underlying22 (hval 0 22 _ rfl rfl)
  have td0 : Td Try.prog W 22 [.slice a0 n0 c0] := hTd 0 22 _ rfl rfl
  obtain ⟨a1, n1, c1, rfl⟩ := okWide_slice Try.underlying23 (hval 1 23 v1 rfl rfl)
  have lt1 : ∀ x ∈ p1, x.block < W.heap.size := by obtain ⟨m, hm⟩ := h1; exact DataW.trod_lt m _ _ _ hm
  have lo1 : ∀ k, (Value.slice a1 n1 c1).ownBlock = some k → k < W.heap.size := okWide_lt Try.underlying23 (hval 1 23 _ rfl rfl)
  have td1 : Td Try.prog W 23 [.slice a1 n1 c1] := hTd 1 23 _ rfl rfl
  have walk : Calls Try.prog 7 #[.slice a0 n0 c0, .slice a1 n1 c1] W fun e w' => e = .returned (.bool true) ∧ Below W.heap.size W w' := by
    clear hA0 hTd hval hval0
    obtain ⟨x0, ps, e0, hu, hg, hn⟩ := pairs_open td0
    obtain ⟨x1, l, e1, hl⟩ := ops16_open td1
    simp only [List.cons.injEq, and_true] at e0 e1
    subst e0; subst e1
    by_cases h : over16 l = true ∨ 200 < ps.length
    · exact (does_over W _ _ ps.length _ l hu hl h).mono fun e w' h => ⟨h.1, h.2.below (fun k _ h => h)⟩
    · have h1 : over16 l = false := by cases h1 : over16 l; rfl; exact absurd (.inl h1) h
      have h2 : ps.length ≤ 200 := by omega
      exact (does_walk W _ _ ps l ⟨hu, fun o ho => ⟨(hg o ho).1, (hg o ho).2.1, (hg o ho).2.2.1, (hg o ho).2.2.2⟩, by omega⟩ h2 hl h1).mono fun e w' h => ⟨h.1, h.2.below (fun k _ h => h)⟩
  clear hA0 hval0 hTd
  refine walk.mono fun e W' ⟨he, bel⟩ => ?_
  subst he
  exact ⟨_, rfl, _, _, _, [], _, [], hW', trodAll_mk1 (shut_bool Try.underlying4 _), (trodAll_cons_mk (Below.trod laidOut (by kernel_rfl) (of_decide_eq_true (by kernel_rfl)) h0 bel lt0) (trodAll_cons_mk (Below.trod laidOut (by kernel_rfl) (of_decide_eq_true (by kernel_rfl)) h1 bel lt1) trodAll_mk0)), rfl, bel.frame _, fun h => by cases h⟩

theorem over : Rows.bufferDoesRow.holds Try.pinned (OpenSpec.ofChange Rows.bufferDoesSpec) :=
  OpenClaim.holds_of_wide 7 Try.f7 rfl rfl rfl rfl rfl rfl rfl ⟨rfl, rfl, rfl, rfl, rfl⟩ rfl rfl rfl rfl rfl (by kernel_rfl) Try.func7 (by kernel_rfl)
    (of_decide_eq_true (by kernel_rfl)) (by unfold Func.isWrapper; first | (rw [if_pos (by decide +kernel)]; kernel_rfl) | (rw [if_neg (by decide +kernel)]; exact ⟨rfl, rfl⟩))
    (fun os started H enc _ => lifted os started H enc)
end RBufferDoes

/-- The row. -/
theorem bufferDoes_holds : Rows.BufferDoesSaid := RBufferDoes.over
#print axioms bufferDoes_holds
end Go.Proofs.Ytdnohhlgaaihmaa
