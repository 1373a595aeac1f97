import Derived.Test.YtdnohhlgaaihmaaMt11
import Derived.Test.YtdnohhlgaaihmaaMt13
import Derived.Lib.SlBytesConst

/- codicilref17: in, Has, Meets. -/
namespace Go.Proofs.Ytdnohhlgaaihmaa
open Go.RowKit

/-- Does a key lie in a span, as the document says it? -/
def inV (x : SpV) (k : List UInt8) : Bool := !(decide (cb k x.f < 0)) && (x.o || decide (cb k x.t < 0))

set_option maxRecDepth 100000 in
set_option maxHeartbeats 4000000 in
theorem in_any (w : World) (F T K : Value) (f t k : List UInt8) (o : Bool) (hx : SpV.Good w ⟨F, T, f, t, o⟩) (hK : Sl w 1 K k.length (bvs k)) :
    Calls Try.prog 118 #[.agg #[F, T, .bool o], K] w fun e w' => e = .returned (.bool (inV ⟨F, T, f, t, o⟩ k)) ∧ Fr no w w' := by
  obtain ⟨FA, fc, hF, _, _⟩ := hx.F.form
  obtain ⟨TA, tc, hT, _, _⟩ := hx.T.form
  simp only at hF hT
  subst hF; subst hT
  obtain ⟨KA, kc, rfl, _, _⟩ := hK.form
  have hN := heap_alloc_new w (.cells #[.slice FA f.length fc, .slice TA t.length tc, .bool o] 100)
  have hf := (Fr.refl no w).alloc (.cells #[.slice FA f.length fc, .slice TA t.length tc, .bool o] 100)
  have HX := Lib.hid hx; have HK := Lib.hid hK; clear hx hK
  show Calls _ _ _ _ fun e w' => e = .returned (.bool (!(decide (cb k f < 0)) && (o || decide (cb k t < 0)))) ∧ Fr no w w'
  obtain ⟨a, ha⟩ : ∃ a, decide (cb k f < 0) = a := ⟨_, rfl⟩
  obtain ⟨b, hb⟩ : ∃ b, decide (cb k t < 0) = b := ⟨_, rfl⟩
  rw [ha, hb]
  have ha2 : Op.bytesLess k f = a := (less_cb k f).trans ha
  have hb2 : Op.bytesLess k t = b := (less_cb k t).trans hb
  go_enter Try.func118, Try.ntmps118
  go_wp2_with fail
  generalize hg : w.heap.size = g at hN ⊢
  generalize w.alloc (.cells #[.slice FA f.length fc, .slice TA t.length tc, .bool o] 100) = w1 at hN hf ⊢
  clear hg
  have HF1 := Lib.hid hf
  obtain ⟨c0, c1, c2, cz, cl⟩ := three_cells hN
  have hs1 := run_str (P := Try.prog) w1 (src := 34) (dst := 9) (e := 5) (by kernel_rfl) (by kernel_rfl) (by kernel_rfl) (HK.out.kept0 hf)
  have hs2 := run_str (P := Try.prog) w1 (src := 34) (dst := 9) (e := 5) (by kernel_rfl) (by kernel_rfl) (by kernel_rfl) (HX.out.F.kept0 hf)
  have hs3 := run_str (P := Try.prog) w1 (src := 34) (dst := 9) (e := 5) (by kernel_rfl) (by kernel_rfl) (by kernel_rfl) (HX.out.T.kept0 hf)
  clear hN hf
  cases a <;> cases o <;> cases b <;> (go_wp2; go_ret; exact ⟨rfl, HF1.out⟩)

set_option maxRecDepth 100000 in
set_option maxHeartbeats 4000000 in
theorem rhas_any (w : World) (p : Nat) (sv K : Value) (l : List SpV) (k : List UInt8) (hs : Rf w p sv l) (hK : Sl w 1 K k.length (bvs k)) (hl : l.length ≤ 100000) :
    Calls Try.prog 49 #[.pointer (some ⟨p, 0, none⟩), K] w fun e w' => e = .returned (.bool (l.any fun x => inV x k)) ∧ Fr no w w' := by
  obtain ⟨KA, kc, rfl, _, _⟩ := hK.form
  obtain ⟨A, c, rfl, hc1, _⟩ := hs.row.form
  have HS := Lib.hid hs; have HK := Lib.hid hK; clear hs hK
  go_enter Try.func49, Try.ntmps49
  go_wp2
  go_loopw [5] (fun i wr => ∃ j : Nat, j ≤ l.length ∧ i = .int .i64 j ∧ Fr no w wr ∧ ∀ m (h : m < l.length), m < j → inV l[m] k = false) (fun i _ => l.length - (intOf i).toNat)
  case atStart => exact ⟨0, Nat.zero_le _, rfl, Fr.refl _ _, fun m h h0 => by omega⟩
  case round =>
    obtain ⟨j, hj, rfl, hf, hno⟩ := hrel
    have HFr := Lib.hid hf; have HNO := Lib.hid hno; clear hf hno
    obtain ⟨b0, bz, bl⟩ := one_cells (HS.out.kept0 HFr.out).at_
    by_cases hlt : j < l.length
    · obtain ⟨gb, o, hA, q0, q1, q2⟩ := Spans.at (HS.out.kept0 HFr.out).row.sl j hlt
      obtain ⟨FA, fc, hff, _, _⟩ := (HS.out.good l[j] (List.getElem_mem _)).F.form
      obtain ⟨TA, tc, htt, _, _⟩ := (HS.out.good l[j] (List.getElem_mem _)).T.form
      have hgo := (HS.out.good l[j] (List.getElem_mem _)).kept0 HFr.out
      have HGO := Lib.hid (show SpV.Good wr ⟨.slice FA l[j].f.length fc, .slice TA l[j].t.length tc, l[j].f, l[j].t, l[j].o⟩ from ⟨hff ▸ hgo.F, htt ▸ hgo.T, hgo.lf, hgo.lt⟩)
      subst hA
      rw [hff] at q0; rw [htt] at q1
      clear hff htt hgo
      have hin : inV ⟨.slice FA l[j].f.length fc, .slice TA l[j].t.length tc, l[j].f, l[j].t, l[j].o⟩ k = inV l[j] k := rfl
      have HIN := Lib.hid hin; clear hin
      go_wp2_with fail
      refine (in_any wr _ _ _ _ _ k _ HGO.out (HK.out.kept0 HFr.out)).mono ?_
      rintro e w2 ⟨rfl, f2⟩
      rw [HIN.out]
      have F2 := Lib.hid (HFr.out.trans f2 (fun _ _ h => h)); clear f2 q0 q1 q2 b0 bz bl
      cases hcc : inV l[j] k with
      | true =>
        have ha : (l.any fun x => inV x k) = true := List.any_eq_true.2 ⟨l[j], List.getElem_mem _, hcc⟩
        have HA := Lib.hid ha; clear hcc ha
        go_wp2
        go_ret
        exact ⟨by rw [HA.out]; rfl, F2.out⟩
      | false =>
        have HC := Lib.hid hcc; clear hcc
        go_wp2
        go_roundw
        case rel => exact ⟨j + 1, by omega, by first | rfl | go_num, F2.out, fun m h hm => by rcases Nat.lt_succ_iff_lt_or_eq.1 hm with h2 | rfl; exact HNO.out m h h2; exact HC.out⟩
        case measure => simp [intOf]; omega
    · obtain rfl : j = l.length := by omega
      have ha : (l.any fun x => inV x k) = false := List.any_eq_false.2 (fun y hy => by obtain ⟨m, hm, rfl⟩ := List.getElem_of_mem hy; simp [HNO.out m hm (by omega)])
      have HA := Lib.hid ha; clear ha
      go_wp2
      go_ret
      exact ⟨by rw [HA.out]; rfl, HFr.out⟩

set_option maxRecDepth 100000 in
set_option maxHeartbeats 4000000 in
theorem rmeets_any (w : World) (p : Nat) (sv X : Value) (l : List SpV) (ks : List Kv) (hs : Rf w p sv l) (hK : Keys w X ks) (hl : l.length ≤ 100000) (hk : ks.length ≤ 100000) :
    Calls Try.prog 51 #[.pointer (some ⟨p, 0, none⟩), X] w fun e w' => e = .returned (.bool (ks.any fun y => l.any fun x => inV x y.b)) ∧ Fr no w w' := by
  obtain ⟨A, c, rfl, hc1, _⟩ := hK.sl.form
  have HS := Lib.hid hs; have HK := Lib.hid hK; clear hs hK
  go_enter Try.func51, Try.ntmps51
  go_wp2
  go_loopw [5] (fun i wr => ∃ j : Nat, j ≤ ks.length ∧ i = .int .i64 j ∧ Fr no w wr ∧ ∀ m (h : m < ks.length), m < j → (l.any fun x => inV x ks[m].b) = false) (fun i _ => ks.length - (intOf i).toNat)
  case atStart => exact ⟨0, Nat.zero_le _, rfl, Fr.refl _ _, fun m h h0 => by omega⟩
  case round =>
    obtain ⟨j, hj, rfl, hf, hno⟩ := hrel
    have HFr := Lib.hid hf; have HNO := Lib.hid hno; clear hf hno
    by_cases hlt : j < ks.length
    · obtain ⟨gb, o, hA, q0⟩ := (HK.out.kept0 HFr.out).at j hlt
      have hgo := ((HK.out.kept0 HFr.out).good ks[j] (List.getElem_mem _)).1
      obtain ⟨VA, vc, hvv, _, _⟩ := hgo.form
      rw [hvv] at hgo q0
      have HGO := Lib.hid hgo
      subst hA
      clear hgo hvv
      go_wp2_with fail
      refine (rhas_any wr p _ _ l ks[j].b (HS.out.kept0 HFr.out) HGO.out hl).mono ?_
      rintro e w2 ⟨rfl, f2⟩
      have F2 := Lib.hid (HFr.out.trans f2 (fun _ _ h => h)); clear f2 q0
      cases hcc : (l.any fun x => inV x ks[j].b) with
      | true =>
        have ha : (ks.any fun y => l.any fun x => inV x y.b) = true := List.any_eq_true.2 ⟨ks[j], List.getElem_mem _, hcc⟩
        have HA := Lib.hid ha; clear hcc ha
        go_wp2
        go_ret
        exact ⟨by rw [HA.out]; rfl, F2.out⟩
      | false =>
        have HC := Lib.hid hcc; clear hcc
        go_wp2
        go_roundw
        case rel => exact ⟨j + 1, by omega, by first | rfl | go_num, F2.out, fun m h hm => by rcases Nat.lt_succ_iff_lt_or_eq.1 hm with h2 | rfl; exact HNO.out m h h2; exact HC.out⟩
        case measure => simp [intOf]; omega
    · obtain rfl : j = ks.length := by omega
      have ha : (ks.any fun y => l.any fun x => inV x y.b) = false := List.any_eq_false.2 (fun y hy => by obtain ⟨m, hm, rfl⟩ := List.getElem_of_mem hy; simp [HNO.out m hm (by omega)])
      have HA := Lib.hid ha; clear ha
      go_wp2
      go_ret
      exact ⟨by rw [HA.out]; rfl, HFr.out⟩
end Go.Proofs.Ytdnohhlgaaihmaa

/- A span lent to a call: WholeSpans of one span. -/
namespace Go.Proofs.Ytdnohhlgaaihmaa
open Go.RowKit

theorem LentS.kept {w w1 : World} {S : Nat → Prop} {g gF gT gM : Nat} {y : SpV} (h : LentS w g gF gT gM y) (f : Fr S w w1) (hn : ∀ k, k = g ∨ k = gF ∨ k = gT ∨ k = gM → ¬ S k) : LentS w1 g gF gT gM y :=
  ⟨f.heap h.row (hn _ (.inl rfl)), h.F.kept f (hn _ (.inr (.inl rfl))), h.T.kept f (hn _ (.inr (.inr (.inl rfl)))), f.cell h.M (hn _ (.inr (.inr (.inr rfl))))⟩
theorem LentS.kept0 {w w1 : World} {g gF gT gM : Nat} {y : SpV} (h : LentS w g gF gT gM y) (f : Fr no w w1) : LentS w1 g gF gT gM y := h.kept f (fun _ _ h => h)
theorem LentS.cells {w : World} {g gF gT gM : Nat} {y : SpV} (h : LentS w g gF gT gM y) :
    w.cell? ⟨g, 0, none⟩ = some (.slice (some ⟨gF, 0, none⟩) y.f.length (y.f.length + 2)) ∧ w.cell? ⟨g, 1, none⟩ = some (.slice (some ⟨gT, 0, none⟩) y.t.length (y.t.length + 2)) ∧
    w.cell? ⟨g, 2, none⟩ = some (.bool y.o) ∧ w.cell? ⟨g, 3, none⟩ = some (.slice (some ⟨gM, 0, none⟩) 1 1) ∧ g < w.heap.size := by
  have hr := h.row
  refine ⟨?_, ?_, ?_, ?_, (Array.getElem?_eq_some_iff.1 hr).1⟩ <;> (rw [cell_of_row w g _ _ _ (0, 0) hr]; simp [lentCells])

set_option maxRecDepth 100000 in
set_option maxHeartbeats 4000000 in
theorem wholesp_any (w : World) (g gF gT gM : Nat) (x : Value) (y : SpV) (hL : LentS w g gF gT gM y) (hx : Sl w 3 x 1 y.cells) (hy : y.Good w) :
    Calls Try.prog 109 #[.slice (some ⟨g, 0, none⟩) 1 2, x] w fun e w' => e = .returned (.bool true) ∧ Fr no w w' := by
  obtain ⟨A, c, rfl, hc1, hc2⟩ := hx.form
  obtain ⟨b, o, hA, q0, q1, q2⟩ := Spans.at (l := [y]) (n := 1) (by simpa using hx) 0 (by simp)
  obtain ⟨yA, yc, hyA, _, _⟩ := hy.F.form
  obtain ⟨yB, yd, hyB, _, _⟩ := hy.T.form
  subst hA
  simp only [Nat.zero_mul, Nat.add_zero, List.getElem_cons_zero] at q0 q1 q2
  have HYF := Lib.hid hy.F; have HYT := Lib.hid hy.T; have HL1 := Lib.hid hy.lf; have HL2 := Lib.hid hy.lt
  rw [hyA] at q0 HYF; rw [hyB] at q1 HYT
  have Q0 := Lib.hid q0; have Q1 := Lib.hid q1; have Q2 := Lib.hid q2; have HL := Lib.hid hL
  obtain ⟨c0, c1, c2, c3, c4⟩ := hL.cells
  have cM := hL.M
  clear hx hy hyA hyB q0 q1 q2 c0 c1 c2 hL
  go_enter Try.func109, Try.ntmps109
  go_wp2_with fail
  clear c3 c4 cM
  go_loopw [6] (fun i wr => (i = .int .i64 0 ∨ i = .int .i64 1) ∧ Fr no w wr) (fun i _ => 1 - (intOf i).toNat)
  case atStart => exact ⟨.inl rfl, Fr.refl _ _⟩
  case round =>
    obtain ⟨rfl | rfl, hf⟩ := hrel
    · have q0 := hf.cell Q0.out (fun h => h); have q1 := hf.cell Q1.out (fun h => h); have q2 := hf.cell Q2.out (fun h => h)
      have hq := World.block_lt_of_cell? wr _ q0
      obtain ⟨c0, c1, c2, _, c4⟩ := (HL.out.kept0 hf).cells
      have HF := Lib.hid hf; clear hf
      go_wp2_with fail
      refine wp_region_ord (List.range 39) (fun i => [Kd.p, Kd.p, Kd.p, Kd.p, Kd.l, Kd.p, Kd.p, Kd.p, Kd.p, Kd.l, Kd.e, Kd.p, Kd.p, Kd.p, Kd.p, Kd.p, Kd.l, Kd.p, Kd.p, Kd.p, Kd.p, Kd.l, Kd.e, Kd.p, Kd.p, Kd.p, Kd.p, Kd.p, Kd.p, Kd.p, Kd.l, Kd.p, Kd.p, Kd.p, Kd.p, Kd.l, Kd.e, Kd.p, Kd.p].getD i .e) (by kernel_rfl) (by kernel_rfl) ?_
      iterate 10
        first | (refine wpX_un rfl rfl ?_; go_simp) | first | refine wpX_pu rfl rfl rfl (by first | exact pu_move rfl | exact pu_assign rfl | exact pu_nilCheck rfl rfl | exact pu_binInt rfl rfl rfl | exact pu_conv rfl rfl (by kernel_rfl) | exact pu_fld rfl (by kernel_rfl) | exact pu_ix rfl rfl rfl (by kernel_rfl) | exact pu_unOp rfl | exact pu_binStr rfl rfl rfl | exact pu_len rfl rfl | exact pu_lens rfl rfl | exact pu_pick rfl | exact pu_slice rfl rfl) (fun K hK => ?_) | refine wpX_rd rfl rfl rfl (rd_load rfl) (fun K hK => ?_) | refine wpX_gr rfl rfl rfl (by first | exact gr_buildSlice rfl | exact gr_box rfl | exact gr_alloc rfl) (fun K hK => ?_) | refine wpX_ex rfl rfl rfl (fun K hK => ?_)
        try go_wp2
      refine wpX_ex rfl rfl rfl (fun K hK => ?_)
      go_simp
      refine hK _ _ ?_
      clear hK K
      iterate 11
        first | (refine wpX_un rfl rfl ?_; go_simp) | first | refine wpX_pu rfl rfl rfl (by first | exact pu_move rfl | exact pu_assign rfl | exact pu_nilCheck rfl rfl | exact pu_binInt rfl rfl rfl | exact pu_conv rfl rfl (by kernel_rfl) | exact pu_fld rfl (by kernel_rfl) | exact pu_ix rfl rfl rfl (by kernel_rfl) | exact pu_unOp rfl | exact pu_binStr rfl rfl rfl | exact pu_len rfl rfl | exact pu_lens rfl rfl | exact pu_pick rfl | exact pu_slice rfl rfl) (fun K hK => ?_) | refine wpX_rd rfl rfl rfl (rd_load rfl) (fun K hK => ?_) | refine wpX_gr rfl rfl rfl (by first | exact gr_buildSlice rfl | exact gr_box rfl | exact gr_alloc rfl) (fun K hK => ?_) | refine wpX_ex rfl rfl rfl (fun K hK => ?_)
        try go_wp2
      refine wpX_ex rfl rfl rfl (fun K hK => ?_)
      go_wp2_with fail
      refine (whole_lent _ gF _ y.f y.f (HL.out.F.kept (Fr.drew HF.out) (fun h => h)) (HYF.out.kept0 (Fr.drew HF.out)) HL1.out HL1.out).mono ?_
      rintro e w2 ⟨rfl, n1, rfl⟩
      rw [decide_eq_true rfl]
      go_wp2_with fail
      iterate 13
        first | (refine wpX_un rfl rfl ?_; go_simp) | first | refine wpX_pu rfl rfl rfl (by first | exact pu_move rfl | exact pu_assign rfl | exact pu_nilCheck rfl rfl | exact pu_binInt rfl rfl rfl | exact pu_conv rfl rfl (by kernel_rfl) | exact pu_fld rfl (by kernel_rfl) | exact pu_ix rfl rfl rfl (by kernel_rfl) | exact pu_unOp rfl | exact pu_binStr rfl rfl rfl | exact pu_len rfl rfl | exact pu_lens rfl rfl | exact pu_pick rfl | exact pu_slice rfl rfl) (fun K hK => ?_) | refine wpX_rd rfl rfl rfl (rd_load rfl) (fun K hK => ?_) | refine wpX_gr rfl rfl rfl (by first | exact gr_buildSlice rfl | exact gr_box rfl | exact gr_alloc rfl) (fun K hK => ?_) | refine wpX_ex rfl rfl rfl (fun K hK => ?_)
        try go_wp2
      refine wpX_ex rfl rfl rfl (fun K hK => ?_)
      go_wp2_with fail
      refine (whole_lent _ gT _ y.t y.t (HL.out.T.kept (HF.out.moreN (1 + n1)) (fun h => h)) (HYT.out.kept0 (HF.out.moreN (1 + n1))) HL2.out HL2.out).mono ?_
      rintro e w3 ⟨rfl, n2, rfl⟩
      rw [decide_eq_true rfl]
      go_wp2_with fail
      iterate 2
        first | (refine wpX_un rfl rfl ?_; go_simp) | first | refine wpX_pu rfl rfl rfl (by first | exact pu_move rfl | exact pu_assign rfl | exact pu_nilCheck rfl rfl | exact pu_binInt rfl rfl rfl | exact pu_conv rfl rfl (by kernel_rfl) | exact pu_fld rfl (by kernel_rfl) | exact pu_ix rfl rfl rfl (by kernel_rfl) | exact pu_unOp rfl | exact pu_binStr rfl rfl rfl | exact pu_len rfl rfl | exact pu_lens rfl rfl | exact pu_pick rfl | exact pu_slice rfl rfl) (fun K hK => ?_) | refine wpX_rd rfl rfl rfl (rd_load rfl) (fun K hK => ?_) | refine wpX_gr rfl rfl rfl (by first | exact gr_buildSlice rfl | exact gr_box rfl | exact gr_alloc rfl) (fun K hK => ?_) | refine wpX_ex rfl rfl rfl (fun K hK => ?_)
        try go_wp2
      refine wpX_done ?_
      go_wp2
      go_roundw
      case rel => exact ⟨.inr (by first | rfl | go_num), HF.out.trans (by (repeat first | exact Fr.refl _ _ | exact Fr.drewN _ _ _ | apply Fr.drew | apply Fr.alloc | apply Fr.setAt | apply Fr.moreN)) (fun _ _ h => h)⟩
      case measure => simp [intOf]
    · go_wp2
      go_ret
      exact ⟨rfl, hf⟩
end Go.Proofs.Ytdnohhlgaaihmaa

/- A span lent to a call: SpoilSpans of one span. -/
namespace Go.Proofs.Ytdnohhlgaaihmaa
open Go.RowKit

theorem six_cells {w : World} {g : Nat} {cur : Array Value} (h : w.heap[g]? = some (.cells cur 100 (0, 0))) (hs : cur.size = 6) :
    (∀ j, j < 6 → ∃ v, w.cell? ⟨g, j, none⟩ = some v) ∧ (∀ j, w.frozen? ⟨g, j, none⟩ = false) ∧ g < w.heap.size := by
  refine ⟨fun j hj => ⟨cur[j]'(by omega), ?_⟩, fun j => by simp [World.frozen?, h], (Array.getElem?_eq_some_iff.1 h).1⟩
  rw [cell_of_row w g _ _ _ (0, 0) h]; simp

set_option maxRecDepth 100000 in
set_option maxHeartbeats 4000000 in
theorem spoilsp_any (w : World) (g gF gT gM : Nat) (y : SpV) (hL : LentS w g gF gT gM y) (hF : y.f.length ≤ 140737488351232) (hT : y.t.length ≤ 140737488351232) (h1 : g < gF) (h2 : gF < gT) :
    Calls Try.prog 110 #[.slice (some ⟨g, 0, none⟩) 1 2] w fun e w' => e = .returned (.tuple #[]) ∧ Fr (fun k => k = g ∨ k = gF ∨ k = gT) w w' := by
  have HL := Lib.hid hL; clear hL
  have HN := Lib.hid (And.intro h1 h2); clear h1 h2
  go_enter Try.func110, Try.ntmps110
  go_wp2
  go_loopw [2] (fun i wr => ((i = .int .i64 0 ∧ LentS wr g gF gT gM y) ∨ i = .int .i64 1) ∧ Fr (fun k => k = g ∨ k = gF ∨ k = gT) w wr ∧ ∃ cur, wr.heap[g]? = some (.cells cur 100 (0, 0)) ∧ cur.size = 6) (fun i _ => 1 - (intOf i).toNat)
  case atStart => exact ⟨.inl ⟨rfl, HL.out⟩, Fr.refl _ _, _, HL.out.row, by simp [lentCells]⟩
  case round =>
    obtain ⟨⟨rfl, hl⟩ | rfl, hf, cur, hg, hs⟩ := hrel
    · obtain ⟨c0, c1, c2, _, c4⟩ := hl.cells
      have HF := Lib.hid hf; have HG := Lib.hid hg; have HL1 := Lib.hid hl; clear hf hg hl
      go_wp2_with fail
      refine (spoil_lent _ gF y.f HL1.out.F hF).mono ?_
      rintro e w1 ⟨rfl, f1⟩
      have c1' := f1.cell c1 (fun e => by have := HN.out; have e2 : g = gF := e; omega)
      have HT := Lib.hid (HL1.out.T.kept f1 (fun e => by have := HN.out; have e2 : gT = gF := e; omega))
      have HG1 := Lib.hid (f1.heap HG.out (fun e => by have := HN.out; have e2 : g = gF := e; omega))
      have F1 := Lib.hid f1
      have c5 : g < w1.heap.size := by have := f1.size; omega
      clear f1 c0 c1 c2
      go_wp2_with fail
      refine (spoil_lent _ gT y.t HT.out hT).mono ?_
      rintro e w2 ⟨rfl, f2⟩
      have HG2 := Lib.hid (f2.heap HG1.out (fun e => by have := HN.out; have e2 : g = gT := e; omega))
      have F2 := Lib.hid ((HF.out.trans F1.out (fun _ _ h => .inr (.inl h))).trans f2 (fun _ _ h => .inr (.inr h)))
      clear f2 c1'
      go_wp2
      go_roundw
      case rel => exact ⟨.inr (by first | rfl | go_num), F2.out, _, HG2.out, hs⟩
      case measure => simp [intOf]
    · have HF := Lib.hid hf; have HG := Lib.hid hg; clear hf hg
      go_wp2
      go_loopw [4] (fun i wr => (i = .int .i64 0 ∨ i = .int .i64 1 ∨ i = .int .i64 2) ∧ Fr (fun k => k = g ∨ k = gF ∨ k = gT) w wr ∧ ∃ cur, wr.heap[g]? = some (.cells cur 100 (0, 0)) ∧ cur.size = 6) (fun i _ => 2 - (intOf i).toNat)
      case atStart => exact ⟨.inl rfl, HF.out, _, HG.out, hs⟩
      case round =>
        obtain ⟨h, hf, cur, hg, hs⟩ := hrel
        obtain ⟨hc, hz, hlt⟩ := six_cells hg hs
        have HF := Lib.hid hf; have HG := Lib.hid hg; clear hf hg
        rcases h with rfl | rfl | rfl
        · obtain ⟨v0, q0⟩ := hc 0 (by omega); obtain ⟨v1, q1⟩ := hc 1 (by omega); obtain ⟨v2, q2⟩ := hc 2 (by omega)
          clear hc
          go_wp2
          go_roundw
          case rel => exact ⟨.inr (.inl (by first | rfl | go_num)), ((HF.out.setCell _ _ (fun _ => .inl rfl)).setCell _ _ (fun _ => .inl rfl)).setCell _ _ (fun _ => .inl rfl), _, hp_same (hp_same (hp_same HG.out _ _) _ _) _ _, by simp [hs]⟩
          case measure => simp [intOf]
        · obtain ⟨v0, q0⟩ := hc 3 (by omega); obtain ⟨v1, q1⟩ := hc 4 (by omega); obtain ⟨v2, q2⟩ := hc 5 (by omega)
          clear hc
          go_wp2
          go_roundw
          case rel => exact ⟨.inr (.inr (by first | rfl | go_num)), ((HF.out.setCell _ _ (fun _ => .inl rfl)).setCell _ _ (fun _ => .inl rfl)).setCell _ _ (fun _ => .inl rfl), _, hp_same (hp_same (hp_same HG.out _ _) _ _) _ _, by simp [hs]⟩
          case measure => simp [intOf]
        · clear hc
          go_wp2
          go_end0
          exact ⟨rfl, HF.out⟩
end Go.Proofs.Ytdnohhlgaaihmaa

/- law17: known. -/
namespace Go.Proofs.Ytdnohhlgaaihmaa
open Go.RowKit

/-- A key added: in any case it is. -/
theorem Spanned.key {w w' : World} {p : Nat} {sv : Value} {l : List SpV} {x : SpV} {e : Ending} (hx : x.o = true ∨ 0 < cb x.t x.f) (h : Spanned w w' p sv l x e) :
    e = .returned (.tuple #[]) ∧ ∃ sv' F T, Se w' p sv' (SpV.add l ⟨F, T, x.f, if x.o then [] else x.t, x.o⟩) ∧ Fr (fun k => k = p ∨ sv.ownBlock = some k) w w' ∧
      ∀ k, SeF p sv' (SpV.add l ⟨F, T, x.f, if x.o then [] else x.t, x.o⟩) k → SeF p sv l k ∨ (w.heap.size ≤ k ∧ k < w'.heap.size) := by
  obtain ⟨h0, sv', l', F, T, h1, h2, h3, h4⟩ := h
  rcases h2 with ⟨_, h5, h6⟩ | ⟨_, rfl⟩
  · exfalso
    rcases hx with h | h
    · rw [h] at h5; cases h5
    · omega
  · exact ⟨h0, sv', F, T, h1, h3, h4⟩

theorem known1 (F T : Value) : SpV.add [] ⟨F, T, [97], [97, 0], false⟩ = [⟨F, T, [97], [97, 0], false⟩] := rfl
theorem known2 (F T F2 T2 : Value) : SpV.add [⟨F, T, [97], [97, 0], false⟩] ⟨F2, T2, [99], [99, 0], false⟩ = [⟨F, T, [97], [97, 0], false⟩, ⟨F2, T2, [99], [99, 0], false⟩] := rfl
theorem known3 (F T F2 T2 F3 T3 : Value) : SpV.add [⟨F, T, [97], [97, 0], false⟩, ⟨F2, T2, [99], [99, 0], false⟩] ⟨F3, T3, [98], [100], false⟩ = [⟨F, T, [97], [97, 0], false⟩, ⟨F3, T3, [98], [100], false⟩] := rfl

theorem sl_const (w : World) (l : List UInt8) (mk : Nat × Nat) (hl : l.length ≤ maxLen) : Sl (w.alloc (.cells (bvs l).toArray 5 mk)) 1 (.slice (some ⟨w.heap.size, 0, none⟩) l.length l.length) l.length (bvs l) := by
  refine ⟨by simp [bvs_length], .inr ⟨w.heap.size, 0, _, rfl, Nat.le_refl _, hl, fun j u hu => ?_⟩⟩
  rw [Nat.zero_add, cell_of_row _ _ j _ _ mk (heap_alloc_new _ _)]
  simpa using hu

theorem nil_free {p : Nat} {w0 w w1 : World} (f : Fr (fun k => k = p ∨ (Value.slice none 0 0).ownBlock = some k) w w1) (h : w0.heap.size ≤ p) (f0 : Fr no w0 w) : Fr no w0 w1 :=
  f0.trans f (fun k hk e => by rcases e with e | e; omega; simp [Value.ownBlock] at e)

set_option maxRecDepth 100000 in
set_option maxHeartbeats 4000000 in
theorem known17 (w : World) :
    Calls Try.prog 42 #[] w fun e w' => e = .returned (.bool true) ∧ Fr no w w' := by
  go_enter Try.func42, Try.ntmps42
  go_wp2_with fail
  refine (rnew_any _).mono ?_
  rintro e w1 ⟨p, rfl, hp, hs, hf⟩
  have HS := Lib.hid hs; have HF := Lib.hid hf; have HP := Lib.hid hp; clear hs hf hp
  have hcv := Lib.run_convert_bytes_const (P := Try.prog) w1 34 5 #[.int .u8 97] 1 1 (by kernel_rfl) (by kernel_rfl)
  go_wp2_with fail
  refine (key_any (w1.alloc (.cells #[.int .u8 97] 5 (1, 2))) p (.slice none 0 0) (.slice (some ⟨w1.heap.size, 0, none⟩) 1 1) [] [97] (HS.out.kept0 ((Fr.refl no w1).alloc _)) (sl_const w1 [97] (1, 2) (by simp [maxLen])) (by simp) (by simp)).mono ?_
  rintro e w2 hk
  obtain ⟨rfl, s2, F1, T1, hs2, f2, m2⟩ := hk.key (.inr (show (0 : Int) < cb ([97] ++ [0]) [97] by decide))
  have hs2' : Se w2 p s2 [⟨F1, T1, [97], [97, 0], false⟩] := hs2
  have HS2 := Lib.hid hs2'
  have hw2 : Fr no w w2 := nil_free f2 (by have := HP.out; omega) (HF.out.trans ((Fr.refl no w1).alloc _) (fun _ _ h => h))
  have HF2 := Lib.hid hw2
  have HM2 := Lib.hid (show ∀ k, SeF p s2 [⟨F1, T1, [97], [97, 0], false⟩] k → w.heap.size ≤ k from fun k hk => by
    rcases m2 k hk with h | h
    · rcases h with h | h | ⟨x, hx, _⟩
      · have := HP.out; omega
      · simp [Value.ownBlock] at h
      · cases hx
    · exact Nat.le_trans HF.out.size (Nat.le_trans (((Fr.refl no w1).alloc _).size) h.1))
  clear hs2 hs2' f2 m2 hw2 hcv
  have hcv := Lib.run_convert_bytes_const (P := Try.prog) w2 34 5 #[.int .u8 99] 1 1 (by kernel_rfl) (by kernel_rfl)
  go_wp2_with fail
  refine (key_any (w2.alloc (.cells #[.int .u8 99] 5 (1, 2))) p s2 (.slice (some ⟨w2.heap.size, 0, none⟩) 1 1) _ [99] (HS2.out.kept0 ((Fr.refl no w2).alloc _)) (sl_const w2 [99] (1, 2) (by simp [maxLen])) (by simp) (by simp)).mono ?_
  rintro e w3 hk3
  obtain ⟨rfl, s3, F2, T2, hs3, f3, m3⟩ := hk3.key (.inr (show (0 : Int) < cb ([99] ++ [0]) [99] by decide))
  have hs3' : Se w3 p s3 [⟨F1, T1, [97], [97, 0], false⟩, ⟨F2, T2, [99], [99, 0], false⟩] := hs3
  have HS3 := Lib.hid hs3'
  have hw3 : Fr no w w3 := (HF2.out.trans ((Fr.refl no w2).alloc _) (fun _ _ h => h)).trans f3 (fun k hk e => by
    have := HM2.out k (by rcases e with e | e; exact .inl e; exact .inr (.inl e)); omega)
  have HF3 := Lib.hid hw3
  have HM3 := Lib.hid (show ∀ k, SeF p s3 [⟨F1, T1, [97], [97, 0], false⟩, ⟨F2, T2, [99], [99, 0], false⟩] k → w.heap.size ≤ k from fun k hk => by
    rcases m3 k hk with h | h
    · exact HM2.out k h
    · exact Nat.le_trans HF2.out.size (Nat.le_trans (((Fr.refl no w2).alloc _).size) h.1))
  clear hs3 hs3' f3 m3 hw3 hcv
  have hcv := Lib.run_convert_bytes_const (P := Try.prog) w3 34 5 #[.int .u8 98] 1 1 (by kernel_rfl) (by kernel_rfl)
  have hcv2 := Lib.run_convert_bytes_const (P := Try.prog) (w3.alloc (.cells #[.int .u8 98] 5 (1, 2))) 34 5 #[.int .u8 100] 1 1 (by kernel_rfl) (by kernel_rfl)
  have hsz : (w3.alloc (.cells #[.int .u8 98] 5 (1, 2))).heap.size = w3.heap.size + 1 := by simp only [World.alloc, Array.size_push]
  have hsl := sl_const (w3.alloc (.cells #[.int .u8 98] 5 (1, 2))) [100] (1, 2) (by simp [maxLen])
  rw [hsz] at hcv2 hsl
  have HSL := Lib.hid hsl; clear hsl hsz
  go_wp2_with fail
  refine (span_any ((w3.alloc (.cells #[.int .u8 98] 5 (1, 2))).alloc (.cells #[.int .u8 100] 5 (1, 2))) p s3 _ ⟨.slice (some ⟨w3.heap.size, 0, none⟩) 1 1, .slice (some ⟨w3.heap.size + 1, 0, none⟩) 1 1, [98], [100], false⟩ (HS3.out.kept0 (((Fr.refl no w3).alloc _).alloc _)) ⟨(sl_const w3 [98] (1, 2) (by simp [maxLen])).kept0 ((Fr.refl no _).alloc _), HSL.out, by simp, by simp⟩ (by simp)).mono ?_
  rintro e w4 hk4
  obtain ⟨rfl, s4, F3, T3, hs4, f4, m4⟩ := hk4.key (.inr (show (0 : Int) < cb [100] [98] by decide))
  have hs4' : Se w4 p s4 [⟨F1, T1, [97], [97, 0], false⟩, ⟨F3, T3, [98], [100], false⟩] := hs4
  have HS4 := Lib.hid hs4'
  have hw4 : Fr no w w4 := (HF3.out.trans (((Fr.refl no w3).alloc _).alloc _) (fun _ _ h => h)).trans f4 (fun k hk e => by
    have := HM3.out k (by rcases e with e | e; exact .inl e; exact .inr (.inl e)); omega)
  have HF4 := Lib.hid hw4
  clear hs4 hs4' f4 m4 hw4 hcv hcv2
  go_wp2_with fail
  refine (all_any w4 p s4 _ HS4.out (by simp)).mono ?_
  rintro e w5 ⟨A, os, he, ht, hpr, hf⟩
  obtain ⟨x, y, rfl, hx, hy⟩ : ∃ x y, os = [x, y] ∧ x.pr = ([97], [97, 0], false) ∧ y.pr = ([98], [100], false) := by
    rcases os with _ | ⟨x, _ | ⟨y, _ | ⟨z, zs⟩⟩⟩
    · simp at hpr
    · simp at hpr
    · simp only [List.map_cons, List.map_nil, List.cons.injEq, and_true] at hpr
      exact ⟨x, y, rfl, hpr.1, hpr.2⟩
    · simp at hpr
  obtain rfl : e = .returned (.slice A 2 2) := he
  obtain ⟨-, hxt, -⟩ : x.f = [97] ∧ x.t = [97, 0] ∧ x.o = false := by simpa [SpV.pr] using hx
  obtain ⟨-, hyt, -⟩ : y.f = [98] ∧ y.t = [100] ∧ y.o = false := by simpa [SpV.pr] using hy
  obtain ⟨XA, hXA⟩ := (ht.form x (by simp)).2
  obtain ⟨YA, hYA⟩ := (ht.form y (by simp)).2
  rw [hxt] at hXA; rw [hyt] at hYA
  replace hXA : x.T = .slice XA 2 2 := hXA
  replace hYA : y.T = .slice YA 1 1 := hYA
  have HT := Lib.hid ht; have HX := Lib.hid hXA; have HY := Lib.hid hYA; have HF5 := Lib.hid hf; have HXT := Lib.hid hxt; have HYT := Lib.hid hyt
  clear ht hpr hx hy hf hXA hYA hxt hyt
  have hcv := Lib.run_convert_bytes_const (P := Try.prog) w5 34 5 #[.int .u8 99] 1 1 (by kernel_rfl) (by kernel_rfl)
  go_wp2_with fail
  refine (has_any (w5.alloc (.cells #[.int .u8 99] 5 (1, 2))) p s4 (.slice (some ⟨w5.heap.size, 0, none⟩) 1 1) _ [99] (HS4.out.kept0 (HF5.out.trans ((Fr.refl no w5).alloc _) (fun _ _ h => h))) (sl_const w5 [99] (1, 2) (by simp [maxLen])) (by simp)).mono ?_
  rintro e w6 ⟨rfl, f6⟩
  have hw6 : Fr no w5 w6 := ((Fr.refl no w5).alloc _).trans f6 (fun _ _ h => h)
  have HF6 := Lib.hid hw6
  clear f6 hw6 hcv
  have e1 : hasV [⟨F1, T1, [97], [97, 0], false⟩, ⟨F3, T3, [98], [100], false⟩] [99] = true := rfl
  rw [e1]; clear e1
  have hcv := Lib.run_convert_bytes_const (P := Try.prog) w6 34 5 #[.int .u8 100] 1 1 (by kernel_rfl) (by kernel_rfl)
  go_wp2_with fail
  refine (has_any (w6.alloc (.cells #[.int .u8 100] 5 (1, 2))) p s4 (.slice (some ⟨w6.heap.size, 0, none⟩) 1 1) _ [100] (HS4.out.kept0 ((HF5.out.trans HF6.out (fun _ _ h => h)).trans ((Fr.refl no w6).alloc _) (fun _ _ h => h))) (sl_const w6 [100] (1, 2) (by simp [maxLen])) (by simp)).mono ?_
  rintro e w7 ⟨rfl, f7⟩
  have hw7 : Fr no w5 w7 := (HF6.out.trans ((Fr.refl no w6).alloc _) (fun _ _ h => h)).trans f7 (fun _ _ h => h)
  have HF7 := Lib.hid hw7
  clear f7 hw7 hcv
  have e1 : hasV [⟨F1, T1, [97], [97, 0], false⟩, ⟨F3, T3, [98], [100], false⟩] [100] = false := rfl
  rw [e1]; clear e1
  have ht7 := HT.out.kept0 HF7.out
  obtain ⟨b, o, hA, -, q0, -⟩ := Spans.at ht7.row.sl 0 (by simp)
  obtain ⟨b', o', hA', -, q1, -⟩ := Spans.at ht7.row.sl 1 (by simp)
  have hx7 := (ht7.own x (by simp)).2.sl
  have hy7 := (ht7.own y (by simp)).2.sl
  subst hA
  obtain ⟨rfl, rfl⟩ : b = b' ∧ o = o' := by simpa using hA'
  simp only [List.getElem_cons_zero, List.getElem_cons_succ] at q0 q1
  rw [HX.out] at q0 hx7; rw [HY.out] at q1 hy7
  rw [HXT.out] at hx7; rw [HYT.out] at hy7
  have hs1 : (convert 34 9 (.slice XA 2 2)).run Try.prog w7 = .ok (.string ⟨#[97, 0]⟩) w7 := run_str (P := Try.prog) w7 (src := 34) (dst := 9) (e := 5) (by kernel_rfl) (by kernel_rfl) (by kernel_rfl) hx7
  have hs2 : (convert 34 9 (.slice YA 1 1)).run Try.prog w7 = .ok (.string ⟨#[100]⟩) w7 := run_str (P := Try.prog) w7 (src := 34) (dst := 9) (e := 5) (by kernel_rfl) (by kernel_rfl) (by kernel_rfl) hy7
  clear hA' hx7 hy7 ht7
  go_wp2
  go_ret
  exact ⟨rfl, (HF4.out.trans HF5.out (fun _ _ h => h)).trans HF7.out (fun _ _ h => h)⟩
end Go.Proofs.Ytdnohhlgaaihmaa
