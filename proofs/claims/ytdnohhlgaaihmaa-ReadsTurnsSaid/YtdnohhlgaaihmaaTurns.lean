/- law17: ReadsTurns, from what came in. -/
import Derived.Test.YtdnohhlgaaihmaaSpanQ
import Derived.Test.YtdnohhlgaaihmaaSpanH
namespace Go.Proofs.Ytdnohhlgaaihmaa
open Go.RowKit

theorem SpV.Good.of_told {w0 w wa : World} {ov : Value} {os l : List SpV} {p : Nat} {sv : Value} (h : Told w0 w ov os) (hs : Se wa p sv l) (hp : os.map SpV.pr = l.map SpV.pr) : ∀ z ∈ os, z.Good w := fun z hz => by
  have : z.pr ∈ l.map SpV.pr := hp ▸ List.mem_map_of_mem hz
  obtain ⟨y, hy, e⟩ := List.mem_map.1 this
  have hg := hs.good y hy
  simp only [SpV.pr, Prod.mk.injEq] at e
  exact ⟨(h.own z hz).1.sl, (h.own z hz).2.sl, by rw [← e.1]; exact hg.lf, by rw [← e.2.1]; exact hg.lt⟩

set_option maxRecDepth 100000 in
set_option maxHeartbeats 4000000 in
theorem turns_walk (w : World) (X Y : Value) (ks : List Kv) (l : List SpV) (t : Int) (hi : Ins w X Y ks l) (ht1 : -9223372036854775808 ≤ t) (ht2 : t ≤ 9223372036854775807)
    (hk : over17 ks.length (ks.map fun k => k.b.length) = false) (hl : over17 l.length (l.map fun k => k.f.length + k.t.length) = false) :
    Calls Try.prog 8 #[X, Y, .int .i64 t] w fun e w' => e = .returned (.bool true) ∧ Fr no w w' := by
  have HI := Lib.hid hi; have hnk := hi.nk; have hnl := hi.nl; have hbk := hi.keys; have hbl := hi.spans
  obtain ⟨A, c, rfl, hc1, hc2⟩ := hbk.sl.form
  obtain ⟨B, d, rfl, hd1, hd2⟩ := hbl.sl.form
  have HT := Lib.hid (And.intro ht1 ht2); have HK := Lib.hid hk; have HL := Lib.hid hl
  clear hi hbk hbl hc2 hd2 ht1 ht2 hk hl
  go_enter Try.func8, Try.ntmps8
  go_wp2_with fail
  refine (many_any w _ ks HI.out.keys (by simp only [reachBytes]; omega)).mono ?_
  rintro e w1 ⟨rfl, f1⟩
  rw [HK.out]
  have F1 := Lib.hid f1; clear f1
  go_wp2_with fail
  refine (much_any w1 _ l (HI.out.spans.kept0 F1.out)).mono ?_
  rintro e w2 ⟨rfl, f2⟩
  rw [HL.out]
  have F2 := Lib.hid (F1.out.trans f2 (fun _ _ h => h)); clear f2
  go_wp2_with fail
  refine (filled_any w2 _ _ ks l (HI.out.keys.kept0 F2.out) (HI.out.spans.kept0 F2.out) hnk hnl HI.out.bk HI.out.bl).mono ?_
  rintro e w3 ⟨p, q, rfl, hb⟩
  have HS := Lib.hid hb.lone; have F3 := Lib.hid (F2.out.trans hb.fr (fun _ _ h => h)); clear hb
  go_wp2_with fail
  refine (rnew_any _).mono ?_
  rintro e w4 ⟨r, rfl, hr, hs, hf⟩
  have hl0 : Lone w3 w4 r (fun _ => False) 0 := ⟨_, _, one_new hr hs hf⟩
  have HT0 := Lib.hid hl0; clear hl0
  clear hr hs hf
  go_wp2_with fail
  refine (known17 w4).mono ?_
  rintro e w5 ⟨rfl, f5⟩
  have HT5 := Lib.hid (HT0.out.kept0 f5); clear f5
  go_wp2
  go_loopw [11] (fun i wr => ∃ m : Nat, m ≤ l.length ∧ i = .int .i64 ((m : Int) - 1) ∧ Lone w3 wr r (SpV.Mem (l.drop m)) (l.length - m)) (fun i _ => (intOf i + 1).toNat)
  case atStart => exact ⟨l.length, Nat.le_refl _, rfl, HT5.out.turn (fun k => by simp [SpV.Mem]) (by omega)⟩
  case round =>
    obtain ⟨m, hm, rfl, ho⟩ := hrel
    have HO := Lib.hid ho; clear ho
    rcases m with _ | m
    · have e1 : ((0 : Nat) : Int) - 1 = -1 := rfl
      rw [e1]; clear e1
      go_wp2
      go_loopw [12] (fun i wr => ∃ m : Nat, m ≤ ks.length ∧ i = .int .i64 ((m : Int) - 1) ∧ Lone w3 wr r (fun k => KMem (ks.drop m) k ∨ SpV.Mem l k) (l.length + (ks.length - m))) (fun i _ => (intOf i + 1).toNat)
      case atStart => exact ⟨ks.length, Nat.le_refl _, rfl, HO.out.turn (fun k => by simp [KMem]) (by omega)⟩
      case round =>
        obtain ⟨m, hm, rfl, ho⟩ := hrel
        clear HO
        have HO := Lib.hid ho; clear ho
        rcases m with _ | m
        · have e1 : ((0 : Nat) : Int) - 1 = -1 := rfl
          rw [e1]; clear e1
          have HE := Lib.hid (HO.out.turn (M' := AllIn ks l) (m := 900) (fun k => Iff.rfl) (by omega))
          by_cases h0 : 0 < l.length
          · by_cases h1 : 0 ≤ t
            · obtain ⟨tn, rfl⟩ : ∃ tn : Nat, t = tn := ⟨t.toNat, by omega⟩
              obtain ⟨m, hm2, em⟩ : ∃ m, m < l.length ∧ (tn : Int) % (l.length : Int) = (m : Int) := ⟨tn % l.length, Nat.mod_lt _ h0, by omega⟩
              obtain ⟨b, o, FA, fc, TA, tc, rfl, q0, q1, q2, hg⟩ := span_in HI.out.spans HI.out.bl m hm2
              have hfw := F3.out.trans HE.out.fr (fun _ _ h => h)
              have q0 := hfw.cell q0 (fun h => h); have q1 := hfw.cell q1 (fun h => h); have q2 := hfw.cell q2 (fun h => h)
              have HG := Lib.hid (hg.kept0 hfw); clear hg hfw
              go_wp2_with fail
              refine (lone_span w3 wr r _ _ _ HE.out HG.out (by omega)).mono ?_
              rintro e w6 ⟨rfl, h6⟩
              have HE6 := Lib.hid (h6.turn (M' := AllIn ks l) (m := 1000) (fun k => ⟨fun h => h.elim (fun h => .inr ⟨l[m], List.getElem_mem _, h⟩) id, .inr⟩) (by omega)); clear h6
              have HS6 := Lib.hid (HS.out.kept0 HE6.out.fr)
              clear q0 q1 q2
              go_wp2_with fail
              obtain ⟨sv, sl, hs⟩ := HS6.out
              obtain ⟨tv, tl, ht⟩ := HE6.out
              have HSS := Lib.hid hs; have HTT := Lib.hid ht; clear hs ht
              refine (all_any _ p sv sl HSS.out.se (by have := HSS.out.len; omega)).mono ?_
              rintro e w7 ⟨A7, os, rfl, ht, hpr, hf⟩
              have T7 := Lib.hid ht; have P7 := Lib.hid hpr; have F7 := Lib.hid hf; clear ht hpr hf
              go_wp2_with fail
              refine (all_any w7 r tv tl (HTT.out.se.kept0 F7.out) (by have := HTT.out.len; omega)).mono ?_
              rintro e w8 ⟨A8, os8, rfl, ht, hpr, hf⟩
              have T8 := Lib.hid ht; have P8 := Lib.hid hpr; have F8 := Lib.hid hf; clear ht hpr hf
              go_wp2_with fail
              refine (samesp_any w8 _ _ os os8 ((T7.out.kept0 F8.out).row.sl) T8.out.row.sl (SpV.Good.of_told (T7.out.kept0 F8.out) HSS.out.se P7.out) (SpV.Good.of_told T8.out HTT.out.se P8.out) (by rw [← List.length_map (f := SpV.pr), P7.out, List.length_map]; have := HSS.out.len; omega)).mono ?_
              rintro e w9 ⟨rfl, f9⟩
              rw [decide_eq_true (show os.map SpV.pr = os8.map SpV.pr by rw [P7.out, P8.out]; exact SpV.norm_ext _ _ HSS.out.norm HTT.out.norm (fun k => by rw [HSS.out.mem, HTT.out.mem]))]
              go_wp2
              go_ret
              exact ⟨rfl, (((F3.out.trans HE6.out.fr (fun _ _ h => h)).trans F7.out (fun _ _ h => h)).trans F8.out (fun _ _ h => h)).trans f9 (fun _ _ h => h)⟩
            · have HE6 := Lib.hid (HE.out.turn (M' := AllIn ks l) (m := 1000) (fun k => Iff.rfl) (by omega))
              have HS6 := Lib.hid (HS.out.kept0 HE6.out.fr)
              go_wp2_with fail
              obtain ⟨sv, sl, hs⟩ := HS6.out
              obtain ⟨tv, tl, ht⟩ := HE6.out
              have HSS := Lib.hid hs; have HTT := Lib.hid ht; clear hs ht
              refine (all_any _ p sv sl HSS.out.se (by have := HSS.out.len; omega)).mono ?_
              rintro e w7 ⟨A7, os, rfl, ht, hpr, hf⟩
              have T7 := Lib.hid ht; have P7 := Lib.hid hpr; have F7 := Lib.hid hf; clear ht hpr hf
              go_wp2_with fail
              refine (all_any w7 r tv tl (HTT.out.se.kept0 F7.out) (by have := HTT.out.len; omega)).mono ?_
              rintro e w8 ⟨A8, os8, rfl, ht, hpr, hf⟩
              have T8 := Lib.hid ht; have P8 := Lib.hid hpr; have F8 := Lib.hid hf; clear ht hpr hf
              go_wp2_with fail
              refine (samesp_any w8 _ _ os os8 ((T7.out.kept0 F8.out).row.sl) T8.out.row.sl (SpV.Good.of_told (T7.out.kept0 F8.out) HSS.out.se P7.out) (SpV.Good.of_told T8.out HTT.out.se P8.out) (by rw [← List.length_map (f := SpV.pr), P7.out, List.length_map]; have := HSS.out.len; omega)).mono ?_
              rintro e w9 ⟨rfl, f9⟩
              rw [decide_eq_true (show os.map SpV.pr = os8.map SpV.pr by rw [P7.out, P8.out]; exact SpV.norm_ext _ _ HSS.out.norm HTT.out.norm (fun k => by rw [HSS.out.mem, HTT.out.mem]))]
              go_wp2
              go_ret
              exact ⟨rfl, (((F3.out.trans HE6.out.fr (fun _ _ h => h)).trans F7.out (fun _ _ h => h)).trans F8.out (fun _ _ h => h)).trans f9 (fun _ _ h => h)⟩
          · have HE6 := Lib.hid (HE.out.turn (M' := AllIn ks l) (m := 1000) (fun k => Iff.rfl) (by omega))
            have HS6 := Lib.hid (HS.out.kept0 HE6.out.fr)
            go_wp2_with fail
            obtain ⟨sv, sl, hs⟩ := HS6.out
            obtain ⟨tv, tl, ht⟩ := HE6.out
            have HSS := Lib.hid hs; have HTT := Lib.hid ht; clear hs ht
            refine (all_any _ p sv sl HSS.out.se (by have := HSS.out.len; omega)).mono ?_
            rintro e w7 ⟨A7, os, rfl, ht, hpr, hf⟩
            have T7 := Lib.hid ht; have P7 := Lib.hid hpr; have F7 := Lib.hid hf; clear ht hpr hf
            go_wp2_with fail
            refine (all_any w7 r tv tl (HTT.out.se.kept0 F7.out) (by have := HTT.out.len; omega)).mono ?_
            rintro e w8 ⟨A8, os8, rfl, ht, hpr, hf⟩
            have T8 := Lib.hid ht; have P8 := Lib.hid hpr; have F8 := Lib.hid hf; clear ht hpr hf
            go_wp2_with fail
            refine (samesp_any w8 _ _ os os8 ((T7.out.kept0 F8.out).row.sl) T8.out.row.sl (SpV.Good.of_told (T7.out.kept0 F8.out) HSS.out.se P7.out) (SpV.Good.of_told T8.out HTT.out.se P8.out) (by rw [← List.length_map (f := SpV.pr), P7.out, List.length_map]; have := HSS.out.len; omega)).mono ?_
            rintro e w9 ⟨rfl, f9⟩
            rw [decide_eq_true (show os.map SpV.pr = os8.map SpV.pr by rw [P7.out, P8.out]; exact SpV.norm_ext _ _ HSS.out.norm HTT.out.norm (fun k => by rw [HSS.out.mem, HTT.out.mem]))]
            go_wp2
            go_ret
            exact ⟨rfl, (((F3.out.trans HE6.out.fr (fun _ _ h => h)).trans F7.out (fun _ _ h => h)).trans F8.out (fun _ _ h => h)).trans f9 (fun _ _ h => h)⟩
        · have e1 : ((m + 1 : Nat) : Int) - 1 = (m : Int) := by omega
          rw [e1]; clear e1
          obtain ⟨b, o, VA, vc, rfl, _, q0, hg⟩ := key_in HI.out.keys m hm
          have hfw := F3.out.trans HO.out.fr (fun _ _ h => h)
          have q0 := hfw.cell q0 (fun h => h)
          have HG := Lib.hid (hg.kept0 hfw); clear hg hfw
          have hb20 := HI.out.bk ks[m] (List.getElem_mem _)
          go_wp2_with fail
          refine (lone_key w3 wr r _ _ _ _ HO.out HG.out (by omega) (by omega)).mono ?_
          rintro e w6 ⟨rfl, h6⟩
          have H6 := Lib.hid h6; clear h6
          go_wp2
          go_roundw
          case rel => exact ⟨m, by omega, by first | rfl | go_num, H6.out.turn (fun k => by rw [← drop_kmem ks m hm k, or_assoc]) (by omega)⟩
          case measure => simp [intOf]
    · have e1 : ((m + 1 : Nat) : Int) - 1 = (m : Int) := by omega
      rw [e1]; clear e1
      obtain ⟨b, o, FA, fc, TA, tc, rfl, q0, q1, q2, hg⟩ := span_in HI.out.spans HI.out.bl m hm
      have hfw := F3.out.trans HO.out.fr (fun _ _ h => h)
      have q0 := hfw.cell q0 (fun h => h); have q1 := hfw.cell q1 (fun h => h); have q2 := hfw.cell q2 (fun h => h)
      have HG := Lib.hid (hg.kept0 hfw); clear hg hfw
      go_wp2_with fail
      refine (lone_span w3 wr r _ _ _ HO.out HG.out (by omega)).mono ?_
      rintro e w6 ⟨rfl, h6⟩
      have H6 := Lib.hid h6; clear h6
      go_wp2
      go_roundw
      case rel => exact ⟨m, by omega, by first | rfl | go_num, H6.out.turn (drop_mem l m hm) (by omega)⟩
      case measure => simp [intOf]

set_option maxRecDepth 100000 in
set_option maxHeartbeats 4000000 in
/-- Whatever comes in. -/
theorem turns_any (w : World) (X Y : Value) (ks : List Kv) (l : List SpV) (t : Int) (hk : Keys w X ks) (hn : ks.length ≤ reachBytes) (hl : SpIn w Y l) (ht1 : -9223372036854775808 ≤ t) (ht2 : t ≤ 9223372036854775807) :
    Calls Try.prog 8 #[X, Y, .int .i64 t] w fun e w' => e = .returned (.bool true) ∧ Fr no w w' := by
  cases h1 : over17 ks.length (ks.map fun k => k.b.length) with
  | true =>
    have H1 := Lib.hid h1; clear h1 ht1 ht2
    go_enter Try.func8, Try.ntmps8
    go_wp2_with fail
    refine (many_any w X ks hk hn).mono ?_
    rintro e w1 ⟨rfl, f1⟩
    rw [H1.out]
    have F1 := Lib.hid f1; clear f1
    go_wp2
    go_ret
    exact ⟨rfl, F1.out⟩
  | false =>
    cases h2 : over17 l.length (l.map fun k => k.f.length + k.t.length) with
    | true =>
      have H1 := Lib.hid h1; have H2 := Lib.hid h2; clear h1 h2 ht1 ht2
      go_enter Try.func8, Try.ntmps8
      go_wp2_with fail
      refine (many_any w X ks hk hn).mono ?_
      rintro e w1 ⟨rfl, f1⟩
      rw [H1.out]
      have F1 := Lib.hid f1; clear f1
      go_wp2_with fail
      refine (much_any w1 Y l (hl.kept0 F1.out)).mono ?_
      rintro e w2 ⟨rfl, f2⟩
      rw [H2.out]
      have F2 := Lib.hid f2; clear f2
      go_wp2
      go_ret
      exact ⟨rfl, F1.out.trans F2.out (fun _ _ h => h)⟩
    | false =>
      exact turns_walk w X Y ks l t ⟨hk, hl, (over_keys h1).1, (over_spans h2).1, (over_keys h1).2, (over_spans h2).2⟩ ht1 ht2 h1 h2
end Go.Proofs.Ytdnohhlgaaihmaa
