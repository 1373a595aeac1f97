import Derived.Test.YtdnohhlgaaihmaaMt14
import Derived.Test.YtdnohhlgaaihmaaMt16

/- codicilref17: sorted by their beginnings. (printed by mkrdsort.py) -/
namespace Go.Proofs.Ytdnohhlgaaihmaa
open Go.RowKit

/-- By rising beginnings. -/
def RisF (l : List SpV) : Prop := l.Pairwise fun x y => le x.f y.f
theorem risF_ins {out : List SpV} {x : SpV} {a : Nat} (h : RisF out) (ha : a ≤ out.length) (hhi : ∀ m (h : m < out.length), a ≤ m → 0 < cb out[m].f x.f) (hlo : a = 0 ∨ ∃ h : a - 1 < out.length, cb out[a - 1].f x.f ≤ 0) : RisF (out.take a ++ x :: out.drop a) := by
  unfold RisF at *
  have h1 : (out.take a ++ out.drop a).Pairwise fun x y => le x.f y.f := by rwa [List.take_append_drop]
  rw [List.pairwise_append] at h1 ⊢
  obtain ⟨p1, p2, p3⟩ := h1
  refine ⟨p1, List.pairwise_cons.2 ⟨fun y hy => ?_, p2⟩, fun y hy z hz => ?_⟩
  · obtain ⟨m, hm, rfl⟩ := List.getElem_of_mem hy
    rw [List.getElem_drop]
    rw [List.length_drop] at hm
    have := hhi (a + m) (by omega) (by omega)
    unfold le
    rw [cb_swap]; omega
  · rcases List.mem_cons.1 hz with rfl | hz
    · obtain ⟨m, hm, rfl⟩ := List.getElem_of_mem hy
      rw [List.length_take] at hm
      rw [List.getElem_take]
      rcases hlo with h0 | ⟨h2, h3⟩
      · omega
      · by_cases e : m = a - 1
        · subst e; exact h3
        · exact le_trans (List.pairwise_iff_getElem.1 h m (a - 1) (by omega) h2 (by omega)) h3
    · exact p3 y hy z hz
theorem spTake {w : World} {A : Option Addr} {n c m : Nat} {xs : List Value} (h : Sl w 3 (.slice A n c) n xs) (hm : m ≤ n) : Sl w 3 (.slice A m c) m (xs.take (m * 3)) := by
  refine ⟨by rw [List.length_take, h.1]; omega, ?_⟩
  rcases h.2 with ⟨B, h1, h2⟩ | ⟨b, o, cap, h1, h2, h3, h4⟩
  · cases h1; exact .inl ⟨A, by rw [show m = 0 by omega], by omega⟩
  · cases h1
    exact .inr ⟨b, o, c, rfl, by omega, h3, fun j u hu => h4 j u (by rw [List.getElem?_take] at hu; split at hu; exact hu; cases hu)⟩

theorem spDrop {w : World} {A : Option Addr} {n c a : Nat} {xs : List Value} (h : Sl w 3 (.slice A n c) n xs) (ha : a ≤ n) (hc : ¬ c = a) : Sl w 3 (.slice (Option.map (fun x => x.add (a * 3)) A) (n - a) (c - a)) (n - a) (xs.drop (a * 3)) := by
  refine ⟨by rw [List.length_drop, h.1]; omega, ?_⟩
  rcases h.2 with ⟨B, h1, h2⟩ | ⟨b, o, cap, h1, h2, h3, h4⟩
  · cases h1; omega
  · cases h1
    refine .inr ⟨b, o + a * 3, c - a, by simp [Addr.add], by omega, by omega, fun j u hu => ?_⟩
    rw [List.getElem?_drop] at hu
    have := h4 _ u hu
    rwa [show o + a * 3 + j = o + (a * 3 + j) by omega]

set_option maxRecDepth 100000 in
set_option maxHeartbeats 8000000 in
theorem sorted_any (w : World) (X : Value) (l : List SpV) (hx : Sl w 3 X l.length (l.flatMap SpV.cells)) (hg : ∀ x ∈ l, x.Good w) (hl : l.length ≤ 100000) :
    Calls Try.prog 120 #[X] w fun e w' => ∃ ov os, e = .returned ov ∧ os.length = l.length ∧ RisF os ∧ (∀ y, y ∈ os ↔ y ∈ l) ∧ Ow w' 100 3 ov os.length (os.flatMap SpV.cells) ∧ (∀ k, ov.ownBlock = some k → w.heap.size ≤ k) ∧ Fr no w w' := by
  obtain ⟨A, c, rfl, hc1, _⟩ := hx.form
  have HX := Lib.hid hx; have HGD := Lib.hid hg; clear hx hg
  go_enter Try.func120, Try.ntmps120
  go_wp2
  go_loopw [3, 4] (fun ov i wr => ∃ j : Nat, ∃ out : List SpV, j ≤ l.length ∧ i = .int .i64 j ∧ out.length = j ∧ RisF out ∧ (∀ y, y ∈ out ↔ y ∈ l.take j) ∧ Ow wr 100 3 ov out.length (out.flatMap SpV.cells) ∧ (∀ k, ov.ownBlock = some k → w.heap.size ≤ k) ∧ Fr no w wr) (fun _ i _ => l.length - (intOf i).toNat)
  case atStart => exact ⟨0, [], Nat.zero_le _, rfl, rfl, List.Pairwise.nil, fun y => by simp, ow_nil _ _ _, fun k hk => by simp [Value.ownBlock] at hk, Fr.refl _ _⟩
  case round =>
    obtain ⟨j, out, hj, rfl, hol, hri, hmm, ho, hnew, hf⟩ := hrel
    obtain ⟨oA, oc, rfl, hoc, hocm⟩ := ho.form
    have hin : ∀ y ∈ out, y ∈ l := fun y hy => List.mem_of_mem_take ((hmm y).1 hy)
    have hol2 : out.length ≤ 100000 := by omega
    have HOL := Lib.hid hol; have HRI := Lib.hid hri; have HMM := Lib.hid hmm; have HOW := Lib.hid ho; have HNEW := Lib.hid hnew; have HF := Lib.hid hf; have HIN := Lib.hid hin
    clear hol hri hmm ho hnew hf hin
    by_cases hlt : j < l.length
    · obtain ⟨rb, ro, hrA, q0, q1, q2⟩ := Spans.at HX.out j hlt
      subst hrA
      have hxg := HGD.out l[j] (List.getElem_mem _)
      obtain ⟨FA, fc, hFA, _, _⟩ := hxg.F.form
      obtain ⟨TA, tc, hTA, _, _⟩ := hxg.T.form
      rw [hFA] at q0; rw [hTA] at q1
      have Q0 := Lib.hid q0; have Q1 := Lib.hid q1; have Q2 := Lib.hid q2; have HXG := Lib.hid hxg; have HFA := Lib.hid (And.intro hFA hTA)
      clear q0 q1 q2 hxg hFA hTA
      go_wp2
      go_loopw [5] (fun i wq => ∃ a : Nat, a ≤ out.length ∧ i = .int .i64 a ∧ (∀ m (h : m < out.length), a ≤ m → 0 < cb out[m].f l[j].f) ∧ Fr no wr wq) (fun i _ => (intOf i).toNat)
      case atStart => exact ⟨out.length, Nat.le_refl _, rfl, fun m h h0 => by omega, Fr.refl _ _⟩
      case round =>
        obtain ⟨a, ha, rfl, hhi, hf⟩ := hrel
        have HHI := Lib.hid hhi; have HFA2 := Lib.hid hf; have W2 := Lib.hid (HF.out.trans hf (fun _ _ h => h)); clear hhi hf
        have q0 := W2.out.cell Q0.out (fun h => h)
        have hq := World.block_lt_of_cell? _ _ q0
        have SX := Lib.hid (HFA.out.1 ▸ HXG.out.F)
        by_cases h0 : a = 0
        · have H0 := Lib.hid h0
          have d7 : decide ((0 : Int) < (a : Int)) = false := decide_eq_false (by omega)
          have d8 : decide (0 < a) = false := decide_eq_false (by omega)
          clear h0
          have W3 := Lib.hid (Fr.drew W2.out); have FA3 := Lib.hid (Fr.drew HFA2.out)
          go_wp2_with fail
          refine wp_region_ord (List.range 18) (fun i => [Kd.p, Kd.p, Kd.p, Kd.p, Kd.p, Kd.p, Kd.p, Kd.p, Kd.l, Kd.l, Kd.p, Kd.p, Kd.p, Kd.p, Kd.l, Kd.l, Kd.p, Kd.p].getD i .e) (by kernel_rfl) (by kernel_rfl) ?_
          iterate 18
            first | (refine wpX_un rfl rfl ?_; go_simp) | first | refine wpX_pu rfl rfl rfl (by first | exact pu_move rfl | exact pu_assign rfl | exact pu_nilCheck rfl rfl | exact pu_binInt rfl rfl rfl | exact pu_conv rfl rfl (by kernel_rfl) | exact pu_fld rfl (by kernel_rfl) | exact pu_ix rfl rfl rfl (by kernel_rfl) | exact pu_unOp rfl | exact pu_binStr rfl rfl rfl | exact pu_len rfl rfl | exact pu_lens rfl rfl | exact pu_pick rfl | exact pu_slice rfl rfl) (fun K hK => ?_) | refine wpX_rd rfl rfl rfl (rd_load rfl) (fun K hK => ?_) | refine wpX_gr rfl rfl rfl (by first | exact gr_buildSlice rfl | exact gr_box rfl | exact gr_alloc rfl) (fun K hK => ?_) | refine wpX_ex rfl rfl rfl (fun K hK => ?_)
            try go_wp2
          refine wpX_done ?_
          have AL := Lib.hid (show a ≤ out.length by omega)
          have W3 := Lib.hid W3.out; have FA3 := Lib.hid FA3.out
          have q0 := W3.out.cell Q0.out (fun h => h); have q1 := W3.out.cell Q1.out (fun h => h); have q2 := W3.out.cell Q2.out (fun h => h)
          go_wp2_with (at_builtin; refine wpList_apo rfl (.tmp 35) (.tmp 38) 90 rfl tbSpan (ow_nil _ _ 3) (spTake (HOW.out.kept0 FA3.out).sl AL.out) rfl rfl ?ox1 ?bx1 ?cx1 ?gox1)
          case ox1 => exact fun u hu => cells3_one out (fun y hy => HGD.out y (HIN.out y hy)) u (List.mem_of_mem_take hu)
          case bx1 => simp only [maxLen]; omega
          case cx1 => omega
          case gox1 =>
            intro NA NN nc w5 hN ho _ hf hst
            obtain rfl : a = NN := by omega
            have N5 := Lib.hid ho; have F5 := Lib.hid (fr_nil hf); have M5 := Lib.hid (nil_new hst); clear ho hf hst hN
            have W5 := Lib.hid (W3.out.trans F5.out (fun _ _ h => h)); have FA5 := Lib.hid (FA3.out.trans F5.out (fun _ _ h => h))
            have q0 := W5.out.cell Q0.out (fun h => h); have q1 := W5.out.cell Q1.out (fun h => h); have q2 := W5.out.cell Q2.out (fun h => h)
            have hxx := one_span (w := w5.alloc (.cells #[.slice FA l[j].f.length fc, .slice TA l[j].t.length tc, .bool l[j].o] 100)) (heap_alloc_new w5 _ : Has _ w5.heap.size 100 [.slice FA l[j].f.length fc, .slice TA l[j].t.length tc, .bool l[j].o]) rfl
            have hal5 := (Fr.refl no w5).alloc (.cells #[.slice FA l[j].f.length fc, .slice TA l[j].t.length tc, .bool l[j].o] 100)
            have HXX := Lib.hid hxx; have HA5 := Lib.hid hal5; clear hxx hal5
            go_wp2_with (at_builtin; refine wpList_apo rfl (.tmp 40) (.tmp 45) 90 rfl tbSpan (N5.out.kept0 HA5.out) HXX.out rfl rfl ?px1 ?qx1 ?rx1 ?sx1)
            case px1 => intro u hu; simp only [List.mem_cons, List.not_mem_nil, or_false] at hu; rcases hu with rfl | rfl | rfl <;> rfl
            case qx1 => simp only [maxLen]; omega
            case rx1 => omega
            case sx1 =>
              intro NB N6 nd w6 hN ho _ hf hst
              subst hN
              have s5 := F5.out.size; have s3 := W3.out.size; have s5w := W5.out.size; have sf3 := FA3.out.size
              have hm5 : ∀ k, (Value.slice NA (a) nc).ownBlock = some k → w.heap.size ≤ k := fun k hk => by have := (M5.out k hk).1; omega
              have hw6 : Fr no w w6 := (W5.out.trans HA5.out (fun _ _ h => h)).trans hf (fun k hk e => by have := hm5 k e; omega)
              have hm6 : ∀ k, (Value.slice NB (a + 1) nd).ownBlock = some k → w.heap.size ≤ k := fun k hk => by
                rcases stays_moved hst with e | e
                · exact hm5 k (e ▸ hk)
                · have := (e k hk).1; have := HA5.out.size; omega
              have how6 := ((HOW.out.kept0 FA5.out).kept0 HA5.out).kept hf (fun k hk e => by have h1 := (M5.out k e).1; have h2 := HOW.out.lt k hk; omega)
              have N6 := Lib.hid ho; have M6 := Lib.hid hm6; have W6 := Lib.hid hw6; have HOW6 := Lib.hid how6; clear ho hf hst hm5 hw6 hm6 how6 s5 s3 s5w sf3 q0 q1 q2
              by_cases hcap : oc = a
              · have HOC := Lib.hid (show out.length ≤ a by omega)
                have al2 := AL.out
                obtain rfl : a = oc := hcap.symm
                have HSD := Lib.hid ((⟨rfl, .inl ⟨_, rfl, rfl⟩⟩ : Sl w6 3 (.slice oA 0 0) 0 []))
                go_wp2_with (at_builtin; refine wpList_apo rfl (.tmp 47) (.tmp 50) 90 rfl tbSpan N6.out HSD.out rfl rfl ?a2x1a ?a3x1a ?a4x1a ?a5x1a)
                try case a2x1a => exact fun u hu => nomatch hu
                try case a3x1a => simp only [maxLen]; omega
                try case a4x1a => omega
                case a5x1a =>
                  intro NC N7 ne w7 hN ho _ hf hst
                  have hm7 : ∀ k, (Value.slice NC N7 ne).ownBlock = some k → w.heap.size ≤ k := fun k hk => by
                    rcases stays_moved hst with e | e
                    · exact M6.out k (e ▸ hk)
                    · have := (e k hk).1; have := W6.out.size; omega
                  have hw7 : Fr no w w7 := W6.out.trans hf (fun k hk e => by have := M6.out k e; omega)
                  have hlen : (out.take (a) ++ l[j] :: out.drop (a)).length = N7 := by have := AL.out; simp; omega
                  have hrow : Ow w7 100 3 (.slice NC N7 ne) (out.take (a) ++ l[j] :: out.drop (a)).length ((out.take (a) ++ l[j] :: out.drop (a)).flatMap SpV.cells) := by
                    rw [hlen, List.flatMap_append, List.flatMap_cons, ← flat_take3, ← flat_drop3]
                    have hcl : l[j].cells = [.slice FA l[j].f.length fc, .slice TA l[j].t.length tc, .bool l[j].o] := by unfold SpV.cells; rw [HFA.out.1, HFA.out.2]
                    rw [hcl]
                    rw [List.drop_of_length_le (by rw [cells3_len]; have := HOC.out; omega)]; simpa using ho
                  have hri := risF_ins HRI.out AL.out HHI.out (.inl H0.out)
                  have hln : (out.take (a) ++ l[j] :: out.drop (a)).length = j + 1 := by have := AL.out; have := HOL.out; simp; omega
                  have hmm : ∀ y, y ∈ out.take (a) ++ l[j] :: out.drop (a) ↔ y ∈ l.take (j + 1) := fun y => by
                    rw [List.take_succ_eq_append_getElem hlt, List.mem_append, List.mem_append, List.mem_cons, ← HMM.out y, List.mem_singleton]
                    have e : y ∈ out ↔ y ∈ out.take (a) ∨ y ∈ out.drop (a) := by rw [← List.mem_append, List.take_append_drop]
                    rw [e]
                    constructor
                    · rintro (h | h | h)
                      · exact .inl (.inl h)
                      · exact .inr h
                      · exact .inl (.inr h)
                    · rintro ((h | h) | h)
                      · exact .inl h
                      · exact .inr (.inr h)
                      · exact .inr (.inl h)
                  have HR7 := Lib.hid hrow; have M7 := Lib.hid hm7; have W7 := Lib.hid hw7; have HRI7 := Lib.hid hri; have HLN7 := Lib.hid hln; have HMM7 := Lib.hid hmm; clear ho hf hst hm7 hw7 hlen hrow hri hln hmm
                  go_wp2
                  go_roundw
                  case rel => exact ⟨j + 1, _, by omega, by first | rfl | go_num, HLN7.out, HRI7.out, HMM7.out, HR7.out, M7.out, W7.out⟩
                  case measure => simp [intOf]; omega
              · have HC2 := Lib.hid hcap
                have HSD := Lib.hid ((spDrop HOW6.out.sl AL.out HC2.out))
                go_wp2_with (at_builtin; refine wpList_apo rfl (.tmp 47) (.tmp 50) 90 rfl tbSpan N6.out HSD.out rfl rfl ?a2x1b ?a3x1b ?a4x1b ?a5x1b)
                try case a2x1b => exact fun u hu => cells3_one out (fun y hy => HGD.out y (HIN.out y hy)) u (List.mem_of_mem_drop hu)
                try case a3x1b => simp only [maxLen]; omega
                try case a4x1b => omega
                case a5x1b =>
                  intro NC N7 ne w7 hN ho _ hf hst
                  have hm7 : ∀ k, (Value.slice NC N7 ne).ownBlock = some k → w.heap.size ≤ k := fun k hk => by
                    rcases stays_moved hst with e | e
                    · exact M6.out k (e ▸ hk)
                    · have := (e k hk).1; have := W6.out.size; omega
                  have hw7 : Fr no w w7 := W6.out.trans hf (fun k hk e => by have := M6.out k e; omega)
                  have hlen : (out.take (a) ++ l[j] :: out.drop (a)).length = N7 := by have := AL.out; simp; omega
                  have hrow : Ow w7 100 3 (.slice NC N7 ne) (out.take (a) ++ l[j] :: out.drop (a)).length ((out.take (a) ++ l[j] :: out.drop (a)).flatMap SpV.cells) := by
                    rw [hlen, List.flatMap_append, List.flatMap_cons, ← flat_take3, ← flat_drop3]
                    have hcl : l[j].cells = [.slice FA l[j].f.length fc, .slice TA l[j].t.length tc, .bool l[j].o] := by unfold SpV.cells; rw [HFA.out.1, HFA.out.2]
                    rw [hcl]
                    simpa using ho
                  have hri := risF_ins HRI.out AL.out HHI.out (.inl H0.out)
                  have hln : (out.take (a) ++ l[j] :: out.drop (a)).length = j + 1 := by have := AL.out; have := HOL.out; simp; omega
                  have hmm : ∀ y, y ∈ out.take (a) ++ l[j] :: out.drop (a) ↔ y ∈ l.take (j + 1) := fun y => by
                    rw [List.take_succ_eq_append_getElem hlt, List.mem_append, List.mem_append, List.mem_cons, ← HMM.out y, List.mem_singleton]
                    have e : y ∈ out ↔ y ∈ out.take (a) ∨ y ∈ out.drop (a) := by rw [← List.mem_append, List.take_append_drop]
                    rw [e]
                    constructor
                    · rintro (h | h | h)
                      · exact .inl (.inl h)
                      · exact .inr h
                      · exact .inl (.inr h)
                    · rintro ((h | h) | h)
                      · exact .inl h
                      · exact .inr (.inr h)
                      · exact .inr (.inl h)
                  have HR7 := Lib.hid hrow; have M7 := Lib.hid hm7; have W7 := Lib.hid hw7; have HRI7 := Lib.hid hri; have HLN7 := Lib.hid hln; have HMM7 := Lib.hid hmm; clear ho hf hst hm7 hw7 hlen hrow hri hln hmm
                  go_wp2
                  go_roundw
                  case rel => exact ⟨j + 1, _, by omega, by first | rfl | go_num, HLN7.out, HRI7.out, HMM7.out, HR7.out, M7.out, W7.out⟩
                  case measure => simp [intOf]; omega
        · rcases a with _ | a
          · exact absurd rfl h0
          clear h0
          have hal : a < out.length := by omega
          rw [show ((a + 1 : Nat) : Int) = (a : Int) + 1 by omega]
          obtain ⟨ob, oo, hoA, p0, -, -⟩ := Spans.at HOW.out.sl a hal
          obtain ⟨GA, gc, hGA, _, _⟩ := (HGD.out out[a] (HIN.out _ (List.getElem_mem _))).F.form
          rw [hGA] at p0
          have p0 := HFA2.out.cell p0 (fun h => h)
          have SG := Lib.hid (hGA ▸ (HGD.out out[a] (HIN.out _ (List.getElem_mem _))).F)
          subst hoA
          have HGA := Lib.hid hGA; clear hGA
          have d7 : decide ((0 : Int) < (a : Int) + 1) = true := decide_eq_true (by omega)
          by_cases hc : cb out[a].f l[j].f ≤ 0
          · have hle : decide (cb out[a].f l[j].f ≤ 0) = true := decide_eq_true hc
            have hbl : (Op.bytesLess out[a].f l[j].f || out[a].f == l[j].f) = true := by rw [leq_cb]; exact hle
            have HCC := Lib.hid hc; clear hc
            have W3 := Lib.hid (Fr.drew W2.out); have FA3 := Lib.hid (Fr.drew HFA2.out)
            go_wp2_with fail
            refine wp_region_ord (List.range 18) (fun i => [Kd.p, Kd.p, Kd.p, Kd.p, Kd.p, Kd.p, Kd.p, Kd.p, Kd.l, Kd.l, Kd.p, Kd.p, Kd.p, Kd.p, Kd.l, Kd.l, Kd.p, Kd.p].getD i .e) (by kernel_rfl) (by kernel_rfl) ?_
            iterate 9
              first | (refine wpX_un rfl rfl ?_; go_simp) | first | refine wpX_pu rfl rfl rfl (by first | exact pu_move rfl | exact pu_assign rfl | exact pu_nilCheck rfl rfl | exact pu_binInt rfl rfl rfl | exact pu_conv rfl rfl (by kernel_rfl) | exact pu_fld rfl (by kernel_rfl) | exact pu_ix rfl rfl rfl (by kernel_rfl) | exact pu_unOp rfl | exact pu_binStr rfl rfl rfl | exact pu_len rfl rfl | exact pu_lens rfl rfl | exact pu_pick rfl | exact pu_slice rfl rfl) (fun K hK => ?_) | refine wpX_rd rfl rfl rfl (rd_load rfl) (fun K hK => ?_) | refine wpX_gr rfl rfl rfl (by first | exact gr_buildSlice rfl | exact gr_box rfl | exact gr_alloc rfl) (fun K hK => ?_) | refine wpX_ex rfl rfl rfl (fun K hK => ?_)
              try go_wp2
            refine wpX_lv (.string ⟨out[a].f.toArray⟩) rfl rfl rfl (fun e => ?_) ?_
            · have := str_ext (P := Try.prog) (src := 34) (dst := 9) (e := 5) (by kernel_rfl) (by kernel_rfl) (by kernel_rfl) (SG.out.kept0 (Fr.drew W2.out)) e
              simp [execOp, this, Act.eval]
            go_simp
            iterate 5
              first | (refine wpX_un rfl rfl ?_; go_simp) | first | refine wpX_pu rfl rfl rfl (by first | exact pu_move rfl | exact pu_assign rfl | exact pu_nilCheck rfl rfl | exact pu_binInt rfl rfl rfl | exact pu_conv rfl rfl (by kernel_rfl) | exact pu_fld rfl (by kernel_rfl) | exact pu_ix rfl rfl rfl (by kernel_rfl) | exact pu_unOp rfl | exact pu_binStr rfl rfl rfl | exact pu_len rfl rfl | exact pu_lens rfl rfl | exact pu_pick rfl | exact pu_slice rfl rfl) (fun K hK => ?_) | refine wpX_rd rfl rfl rfl (rd_load rfl) (fun K hK => ?_) | refine wpX_gr rfl rfl rfl (by first | exact gr_buildSlice rfl | exact gr_box rfl | exact gr_alloc rfl) (fun K hK => ?_) | refine wpX_ex rfl rfl rfl (fun K hK => ?_)
              try go_wp2
            refine wpX_lv (.string ⟨l[j].f.toArray⟩) rfl rfl rfl (fun e => ?_) ?_
            · have := str_ext (P := Try.prog) (src := 34) (dst := 9) (e := 5) (by kernel_rfl) (by kernel_rfl) (by kernel_rfl) (SX.out.kept0 (Fr.drew W2.out)) e
              simp [execOp, this, Act.eval]
            go_simp
            iterate 2
              first | (refine wpX_un rfl rfl ?_; go_simp) | first | refine wpX_pu rfl rfl rfl (by first | exact pu_move rfl | exact pu_assign rfl | exact pu_nilCheck rfl rfl | exact pu_binInt rfl rfl rfl | exact pu_conv rfl rfl (by kernel_rfl) | exact pu_fld rfl (by kernel_rfl) | exact pu_ix rfl rfl rfl (by kernel_rfl) | exact pu_unOp rfl | exact pu_binStr rfl rfl rfl | exact pu_len rfl rfl | exact pu_lens rfl rfl | exact pu_pick rfl | exact pu_slice rfl rfl) (fun K hK => ?_) | refine wpX_rd rfl rfl rfl (rd_load rfl) (fun K hK => ?_) | refine wpX_gr rfl rfl rfl (by first | exact gr_buildSlice rfl | exact gr_box rfl | exact gr_alloc rfl) (fun K hK => ?_) | refine wpX_ex rfl rfl rfl (fun K hK => ?_)
              try go_wp2
            refine wpX_done ?_
            clear hle hbl
            have p0 := p0
            have AL := Lib.hid (show a + 1 ≤ out.length by omega)
            have W3 := Lib.hid W3.out; have FA3 := Lib.hid FA3.out
            have q0 := W3.out.cell Q0.out (fun h => h); have q1 := W3.out.cell Q1.out (fun h => h); have q2 := W3.out.cell Q2.out (fun h => h)
            go_wp2_with (at_builtin; refine wpList_apo rfl (.tmp 35) (.tmp 38) 90 rfl tbSpan (ow_nil _ _ 3) (spTake (HOW.out.kept0 FA3.out).sl AL.out) rfl rfl ?ox2 ?bx2 ?cx2 ?gox2)
            case ox2 => exact fun u hu => cells3_one out (fun y hy => HGD.out y (HIN.out y hy)) u (List.mem_of_mem_take hu)
            case bx2 => simp only [maxLen]; omega
            case cx2 => omega
            case gox2 =>
              intro NA NN nc w5 hN ho _ hf hst
              obtain rfl : a + 1 = NN := by omega
              have N5 := Lib.hid ho; have F5 := Lib.hid (fr_nil hf); have M5 := Lib.hid (nil_new hst); clear ho hf hst hN
              have W5 := Lib.hid (W3.out.trans F5.out (fun _ _ h => h)); have FA5 := Lib.hid (FA3.out.trans F5.out (fun _ _ h => h))
              have q0 := W5.out.cell Q0.out (fun h => h); have q1 := W5.out.cell Q1.out (fun h => h); have q2 := W5.out.cell Q2.out (fun h => h)
              have hxx := one_span (w := w5.alloc (.cells #[.slice FA l[j].f.length fc, .slice TA l[j].t.length tc, .bool l[j].o] 100)) (heap_alloc_new w5 _ : Has _ w5.heap.size 100 [.slice FA l[j].f.length fc, .slice TA l[j].t.length tc, .bool l[j].o]) rfl
              have hal5 := (Fr.refl no w5).alloc (.cells #[.slice FA l[j].f.length fc, .slice TA l[j].t.length tc, .bool l[j].o] 100)
              have HXX := Lib.hid hxx; have HA5 := Lib.hid hal5; clear hxx hal5
              go_wp2_with (at_builtin; refine wpList_apo rfl (.tmp 40) (.tmp 45) 90 rfl tbSpan (N5.out.kept0 HA5.out) HXX.out rfl rfl ?px2 ?qx2 ?rx2 ?sx2)
              case px2 => intro u hu; simp only [List.mem_cons, List.not_mem_nil, or_false] at hu; rcases hu with rfl | rfl | rfl <;> rfl
              case qx2 => simp only [maxLen]; omega
              case rx2 => omega
              case sx2 =>
                intro NB N6 nd w6 hN ho _ hf hst
                subst hN
                have s5 := F5.out.size; have s3 := W3.out.size; have s5w := W5.out.size; have sf3 := FA3.out.size
                have hm5 : ∀ k, (Value.slice NA (a + 1) nc).ownBlock = some k → w.heap.size ≤ k := fun k hk => by have := (M5.out k hk).1; omega
                have hw6 : Fr no w w6 := (W5.out.trans HA5.out (fun _ _ h => h)).trans hf (fun k hk e => by have := hm5 k e; omega)
                have hm6 : ∀ k, (Value.slice NB (a + 1 + 1) nd).ownBlock = some k → w.heap.size ≤ k := fun k hk => by
                  rcases stays_moved hst with e | e
                  · exact hm5 k (e ▸ hk)
                  · have := (e k hk).1; have := HA5.out.size; omega
                have how6 := ((HOW.out.kept0 FA5.out).kept0 HA5.out).kept hf (fun k hk e => by have h1 := (M5.out k e).1; have h2 := HOW.out.lt k hk; omega)
                have N6 := Lib.hid ho; have M6 := Lib.hid hm6; have W6 := Lib.hid hw6; have HOW6 := Lib.hid how6; clear ho hf hst hm5 hw6 hm6 how6 s5 s3 s5w sf3 q0 q1 q2
                by_cases hcap : oc = a + 1
                · have HOC := Lib.hid (show out.length ≤ a + 1 by omega)
                  have al2 := AL.out
                  obtain rfl : a + 1 = oc := hcap.symm
                  have HSD := Lib.hid ((⟨rfl, .inl ⟨_, rfl, rfl⟩⟩ : Sl w6 3 (.slice (some ⟨ob, oo, none⟩) 0 0) 0 []))
                  go_wp2_with (at_builtin; refine wpList_apo rfl (.tmp 47) (.tmp 50) 90 rfl tbSpan N6.out HSD.out rfl rfl ?a2x2a ?a3x2a ?a4x2a ?a5x2a)
                  try case a2x2a => exact fun u hu => nomatch hu
                  try case a3x2a => simp only [maxLen]; omega
                  try case a4x2a => omega
                  case a5x2a =>
                    intro NC N7 ne w7 hN ho _ hf hst
                    have hm7 : ∀ k, (Value.slice NC N7 ne).ownBlock = some k → w.heap.size ≤ k := fun k hk => by
                      rcases stays_moved hst with e | e
                      · exact M6.out k (e ▸ hk)
                      · have := (e k hk).1; have := W6.out.size; omega
                    have hw7 : Fr no w w7 := W6.out.trans hf (fun k hk e => by have := M6.out k e; omega)
                    have hlen : (out.take (a + 1) ++ l[j] :: out.drop (a + 1)).length = N7 := by have := AL.out; simp; omega
                    have hrow : Ow w7 100 3 (.slice NC N7 ne) (out.take (a + 1) ++ l[j] :: out.drop (a + 1)).length ((out.take (a + 1) ++ l[j] :: out.drop (a + 1)).flatMap SpV.cells) := by
                      rw [hlen, List.flatMap_append, List.flatMap_cons, ← flat_take3, ← flat_drop3]
                      have hcl : l[j].cells = [.slice FA l[j].f.length fc, .slice TA l[j].t.length tc, .bool l[j].o] := by unfold SpV.cells; rw [HFA.out.1, HFA.out.2]
                      rw [hcl]
                      rw [List.drop_of_length_le (by rw [cells3_len]; have := HOC.out; omega)]; simpa using ho
                    have hri := risF_ins HRI.out AL.out HHI.out (.inr ⟨hal, HCC.out⟩)
                    have hln : (out.take (a + 1) ++ l[j] :: out.drop (a + 1)).length = j + 1 := by have := AL.out; have := HOL.out; simp; omega
                    have hmm : ∀ y, y ∈ out.take (a + 1) ++ l[j] :: out.drop (a + 1) ↔ y ∈ l.take (j + 1) := fun y => by
                      rw [List.take_succ_eq_append_getElem hlt, List.mem_append, List.mem_append, List.mem_cons, ← HMM.out y, List.mem_singleton]
                      have e : y ∈ out ↔ y ∈ out.take (a + 1) ∨ y ∈ out.drop (a + 1) := by rw [← List.mem_append, List.take_append_drop]
                      rw [e]
                      constructor
                      · rintro (h | h | h)
                        · exact .inl (.inl h)
                        · exact .inr h
                        · exact .inl (.inr h)
                      · rintro ((h | h) | h)
                        · exact .inl h
                        · exact .inr (.inr h)
                        · exact .inr (.inl h)
                    have HR7 := Lib.hid hrow; have M7 := Lib.hid hm7; have W7 := Lib.hid hw7; have HRI7 := Lib.hid hri; have HLN7 := Lib.hid hln; have HMM7 := Lib.hid hmm; clear ho hf hst hm7 hw7 hlen hrow hri hln hmm
                    go_wp2
                    go_roundw
                    case rel => exact ⟨j + 1, _, by omega, by first | rfl | go_num, HLN7.out, HRI7.out, HMM7.out, HR7.out, M7.out, W7.out⟩
                    case measure => simp [intOf]; omega
                · have HC2 := Lib.hid hcap
                  have HSD := Lib.hid ((spDrop HOW6.out.sl AL.out HC2.out))
                  go_wp2_with (at_builtin; refine wpList_apo rfl (.tmp 47) (.tmp 50) 90 rfl tbSpan N6.out HSD.out rfl rfl ?a2x2b ?a3x2b ?a4x2b ?a5x2b)
                  try case a2x2b => exact fun u hu => cells3_one out (fun y hy => HGD.out y (HIN.out y hy)) u (List.mem_of_mem_drop hu)
                  try case a3x2b => simp only [maxLen]; omega
                  try case a4x2b => omega
                  case a5x2b =>
                    intro NC N7 ne w7 hN ho _ hf hst
                    have hm7 : ∀ k, (Value.slice NC N7 ne).ownBlock = some k → w.heap.size ≤ k := fun k hk => by
                      rcases stays_moved hst with e | e
                      · exact M6.out k (e ▸ hk)
                      · have := (e k hk).1; have := W6.out.size; omega
                    have hw7 : Fr no w w7 := W6.out.trans hf (fun k hk e => by have := M6.out k e; omega)
                    have hlen : (out.take (a + 1) ++ l[j] :: out.drop (a + 1)).length = N7 := by have := AL.out; simp; omega
                    have hrow : Ow w7 100 3 (.slice NC N7 ne) (out.take (a + 1) ++ l[j] :: out.drop (a + 1)).length ((out.take (a + 1) ++ l[j] :: out.drop (a + 1)).flatMap SpV.cells) := by
                      rw [hlen, List.flatMap_append, List.flatMap_cons, ← flat_take3, ← flat_drop3]
                      have hcl : l[j].cells = [.slice FA l[j].f.length fc, .slice TA l[j].t.length tc, .bool l[j].o] := by unfold SpV.cells; rw [HFA.out.1, HFA.out.2]
                      rw [hcl]
                      simpa using ho
                    have hri := risF_ins HRI.out AL.out HHI.out (.inr ⟨hal, HCC.out⟩)
                    have hln : (out.take (a + 1) ++ l[j] :: out.drop (a + 1)).length = j + 1 := by have := AL.out; have := HOL.out; simp; omega
                    have hmm : ∀ y, y ∈ out.take (a + 1) ++ l[j] :: out.drop (a + 1) ↔ y ∈ l.take (j + 1) := fun y => by
                      rw [List.take_succ_eq_append_getElem hlt, List.mem_append, List.mem_append, List.mem_cons, ← HMM.out y, List.mem_singleton]
                      have e : y ∈ out ↔ y ∈ out.take (a + 1) ∨ y ∈ out.drop (a + 1) := by rw [← List.mem_append, List.take_append_drop]
                      rw [e]
                      constructor
                      · rintro (h | h | h)
                        · exact .inl (.inl h)
                        · exact .inr h
                        · exact .inl (.inr h)
                      · rintro ((h | h) | h)
                        · exact .inl h
                        · exact .inr (.inr h)
                        · exact .inr (.inl h)
                    have HR7 := Lib.hid hrow; have M7 := Lib.hid hm7; have W7 := Lib.hid hw7; have HRI7 := Lib.hid hri; have HLN7 := Lib.hid hln; have HMM7 := Lib.hid hmm; clear ho hf hst hm7 hw7 hlen hrow hri hln hmm
                    go_wp2
                    go_roundw
                    case rel => exact ⟨j + 1, _, by omega, by first | rfl | go_num, HLN7.out, HRI7.out, HMM7.out, HR7.out, M7.out, W7.out⟩
                    case measure => simp [intOf]; omega
          · have hle : decide (cb out[a].f l[j].f ≤ 0) = false := decide_eq_false hc
            have hbl : (Op.bytesLess out[a].f l[j].f || out[a].f == l[j].f) = false := by rw [leq_cb]; exact hle
            have HCC := Lib.hid (show 0 < cb out[a].f l[j].f by omega); clear hc
            go_wp2_with fail
            refine wp_region_ord (List.range 18) (fun i => [Kd.p, Kd.p, Kd.p, Kd.p, Kd.p, Kd.p, Kd.p, Kd.p, Kd.l, Kd.l, Kd.p, Kd.p, Kd.p, Kd.p, Kd.l, Kd.l, Kd.p, Kd.p].getD i .e) (by kernel_rfl) (by kernel_rfl) ?_
            iterate 9
              first | (refine wpX_un rfl rfl ?_; go_simp) | first | refine wpX_pu rfl rfl rfl (by first | exact pu_move rfl | exact pu_assign rfl | exact pu_nilCheck rfl rfl | exact pu_binInt rfl rfl rfl | exact pu_conv rfl rfl (by kernel_rfl) | exact pu_fld rfl (by kernel_rfl) | exact pu_ix rfl rfl rfl (by kernel_rfl) | exact pu_unOp rfl | exact pu_binStr rfl rfl rfl | exact pu_len rfl rfl | exact pu_lens rfl rfl | exact pu_pick rfl | exact pu_slice rfl rfl) (fun K hK => ?_) | refine wpX_rd rfl rfl rfl (rd_load rfl) (fun K hK => ?_) | refine wpX_gr rfl rfl rfl (by first | exact gr_buildSlice rfl | exact gr_box rfl | exact gr_alloc rfl) (fun K hK => ?_) | refine wpX_ex rfl rfl rfl (fun K hK => ?_)
              try go_wp2
            refine wpX_lv (.string ⟨out[a].f.toArray⟩) rfl rfl rfl (fun e => ?_) ?_
            · have := str_ext (P := Try.prog) (src := 34) (dst := 9) (e := 5) (by kernel_rfl) (by kernel_rfl) (by kernel_rfl) (SG.out.kept0 (Fr.drew W2.out)) e
              simp [execOp, this, Act.eval]
            go_simp
            iterate 5
              first | (refine wpX_un rfl rfl ?_; go_simp) | first | refine wpX_pu rfl rfl rfl (by first | exact pu_move rfl | exact pu_assign rfl | exact pu_nilCheck rfl rfl | exact pu_binInt rfl rfl rfl | exact pu_conv rfl rfl (by kernel_rfl) | exact pu_fld rfl (by kernel_rfl) | exact pu_ix rfl rfl rfl (by kernel_rfl) | exact pu_unOp rfl | exact pu_binStr rfl rfl rfl | exact pu_len rfl rfl | exact pu_lens rfl rfl | exact pu_pick rfl | exact pu_slice rfl rfl) (fun K hK => ?_) | refine wpX_rd rfl rfl rfl (rd_load rfl) (fun K hK => ?_) | refine wpX_gr rfl rfl rfl (by first | exact gr_buildSlice rfl | exact gr_box rfl | exact gr_alloc rfl) (fun K hK => ?_) | refine wpX_ex rfl rfl rfl (fun K hK => ?_)
              try go_wp2
            refine wpX_lv (.string ⟨l[j].f.toArray⟩) rfl rfl rfl (fun e => ?_) ?_
            · have := str_ext (P := Try.prog) (src := 34) (dst := 9) (e := 5) (by kernel_rfl) (by kernel_rfl) (by kernel_rfl) (SX.out.kept0 (Fr.drew W2.out)) e
              simp [execOp, this, Act.eval]
            go_simp
            iterate 2
              first | (refine wpX_un rfl rfl ?_; go_simp) | first | refine wpX_pu rfl rfl rfl (by first | exact pu_move rfl | exact pu_assign rfl | exact pu_nilCheck rfl rfl | exact pu_binInt rfl rfl rfl | exact pu_conv rfl rfl (by kernel_rfl) | exact pu_fld rfl (by kernel_rfl) | exact pu_ix rfl rfl rfl (by kernel_rfl) | exact pu_unOp rfl | exact pu_binStr rfl rfl rfl | exact pu_len rfl rfl | exact pu_lens rfl rfl | exact pu_pick rfl | exact pu_slice rfl rfl) (fun K hK => ?_) | refine wpX_rd rfl rfl rfl (rd_load rfl) (fun K hK => ?_) | refine wpX_gr rfl rfl rfl (by first | exact gr_buildSlice rfl | exact gr_box rfl | exact gr_alloc rfl) (fun K hK => ?_) | refine wpX_ex rfl rfl rfl (fun K hK => ?_)
              try go_wp2
            refine wpX_done ?_
            go_wp2
            go_roundw
            case rel => exact ⟨a, by omega, by first | rfl | go_num, fun m h hm => by rcases Nat.eq_or_lt_of_le hm with rfl | h2; exact HCC.out; exact HHI.out m h h2, Fr.drew HFA2.out⟩
            case measure => simp [intOf]
    · obtain rfl : j = l.length := by omega
      go_wp2
      go_ret
      exact ⟨_, out, rfl, HOL.out, HRI.out, fun y => by rw [HMM.out y, List.take_of_length_le (Nat.le_refl _)], HOW.out, HNEW.out, HF.out⟩
end Go.Proofs.Ytdnohhlgaaihmaa

/- codicilref17.All: the plain law: spans put together one by one, by rising beginnings. -/
namespace Go.Proofs.Ytdnohhlgaaihmaa
open Go.RowKit
open SpV

theorem norm_cons {y : SpV} {ys : List SpV} : Norm (y :: ys) ↔ y.Ok ∧ (∀ z ∈ ys, y.o = false ∧ lt y.t z.f) ∧ Norm ys := Iff.rfl
theorem norm_append : ∀ (A B : List SpV), Norm (A ++ B) ↔ Norm A ∧ Norm B ∧ ∀ y ∈ A, ∀ z ∈ B, y.o = false ∧ lt y.t z.f
  | [], B => by simp [Norm]
  | a :: A, B => by
    rw [List.cons_append]
    rw [norm_cons, norm_cons, norm_append A B]
    constructor
    · rintro ⟨h1, h2, h3, h4, h5⟩
      refine ⟨⟨h1, fun z hz => h2 z (List.mem_append_left _ hz), h3⟩, h4, fun y hy z hz => ?_⟩
      rcases List.mem_cons.1 hy with rfl | hy
      · exact h2 z (List.mem_append_right _ hz)
      · exact h5 y hy z hz
    · rintro ⟨⟨h1, h2, h3⟩, h4, h5⟩
      refine ⟨h1, fun z hz => ?_, h3, h4, fun y hy z hz => h5 y (List.mem_cons_of_mem _ hy) z hz⟩
      rcases List.mem_append.1 hz with hz | hz
      · exact h2 z hz
      · exact h5 a (List.mem_cons_self ..) z hz

theorem mem_append {A B : List SpV} {k : List UInt8} : Mem (A ++ B) k ↔ Mem A k ∨ Mem B k := by
  unfold Mem
  constructor
  · rintro ⟨x, hx, h⟩
    rcases List.mem_append.1 hx with hx | hx
    · exact .inl ⟨x, hx, h⟩
    · exact .inr ⟨x, hx, h⟩
  · rintro (⟨x, hx, h⟩ | ⟨x, hx, h⟩)
    · exact ⟨x, List.mem_append_left _ hx, h⟩
    · exact ⟨x, List.mem_append_right _ hx, h⟩
theorem mem_one {x : SpV} {k : List UInt8} : Mem [x] k ↔ x.mem k := by
  unfold Mem; simp

/-- A span behind all. -/
theorem norm_first (x : SpV) (hx : x.Ok) : Norm [x] := ⟨hx, fun _ h => (nomatch h), trivial⟩
theorem norm_push {A : List SpV} {z x : SpV} (h : Norm (A ++ [z])) (hx : x.Ok) (ho : z.o = false) (hlt : lt z.t x.f) : Norm ((A ++ [z]) ++ [x]) := by
  refine (norm_append _ _).2 ⟨h, norm_first x hx, fun y hy w hw => ?_⟩
  cases List.mem_singleton.1 hw
  obtain ⟨h1, h2, h3⟩ := (norm_append _ _).1 h
  have hz : z.Ok := h2.1
  rcases List.mem_append.1 hy with hy | hy
  · obtain ⟨h4, h5⟩ := h3 y hy z (List.mem_singleton.2 rfl)
    exact ⟨h4, lt_trans (lt_trans h5 (hz.some_ ho)) hlt⟩
  · cases List.mem_singleton.1 hy
    exact ⟨ho, hlt⟩

/-- A span that meets the last. -/
theorem norm_meet {A : List SpV} {z x : SpV} (h : Norm (A ++ [z])) (hx : x.Ok) (hf : le z.f x.f) (hm : z.to x.f) : Norm (A ++ [merge z x]) ∧ ∀ k, Mem (A ++ [merge z x]) k ↔ Mem (A ++ [z]) k ∨ x.mem k := by
  obtain ⟨h1, h2, h3⟩ := (norm_append _ _).1 h
  have hz : z.Ok := h2.1
  have hmf : (merge z x).f = z.f := by
    rw [merge_f, if_neg]
    unfold le at hf
    rw [cb_swap]; omega
  refine ⟨(norm_append _ _).2 ⟨h1, norm_first _ (merge_ok hz), fun y hy w hw => ?_⟩, fun k => ?_⟩
  · cases List.mem_singleton.1 hw
    rw [hmf]
    exact h3 y hy z (List.mem_singleton.2 rfl)
  · rw [mem_append, mem_append, mem_one, mem_one, merge_mem hm (x := z) (y := x) (by
      unfold SpV.to
      rcases e : x.o with _ | _
      · exact .inr (le_trans hf (lt_le (hx.some_ e)))
      · exact .inl rfl), or_assoc]

theorem flat_put3 (l : List SpV) (i : Nat) (x : SpV) (h : i < l.length) : (((l.flatMap SpV.cells).set (i * 3) x.F).set (i * 3 + 1) x.T).set (i * 3 + 2) (.bool x.o) = (l.set i x).flatMap SpV.cells := by
  induction l generalizing i with
  | nil => simp at h
  | cons a l ih =>
    cases i with
    | zero => simp [SpV.cells]
    | succ i =>
      have := ih i (by simpa using h)
      rw [List.set_cons_succ, List.flatMap_cons, List.flatMap_cons, ← this]
      rw [show (i + 1) * 3 = i * 3 + 3 by omega]
      simp [SpV.cells, Nat.add_right_comm]

theorem ow_here {w : World} {e : TypeId} {sz g og n c : Nat} {xs : List Value} (h : Ow w e sz (.slice (some ⟨g, og, none⟩) n c) n xs) :
    og = 0 ∧ ∃ cur, w.heap[g]? = some (.cells cur e (0, 0)) ∧ n ≤ c ∧ c ≤ maxLen ∧ c * sz ≤ cur.size ∧ cur.toList.take (n * sz) = xs := by
  rcases h.2 with ⟨h1, _⟩ | ⟨g', cap, cur, h1, h2, h3, h4, h5, h6⟩
  · cases h1
  · cases h1; exact ⟨rfl, cur, h2, h3, h4, h5, h6⟩

theorem ow_put3 {w : World} {e : TypeId} {g n c i : Nat} {l : List SpV} (x : SpV) (h : Ow w e 3 (.slice (some ⟨g, 0, none⟩) n c) n (l.flatMap SpV.cells)) (hi : i < l.length) (hn : n = l.length) :
    Ow (((w.setCell ⟨g, i * 3, none⟩ x.F).setCell ⟨g, i * 3 + 1, none⟩ x.T).setCell ⟨g, i * 3 + 2, none⟩ (.bool x.o)) e 3 (.slice (some ⟨g, 0, none⟩) n c) n ((l.set i x).flatMap SpV.cells) ∧
    Fr (fun k => k = g) w (((w.setCell ⟨g, i * 3, none⟩ x.F).setCell ⟨g, i * 3 + 1, none⟩ x.T).setCell ⟨g, i * 3 + 2, none⟩ (.bool x.o)) := by
  obtain ⟨_, cur, h2, h3, h4, h5, h6⟩ := ow_here h
  refine ⟨⟨?_, .inr ⟨g, c, _, rfl, hp_same (hp_same (hp_same h2 (i * 3) x.F) (i * 3 + 1) x.T) (i * 3 + 2) (.bool x.o), h3, h4, by simpa using h5, ?_⟩⟩,
    Fr.setCell (Fr.setCell (Fr.setCell (Fr.refl (fun k => k = g) w) ⟨g, i * 3, none⟩ _ (fun _ => rfl)) ⟨g, i * 3 + 1, none⟩ _ (fun _ => rfl)) ⟨g, i * 3 + 2, none⟩ _ (fun _ => rfl)⟩
  · rw [cells3_len, List.length_set, hn]
  · simp only [Array.toList_setIfInBounds, List.take_set, h6]
    exact flat_put3 l i x hi

end Go.Proofs.Ytdnohhlgaaihmaa
