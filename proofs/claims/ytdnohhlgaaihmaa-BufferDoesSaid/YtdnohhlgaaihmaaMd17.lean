import Derived.Test.YtdnohhlgaaihmaaMd15
import Derived.Test.YtdnohhlgaaihmaaMd16

/- codicilref16: the document's buffer: Changes. -/
namespace Go.Proofs.Ytdnohhlgaaihmaa
open Go.RowKit

/-- What the document's Changes are. -/
def chgL (l : List SpV) : List SpV := l.foldl sayL []
theorem chgL_succ (l : List SpV) (j : Nat) (h : j < l.length) : chgL (l.take (j + 1)) = sayL (chgL (l.take j)) l[j] := by
  unfold chgL
  rw [List.take_succ_eq_append_getElem h, List.foldl_append]; rfl
theorem ris_chg (l : List SpV) : Ris (chgL l) := by
  unfold chgL
  suffices h : ∀ (l out : List SpV), Ris out → Ris (l.foldl sayL out) from h l [] List.Pairwise.nil
  intro l
  induction l with
  | nil => intro out h; exact h
  | cons a l ih => intro out h; exact ih _ (ris_say h)
theorem mem_chg (l : List SpV) : ∀ y ∈ chgL l, y ∈ l := by
  unfold chgL
  suffices h : ∀ (l out : List SpV), Ris out → ∀ y ∈ l.foldl sayL out, y ∈ out ∨ y ∈ l from fun y hy => by
    rcases h l [] List.Pairwise.nil y hy with h | h
    · cases h
    · exact h
  intro l
  induction l with
  | nil => intro out _ y hy; exact .inl hy
  | cons a l ih =>
    intro out h y hy
    rcases ih _ (ris_say h) y hy with h2 | h2
    · rcases (mem_say h).1 h2 with rfl | ⟨h3, _⟩
      · exact .inr (List.mem_cons_self ..)
      · exact .inl h3
    · exact .inr (List.mem_cons_of_mem _ h2)
theorem chg_len (l : List SpV) : (chgL l).length ≤ l.length := by
  unfold chgL
  suffices h : ∀ (l out : List SpV), (l.foldl sayL out).length ≤ out.length + l.length from by have := h l []; simpa using this
  intro l
  induction l with
  | nil => intro out; simp
  | cons a l ih => intro out; have := ih (sayL out a); have := say_len out a; simp only [List.foldl_cons, List.length_cons]; omega

theorem slTake {w : World} {A : Option Addr} {n c m : Nat} {xs : List Value} (h : Sl w 3 (.slice A n c) n xs) (hm : m ≤ n) : Sl w 3 (.slice A m c) m (xs.take (m * 3)) := by
  refine ⟨by rw [List.length_take, h.1]; omega, ?_⟩
  rcases h.2 with ⟨B, h1, h2⟩ | ⟨b, o, cap, h1, h2, h3, h4⟩
  · cases h1; exact .inl ⟨A, by rw [show m = 0 by omega], by omega⟩
  · cases h1
    exact .inr ⟨b, o, c, rfl, by omega, h3, fun j u hu => h4 j u (by rw [List.getElem?_take] at hu; split at hu; exact hu; cases hu)⟩

theorem slDrop1 {w : World} {A : Option Addr} {n c a : Nat} {xs : List Value} (h : Sl w 3 (.slice A n c) n xs) (ha : a ≤ n) (hc : ¬ c = a) : Sl w 3 (.slice (Option.map (fun x => x.add (a * 3)) A) (n - a) (c - a)) (n - a) (xs.drop (a * 3)) := by
  refine ⟨by rw [List.length_drop, h.1]; omega, ?_⟩
  rcases h.2 with ⟨B, h1, h2⟩ | ⟨b, o, cap, h1, h2, h3, h4⟩
  · cases h1; omega
  · cases h1
    refine .inr ⟨b, o + a * 3, c - a, by simp [Addr.add], by omega, by omega, fun j u hu => ?_⟩
    rw [List.getElem?_drop] at hu
    have := h4 _ u hu
    rwa [show o + a * 3 + j = o + (a * 3 + j) by omega]
theorem slDropS {w : World} {b o n c a : Nat} {xs : List Value} (h : Sl w 3 (.slice (some ⟨b, o, none⟩) n c) n xs) (ha : a ≤ n) (hc : ¬ c = a) : Sl w 3 (.slice (some ⟨b, o + a * 3, none⟩) (n - a) (c - a)) (n - a) (xs.drop (a * 3)) := by
  have := slDrop1 h ha hc
  have e : (Option.map (fun x => x.add (a * 3)) (some (⟨b, o, none⟩ : Addr))) = some ⟨b, o + a * 3, none⟩ := by simp [Addr.add]
  rwa [e] at this
theorem slDrop0 {w : World} {A : Option Addr} {n c a : Nat} {xs : List Value} (h : Sl w 3 (.slice A n c) n xs) (ha : a ≤ n) (hc : ¬ c = a) : Sl w 3 (.slice (Option.map (fun x => x.add (a * 3)) A) 0 (c - a)) 0 [] := by
  refine ⟨rfl, ?_⟩
  rcases h.2 with ⟨B, h1, h2⟩ | ⟨b, o, cap, h1, h2, h3, h4⟩
  · cases h1; omega
  · cases h1
    exact .inr ⟨b, o + a * 3, c - a, by simp [Addr.add], Nat.zero_le _, by omega, fun j u hu => by simp at hu⟩

set_option maxRecDepth 100000 in
set_option maxHeartbeats 8000000 in
theorem rchanges_any (w : World) (p : Nat) (sv : Value) (l : List SpV) (hs : Rf w p sv l) (hl : l.length ≤ 100000) :
    Calls Try.prog 36 #[.pointer (some ⟨p, 0, none⟩)] w fun e w' => ∃ ov, e = .returned ov ∧ Ow w' 36 3 ov (chgL l).length ((chgL l).flatMap SpV.cells) ∧ (∀ k, ov.ownBlock = some k → w.heap.size ≤ k) ∧ Fr no w w' := by
  obtain ⟨rA, rc, rfl, _, _⟩ := hs.row.form
  obtain ⟨e0, e1, e2⟩ := one_cells hs.at_
  have HS := Lib.hid hs; have E0 := Lib.hid e0; clear hs
  go_enter Try.func36, Try.ntmps36
  go_wp2
  clear e0 e1 e2
  go_loopw [3, 4] (fun ov i wr => ∃ j : Nat, ∃ out, j ≤ l.length ∧ i = .int .i64 j ∧ out = chgL (l.take j) ∧ Ow wr 36 3 ov out.length (out.flatMap SpV.cells) ∧ (∀ k, ov.ownBlock = some k → w.heap.size ≤ k) ∧ Fr no w wr) (fun _ i _ => l.length - (intOf i).toNat)
  case atStart => exact ⟨0, [], Nat.zero_le _, rfl, rfl, ow_nil _ _ _, fun k hk => by simp [Value.ownBlock] at hk, Fr.refl _ _⟩
  case round =>
    obtain ⟨j, out, hj, rfl, hout, ho, hnew, hf⟩ := hrel
    obtain ⟨oA, oc, rfl, hoc, hocm⟩ := ho.form
    have HOUT := Lib.hid hout; have HOW := Lib.hid ho; have HNEW := Lib.hid hnew; have HF := Lib.hid hf
    have hol : out.length ≤ 100000 := by rw [hout]; have := chg_len (l.take j); simp at this; omega
    have hin : ∀ y ∈ out, y ∈ l := fun y hy => List.mem_of_mem_take (mem_chg _ y (hout ▸ hy))
    have HIN := Lib.hid hin
    clear hout ho hnew hf hin
    have e0 := HF.out.cell E0.out (fun h => h)
    have hpl := World.block_lt_of_cell? _ _ e0
    by_cases hlt : j < l.length
    · obtain ⟨rb, ro, hrA, q0, q1, q2⟩ := Spans.at HS.out.row.sl j hlt
      subst hrA
      have hxg := HS.out.good l[j] (List.getElem_mem _)
      obtain ⟨FA, fc, hFA, _, _⟩ := hxg.F.form
      obtain ⟨TA, tc, hTA, _, _⟩ := hxg.T.form
      rw [hFA] at q0; rw [hTA] at q1
      have Q0 := Lib.hid q0; have Q1 := Lib.hid q1; have Q2 := Lib.hid q2; have HXG := Lib.hid hxg; have HFA := Lib.hid (And.intro hFA hTA)
      clear q0 q1 q2 hxg hFA hTA
      go_wp2
      go_loopw [5] (fun i wq => ∃ a : Nat, a ≤ out.length ∧ i = .int .i64 a ∧ (∀ m (h : m < out.length), m < a → cb out[m].f l[j].f < 0) ∧ Fr no wr wq) (fun i _ => out.length - (intOf i).toNat)
      case atStart => exact ⟨0, Nat.zero_le _, rfl, fun m h h0 => by omega, Fr.refl _ _⟩
      case round =>
        obtain ⟨a, ha, rfl, hlo, hf⟩ := hrel
        have HLO := Lib.hid hlo; have HFA2 := Lib.hid hf; have W2 := Lib.hid (HF.out.trans hf (fun _ _ h => h)); clear hlo hf
        have e0 := W2.out.cell E0.out (fun h => h)
        have q0 := W2.out.cell Q0.out (fun h => h)
        have hq := World.block_lt_of_cell? _ _ q0
        have SX := Lib.hid (HFA.out.1 ▸ HXG.out.F)
        by_cases hal : a < out.length
        · obtain ⟨ob, oo, hoA, p0, -, -⟩ := Spans.at HOW.out.sl a hal
          obtain ⟨GA, gc, hGA, _, _⟩ := (HS.out.good out[a] (HIN.out _ (List.getElem_mem _))).F.form
          rw [hGA] at p0
          have P0 := Lib.hid p0
          have p0 := HFA2.out.cell p0 (fun h => h)
          have SG := Lib.hid (hGA ▸ (HS.out.good out[a] (HIN.out _ (List.getElem_mem _))).F)
          subst hoA
          have HGA := Lib.hid hGA; clear hGA
          by_cases hc : cb out[a].f l[j].f < 0
          · have hbl : Op.bytesLess out[a].f l[j].f = true := by rw [less_cb]; exact decide_eq_true hc
            have HCC := Lib.hid hc
            go_wp2_with fail
            refine wp_region_ord (List.range 22) (fun i => [Kd.p, Kd.p, Kd.p, Kd.p, Kd.p, Kd.p, Kd.p, Kd.p, Kd.p, Kd.l, Kd.l, Kd.p, Kd.p, Kd.p, Kd.l, Kd.p, Kd.p, Kd.p, Kd.l, Kd.l, Kd.p, Kd.p].getD i .e) (by kernel_rfl) (by kernel_rfl) ?_
            iterate 10
              first | (refine wpX_un rfl rfl ?_; go_simp) | first | refine wpX_pu rfl rfl rfl (by first | exact pu_move rfl | exact pu_assign rfl | exact pu_nilCheck rfl rfl | exact pu_binInt rfl rfl rfl | exact pu_conv rfl rfl (by kernel_rfl) | exact pu_fld rfl (by kernel_rfl) | exact pu_ix rfl rfl rfl (by kernel_rfl) | exact pu_unOp rfl | exact pu_binStr rfl rfl rfl | exact pu_len rfl rfl | exact pu_lens rfl rfl | exact pu_pick rfl | exact pu_slice rfl rfl) (fun K hK => ?_) | refine wpX_rd rfl rfl rfl (rd_load rfl) (fun K hK => ?_) | refine wpX_gr rfl rfl rfl (by first | exact gr_buildSlice rfl | exact gr_box rfl | exact gr_alloc rfl) (fun K hK => ?_) | refine wpX_ex rfl rfl rfl (fun K hK => ?_)
              try go_wp2
            refine wpX_lv (.string ⟨out[a].f.toArray⟩) rfl rfl rfl (fun e => ?_) ?_
            · have := str_ext (P := Try.prog) (src := 34) (dst := 9) (e := 5) (by kernel_rfl) (by kernel_rfl) (by kernel_rfl) (SG.out.kept0 (Fr.drew W2.out)) e
              simp [execOp, this, Act.eval]
            go_simp
            iterate 8
              first | (refine wpX_un rfl rfl ?_; go_simp) | first | refine wpX_pu rfl rfl rfl (by first | exact pu_move rfl | exact pu_assign rfl | exact pu_nilCheck rfl rfl | exact pu_binInt rfl rfl rfl | exact pu_conv rfl rfl (by kernel_rfl) | exact pu_fld rfl (by kernel_rfl) | exact pu_ix rfl rfl rfl (by kernel_rfl) | exact pu_unOp rfl | exact pu_binStr rfl rfl rfl | exact pu_len rfl rfl | exact pu_lens rfl rfl | exact pu_pick rfl | exact pu_slice rfl rfl) (fun K hK => ?_) | refine wpX_rd rfl rfl rfl (rd_load rfl) (fun K hK => ?_) | refine wpX_gr rfl rfl rfl (by first | exact gr_buildSlice rfl | exact gr_box rfl | exact gr_alloc rfl) (fun K hK => ?_) | refine wpX_ex rfl rfl rfl (fun K hK => ?_)
              try go_wp2
            refine wpX_lv (.string ⟨l[j].f.toArray⟩) rfl rfl rfl (fun e => ?_) ?_
            · have := str_ext (P := Try.prog) (src := 34) (dst := 9) (e := 5) (by kernel_rfl) (by kernel_rfl) (by kernel_rfl) (SX.out.kept0 (Fr.drew W2.out)) e
              simp [execOp, this, Act.eval]
            go_simp
            iterate 2
              first | (refine wpX_un rfl rfl ?_; go_simp) | first | refine wpX_pu rfl rfl rfl (by first | exact pu_move rfl | exact pu_assign rfl | exact pu_nilCheck rfl rfl | exact pu_binInt rfl rfl rfl | exact pu_conv rfl rfl (by kernel_rfl) | exact pu_fld rfl (by kernel_rfl) | exact pu_ix rfl rfl rfl (by kernel_rfl) | exact pu_unOp rfl | exact pu_binStr rfl rfl rfl | exact pu_len rfl rfl | exact pu_lens rfl rfl | exact pu_pick rfl | exact pu_slice rfl rfl) (fun K hK => ?_) | refine wpX_rd rfl rfl rfl (rd_load rfl) (fun K hK => ?_) | refine wpX_gr rfl rfl rfl (by first | exact gr_buildSlice rfl | exact gr_box rfl | exact gr_alloc rfl) (fun K hK => ?_) | refine wpX_ex rfl rfl rfl (fun K hK => ?_)
              try go_wp2
            refine wpX_done ?_
            go_wp2
            go_roundw
            case rel => exact ⟨a + 1, by omega, by first | rfl | go_num, fun m h hm => by rcases Nat.lt_succ_iff_lt_or_eq.1 hm with h2 | rfl; exact HLO.out m h h2; exact HCC.out, Fr.drew HFA2.out⟩
            case measure => simp [intOf]; omega
          · have hbl : Op.bytesLess out[a].f l[j].f = false := by rw [less_cb]; exact decide_eq_false hc
            have hpos : posK out l[j].f = a := posK_of ha HLO.out (fun _ => hc)
            have W3 := Lib.hid (Fr.drew W2.out); have FA3 := Lib.hid (Fr.drew HFA2.out)
            go_wp2_with fail
            refine wp_region_ord (List.range 22) (fun i => [Kd.p, Kd.p, Kd.p, Kd.p, Kd.p, Kd.p, Kd.p, Kd.p, Kd.p, Kd.l, Kd.l, Kd.p, Kd.p, Kd.p, Kd.l, Kd.p, Kd.p, Kd.p, Kd.l, Kd.l, Kd.p, Kd.p].getD i .e) (by kernel_rfl) (by kernel_rfl) ?_
            iterate 10
              first | (refine wpX_un rfl rfl ?_; go_simp) | first | refine wpX_pu rfl rfl rfl (by first | exact pu_move rfl | exact pu_assign rfl | exact pu_nilCheck rfl rfl | exact pu_binInt rfl rfl rfl | exact pu_conv rfl rfl (by kernel_rfl) | exact pu_fld rfl (by kernel_rfl) | exact pu_ix rfl rfl rfl (by kernel_rfl) | exact pu_unOp rfl | exact pu_binStr rfl rfl rfl | exact pu_len rfl rfl | exact pu_lens rfl rfl | exact pu_pick rfl | exact pu_slice rfl rfl) (fun K hK => ?_) | refine wpX_rd rfl rfl rfl (rd_load rfl) (fun K hK => ?_) | refine wpX_gr rfl rfl rfl (by first | exact gr_buildSlice rfl | exact gr_box rfl | exact gr_alloc rfl) (fun K hK => ?_) | refine wpX_ex rfl rfl rfl (fun K hK => ?_)
              try go_wp2
            refine wpX_lv (.string ⟨out[a].f.toArray⟩) rfl rfl rfl (fun e => ?_) ?_
            · have := str_ext (P := Try.prog) (src := 34) (dst := 9) (e := 5) (by kernel_rfl) (by kernel_rfl) (by kernel_rfl) (SG.out.kept0 (Fr.drew W2.out)) e
              simp [execOp, this, Act.eval]
            go_simp
            iterate 8
              first | (refine wpX_un rfl rfl ?_; go_simp) | first | refine wpX_pu rfl rfl rfl (by first | exact pu_move rfl | exact pu_assign rfl | exact pu_nilCheck rfl rfl | exact pu_binInt rfl rfl rfl | exact pu_conv rfl rfl (by kernel_rfl) | exact pu_fld rfl (by kernel_rfl) | exact pu_ix rfl rfl rfl (by kernel_rfl) | exact pu_unOp rfl | exact pu_binStr rfl rfl rfl | exact pu_len rfl rfl | exact pu_lens rfl rfl | exact pu_pick rfl | exact pu_slice rfl rfl) (fun K hK => ?_) | refine wpX_rd rfl rfl rfl (rd_load rfl) (fun K hK => ?_) | refine wpX_gr rfl rfl rfl (by first | exact gr_buildSlice rfl | exact gr_box rfl | exact gr_alloc rfl) (fun K hK => ?_) | refine wpX_ex rfl rfl rfl (fun K hK => ?_)
              try go_wp2
            refine wpX_lv (.string ⟨l[j].f.toArray⟩) rfl rfl rfl (fun e => ?_) ?_
            · have := str_ext (P := Try.prog) (src := 34) (dst := 9) (e := 5) (by kernel_rfl) (by kernel_rfl) (by kernel_rfl) (SX.out.kept0 (Fr.drew W2.out)) e
              simp [execOp, this, Act.eval]
            go_simp
            iterate 2
              first | (refine wpX_un rfl rfl ?_; go_simp) | first | refine wpX_pu rfl rfl rfl (by first | exact pu_move rfl | exact pu_assign rfl | exact pu_nilCheck rfl rfl | exact pu_binInt rfl rfl rfl | exact pu_conv rfl rfl (by kernel_rfl) | exact pu_fld rfl (by kernel_rfl) | exact pu_ix rfl rfl rfl (by kernel_rfl) | exact pu_unOp rfl | exact pu_binStr rfl rfl rfl | exact pu_len rfl rfl | exact pu_lens rfl rfl | exact pu_pick rfl | exact pu_slice rfl rfl) (fun K hK => ?_) | refine wpX_rd rfl rfl rfl (rd_load rfl) (fun K hK => ?_) | refine wpX_gr rfl rfl rfl (by first | exact gr_buildSlice rfl | exact gr_box rfl | exact gr_alloc rfl) (fun K hK => ?_) | refine wpX_ex rfl rfl rfl (fun K hK => ?_)
              try go_wp2
            refine wpX_done ?_
            have HPP := Lib.hid hpos
            have e0 := W3.out.cell E0.out (fun h => h); have q0 := W3.out.cell Q0.out (fun h => h); have q1 := W3.out.cell Q1.out (fun h => h); have q2 := W3.out.cell Q2.out (fun h => h)
            clear hpos
            go_wp2_with (at_builtin; refine wpList_apo rfl (.tmp 40) (.tmp 43) 30 rfl tbChange (ow_nil _ _ 3) (slTake (HOW.out.kept0 FA3.out).sl ha) rfl rfl ?ox ?bx ?cx ?gox)
            case ox => exact fun u hu => cells3_one out (fun y hy => HS.out.good y (HIN.out y hy)) u (List.mem_of_mem_take hu)
            case bx => simp only [maxLen]; omega
            case cx => omega
            case gox =>
              intro NA NN nc w5 hN ho _ hf hst
              obtain rfl : a = NN := by omega
              have N5 := Lib.hid ho; have F5 := Lib.hid (fr_nil hf); have M5 := Lib.hid (nil_new hst); clear ho hf hst hN
              have W5 := Lib.hid (W3.out.trans F5.out (fun _ _ h => h)); have FA5 := Lib.hid (FA3.out.trans F5.out (fun _ _ h => h))
              have e0 := W5.out.cell E0.out (fun h => h); have q0 := W5.out.cell Q0.out (fun h => h); have q1 := W5.out.cell Q1.out (fun h => h); have q2 := W5.out.cell Q2.out (fun h => h)
              have hxx := one_chg (w := w5.alloc (.cells #[.slice FA l[j].f.length fc, .slice TA l[j].t.length tc, .bool l[j].o] 36)) (heap_alloc_new w5 _ : Has _ w5.heap.size 36 [.slice FA l[j].f.length fc, .slice TA l[j].t.length tc, .bool l[j].o]) rfl
              have hal5 := (Fr.refl no w5).alloc (.cells #[.slice FA l[j].f.length fc, .slice TA l[j].t.length tc, .bool l[j].o] 36)
              have HXX := Lib.hid hxx; have HA5 := Lib.hid hal5; clear hxx hal5
              go_wp2_with (at_builtin; refine wpList_apo rfl (.tmp 45) (.tmp 53) 30 rfl tbChange (N5.out.kept0 HA5.out) HXX.out rfl rfl ?px ?qx ?rx ?sx)
              case px => intro u hu; simp only [List.mem_cons, List.not_mem_nil, or_false] at hu; rcases hu with rfl | rfl | rfl <;> rfl
              case qx => simp only [maxLen]; omega
              case rx => omega
              case sx =>
                intro NB N6 nd w6 hN ho _ hf hst
                subst hN
                have s5 := F5.out.size; have s3 := W3.out.size; have s5w := W5.out.size; have sf3 := FA3.out.size
                have hm5 : ∀ k, (Value.slice NA a nc).ownBlock = some k → w.heap.size ≤ k := fun k hk => by have := (M5.out k hk).1; omega
                have hw6 : Fr no w w6 := (W5.out.trans HA5.out (fun _ _ h => h)).trans hf (fun k hk e => by have := hm5 k e; omega)
                have hm6 : ∀ k, (Value.slice NB (a + 1) nd).ownBlock = some k → w.heap.size ≤ k := fun k hk => by
                  rcases stays_moved hst with e | e
                  · exact hm5 k (e ▸ hk)
                  · have := (e k hk).1; have := HA5.out.size; omega
                have how6 := ((HOW.out.kept0 FA5.out).kept0 HA5.out).kept hf (fun k hk e => by have h1 := (M5.out k e).1; have h2 := HOW.out.lt k hk; omega)
                have N6 := Lib.hid ho; have M6 := Lib.hid hm6; have W6 := Lib.hid hw6; have HOW6 := Lib.hid how6; clear ho hf hst hm5 hw6 hm6 how6 s5 s3 s5w sf3 e0 q0 q1 q2
                have e0 := W6.out.cell E0.out (fun h => h); have q0 := W6.out.cell Q0.out (fun h => h)
                have hq := World.block_lt_of_cell? _ _ q0
                have HP0 := Spans.at HOW6.out.sl a hal
                obtain ⟨b6, o6, h6, p0, -, -⟩ := HP0
                cases h6
                rw [HGA.out] at p0
                have hp := World.block_lt_of_cell? _ _ p0
                by_cases hke : out[a].f = l[j].f
                · have HKE := Lib.hid hke
                  have he : (out[a].f == l[j].f) = true := by simp [hke]
                  clear hke
                  by_cases hcap : oc = a + 1
                  · subst hcap
                    go_wp2_with fail
                    refine wp_region_ord (List.range 22) (fun i => [Kd.p, Kd.p, Kd.p, Kd.p, Kd.p, Kd.p, Kd.p, Kd.p, Kd.p, Kd.l, Kd.l, Kd.p, Kd.p, Kd.p, Kd.l, Kd.p, Kd.p, Kd.p, Kd.l, Kd.l, Kd.p, Kd.p].getD i .e) (by kernel_rfl) (by kernel_rfl) ?_
                    iterate 10
                      first | (refine wpX_un rfl rfl ?_; go_simp) | first | refine wpX_pu rfl rfl rfl (by first | exact pu_move rfl | exact pu_assign rfl | exact pu_nilCheck rfl rfl | exact pu_binInt rfl rfl rfl | exact pu_conv rfl rfl (by kernel_rfl) | exact pu_fld rfl (by kernel_rfl) | exact pu_ix rfl rfl rfl (by kernel_rfl) | exact pu_unOp rfl | exact pu_binStr rfl rfl rfl | exact pu_len rfl rfl | exact pu_lens rfl rfl | exact pu_pick rfl | exact pu_slice rfl rfl) (fun K hK => ?_) | refine wpX_rd rfl rfl rfl (rd_load rfl) (fun K hK => ?_) | refine wpX_gr rfl rfl rfl (by first | exact gr_buildSlice rfl | exact gr_box rfl | exact gr_alloc rfl) (fun K hK => ?_) | refine wpX_ex rfl rfl rfl (fun K hK => ?_)
                      try go_wp2
                    refine wpX_lv (.string ⟨out[a].f.toArray⟩) rfl rfl rfl (fun e => ?_) ?_
                    · have := str_ext (P := Try.prog) (src := 34) (dst := 9) (e := 5) (by kernel_rfl) (by kernel_rfl) (by kernel_rfl) (SG.out.kept0 (Fr.drew W6.out)) e
                      simp [execOp, this, Act.eval]
                    go_simp
                    iterate 8
                      first | (refine wpX_un rfl rfl ?_; go_simp) | first | refine wpX_pu rfl rfl rfl (by first | exact pu_move rfl | exact pu_assign rfl | exact pu_nilCheck rfl rfl | exact pu_binInt rfl rfl rfl | exact pu_conv rfl rfl (by kernel_rfl) | exact pu_fld rfl (by kernel_rfl) | exact pu_ix rfl rfl rfl (by kernel_rfl) | exact pu_unOp rfl | exact pu_binStr rfl rfl rfl | exact pu_len rfl rfl | exact pu_lens rfl rfl | exact pu_pick rfl | exact pu_slice rfl rfl) (fun K hK => ?_) | refine wpX_rd rfl rfl rfl (rd_load rfl) (fun K hK => ?_) | refine wpX_gr rfl rfl rfl (by first | exact gr_buildSlice rfl | exact gr_box rfl | exact gr_alloc rfl) (fun K hK => ?_) | refine wpX_ex rfl rfl rfl (fun K hK => ?_)
                      try go_wp2
                    refine wpX_lv (.string ⟨l[j].f.toArray⟩) rfl rfl rfl (fun e => ?_) ?_
                    · have := str_ext (P := Try.prog) (src := 34) (dst := 9) (e := 5) (by kernel_rfl) (by kernel_rfl) (by kernel_rfl) (SX.out.kept0 (Fr.drew W6.out)) e
                      simp [execOp, this, Act.eval]
                    go_simp
                    iterate 2
                      first | (refine wpX_un rfl rfl ?_; go_simp) | first | refine wpX_pu rfl rfl rfl (by first | exact pu_move rfl | exact pu_assign rfl | exact pu_nilCheck rfl rfl | exact pu_binInt rfl rfl rfl | exact pu_conv rfl rfl (by kernel_rfl) | exact pu_fld rfl (by kernel_rfl) | exact pu_ix rfl rfl rfl (by kernel_rfl) | exact pu_unOp rfl | exact pu_binStr rfl rfl rfl | exact pu_len rfl rfl | exact pu_lens rfl rfl | exact pu_pick rfl | exact pu_slice rfl rfl) (fun K hK => ?_) | refine wpX_rd rfl rfl rfl (rd_load rfl) (fun K hK => ?_) | refine wpX_gr rfl rfl rfl (by first | exact gr_buildSlice rfl | exact gr_box rfl | exact gr_alloc rfl) (fun K hK => ?_) | refine wpX_ex rfl rfl rfl (fun K hK => ?_)
                      try go_wp2
                    refine wpX_done ?_
                    have HSD := Lib.hid ((⟨rfl, .inl ⟨some ⟨ob, oo, none⟩, rfl, rfl⟩⟩ : Sl w6.drew 3 (.slice (some ⟨ob, oo, none⟩) 0 0) 0 []))
                    go_wp2_with (at_builtin; refine wpList_apo rfl (.tmp 79) (.tmp 82) 30 rfl tbChange (N6.out.kept0 (Fr.drew (Fr.refl no w6))) HSD.out rfl rfl ?a2xe1 ?a3xe1 ?a4xe1 ?a5xe1)
                    try case a2xe1 => exact fun u hu => nomatch hu
                    try case a3xe1 => simp only [maxLen]; omega
                    try case a4xe1 => omega
                    case a5xe1 =>
                      intro NC N7 ne w7 hN ho _ hf hst
                      have hm7 : ∀ k, (Value.slice NC N7 ne).ownBlock = some k → w.heap.size ≤ k := fun k hk => by
                        rcases stays_moved hst with e | e
                        · exact M6.out k (e ▸ hk)
                        · have := (e k hk).1; have := W6.out.size; have h4 : w6.drew.heap.size = w6.heap.size := rfl; omega
                      have hw7 : Fr no w w7 := (Fr.drew W6.out).trans hf (fun k hk e => by have := M6.out k e; omega)
                      have hex : sayL out l[j] = out.take a ++ l[j] :: out.drop (a + 1) := by unfold sayL; have h0 : saidK out l[j].f = true := by { unfold saidK; rw [HPP.out, List.getElem?_eq_getElem hal]; simp [HKE.out, cb_self] }; rw [h0, HPP.out]; simp [List.set_eq_take_append_cons_drop, hal]
                      have hlen : (sayL out l[j]).length = N7 := by rw [hex]; simp; omega
                      have hrow : Ow w7 36 3 (.slice NC N7 ne) (sayL out l[j]).length ((sayL out l[j]).flatMap SpV.cells) := by
                        rw [hlen, hex, List.flatMap_append, List.flatMap_cons, ← flat_take3, ← flat_drop3]
                        have hcl : l[j].cells = [.slice FA l[j].f.length fc, .slice TA l[j].t.length tc, .bool l[j].o] := by unfold SpV.cells; rw [HFA.out.1, HFA.out.2]
                        rw [hcl]
                        rw [List.drop_of_length_le (by rw [cells3_len]; omega)]; simpa using ho
                      have HR7 := Lib.hid hrow; have M7 := Lib.hid hm7; have W7 := Lib.hid hw7; clear ho hf hst hm7 hw7 hex hlen hrow
                      go_wp2
                      go_roundw
                      case rel => exact ⟨j + 1, sayL out l[j], by omega, by first | rfl | go_num, by rw [HOUT.out, chgL_succ l j hlt], HR7.out, M7.out, W7.out⟩
                      case measure => simp [intOf]; omega
                  · go_wp2_with fail
                    refine wp_region_ord (List.range 22) (fun i => [Kd.p, Kd.p, Kd.p, Kd.p, Kd.p, Kd.p, Kd.p, Kd.p, Kd.p, Kd.l, Kd.l, Kd.p, Kd.p, Kd.p, Kd.l, Kd.p, Kd.p, Kd.p, Kd.l, Kd.l, Kd.p, Kd.p].getD i .e) (by kernel_rfl) (by kernel_rfl) ?_
                    iterate 10
                      first | (refine wpX_un rfl rfl ?_; go_simp) | first | refine wpX_pu rfl rfl rfl (by first | exact pu_move rfl | exact pu_assign rfl | exact pu_nilCheck rfl rfl | exact pu_binInt rfl rfl rfl | exact pu_conv rfl rfl (by kernel_rfl) | exact pu_fld rfl (by kernel_rfl) | exact pu_ix rfl rfl rfl (by kernel_rfl) | exact pu_unOp rfl | exact pu_binStr rfl rfl rfl | exact pu_len rfl rfl | exact pu_lens rfl rfl | exact pu_pick rfl | exact pu_slice rfl rfl) (fun K hK => ?_) | refine wpX_rd rfl rfl rfl (rd_load rfl) (fun K hK => ?_) | refine wpX_gr rfl rfl rfl (by first | exact gr_buildSlice rfl | exact gr_box rfl | exact gr_alloc rfl) (fun K hK => ?_) | refine wpX_ex rfl rfl rfl (fun K hK => ?_)
                      try go_wp2
                    refine wpX_lv (.string ⟨out[a].f.toArray⟩) rfl rfl rfl (fun e => ?_) ?_
                    · have := str_ext (P := Try.prog) (src := 34) (dst := 9) (e := 5) (by kernel_rfl) (by kernel_rfl) (by kernel_rfl) (SG.out.kept0 (Fr.drew W6.out)) e
                      simp [execOp, this, Act.eval]
                    go_simp
                    iterate 8
                      first | (refine wpX_un rfl rfl ?_; go_simp) | first | refine wpX_pu rfl rfl rfl (by first | exact pu_move rfl | exact pu_assign rfl | exact pu_nilCheck rfl rfl | exact pu_binInt rfl rfl rfl | exact pu_conv rfl rfl (by kernel_rfl) | exact pu_fld rfl (by kernel_rfl) | exact pu_ix rfl rfl rfl (by kernel_rfl) | exact pu_unOp rfl | exact pu_binStr rfl rfl rfl | exact pu_len rfl rfl | exact pu_lens rfl rfl | exact pu_pick rfl | exact pu_slice rfl rfl) (fun K hK => ?_) | refine wpX_rd rfl rfl rfl (rd_load rfl) (fun K hK => ?_) | refine wpX_gr rfl rfl rfl (by first | exact gr_buildSlice rfl | exact gr_box rfl | exact gr_alloc rfl) (fun K hK => ?_) | refine wpX_ex rfl rfl rfl (fun K hK => ?_)
                      try go_wp2
                    refine wpX_lv (.string ⟨l[j].f.toArray⟩) rfl rfl rfl (fun e => ?_) ?_
                    · have := str_ext (P := Try.prog) (src := 34) (dst := 9) (e := 5) (by kernel_rfl) (by kernel_rfl) (by kernel_rfl) (SX.out.kept0 (Fr.drew W6.out)) e
                      simp [execOp, this, Act.eval]
                    go_simp
                    iterate 2
                      first | (refine wpX_un rfl rfl ?_; go_simp) | first | refine wpX_pu rfl rfl rfl (by first | exact pu_move rfl | exact pu_assign rfl | exact pu_nilCheck rfl rfl | exact pu_binInt rfl rfl rfl | exact pu_conv rfl rfl (by kernel_rfl) | exact pu_fld rfl (by kernel_rfl) | exact pu_ix rfl rfl rfl (by kernel_rfl) | exact pu_unOp rfl | exact pu_binStr rfl rfl rfl | exact pu_len rfl rfl | exact pu_lens rfl rfl | exact pu_pick rfl | exact pu_slice rfl rfl) (fun K hK => ?_) | refine wpX_rd rfl rfl rfl (rd_load rfl) (fun K hK => ?_) | refine wpX_gr rfl rfl rfl (by first | exact gr_buildSlice rfl | exact gr_box rfl | exact gr_alloc rfl) (fun K hK => ?_) | refine wpX_ex rfl rfl rfl (fun K hK => ?_)
                      try go_wp2
                    refine wpX_done ?_
                    have HSD := Lib.hid ((slDrop1 (HOW6.out.kept0 (Fr.drew (Fr.refl no w6))).sl (show a + 1 ≤ out.length by omega) hcap))
                    go_wp2_with (at_builtin; refine wpList_apo rfl (.tmp 79) (.tmp 82) 30 rfl tbChange (N6.out.kept0 (Fr.drew (Fr.refl no w6))) HSD.out rfl rfl ?a2xe2 ?a3xe2 ?a4xe2 ?a5xe2)
                    try case a2xe2 => exact fun u hu => cells3_one out (fun y hy => HS.out.good y (HIN.out y hy)) u (List.mem_of_mem_drop hu)
                    try case a3xe2 => simp only [maxLen]; omega
                    try case a4xe2 => omega
                    case a5xe2 =>
                      intro NC N7 ne w7 hN ho _ hf hst
                      have hm7 : ∀ k, (Value.slice NC N7 ne).ownBlock = some k → w.heap.size ≤ k := fun k hk => by
                        rcases stays_moved hst with e | e
                        · exact M6.out k (e ▸ hk)
                        · have := (e k hk).1; have := W6.out.size; have h4 : w6.drew.heap.size = w6.heap.size := rfl; omega
                      have hw7 : Fr no w w7 := (Fr.drew W6.out).trans hf (fun k hk e => by have := M6.out k e; omega)
                      have hex : sayL out l[j] = out.take a ++ l[j] :: out.drop (a + 1) := by unfold sayL; have h0 : saidK out l[j].f = true := by { unfold saidK; rw [HPP.out, List.getElem?_eq_getElem hal]; simp [HKE.out, cb_self] }; rw [h0, HPP.out]; simp [List.set_eq_take_append_cons_drop, hal]
                      have hlen : (sayL out l[j]).length = N7 := by rw [hex]; simp; omega
                      have hrow : Ow w7 36 3 (.slice NC N7 ne) (sayL out l[j]).length ((sayL out l[j]).flatMap SpV.cells) := by
                        rw [hlen, hex, List.flatMap_append, List.flatMap_cons, ← flat_take3, ← flat_drop3]
                        have hcl : l[j].cells = [.slice FA l[j].f.length fc, .slice TA l[j].t.length tc, .bool l[j].o] := by unfold SpV.cells; rw [HFA.out.1, HFA.out.2]
                        rw [hcl]
                        simpa using ho
                      have HR7 := Lib.hid hrow; have M7 := Lib.hid hm7; have W7 := Lib.hid hw7; clear ho hf hst hm7 hw7 hex hlen hrow
                      go_wp2
                      go_roundw
                      case rel => exact ⟨j + 1, sayL out l[j], by omega, by first | rfl | go_num, by rw [HOUT.out, chgL_succ l j hlt], HR7.out, M7.out, W7.out⟩
                      case measure => simp [intOf]; omega
                · have HKE := Lib.hid hke
                  have he : (out[a].f == l[j].f) = false := by simp [hke]
                  clear hke
                  have hcap : ¬ oc = a := by omega
                  go_wp2_with fail
                  refine wp_region_ord (List.range 22) (fun i => [Kd.p, Kd.p, Kd.p, Kd.p, Kd.p, Kd.p, Kd.p, Kd.p, Kd.p, Kd.l, Kd.l, Kd.p, Kd.p, Kd.p, Kd.l, Kd.p, Kd.p, Kd.p, Kd.l, Kd.l, Kd.p, Kd.p].getD i .e) (by kernel_rfl) (by kernel_rfl) ?_
                  iterate 10
                    first | (refine wpX_un rfl rfl ?_; go_simp) | first | refine wpX_pu rfl rfl rfl (by first | exact pu_move rfl | exact pu_assign rfl | exact pu_nilCheck rfl rfl | exact pu_binInt rfl rfl rfl | exact pu_conv rfl rfl (by kernel_rfl) | exact pu_fld rfl (by kernel_rfl) | exact pu_ix rfl rfl rfl (by kernel_rfl) | exact pu_unOp rfl | exact pu_binStr rfl rfl rfl | exact pu_len rfl rfl | exact pu_lens rfl rfl | exact pu_pick rfl | exact pu_slice rfl rfl) (fun K hK => ?_) | refine wpX_rd rfl rfl rfl (rd_load rfl) (fun K hK => ?_) | refine wpX_gr rfl rfl rfl (by first | exact gr_buildSlice rfl | exact gr_box rfl | exact gr_alloc rfl) (fun K hK => ?_) | refine wpX_ex rfl rfl rfl (fun K hK => ?_)
                    try go_wp2
                  refine wpX_lv (.string ⟨out[a].f.toArray⟩) rfl rfl rfl (fun e => ?_) ?_
                  · have := str_ext (P := Try.prog) (src := 34) (dst := 9) (e := 5) (by kernel_rfl) (by kernel_rfl) (by kernel_rfl) (SG.out.kept0 (Fr.drew W6.out)) e
                    simp [execOp, this, Act.eval]
                  go_simp
                  iterate 8
                    first | (refine wpX_un rfl rfl ?_; go_simp) | first | refine wpX_pu rfl rfl rfl (by first | exact pu_move rfl | exact pu_assign rfl | exact pu_nilCheck rfl rfl | exact pu_binInt rfl rfl rfl | exact pu_conv rfl rfl (by kernel_rfl) | exact pu_fld rfl (by kernel_rfl) | exact pu_ix rfl rfl rfl (by kernel_rfl) | exact pu_unOp rfl | exact pu_binStr rfl rfl rfl | exact pu_len rfl rfl | exact pu_lens rfl rfl | exact pu_pick rfl | exact pu_slice rfl rfl) (fun K hK => ?_) | refine wpX_rd rfl rfl rfl (rd_load rfl) (fun K hK => ?_) | refine wpX_gr rfl rfl rfl (by first | exact gr_buildSlice rfl | exact gr_box rfl | exact gr_alloc rfl) (fun K hK => ?_) | refine wpX_ex rfl rfl rfl (fun K hK => ?_)
                    try go_wp2
                  refine wpX_lv (.string ⟨l[j].f.toArray⟩) rfl rfl rfl (fun e => ?_) ?_
                  · have := str_ext (P := Try.prog) (src := 34) (dst := 9) (e := 5) (by kernel_rfl) (by kernel_rfl) (by kernel_rfl) (SX.out.kept0 (Fr.drew W6.out)) e
                    simp [execOp, this, Act.eval]
                  go_simp
                  iterate 2
                    first | (refine wpX_un rfl rfl ?_; go_simp) | first | refine wpX_pu rfl rfl rfl (by first | exact pu_move rfl | exact pu_assign rfl | exact pu_nilCheck rfl rfl | exact pu_binInt rfl rfl rfl | exact pu_conv rfl rfl (by kernel_rfl) | exact pu_fld rfl (by kernel_rfl) | exact pu_ix rfl rfl rfl (by kernel_rfl) | exact pu_unOp rfl | exact pu_binStr rfl rfl rfl | exact pu_len rfl rfl | exact pu_lens rfl rfl | exact pu_pick rfl | exact pu_slice rfl rfl) (fun K hK => ?_) | refine wpX_rd rfl rfl rfl (rd_load rfl) (fun K hK => ?_) | refine wpX_gr rfl rfl rfl (by first | exact gr_buildSlice rfl | exact gr_box rfl | exact gr_alloc rfl) (fun K hK => ?_) | refine wpX_ex rfl rfl rfl (fun K hK => ?_)
                    try go_wp2
                  refine wpX_done ?_
                  have HSD := Lib.hid ((slDropS (HOW6.out.kept0 (Fr.drew (Fr.refl no w6))).sl ha hcap))
                  go_wp2_with (at_builtin; refine wpList_apo rfl (.tmp 79) (.tmp 82) 30 rfl tbChange (N6.out.kept0 (Fr.drew (Fr.refl no w6))) HSD.out rfl rfl ?a2xn ?a3xn ?a4xn ?a5xn)
                  try case a2xn => exact fun u hu => cells3_one out (fun y hy => HS.out.good y (HIN.out y hy)) u (List.mem_of_mem_drop hu)
                  try case a3xn => simp only [maxLen]; omega
                  try case a4xn => omega
                  case a5xn =>
                    intro NC N7 ne w7 hN ho _ hf hst
                    have hm7 : ∀ k, (Value.slice NC N7 ne).ownBlock = some k → w.heap.size ≤ k := fun k hk => by
                      rcases stays_moved hst with e | e
                      · exact M6.out k (e ▸ hk)
                      · have := (e k hk).1; have := W6.out.size; have h4 : w6.drew.heap.size = w6.heap.size := rfl; omega
                    have hw7 : Fr no w w7 := (Fr.drew W6.out).trans hf (fun k hk e => by have := M6.out k e; omega)
                    have hex : sayL out l[j] = out.take a ++ l[j] :: out.drop a := by unfold sayL; have h0 : saidK out l[j].f = false := by { unfold saidK; rw [HPP.out, List.getElem?_eq_getElem hal]; simp; exact fun h => HKE.out (cb_eq h) }; rw [h0, HPP.out]; simp
                    have hlen : (sayL out l[j]).length = N7 := by rw [hex]; simp; omega
                    have hrow : Ow w7 36 3 (.slice NC N7 ne) (sayL out l[j]).length ((sayL out l[j]).flatMap SpV.cells) := by
                      rw [hlen, hex, List.flatMap_append, List.flatMap_cons, ← flat_take3, ← flat_drop3]
                      have hcl : l[j].cells = [.slice FA l[j].f.length fc, .slice TA l[j].t.length tc, .bool l[j].o] := by unfold SpV.cells; rw [HFA.out.1, HFA.out.2]
                      rw [hcl]
                      simpa using ho
                    have HR7 := Lib.hid hrow; have M7 := Lib.hid hm7; have W7 := Lib.hid hw7; clear ho hf hst hm7 hw7 hex hlen hrow
                    go_wp2
                    go_roundw
                    case rel => exact ⟨j + 1, sayL out l[j], by omega, by first | rfl | go_num, by rw [HOUT.out, chgL_succ l j hlt], HR7.out, M7.out, W7.out⟩
                    case measure => simp [intOf]; omega
        · obtain rfl : a = out.length := by omega
          have hpos : posK out l[j].f = out.length := posK_of ha HLO.out (fun h => absurd h hal)
          have W3 := Lib.hid (Fr.drew W2.out); have FA3 := Lib.hid (Fr.drew HFA2.out)
          go_wp2_with fail
          refine wp_region_ord (List.range 22) (fun i => [Kd.p, Kd.p, Kd.p, Kd.p, Kd.p, Kd.p, Kd.p, Kd.p, Kd.p, Kd.l, Kd.l, Kd.p, Kd.p, Kd.p, Kd.l, Kd.p, Kd.p, Kd.p, Kd.l, Kd.l, Kd.p, Kd.p].getD i .e) (by kernel_rfl) (by kernel_rfl) ?_
          iterate 22
            first | (refine wpX_un rfl rfl ?_; go_simp) | first | refine wpX_pu rfl rfl rfl (by first | exact pu_move rfl | exact pu_assign rfl | exact pu_nilCheck rfl rfl | exact pu_binInt rfl rfl rfl | exact pu_conv rfl rfl (by kernel_rfl) | exact pu_fld rfl (by kernel_rfl) | exact pu_ix rfl rfl rfl (by kernel_rfl) | exact pu_unOp rfl | exact pu_binStr rfl rfl rfl | exact pu_len rfl rfl | exact pu_lens rfl rfl | exact pu_pick rfl | exact pu_slice rfl rfl) (fun K hK => ?_) | refine wpX_rd rfl rfl rfl (rd_load rfl) (fun K hK => ?_) | refine wpX_gr rfl rfl rfl (by first | exact gr_buildSlice rfl | exact gr_box rfl | exact gr_alloc rfl) (fun K hK => ?_) | refine wpX_ex rfl rfl rfl (fun K hK => ?_)
            try go_wp2
          refine wpX_done ?_
          have HPP := Lib.hid hpos
          have e0 := W3.out.cell E0.out (fun h => h); have q0 := W3.out.cell Q0.out (fun h => h); have q1 := W3.out.cell Q1.out (fun h => h); have q2 := W3.out.cell Q2.out (fun h => h)
          clear hpos
          go_wp2_with (at_builtin; refine wpList_apo rfl (.tmp 40) (.tmp 43) 30 rfl tbChange (ow_nil _ _ 3) (slTake (HOW.out.kept0 FA3.out).sl ha) rfl rfl ?oz ?bz ?cz ?goz)
          case oz => exact fun u hu => cells3_one out (fun y hy => HS.out.good y (HIN.out y hy)) u (List.mem_of_mem_take hu)
          case bz => simp only [maxLen]; omega
          case cz => omega
          case goz =>
            intro NA NN nc w5 hN ho _ hf hst
            obtain rfl : NN = out.length := by omega
            have N5 := Lib.hid ho; have F5 := Lib.hid (fr_nil hf); have M5 := Lib.hid (nil_new hst); clear ho hf hst hN
            have W5 := Lib.hid (W3.out.trans F5.out (fun _ _ h => h)); have FA5 := Lib.hid (FA3.out.trans F5.out (fun _ _ h => h))
            have e0 := W5.out.cell E0.out (fun h => h); have q0 := W5.out.cell Q0.out (fun h => h); have q1 := W5.out.cell Q1.out (fun h => h); have q2 := W5.out.cell Q2.out (fun h => h)
            have hxx := one_chg (w := w5.alloc (.cells #[.slice FA l[j].f.length fc, .slice TA l[j].t.length tc, .bool l[j].o] 36)) (heap_alloc_new w5 _ : Has _ w5.heap.size 36 [.slice FA l[j].f.length fc, .slice TA l[j].t.length tc, .bool l[j].o]) rfl
            have hal5 := (Fr.refl no w5).alloc (.cells #[.slice FA l[j].f.length fc, .slice TA l[j].t.length tc, .bool l[j].o] 36)
            have HXX := Lib.hid hxx; have HA5 := Lib.hid hal5; clear hxx hal5
            go_wp2_with (at_builtin; refine wpList_apo rfl (.tmp 45) (.tmp 53) 30 rfl tbChange (N5.out.kept0 HA5.out) HXX.out rfl rfl ?pz ?qz ?rz ?sz)
            case pz => intro u hu; simp only [List.mem_cons, List.not_mem_nil, or_false] at hu; rcases hu with rfl | rfl | rfl <;> rfl
            case qz => simp only [maxLen]; omega
            case rz => omega
            case sz =>
              intro NB N6 nd w6 hN ho _ hf hst
              subst hN
              have s5 := F5.out.size; have s3 := W3.out.size; have s5w := W5.out.size; have sf3 := FA3.out.size
              have hm5 : ∀ k, (Value.slice NA out.length nc).ownBlock = some k → w.heap.size ≤ k := fun k hk => by have := (M5.out k hk).1; omega
              have hw6 : Fr no w w6 := (W5.out.trans HA5.out (fun _ _ h => h)).trans hf (fun k hk e => by have := hm5 k e; omega)
              have hm6 : ∀ k, (Value.slice NB (out.length + 1) nd).ownBlock = some k → w.heap.size ≤ k := fun k hk => by
                rcases stays_moved hst with e | e
                · exact hm5 k (e ▸ hk)
                · have := (e k hk).1; have := HA5.out.size; omega
              have how6 := ((HOW.out.kept0 FA5.out).kept0 HA5.out).kept hf (fun k hk e => by have h1 := (M5.out k e).1; have h2 := HOW.out.lt k hk; omega)
              have N6 := Lib.hid ho; have M6 := Lib.hid hm6; have W6 := Lib.hid hw6; have HOW6 := Lib.hid how6; clear ho hf hst hm5 hw6 hm6 how6 s5 s3 s5w sf3 e0 q0 q1 q2
              have e0 := W6.out.cell E0.out (fun h => h); have q0 := W6.out.cell Q0.out (fun h => h)
              have hq := World.block_lt_of_cell? _ _ q0
              by_cases hcap : oc = out.length
              · subst hcap
                go_wp2_with fail
                refine wp_region_ord (List.range 22) (fun i => [Kd.p, Kd.p, Kd.p, Kd.p, Kd.p, Kd.p, Kd.p, Kd.p, Kd.p, Kd.l, Kd.l, Kd.p, Kd.p, Kd.p, Kd.l, Kd.p, Kd.p, Kd.p, Kd.l, Kd.l, Kd.p, Kd.p].getD i .e) (by kernel_rfl) (by kernel_rfl) ?_
                iterate 22
                  first | (refine wpX_un rfl rfl ?_; go_simp) | first | refine wpX_pu rfl rfl rfl (by first | exact pu_move rfl | exact pu_assign rfl | exact pu_nilCheck rfl rfl | exact pu_binInt rfl rfl rfl | exact pu_conv rfl rfl (by kernel_rfl) | exact pu_fld rfl (by kernel_rfl) | exact pu_ix rfl rfl rfl (by kernel_rfl) | exact pu_unOp rfl | exact pu_binStr rfl rfl rfl | exact pu_len rfl rfl | exact pu_lens rfl rfl | exact pu_pick rfl | exact pu_slice rfl rfl) (fun K hK => ?_) | refine wpX_rd rfl rfl rfl (rd_load rfl) (fun K hK => ?_) | refine wpX_gr rfl rfl rfl (by first | exact gr_buildSlice rfl | exact gr_box rfl | exact gr_alloc rfl) (fun K hK => ?_) | refine wpX_ex rfl rfl rfl (fun K hK => ?_)
                  try go_wp2
                refine wpX_done ?_
                have HSD := Lib.hid ((⟨rfl, .inl ⟨oA, rfl, rfl⟩⟩ : Sl w6.drew 3 (.slice oA 0 0) 0 []))
                go_wp2_with (at_builtin; refine wpList_apo rfl (.tmp 79) (.tmp 82) 30 rfl tbChange (N6.out.kept0 (Fr.drew (Fr.refl no w6))) HSD.out rfl rfl ?a2z1 ?a3z1 ?a4z1 ?a5z1)
                try case a2z1 => exact fun u hu => nomatch hu
                try case a3z1 => simp only [maxLen]; omega
                try case a4z1 => omega
                case a5z1 =>
                  intro NC N7 ne w7 hN ho _ hf hst
                  have hm7 : ∀ k, (Value.slice NC N7 ne).ownBlock = some k → w.heap.size ≤ k := fun k hk => by
                    rcases stays_moved hst with e | e
                    · exact M6.out k (e ▸ hk)
                    · have := (e k hk).1; have := W6.out.size; have h4 : w6.drew.heap.size = w6.heap.size := rfl; omega
                  have hw7 : Fr no w w7 := (Fr.drew W6.out).trans hf (fun k hk e => by have := M6.out k e; omega)
                  have hex : sayL out l[j] = out.take out.length ++ l[j] :: out.drop out.length := by unfold sayL; have h0 : saidK out l[j].f = false := by { unfold saidK; rw [HPP.out]; simp }; rw [h0, HPP.out]; simp
                  have hlen : (sayL out l[j]).length = N7 := by rw [hex]; simp; omega
                  have hrow : Ow w7 36 3 (.slice NC N7 ne) (sayL out l[j]).length ((sayL out l[j]).flatMap SpV.cells) := by
                    rw [hlen, hex, List.flatMap_append, List.flatMap_cons, ← flat_take3, ← flat_drop3]
                    have hcl : l[j].cells = [.slice FA l[j].f.length fc, .slice TA l[j].t.length tc, .bool l[j].o] := by unfold SpV.cells; rw [HFA.out.1, HFA.out.2]
                    rw [hcl]
                    rw [List.drop_of_length_le (Nat.le_of_eq (cells3_len out))]; simpa using ho
                  have HR7 := Lib.hid hrow; have M7 := Lib.hid hm7; have W7 := Lib.hid hw7; clear ho hf hst hm7 hw7 hex hlen hrow
                  go_wp2
                  go_roundw
                  case rel => exact ⟨j + 1, sayL out l[j], by omega, by first | rfl | go_num, by rw [HOUT.out, chgL_succ l j hlt], HR7.out, M7.out, W7.out⟩
                  case measure => simp [intOf]; omega
              · go_wp2_with fail
                refine wp_region_ord (List.range 22) (fun i => [Kd.p, Kd.p, Kd.p, Kd.p, Kd.p, Kd.p, Kd.p, Kd.p, Kd.p, Kd.l, Kd.l, Kd.p, Kd.p, Kd.p, Kd.l, Kd.p, Kd.p, Kd.p, Kd.l, Kd.l, Kd.p, Kd.p].getD i .e) (by kernel_rfl) (by kernel_rfl) ?_
                iterate 22
                  first | (refine wpX_un rfl rfl ?_; go_simp) | first | refine wpX_pu rfl rfl rfl (by first | exact pu_move rfl | exact pu_assign rfl | exact pu_nilCheck rfl rfl | exact pu_binInt rfl rfl rfl | exact pu_conv rfl rfl (by kernel_rfl) | exact pu_fld rfl (by kernel_rfl) | exact pu_ix rfl rfl rfl (by kernel_rfl) | exact pu_unOp rfl | exact pu_binStr rfl rfl rfl | exact pu_len rfl rfl | exact pu_lens rfl rfl | exact pu_pick rfl | exact pu_slice rfl rfl) (fun K hK => ?_) | refine wpX_rd rfl rfl rfl (rd_load rfl) (fun K hK => ?_) | refine wpX_gr rfl rfl rfl (by first | exact gr_buildSlice rfl | exact gr_box rfl | exact gr_alloc rfl) (fun K hK => ?_) | refine wpX_ex rfl rfl rfl (fun K hK => ?_)
                  try go_wp2
                refine wpX_done ?_
                have HSD := Lib.hid ((slDrop0 (HOW6.out.kept0 (Fr.drew (Fr.refl no w6))).sl (Nat.le_refl _) hcap : Sl w6.drew 3 (.slice (Option.map (fun x => x.add (out.length * 3)) oA) 0 (oc - out.length)) 0 []))
                go_wp2_with (at_builtin; refine wpList_apo rfl (.tmp 79) (.tmp 82) 30 rfl tbChange (N6.out.kept0 (Fr.drew (Fr.refl no w6))) HSD.out rfl rfl ?a2z2 ?a3z2 ?a4z2 ?a5z2)
                try case a2z2 => exact fun u hu => nomatch hu
                try case a3z2 => simp only [maxLen]; omega
                try case a4z2 => omega
                case a5z2 =>
                  intro NC N7 ne w7 hN ho _ hf hst
                  have hm7 : ∀ k, (Value.slice NC N7 ne).ownBlock = some k → w.heap.size ≤ k := fun k hk => by
                    rcases stays_moved hst with e | e
                    · exact M6.out k (e ▸ hk)
                    · have := (e k hk).1; have := W6.out.size; have h4 : w6.drew.heap.size = w6.heap.size := rfl; omega
                  have hw7 : Fr no w w7 := (Fr.drew W6.out).trans hf (fun k hk e => by have := M6.out k e; omega)
                  have hex : sayL out l[j] = out.take out.length ++ l[j] :: out.drop out.length := by unfold sayL; have h0 : saidK out l[j].f = false := by { unfold saidK; rw [HPP.out]; simp }; rw [h0, HPP.out]; simp
                  have hlen : (sayL out l[j]).length = N7 := by rw [hex]; simp; omega
                  have hrow : Ow w7 36 3 (.slice NC N7 ne) (sayL out l[j]).length ((sayL out l[j]).flatMap SpV.cells) := by
                    rw [hlen, hex, List.flatMap_append, List.flatMap_cons, ← flat_take3, ← flat_drop3]
                    have hcl : l[j].cells = [.slice FA l[j].f.length fc, .slice TA l[j].t.length tc, .bool l[j].o] := by unfold SpV.cells; rw [HFA.out.1, HFA.out.2]
                    rw [hcl]
                    rw [List.drop_of_length_le (Nat.le_of_eq (cells3_len out))]; simpa using ho
                  have HR7 := Lib.hid hrow; have M7 := Lib.hid hm7; have W7 := Lib.hid hw7; clear ho hf hst hm7 hw7 hex hlen hrow
                  go_wp2
                  go_roundw
                  case rel => exact ⟨j + 1, sayL out l[j], by omega, by first | rfl | go_num, by rw [HOUT.out, chgL_succ l j hlt], HR7.out, M7.out, W7.out⟩
                  case measure => simp [intOf]; omega
    · obtain rfl : j = l.length := by omega
      go_wp2
      go_ret
      have hh : out = chgL l := by rw [HOUT.out, List.take_of_length_le (Nat.le_refl _)]
      subst hh
      exact ⟨_, rfl, HOW.out, HNEW.out, HF.out⟩
end Go.Proofs.Ytdnohhlgaaihmaa
