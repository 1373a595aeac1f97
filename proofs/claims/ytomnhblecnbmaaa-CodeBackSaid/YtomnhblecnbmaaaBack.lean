/- The walk of the law CodeBack. -/
import Derived.Test.YtomnhblecnbmaaaJoins
import Derived.Test.YtomnhblecnbmaaaPureBack
namespace Go.Proofs.Ytomnhblecnbmaaa
open Go.RowKit

/-- A row split at its j-th call. -/
theorem allB_at (os : List OpV) (j : Nat) (h : j < os.length) : allB os = allB (os.take j) ++ os[j].bytes ++ allB (os.drop (j + 1)) := by
  have e : os = os.take j ++ os[j] :: os.drop (j + 1) := by rw [List.getElem_cons_drop, List.take_append_drop]
  conv => lhs; rw [e]
  unfold allB
  rw [List.flatMap_append, List.flatMap_cons]
  simp

theorem wpX_mv {P : Program} {ops : Array Oper} {Q : Exit → Act → World → Prop} {I : World → Prop} {kds : Nat → Kd} {i : Nat} {rest : List Nat} {a : Act} {w : World} {o : Oper} (v : Value) (hi : ops[i]? = some o) (hg : Region.wanted o (yielded ops a.tmps) = true) (hk : kds i = .m)
    (hv : ∀ w', I w' → (execOp a.eval o).run P w' = .ok (.value v) w')
    (h : wpX P ops Q I kds rest (a.put o.dst v) w) : wpX P ops Q I kds (i :: rest) a w := by
  refine wpX_step hi hg fun K hK => ?_
  rw [hk]
  refine ⟨v, fun w' hI => ?_, hK _ _ h⟩
  unfold Oper.val
  rw [hv w' hI]
  exact ⟨rfl, rfl⟩

theorem at_below {w0 w w1 : World} {q : Nat} (hb : Below w0.heap.size w0 w) (f : Fr (At q) w w1) (hq : w0.heap.size ≤ q) : Below w0.heap.size w0 w1 := by
  have s := hb.size
  exact ⟨f.os.trans hb.os, f.tape.trans hb.tape, f.output.trans hb.output, Nat.le_trans s f.size, fun k hk => (f.block k (by omega) (fun h => by have h2 : k = q := h; omega)).trans (hb.block k hk)⟩

set_option maxRecDepth 100000 in
set_option maxHeartbeats 8000000 in
theorem back_walk (w : World) (x : Value) (os : List OpV) (hx : Ops w x os) (h1 : total os ≤ 20000) :
    Calls Try.prog 7 #[x] w fun e w' => e = .returned (.bool true) ∧ Below w.heap.size w w' := by
  obtain ⟨A, c, hA, hc1, hc2⟩ := hx.1.form
  subst hA
  have HX := Lib.hid hx; clear hx hc2
  go_enter Try.func7, Try.ntmps7
  go_wp2_with fail
  refine (much_any _ _ os HX.out).mono ?_
  rintro e w1 ⟨rfl, n1, rfl⟩
  rw [decide_eq_false (by omega)]
  go_wp2_with fail
  refine (new_any _).mono ?_
  rintro e w2 ⟨p2, rfl, hp2, hp2', hw2, hf2⟩
  go_wp2_with fail
  refine (known_any _).mono ?_
  rintro e w5 ⟨rfl, hf5⟩
  have HW := Lib.hid (show ∃ sv, Nw w w5 p2 sv [] ∧ Below w.heap.size w w5 from by
    refine ⟨_, ⟨hw2.kept hf5 (fun _ _ h => h), fun k h => ?_⟩, (((Fr.drewN no w _).trans hf2 (fun _ _ h => h)).trans hf5 (fun _ _ h => h)).below (fun _ _ h => h)⟩
    have s0 : (w.drewN n1).heap.size = w.heap.size := rfl
    rcases h with h | h
    · omega
    · simp [Value.ownBlock] at h)
  clear hp2 hp2' hw2 hf2 hf5
  go_wp2_with fail
  go_loopw [4] (fun i wr => ∃ j : Nat, j ≤ os.length ∧ i = .int .i64 j ∧ ∃ sv, Nw w wr p2 sv (allB (os.take j)) ∧ Below w.heap.size w wr) (fun i _ => os.length - (intOf i).toNat)
  case atStart => exact ⟨0, Nat.zero_le _, rfl, HW.out⟩
  case round =>
    obtain ⟨j, hj, rfl, sv, hnw, hbel⟩ := hrel
    have HN := Lib.hid hnw; have HB := Lib.hid hbel; clear hnw hbel
    have HL := Lib.hid (show (allB (os.take j)).length ≤ 200000 by
      have := allB_len w (os.take j) (fun o ho => ⟨(HX.out.2.1 o (List.mem_of_mem_take ho)).1, short_of h1 o (List.mem_of_mem_take ho)⟩)
      have := total_take_le os j
      omega)
    have hjl : os.length ≤ 20000 := by unfold total at h1; omega
    by_cases hlt : j < os.length
    · obtain ⟨b, o, rfl, q0, q1, q2, q3⟩ := Ops.at (HX.out.below HB.out).1 j hlt
      obtain ⟨B2, d2, hB2, hB3, hB4⟩ := (HX.out.2.1 os[j] (List.getElem_mem _)).1.B.form
      rw [hB2] at q3
      clear hB3 hB4
      go_wp2_with fail
      refine wp_region_ord (List.range 11) (fun i => [Kd.p, Kd.p, Kd.p, Kd.p, Kd.l, Kd.p, Kd.p, Kd.p, Kd.p, Kd.l, Kd.e].getD i .e) (by kernel_rfl) (by kernel_rfl) ?_
      iterate 10
        first | refine wpX_pu rfl rfl rfl (by first | exact pu_move rfl | exact pu_assign rfl | exact pu_nilCheck rfl rfl | exact pu_binInt rfl rfl rfl | exact pu_conv rfl rfl (by kernel_rfl) | exact pu_fld rfl (by kernel_rfl) | exact pu_ix rfl rfl rfl (by kernel_rfl) | exact pu_unOp rfl | exact pu_binStr rfl rfl rfl | exact pu_len rfl rfl | exact pu_lens rfl rfl | exact pu_pick rfl | exact pu_slice rfl rfl) (fun K hK => ?_) | refine wpX_rd rfl rfl rfl (rd_load rfl) (fun K hK => ?_) | refine wpX_gr rfl rfl rfl (by first | exact gr_buildSlice rfl | exact gr_box rfl | exact gr_alloc rfl) (fun K hK => ?_) | refine wpX_ex rfl rfl rfl (fun K hK => ?_)
        try go_wp2
      refine wpX_ex rfl rfl rfl (fun K hK => ?_)
      go_wp2_with fail
      have hb2 := below_fr HB.out ((Fr.refl no wr).drew)
      rw [← hB2]
      refine (puts_any w wr.drew hb2 p2 sv _ os[j] (HX.out.2.1 _ (List.getElem_mem _)).1 (short_of h1 _ (List.getElem_mem _)) os[j].B ((HX.out.2.1 _ (List.getElem_mem _)).1.B.below hb2) (HN.out.wr.kept ((Fr.refl no wr).drew) (fun _ _ h => h)) HN.out.new (by have := HL.out; omega)).mono ?_
      rintro e w6 ⟨A6, c6, rfl, _, hw6⟩
      have HW6 := Lib.hid (show ∃ sv, Nw w w6 p2 sv (allB (os.take (j + 1))) ∧ Below w.heap.size w w6 from by
        obtain ⟨sv', h3, h4, _⟩ := (Nw.mk (w0 := w) (w := wr.drew) (HN.out.wr.kept ((Fr.refl no wr).drew) (fun _ _ h => h)) HN.out.new).wrote hb2 hw6
        exact ⟨sv', by rw [allB_take os j hlt]; exact h3, h4⟩)
      clear hw6 q0 q1 q2 q3 hb2
      go_wp2
      refine wpX_done ?_
      go_wp2
      go_roundw
      case rel => exact ⟨j + 1, hlt, by go_num, HW6.out⟩
      case measure => simp [intOf]; omega
    · obtain rfl : j = os.length := by omega
      rw [List.take_of_length_le (Nat.le_refl _)] at HN HL
      clear hlt hj
      go_wp2_with fail
      refine (bytes_any p2 _ _ _ HN.out.wr (by have := HL.out; omega)).mono ?_
      rintro e w8 ⟨A8, rfl, hb8, hk8, hf8⟩
      have HB8 := Lib.hid hb8.sl; have HF8 := Lib.hid (below_fr HB.out hf8); clear hb8 hk8 hf8
      go_wp2_with fail
      refine (read_any _ _ _ HB8.out (by have := HL.out; omega)).mono ?_
      rintro e w9 ⟨q, rv, rfl, hr9, hq9, hk9, hf9⟩
      have hqn : w.heap.size ≤ q := by have := HF8.out.size; omega
      have HR9 := Lib.hid hr9; have HF9 := Lib.hid (below_fr HF8.out hf9); have HQN := Lib.hid hqn
      clear hr9 hk9 hf9 hq9 hqn
      go_wp2_with fail
      go_loopw [6] (fun i wr => ∃ j : Nat, j ≤ os.length ∧ i = .int .i64 j ∧ Rr wr q rv (allB os) ⟨(allB (os.take j)).length, 0, 0⟩ ∧ Below w.heap.size w wr) (fun i _ => os.length - (intOf i).toNat)
      case atStart => exact ⟨0, Nat.zero_le _, rfl, HR9.out, HF9.out⟩
      case round =>
        obtain ⟨j, hj, rfl, hrr, hbel⟩ := hrel
        have HR := Lib.hid hrr; have HB := Lib.hid hbel; clear hrr hbel
        by_cases hlt : j < os.length
        · obtain ⟨b, o, rfl, q0, q1, q2, q3⟩ := Ops.at (HX.out.below HB.out).1 j hlt
          obtain ⟨B2, d2, hB2, hB3, hB4⟩ := (HX.out.2.1 os[j] (List.getElem_mem _)).1.B.form
          rw [hB2] at q3
          clear hB3 hB4
          have h8 : os[j].k % 8 = 0 ∨ os[j].k % 8 = 1 ∨ os[j].k % 8 = 2 ∨ os[j].k % 8 = 3 ∨ os[j].k % 8 = 4 ∨ os[j].k % 8 = 5 ∨ os[j].k % 8 = 6 ∨ os[j].k % 8 = 7 := by omega
          have HS := Lib.hid (allB_at os j hlt)
          have HV := Lib.hid ((HX.out.2.1 os[j] (List.getElem_mem _)).1.v)
          have HG := Lib.hid (show -9223372036854775808 ≤ sg os[j].v ∧ sg os[j].v ≤ 9223372036854775807 by have := HV.out.out; unfold sg; split <;> omega)
          have ew : wrap64 (os[j].v : Int) = sg os[j].v := by have := HV.out.out; unfold wrap64 sg; split <;> omega
          have HT := Lib.hid (allB_take os j hlt)
          have hqlt := (four_cells HR.out.1).2.2.2.2.2
          have hrr : Rr (wr.alloc (.cells #[.int .u8 os[j].k, .int .u64 os[j].v, .int .i64 os[j].n, .slice B2 os[j].bs.length d2] 69)).drew q rv (allB os) ⟨(allB (os.take j)).length, 0, 0⟩ := HR.out.kept (((Fr.refl no wr).alloc _).drew) (fun h => h) (fun _ _ h => h)
          have HR := Lib.hid hrr; clear hrr
          have HB := Lib.hid (below_fr HB.out (((Fr.refl no wr).alloc (.cells #[.int .u8 os[j].k, .int .u64 os[j].v, .int .i64 os[j].n, .slice B2 os[j].bs.length d2] 69)).drew))
          rcases h8 with h8 | h8 | h8 | h8 | h8 | h8 | h8 | h8
          · have e8 : (os[j].k : Int) % 8 = 0 := by omega
            have hbytes : os[j].bytes = fx os[j].v 1 := by simp only [OpV.bytes, h8]
            rw [hbytes] at HS HT
            clear h8 hbytes
            go_wp2_with fail
            refine wp_region_inv (fun w' => w'.cell? ⟨wr.heap.size, 1, none⟩ = some (.int .u64 os[j].v)) [0, 2, 3, 4, 1, 5, 6] (fun i => [Kd.p, Kd.e, Kd.p, Kd.m, Kd.p, Kd.p, Kd.p].getD i .e) (by kernel_rfl) (by kernel_rfl) ?_ ?_
            · show World.cell? _ _ = _; unfold World.cell?; simp only [World.drew, heap_alloc_new]; simp
            iterate 2
              first | refine wpX_pu rfl rfl rfl (by first | exact pu_move rfl | exact pu_assign rfl | exact pu_nilCheck rfl rfl | exact pu_binInt rfl rfl rfl | exact pu_conv rfl rfl (by kernel_rfl) | exact pu_fld rfl (by kernel_rfl) | exact pu_ix rfl rfl rfl (by kernel_rfl) | exact pu_unOp rfl | exact pu_binStr rfl rfl rfl | exact pu_len rfl rfl | exact pu_lens rfl rfl | exact pu_pick rfl | exact pu_slice rfl rfl) (fun K hK => ?_) | refine wpX_rd rfl rfl rfl (rd_load rfl) (fun K hK => ?_) | refine wpX_gr rfl rfl rfl (by first | exact gr_buildSlice rfl | exact gr_box rfl | exact gr_alloc rfl) (fun K hK => ?_) | refine wpX_ex rfl rfl rfl (fun K hK => ?_)
              try go_wp2
            refine wpX_md (.int .u64 os[j].v) rfl rfl rfl (rd_load rfl) rfl (by simp) (fun w' hI => ?_) ?_
            · replace hI : w'.cell? ⟨wr.heap.size, 1, none⟩ = some (.int .u64 os[j].v) := hI
              go_wp2
            go_simp
            first | refine wpX_pu rfl rfl rfl (by first | exact pu_move rfl | exact pu_assign rfl | exact pu_nilCheck rfl rfl | exact pu_binInt rfl rfl rfl | exact pu_conv rfl rfl (by kernel_rfl) | exact pu_fld rfl (by kernel_rfl) | exact pu_ix rfl rfl rfl (by kernel_rfl) | exact pu_unOp rfl | exact pu_binStr rfl rfl rfl | exact pu_len rfl rfl | exact pu_lens rfl rfl | exact pu_pick rfl | exact pu_slice rfl rfl) (fun K hK => ?_) | refine wpX_rd rfl rfl rfl (rd_load rfl) (fun K hK => ?_) | refine wpX_gr rfl rfl rfl (by first | exact gr_buildSlice rfl | exact gr_box rfl | exact gr_alloc rfl) (fun K hK => ?_) | refine wpX_ex rfl rfl rfl (fun K hK => ?_)
            go_wp2
            refine wpX_es rfl rfl rfl (fun K hK => ?_)
            go_wp2_with fail
            refine (ru8_any q _ rv _ _ HR.out).mono ?_
            rintro e w6 ⟨rfl, hr6, hf6⟩
            rw [show (1 : Int) = ((fx os[j].v 1).length : Int) from rfl, take_at HS.out] at hr6 ⊢
            rw [be_fx]
            rw [show ((os[j].v % 256 ^ 1 : Nat) : Int) = (os[j].v : Int) % 256 from by simp]
            have HR6 := Lib.hid hr6; have HF6 := Lib.hid hf6; clear hr6 hf6
            go_wp2
            refine hK _ _ ?_ ?_
            · exact HF6.out.cell (a := ⟨wr.heap.size, 1, none⟩) (by unfold World.cell?; simp only [World.drew, heap_alloc_new]; simp) (fun h => by have h2 : wr.heap.size = q := h; omega)
            clear hK K
            iterate 2
              first | refine wpX_pu rfl rfl rfl (by first | exact pu_move rfl | exact pu_assign rfl | exact pu_nilCheck rfl rfl | exact pu_binInt rfl rfl rfl | exact pu_conv rfl rfl (by kernel_rfl) | exact pu_fld rfl (by kernel_rfl) | exact pu_ix rfl rfl rfl (by kernel_rfl) | exact pu_unOp rfl | exact pu_binStr rfl rfl rfl | exact pu_len rfl rfl | exact pu_lens rfl rfl | exact pu_pick rfl | exact pu_slice rfl rfl) (fun K hK => ?_) | refine wpX_rd rfl rfl rfl (rd_load rfl) (fun K hK => ?_) | refine wpX_gr rfl rfl rfl (by first | exact gr_buildSlice rfl | exact gr_box rfl | exact gr_alloc rfl) (fun K hK => ?_) | refine wpX_ex rfl rfl rfl (fun K hK => ?_)
              try go_wp2
            refine wpX_done ?_
            go_wp2
            go_roundw
            case rel =>
              refine ⟨j + 1, hlt, by go_num, ?_, ?_⟩
              · rw [HT.out]; exact HR6.out
              · exact at_below HB.out HF6.out HQN.out
            case measure => simp [intOf]; omega
          · have e8 : (os[j].k : Int) % 8 = 1 := by omega
            have hbytes : os[j].bytes = fx os[j].v 2 := by simp only [OpV.bytes, h8]
            rw [hbytes] at HS HT
            clear h8 hbytes
            go_wp2_with fail
            refine wp_region_inv (fun w' => w'.cell? ⟨wr.heap.size, 1, none⟩ = some (.int .u64 os[j].v)) [0, 2, 3, 4, 1, 5, 6] (fun i => [Kd.p, Kd.e, Kd.p, Kd.m, Kd.p, Kd.p, Kd.p].getD i .e) (by kernel_rfl) (by kernel_rfl) ?_ ?_
            · show World.cell? _ _ = _; unfold World.cell?; simp only [World.drew, heap_alloc_new]; simp
            iterate 2
              first | refine wpX_pu rfl rfl rfl (by first | exact pu_move rfl | exact pu_assign rfl | exact pu_nilCheck rfl rfl | exact pu_binInt rfl rfl rfl | exact pu_conv rfl rfl (by kernel_rfl) | exact pu_fld rfl (by kernel_rfl) | exact pu_ix rfl rfl rfl (by kernel_rfl) | exact pu_unOp rfl | exact pu_binStr rfl rfl rfl | exact pu_len rfl rfl | exact pu_lens rfl rfl | exact pu_pick rfl | exact pu_slice rfl rfl) (fun K hK => ?_) | refine wpX_rd rfl rfl rfl (rd_load rfl) (fun K hK => ?_) | refine wpX_gr rfl rfl rfl (by first | exact gr_buildSlice rfl | exact gr_box rfl | exact gr_alloc rfl) (fun K hK => ?_) | refine wpX_ex rfl rfl rfl (fun K hK => ?_)
              try go_wp2
            refine wpX_md (.int .u64 os[j].v) rfl rfl rfl (rd_load rfl) rfl (by simp) (fun w' hI => ?_) ?_
            · replace hI : w'.cell? ⟨wr.heap.size, 1, none⟩ = some (.int .u64 os[j].v) := hI
              go_wp2
            go_simp
            first | refine wpX_pu rfl rfl rfl (by first | exact pu_move rfl | exact pu_assign rfl | exact pu_nilCheck rfl rfl | exact pu_binInt rfl rfl rfl | exact pu_conv rfl rfl (by kernel_rfl) | exact pu_fld rfl (by kernel_rfl) | exact pu_ix rfl rfl rfl (by kernel_rfl) | exact pu_unOp rfl | exact pu_binStr rfl rfl rfl | exact pu_len rfl rfl | exact pu_lens rfl rfl | exact pu_pick rfl | exact pu_slice rfl rfl) (fun K hK => ?_) | refine wpX_rd rfl rfl rfl (rd_load rfl) (fun K hK => ?_) | refine wpX_gr rfl rfl rfl (by first | exact gr_buildSlice rfl | exact gr_box rfl | exact gr_alloc rfl) (fun K hK => ?_) | refine wpX_ex rfl rfl rfl (fun K hK => ?_)
            go_wp2
            refine wpX_es rfl rfl rfl (fun K hK => ?_)
            go_wp2_with fail
            refine (ru16_any q _ rv _ _ HR.out).mono ?_
            rintro e w6 ⟨rfl, hr6, hf6⟩
            rw [show (2 : Int) = ((fx os[j].v 2).length : Int) from rfl, take_at HS.out] at hr6 ⊢
            rw [be_fx]
            rw [show ((os[j].v % 256 ^ 2 : Nat) : Int) = IntKind.u16.wrap (os[j].v : Int) from by show _ = (os[j].v : Int) % 65536; simp]
            have HR6 := Lib.hid hr6; have HF6 := Lib.hid hf6; clear hr6 hf6
            go_wp2
            refine hK _ _ ?_ ?_
            · exact HF6.out.cell (a := ⟨wr.heap.size, 1, none⟩) (by unfold World.cell?; simp only [World.drew, heap_alloc_new]; simp) (fun h => by have h2 : wr.heap.size = q := h; omega)
            clear hK K
            iterate 2
              first | refine wpX_pu rfl rfl rfl (by first | exact pu_move rfl | exact pu_assign rfl | exact pu_nilCheck rfl rfl | exact pu_binInt rfl rfl rfl | exact pu_conv rfl rfl (by kernel_rfl) | exact pu_fld rfl (by kernel_rfl) | exact pu_ix rfl rfl rfl (by kernel_rfl) | exact pu_unOp rfl | exact pu_binStr rfl rfl rfl | exact pu_len rfl rfl | exact pu_lens rfl rfl | exact pu_pick rfl | exact pu_slice rfl rfl) (fun K hK => ?_) | refine wpX_rd rfl rfl rfl (rd_load rfl) (fun K hK => ?_) | refine wpX_gr rfl rfl rfl (by first | exact gr_buildSlice rfl | exact gr_box rfl | exact gr_alloc rfl) (fun K hK => ?_) | refine wpX_ex rfl rfl rfl (fun K hK => ?_)
              try go_wp2
            refine wpX_done ?_
            go_wp2
            go_roundw
            case rel =>
              refine ⟨j + 1, hlt, by go_num, ?_, ?_⟩
              · rw [HT.out]; exact HR6.out
              · exact at_below HB.out HF6.out HQN.out
            case measure => simp [intOf]; omega
          · have e8 : (os[j].k : Int) % 8 = 2 := by omega
            have hbytes : os[j].bytes = fx os[j].v 4 := by simp only [OpV.bytes, h8]
            rw [hbytes] at HS HT
            clear h8 hbytes
            go_wp2_with fail
            refine wp_region_inv (fun w' => w'.cell? ⟨wr.heap.size, 1, none⟩ = some (.int .u64 os[j].v)) [0, 2, 3, 4, 1, 5, 6] (fun i => [Kd.p, Kd.e, Kd.p, Kd.m, Kd.p, Kd.p, Kd.p].getD i .e) (by kernel_rfl) (by kernel_rfl) ?_ ?_
            · show World.cell? _ _ = _; unfold World.cell?; simp only [World.drew, heap_alloc_new]; simp
            iterate 2
              first | refine wpX_pu rfl rfl rfl (by first | exact pu_move rfl | exact pu_assign rfl | exact pu_nilCheck rfl rfl | exact pu_binInt rfl rfl rfl | exact pu_conv rfl rfl (by kernel_rfl) | exact pu_fld rfl (by kernel_rfl) | exact pu_ix rfl rfl rfl (by kernel_rfl) | exact pu_unOp rfl | exact pu_binStr rfl rfl rfl | exact pu_len rfl rfl | exact pu_lens rfl rfl | exact pu_pick rfl | exact pu_slice rfl rfl) (fun K hK => ?_) | refine wpX_rd rfl rfl rfl (rd_load rfl) (fun K hK => ?_) | refine wpX_gr rfl rfl rfl (by first | exact gr_buildSlice rfl | exact gr_box rfl | exact gr_alloc rfl) (fun K hK => ?_) | refine wpX_ex rfl rfl rfl (fun K hK => ?_)
              try go_wp2
            refine wpX_md (.int .u64 os[j].v) rfl rfl rfl (rd_load rfl) rfl (by simp) (fun w' hI => ?_) ?_
            · replace hI : w'.cell? ⟨wr.heap.size, 1, none⟩ = some (.int .u64 os[j].v) := hI
              go_wp2
            go_simp
            first | refine wpX_pu rfl rfl rfl (by first | exact pu_move rfl | exact pu_assign rfl | exact pu_nilCheck rfl rfl | exact pu_binInt rfl rfl rfl | exact pu_conv rfl rfl (by kernel_rfl) | exact pu_fld rfl (by kernel_rfl) | exact pu_ix rfl rfl rfl (by kernel_rfl) | exact pu_unOp rfl | exact pu_binStr rfl rfl rfl | exact pu_len rfl rfl | exact pu_lens rfl rfl | exact pu_pick rfl | exact pu_slice rfl rfl) (fun K hK => ?_) | refine wpX_rd rfl rfl rfl (rd_load rfl) (fun K hK => ?_) | refine wpX_gr rfl rfl rfl (by first | exact gr_buildSlice rfl | exact gr_box rfl | exact gr_alloc rfl) (fun K hK => ?_) | refine wpX_ex rfl rfl rfl (fun K hK => ?_)
            go_wp2
            refine wpX_es rfl rfl rfl (fun K hK => ?_)
            go_wp2_with fail
            refine (ru32_any q _ rv _ _ HR.out).mono ?_
            rintro e w6 ⟨rfl, hr6, hf6⟩
            rw [show (4 : Int) = ((fx os[j].v 4).length : Int) from rfl, take_at HS.out] at hr6 ⊢
            rw [be_fx]
            rw [show ((os[j].v % 256 ^ 4 : Nat) : Int) = (os[j].v : Int) % 4294967296 from by simp]
            have HR6 := Lib.hid hr6; have HF6 := Lib.hid hf6; clear hr6 hf6
            go_wp2
            refine hK _ _ ?_ ?_
            · exact HF6.out.cell (a := ⟨wr.heap.size, 1, none⟩) (by unfold World.cell?; simp only [World.drew, heap_alloc_new]; simp) (fun h => by have h2 : wr.heap.size = q := h; omega)
            clear hK K
            iterate 2
              first | refine wpX_pu rfl rfl rfl (by first | exact pu_move rfl | exact pu_assign rfl | exact pu_nilCheck rfl rfl | exact pu_binInt rfl rfl rfl | exact pu_conv rfl rfl (by kernel_rfl) | exact pu_fld rfl (by kernel_rfl) | exact pu_ix rfl rfl rfl (by kernel_rfl) | exact pu_unOp rfl | exact pu_binStr rfl rfl rfl | exact pu_len rfl rfl | exact pu_lens rfl rfl | exact pu_pick rfl | exact pu_slice rfl rfl) (fun K hK => ?_) | refine wpX_rd rfl rfl rfl (rd_load rfl) (fun K hK => ?_) | refine wpX_gr rfl rfl rfl (by first | exact gr_buildSlice rfl | exact gr_box rfl | exact gr_alloc rfl) (fun K hK => ?_) | refine wpX_ex rfl rfl rfl (fun K hK => ?_)
              try go_wp2
            refine wpX_done ?_
            go_wp2
            go_roundw
            case rel =>
              refine ⟨j + 1, hlt, by go_num, ?_, ?_⟩
              · rw [HT.out]; exact HR6.out
              · exact at_below HB.out HF6.out HQN.out
            case measure => simp [intOf]; omega
          · have e8 : (os[j].k : Int) % 8 = 3 := by omega
            have hbytes : os[j].bytes = fx os[j].v 8 := by simp only [OpV.bytes, h8]
            rw [hbytes] at HS HT
            clear h8 hbytes
            go_wp2_with fail
            refine wp_region_inv (fun w' => w'.cell? ⟨wr.heap.size, 1, none⟩ = some (.int .u64 os[j].v)) [0, 2, 3, 1, 4, 5] (fun i => [Kd.p, Kd.e, Kd.p, Kd.m, Kd.p, Kd.p].getD i .e) (by kernel_rfl) (by kernel_rfl) ?_ ?_
            · show World.cell? _ _ = _; unfold World.cell?; simp only [World.drew, heap_alloc_new]; simp
            iterate 2
              first | refine wpX_pu rfl rfl rfl (by first | exact pu_move rfl | exact pu_assign rfl | exact pu_nilCheck rfl rfl | exact pu_binInt rfl rfl rfl | exact pu_conv rfl rfl (by kernel_rfl) | exact pu_fld rfl (by kernel_rfl) | exact pu_ix rfl rfl rfl (by kernel_rfl) | exact pu_unOp rfl | exact pu_binStr rfl rfl rfl | exact pu_len rfl rfl | exact pu_lens rfl rfl | exact pu_pick rfl | exact pu_slice rfl rfl) (fun K hK => ?_) | refine wpX_rd rfl rfl rfl (rd_load rfl) (fun K hK => ?_) | refine wpX_gr rfl rfl rfl (by first | exact gr_buildSlice rfl | exact gr_box rfl | exact gr_alloc rfl) (fun K hK => ?_) | refine wpX_ex rfl rfl rfl (fun K hK => ?_)
              try go_wp2
            refine wpX_md (.int .u64 os[j].v) rfl rfl rfl (rd_load rfl) rfl (by simp) (fun w' hI => ?_) ?_
            · replace hI : w'.cell? ⟨wr.heap.size, 1, none⟩ = some (.int .u64 os[j].v) := hI
              go_wp2
            go_simp
            refine wpX_es rfl rfl rfl (fun K hK => ?_)
            go_wp2_with fail
            refine (ru64_any q _ rv _ _ HR.out).mono ?_
            rintro e w6 ⟨rfl, hr6, hf6⟩
            rw [show (8 : Int) = ((fx os[j].v 8).length : Int) from rfl, take_at HS.out] at hr6 ⊢
            rw [be_fx]
            rw [Nat.mod_eq_of_lt (by have := HV.out.out; omega)]
            have HR6 := Lib.hid hr6; have HF6 := Lib.hid hf6; clear hr6 hf6
            go_wp2
            refine hK _ _ ?_ ?_
            · exact HF6.out.cell (a := ⟨wr.heap.size, 1, none⟩) (by unfold World.cell?; simp only [World.drew, heap_alloc_new]; simp) (fun h => by have h2 : wr.heap.size = q := h; omega)
            clear hK K
            iterate 2
              first | refine wpX_pu rfl rfl rfl (by first | exact pu_move rfl | exact pu_assign rfl | exact pu_nilCheck rfl rfl | exact pu_binInt rfl rfl rfl | exact pu_conv rfl rfl (by kernel_rfl) | exact pu_fld rfl (by kernel_rfl) | exact pu_ix rfl rfl rfl (by kernel_rfl) | exact pu_unOp rfl | exact pu_binStr rfl rfl rfl | exact pu_len rfl rfl | exact pu_lens rfl rfl | exact pu_pick rfl | exact pu_slice rfl rfl) (fun K hK => ?_) | refine wpX_rd rfl rfl rfl (rd_load rfl) (fun K hK => ?_) | refine wpX_gr rfl rfl rfl (by first | exact gr_buildSlice rfl | exact gr_box rfl | exact gr_alloc rfl) (fun K hK => ?_) | refine wpX_ex rfl rfl rfl (fun K hK => ?_)
              try go_wp2
            refine wpX_done ?_
            go_wp2
            go_roundw
            case rel =>
              refine ⟨j + 1, hlt, by go_num, ?_, ?_⟩
              · rw [HT.out]; exact HR6.out
              · exact at_below HB.out HF6.out HQN.out
            case measure => simp [intOf]; omega
          · have e8 : (os[j].k : Int) % 8 = 4 := by omega
            have hbytes : os[j].bytes = vi os[j].v := by simp only [OpV.bytes, h8]
            rw [hbytes] at HS HT
            clear h8 hbytes
            go_wp2_with fail
            refine wp_region_inv (fun w' => w'.cell? ⟨wr.heap.size, 1, none⟩ = some (.int .u64 os[j].v)) [0, 2, 3, 1, 4, 5] (fun i => [Kd.p, Kd.e, Kd.p, Kd.m, Kd.p, Kd.p].getD i .e) (by kernel_rfl) (by kernel_rfl) ?_ ?_
            · show World.cell? _ _ = _; unfold World.cell?; simp only [World.drew, heap_alloc_new]; simp
            iterate 2
              first | refine wpX_pu rfl rfl rfl (by first | exact pu_move rfl | exact pu_assign rfl | exact pu_nilCheck rfl rfl | exact pu_binInt rfl rfl rfl | exact pu_conv rfl rfl (by kernel_rfl) | exact pu_fld rfl (by kernel_rfl) | exact pu_ix rfl rfl rfl (by kernel_rfl) | exact pu_unOp rfl | exact pu_binStr rfl rfl rfl | exact pu_len rfl rfl | exact pu_lens rfl rfl | exact pu_pick rfl | exact pu_slice rfl rfl) (fun K hK => ?_) | refine wpX_rd rfl rfl rfl (rd_load rfl) (fun K hK => ?_) | refine wpX_gr rfl rfl rfl (by first | exact gr_buildSlice rfl | exact gr_box rfl | exact gr_alloc rfl) (fun K hK => ?_) | refine wpX_ex rfl rfl rfl (fun K hK => ?_)
              try go_wp2
            refine wpX_md (.int .u64 os[j].v) rfl rfl rfl (rd_load rfl) rfl (by simp) (fun w' hI => ?_) ?_
            · replace hI : w'.cell? ⟨wr.heap.size, 1, none⟩ = some (.int .u64 os[j].v) := hI
              go_wp2
            go_simp
            refine wpX_es rfl rfl rfl (fun K hK => ?_)
            go_wp2_with fail
            refine (rvar_any q _ rv _ _ HR.out).mono ?_
            rintro e w6 ⟨rfl, hr6, hf6⟩
            rw [var_at (by have := HV.out.out; omega) HS.out] at hr6 ⊢
            have HR6 := Lib.hid hr6; have HF6 := Lib.hid hf6; clear hr6 hf6
            go_wp2
            refine hK _ _ ?_ ?_
            · exact HF6.out.cell (a := ⟨wr.heap.size, 1, none⟩) (by unfold World.cell?; simp only [World.drew, heap_alloc_new]; simp) (fun h => by have h2 : wr.heap.size = q := h; omega)
            clear hK K
            iterate 2
              first | refine wpX_pu rfl rfl rfl (by first | exact pu_move rfl | exact pu_assign rfl | exact pu_nilCheck rfl rfl | exact pu_binInt rfl rfl rfl | exact pu_conv rfl rfl (by kernel_rfl) | exact pu_fld rfl (by kernel_rfl) | exact pu_ix rfl rfl rfl (by kernel_rfl) | exact pu_unOp rfl | exact pu_binStr rfl rfl rfl | exact pu_len rfl rfl | exact pu_lens rfl rfl | exact pu_pick rfl | exact pu_slice rfl rfl) (fun K hK => ?_) | refine wpX_rd rfl rfl rfl (rd_load rfl) (fun K hK => ?_) | refine wpX_gr rfl rfl rfl (by first | exact gr_buildSlice rfl | exact gr_box rfl | exact gr_alloc rfl) (fun K hK => ?_) | refine wpX_ex rfl rfl rfl (fun K hK => ?_)
              try go_wp2
            refine wpX_done ?_
            go_wp2
            go_roundw
            case rel =>
              refine ⟨j + 1, hlt, by go_num, ?_, ?_⟩
              · rw [HT.out]; exact HR6.out
              · exact at_below HB.out HF6.out HQN.out
            case measure => simp [intOf]; omega
          · have e8 : (os[j].k : Int) % 8 = 5 := by omega
            have hbytes : os[j].bytes = vi (zz (sg os[j].v)) := by simp only [OpV.bytes, h8]
            rw [hbytes] at HS HT
            clear h8 hbytes
            go_wp2_with fail
            refine wp_region_inv (fun w' => w'.cell? ⟨wr.heap.size, 1, none⟩ = some (.int .u64 os[j].v)) [0, 2, 3, 4, 1, 5, 6] (fun i => [Kd.p, Kd.e, Kd.p, Kd.m, Kd.p, Kd.p, Kd.p].getD i .e) (by kernel_rfl) (by kernel_rfl) ?_ ?_
            · show World.cell? _ _ = _; unfold World.cell?; simp only [World.drew, heap_alloc_new]; simp
            iterate 2
              first | refine wpX_pu rfl rfl rfl (by first | exact pu_move rfl | exact pu_assign rfl | exact pu_nilCheck rfl rfl | exact pu_binInt rfl rfl rfl | exact pu_conv rfl rfl (by kernel_rfl) | exact pu_fld rfl (by kernel_rfl) | exact pu_ix rfl rfl rfl (by kernel_rfl) | exact pu_unOp rfl | exact pu_binStr rfl rfl rfl | exact pu_len rfl rfl | exact pu_lens rfl rfl | exact pu_pick rfl | exact pu_slice rfl rfl) (fun K hK => ?_) | refine wpX_rd rfl rfl rfl (rd_load rfl) (fun K hK => ?_) | refine wpX_gr rfl rfl rfl (by first | exact gr_buildSlice rfl | exact gr_box rfl | exact gr_alloc rfl) (fun K hK => ?_) | refine wpX_ex rfl rfl rfl (fun K hK => ?_)
              try go_wp2
            refine wpX_md (.int .u64 os[j].v) rfl rfl rfl (rd_load rfl) rfl (by simp) (fun w' hI => ?_) ?_
            · replace hI : w'.cell? ⟨wr.heap.size, 1, none⟩ = some (.int .u64 os[j].v) := hI
              go_wp2
            go_simp
            first | refine wpX_pu rfl rfl rfl (by first | exact pu_move rfl | exact pu_assign rfl | exact pu_nilCheck rfl rfl | exact pu_binInt rfl rfl rfl | exact pu_conv rfl rfl (by kernel_rfl) | exact pu_fld rfl (by kernel_rfl) | exact pu_ix rfl rfl rfl (by kernel_rfl) | exact pu_unOp rfl | exact pu_binStr rfl rfl rfl | exact pu_len rfl rfl | exact pu_lens rfl rfl | exact pu_pick rfl | exact pu_slice rfl rfl) (fun K hK => ?_) | refine wpX_rd rfl rfl rfl (rd_load rfl) (fun K hK => ?_) | refine wpX_gr rfl rfl rfl (by first | exact gr_buildSlice rfl | exact gr_box rfl | exact gr_alloc rfl) (fun K hK => ?_) | refine wpX_ex rfl rfl rfl (fun K hK => ?_)
            go_wp2
            try rw [ew]
            refine wpX_es rfl rfl rfl (fun K hK => ?_)
            go_wp2_with fail
            refine (rsigned_any q _ rv _ _ HR.out).mono ?_
            rintro e w6 ⟨rfl, hr6, hf6⟩
            rw [var_at (zz_lt _ HG.out.1 HG.out.2) HS.out] at hr6 ⊢
            rw [uz_zz _ HG.out.1 HG.out.2]
            have HR6 := Lib.hid hr6; have HF6 := Lib.hid hf6; clear hr6 hf6
            go_wp2
            refine hK _ _ ?_ ?_
            · exact HF6.out.cell (a := ⟨wr.heap.size, 1, none⟩) (by unfold World.cell?; simp only [World.drew, heap_alloc_new]; simp) (fun h => by have h2 : wr.heap.size = q := h; omega)
            clear hK K
            iterate 2
              first | refine wpX_pu rfl rfl rfl (by first | exact pu_move rfl | exact pu_assign rfl | exact pu_nilCheck rfl rfl | exact pu_binInt rfl rfl rfl | exact pu_conv rfl rfl (by kernel_rfl) | exact pu_fld rfl (by kernel_rfl) | exact pu_ix rfl rfl rfl (by kernel_rfl) | exact pu_unOp rfl | exact pu_binStr rfl rfl rfl | exact pu_len rfl rfl | exact pu_lens rfl rfl | exact pu_pick rfl | exact pu_slice rfl rfl) (fun K hK => ?_) | refine wpX_rd rfl rfl rfl (rd_load rfl) (fun K hK => ?_) | refine wpX_gr rfl rfl rfl (by first | exact gr_buildSlice rfl | exact gr_box rfl | exact gr_alloc rfl) (fun K hK => ?_) | refine wpX_ex rfl rfl rfl (fun K hK => ?_)
              try go_wp2
            refine wpX_done ?_
            go_wp2
            go_roundw
            case rel =>
              refine ⟨j + 1, hlt, by go_num, ?_, ?_⟩
              · rw [HT.out]; exact HR6.out
              · exact at_below HB.out HF6.out HQN.out
            case measure => simp [intOf]; omega
          · have e8 : (os[j].k : Int) % 8 = 6 := by omega
            have hbytes : os[j].bytes = os[j].bs := by simp only [OpV.bytes, h8]
            rw [hbytes] at HS HT
            clear h8 hbytes
            have HBS := Lib.hid (show Sl w 1 (.slice B2 os[j].bs.length d2) os[j].bs.length (bvs os[j].bs) from hB2 ▸ (HX.out.2.1 os[j] (List.getElem_mem _)).1.B)
            have hsh := short_of h1 os[j] (List.getElem_mem _)
            go_wp2_with fail
            refine wp_region_inv (fun w' => w'.cell? ⟨wr.heap.size, 3, none⟩ = some (.slice B2 os[j].bs.length d2)) [0, 1, 2, 3, 5, 6, 4, 7, 8] (fun i => [Kd.p, Kd.p, Kd.m, Kd.p, Kd.e, Kd.p, Kd.m, Kd.e, Kd.p].getD i .e) (by kernel_rfl) (by kernel_rfl) ?_ ?_
            · show World.cell? _ _ = _; unfold World.cell?; simp only [World.drew, heap_alloc_new]; simp
            iterate 2
              first | refine wpX_pu rfl rfl rfl (by first | exact pu_move rfl | exact pu_assign rfl | exact pu_nilCheck rfl rfl | exact pu_binInt rfl rfl rfl | exact pu_conv rfl rfl (by kernel_rfl) | exact pu_fld rfl (by kernel_rfl) | exact pu_ix rfl rfl rfl (by kernel_rfl) | exact pu_unOp rfl | exact pu_binStr rfl rfl rfl | exact pu_len rfl rfl | exact pu_lens rfl rfl | exact pu_pick rfl | exact pu_slice rfl rfl) (fun K hK => ?_) | refine wpX_rd rfl rfl rfl (rd_load rfl) (fun K hK => ?_) | refine wpX_gr rfl rfl rfl (by first | exact gr_buildSlice rfl | exact gr_box rfl | exact gr_alloc rfl) (fun K hK => ?_) | refine wpX_ex rfl rfl rfl (fun K hK => ?_)
              try go_wp2
            refine wpX_md (.slice B2 os[j].bs.length d2) rfl rfl rfl (rd_load rfl) rfl (by simp) (fun w' hI => ?_) ?_
            · replace hI : w'.cell? ⟨wr.heap.size, 3, none⟩ = some (.slice B2 os[j].bs.length d2) := hI
              go_wp2
            go_simp
            iterate 2
              first | refine wpX_pu rfl rfl rfl (by first | exact pu_move rfl | exact pu_assign rfl | exact pu_nilCheck rfl rfl | exact pu_binInt rfl rfl rfl | exact pu_conv rfl rfl (by kernel_rfl) | exact pu_fld rfl (by kernel_rfl) | exact pu_ix rfl rfl rfl (by kernel_rfl) | exact pu_unOp rfl | exact pu_binStr rfl rfl rfl | exact pu_len rfl rfl | exact pu_lens rfl rfl | exact pu_pick rfl | exact pu_slice rfl rfl) (fun K hK => ?_) | refine wpX_rd rfl rfl rfl (rd_load rfl) (fun K hK => ?_) | refine wpX_gr rfl rfl rfl (by first | exact gr_buildSlice rfl | exact gr_box rfl | exact gr_alloc rfl) (fun K hK => ?_) | refine wpX_ex rfl rfl rfl (fun K hK => ?_)
              try go_wp2
            refine wpX_md (.slice B2 os[j].bs.length d2) rfl rfl rfl (rd_load rfl) rfl (by simp) (fun w' hI => ?_) ?_
            · replace hI : w'.cell? ⟨wr.heap.size, 3, none⟩ = some (.slice B2 os[j].bs.length d2) := hI
              go_wp2
            go_simp
            refine wpX_es rfl rfl rfl (fun K hK => ?_)
            go_wp2_with fail
            refine (rraw_any q _ rv _ _ (os[j].bs.length : Int) (by omega) HR.out).mono ?_
            rintro e w6 ⟨A6, rfl, how, _, hr6, hf6⟩
            rw [take_at HS.out] at hr6 how ⊢
            have HO := Lib.hid how.sl; have HR6 := Lib.hid hr6; have HF6 := Lib.hid hf6; clear hr6 hf6 how
            go_wp2
            refine hK _ _ ?_ ?_
            · exact HF6.out.cell (a := ⟨wr.heap.size, 3, none⟩) (by unfold World.cell?; simp only [World.drew, heap_alloc_new]; simp) (fun h => by have h2 : wr.heap.size = q := h; omega)
            clear hK K
            have HB6 := Lib.hid (at_below HB.out HF6.out HQN.out)
            refine wpX_es rfl rfl rfl (fun K hK => ?_)
            go_wp2_with fail
            refine (same_any _ _ _ os[j].bs os[j].bs HO.out (HBS.out.below HB6.out) (by omega) (by omega)).mono ?_
            rintro e w7 ⟨rfl, n7, rfl⟩
            rw [decide_eq_true rfl]
            go_wp2
            refine hK _ _ ?_ ?_
            · exact HF6.out.cell (a := ⟨wr.heap.size, 3, none⟩) (by unfold World.cell?; simp only [World.drew, heap_alloc_new]; simp) (fun h => by have h2 : wr.heap.size = q := h; omega)
            clear hK K
            first | refine wpX_pu rfl rfl rfl (by first | exact pu_move rfl | exact pu_assign rfl | exact pu_nilCheck rfl rfl | exact pu_binInt rfl rfl rfl | exact pu_conv rfl rfl (by kernel_rfl) | exact pu_fld rfl (by kernel_rfl) | exact pu_ix rfl rfl rfl (by kernel_rfl) | exact pu_unOp rfl | exact pu_binStr rfl rfl rfl | exact pu_len rfl rfl | exact pu_lens rfl rfl | exact pu_pick rfl | exact pu_slice rfl rfl) (fun K hK => ?_) | refine wpX_rd rfl rfl rfl (rd_load rfl) (fun K hK => ?_) | refine wpX_gr rfl rfl rfl (by first | exact gr_buildSlice rfl | exact gr_box rfl | exact gr_alloc rfl) (fun K hK => ?_) | refine wpX_ex rfl rfl rfl (fun K hK => ?_)
            go_wp2
            refine wpX_done ?_
            go_wp2
            go_roundw
            case rel =>
              refine ⟨j + 1, hlt, by go_num, ?_, ?_⟩
              · rw [HT.out]; exact HR6.out.drewN n7
              · exact below_fr HB6.out (Fr.drewN no _ n7)
            case measure => simp [intOf]; omega
          · have e8 : (os[j].k : Int) % 8 = 7 := by omega
            have hbytes : os[j].bytes = vi os[j].bs.length ++ os[j].bs := by simp only [OpV.bytes, h8]
            rw [hbytes] at HS HT
            clear h8 hbytes
            have HBS := Lib.hid (show Sl w 1 (.slice B2 os[j].bs.length d2) os[j].bs.length (bvs os[j].bs) from hB2 ▸ (HX.out.2.1 os[j] (List.getElem_mem _)).1.B)
            have hsh := short_of h1 os[j] (List.getElem_mem _)
            go_wp2_with fail
            refine wp_region_inv (fun w' => w'.cell? ⟨wr.heap.size, 3, none⟩ = some (.slice B2 os[j].bs.length d2) ∧ Sl w' 1 (.slice B2 os[j].bs.length d2) os[j].bs.length (bvs os[j].bs)) [0, 2, 3, 4, 1, 5, 6] (fun i => [Kd.p, Kd.e, Kd.p, Kd.m, Kd.m, Kd.p, Kd.p].getD i .e) (by kernel_rfl) (by kernel_rfl) ?_ ?_
            · refine ⟨?_, HBS.out.below HB.out⟩; show World.cell? _ _ = _; unfold World.cell?; simp only [World.drew, heap_alloc_new]; simp
            iterate 2
              first | refine wpX_pu rfl rfl rfl (by first | exact pu_move rfl | exact pu_assign rfl | exact pu_nilCheck rfl rfl | exact pu_binInt rfl rfl rfl | exact pu_conv rfl rfl (by kernel_rfl) | exact pu_fld rfl (by kernel_rfl) | exact pu_ix rfl rfl rfl (by kernel_rfl) | exact pu_unOp rfl | exact pu_binStr rfl rfl rfl | exact pu_len rfl rfl | exact pu_lens rfl rfl | exact pu_pick rfl | exact pu_slice rfl rfl) (fun K hK => ?_) | refine wpX_rd rfl rfl rfl (rd_load rfl) (fun K hK => ?_) | refine wpX_gr rfl rfl rfl (by first | exact gr_buildSlice rfl | exact gr_box rfl | exact gr_alloc rfl) (fun K hK => ?_) | refine wpX_ex rfl rfl rfl (fun K hK => ?_)
              try go_wp2
            refine wpX_md (.slice B2 os[j].bs.length d2) rfl rfl rfl (rd_load rfl) rfl (by simp) (fun w' hI => ?_) ?_
            · replace hI : w'.cell? ⟨wr.heap.size, 3, none⟩ = some (.slice B2 os[j].bs.length d2) := hI.1
              go_wp2
            go_simp
            refine wpX_mv (.string ⟨os[j].bs.toArray⟩) rfl rfl rfl (fun w' hI => ?_) ?_
            · have hstr := run_str (P := Try.prog) w' (src := 22) (dst := 9) (e := 5) (by kernel_rfl) (by kernel_rfl) (by kernel_rfl) hI.2
              simp [execOp, hstr, Act.eval]
            go_simp
            refine wpX_es rfl rfl rfl (fun K hK => ?_)
            go_wp2_with fail
            refine (rtext_any q _ rv _ _ HR.out).mono ?_
            rintro e w6 ⟨rfl, hr6, hf6⟩
            rw [text_at (by omega) HS.out] at hr6 ⊢
            have HR6 := Lib.hid hr6; have HF6 := Lib.hid hf6; clear hr6 hf6
            have HB6 := Lib.hid (at_below HB.out HF6.out HQN.out)
            go_wp2
            refine hK _ _ ?_ ?_
            · exact ⟨HF6.out.cell (a := ⟨wr.heap.size, 3, none⟩) (by unfold World.cell?; simp only [World.drew, heap_alloc_new]; simp) (fun h => by have h2 : wr.heap.size = q := h; omega), HBS.out.below HB6.out⟩
            clear hK K
            iterate 2
              first | refine wpX_pu rfl rfl rfl (by first | exact pu_move rfl | exact pu_assign rfl | exact pu_nilCheck rfl rfl | exact pu_binInt rfl rfl rfl | exact pu_conv rfl rfl (by kernel_rfl) | exact pu_fld rfl (by kernel_rfl) | exact pu_ix rfl rfl rfl (by kernel_rfl) | exact pu_unOp rfl | exact pu_binStr rfl rfl rfl | exact pu_len rfl rfl | exact pu_lens rfl rfl | exact pu_pick rfl | exact pu_slice rfl rfl) (fun K hK => ?_) | refine wpX_rd rfl rfl rfl (rd_load rfl) (fun K hK => ?_) | refine wpX_gr rfl rfl rfl (by first | exact gr_buildSlice rfl | exact gr_box rfl | exact gr_alloc rfl) (fun K hK => ?_) | refine wpX_ex rfl rfl rfl (fun K hK => ?_)
              try go_wp2
            refine wpX_done ?_
            go_wp2
            go_roundw
            case rel =>
              refine ⟨j + 1, hlt, by go_num, ?_, ?_⟩
              · rw [HT.out]; exact HR6.out
              · exact HB6.out
            case measure => simp [intOf]; omega
        · obtain rfl : j = os.length := by omega
          rw [List.take_of_length_le (Nat.le_refl _)] at HR
          go_wp2_with fail
          refine (end_any q _ _ _ _ HR.out).mono ?_
          rintro e w10 ⟨rfl, n10, rfl⟩
          have hlast : RS.last (allB os) ⟨(allB os).length, 0, 0⟩ = 0 := by unfold RS.last; simp
          rw [hlast]
          clear hlast
          go_wp2_with fail
          refine (left_any q _ _ _ _ (HR.out.drewN n10)).mono ?_
          rintro e w11 ⟨rfl, n11, rfl⟩
          rw [show (((allB os).length : Int) - ((allB os).length : Int)) = 0 from by omega]
          go_wp2
          go_ret
          exact ⟨rfl, below_fr HB.out (Fr.drewN no _ _)⟩

set_option maxRecDepth 100000 in
set_option maxHeartbeats 1000000 in
theorem back_much (w : World) (x : Value) (os : List OpV) (hx : Ops w x os) (h1 : 20000 < total os) :
    Calls Try.prog 7 #[x] w fun e w' => e = .returned (.bool true) ∧ Below w.heap.size w w' := by
  have HX := Lib.hid hx; clear hx
  go_enter Try.func7, Try.ntmps7
  go_wp2_with fail
  refine (much_any _ _ os HX.out).mono ?_
  rintro e w1 ⟨rfl, n1, rfl⟩
  rw [decide_eq_true (by omega)]
  go_wp2
  go_ret
  exact ⟨rfl, (Fr.drewN no w n1).below (fun _ _ h => h)⟩
end Go.Proofs.Ytomnhblecnbmaaa
