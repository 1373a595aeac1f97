import Derived.Test.YtgcicljklejmjaaDoorMr01
import Derived.Test.YtgcicljklejmjaaDoorMb09
import Derived.Test.YtgcicljklejmjaaDoorMb14
import Derived.Test.YtgcicljklejmjaaDoorMb16
import Derived.Laws.ResultCell

/- The document's reading of keys: unescaped. -/
namespace Go.Proofs.YtgcicljklejmjaaDoor
open Go.RowKit Go.Shelf
open Tr

/-- What the document's unescaped says. -/
def Une (b : List UInt8) (w : World) (e : Ending) (w' : World) : Prop :=
  Fr no w w' ∧ ((∃ t s A n c, unesc b = some (t, s) ∧ e = .returned (.tuple #[.slice A n c, .int .i64 ((b.length - s.length : Nat) : Int)]) ∧ NB w.heap.size w' A n c t ∧ s.length + 2 ≤ b.length)
    ∨ (unesc b = none ∧ e = .returned (.tuple #[.slice none 0 0, .int .i64 0])))
theorem unesc_one (c : UInt8) : unesc [c] = none := by
  by_cases h : c = 0
  · subst h; unfold unesc; rw [if_neg (fun h => h rfl)]
  · rw [unesc_ne h]; rfl
/-- Behind acc, the rest is still to be read. -/
def UnAt (b acc r : List UInt8) : Prop := unesc b = (unesc r).map fun p => (acc ++ p.1, p.2)
theorem UnAt.first (b : List UInt8) : UnAt b [] b := by
  unfold UnAt
  cases unesc b <;> rfl
theorem UnAt.ne {b acc r : List UInt8} {c : UInt8} (h : UnAt b acc (c :: r)) (hc : c ≠ 0) : UnAt b (acc ++ [c]) r := by
  unfold UnAt at h ⊢
  rw [h, unesc_ne hc]
  cases unesc r with
  | none => rfl
  | some p => simp
theorem UnAt.zero {b acc r : List UInt8} (h : UnAt b acc (0 :: 255 :: r)) : UnAt b (acc ++ [0]) r := by
  unfold UnAt at h ⊢
  rw [h, unesc_zero, if_neg (by decide), if_pos rfl]
  cases unesc r with
  | none => rfl
  | some p => simp
theorem UnAt.done {b acc r : List UInt8} (h : UnAt b acc (0 :: 1 :: r)) : unesc b = some (acc, r) := by
  unfold UnAt at h
  rw [h, unesc_zero, if_pos rfl]
  simp
theorem UnAt.bad {b acc r : List UInt8} {d : UInt8} (h : UnAt b acc (0 :: d :: r)) (h1 : d ≠ 1) (h2 : d ≠ 255) : unesc b = none := by
  unfold UnAt at h
  rw [h, unesc_zero, if_neg h1, if_neg h2]
  rfl
theorem UnAt.short {b acc r : List UInt8} (h : UnAt b acc r) (hr : r.length ≤ 1) : unesc b = none := by
  unfold UnAt at h
  rw [h]
  match r, hr with
  | [], _ => rfl
  | [c], _ => rw [unesc_one]; rfl

set_option maxRecDepth 100000 in
set_option maxHeartbeats 4000000 in
theorem une4_any (w : World) (X : Value) (b : List UInt8) (hx : Sl w 1 X b.length (bvs b)) (hl : b.length ≤ 1000000000) :
    Calls Tryd.prog 85 #[X] w fun e w' => Une b w e w' := by
  obtain ⟨B, d, rfl, hc1, hc2⟩ := hx.form
  have HX := Lib.hid hx; clear hx hc1 hc2
  go_enter Tryd.func85, Tryd.ntmps85
  go_wp2
  go_loopw [4, 5] (fun ov iv wr => ∃ (j : Nat) (acc : List UInt8) (A : Option Addr) (n c : Nat), j ≤ b.length ∧ ov = .slice A n c ∧ iv = .int .i64 (j : Int) ∧ NB w.heap.size wr A n c acc ∧ n ≤ j ∧ UnAt b acc (b.drop j) ∧ Fr no w wr) (fun _ iv _ => b.length - (intOf iv).toNat)
  case atStart => exact ⟨0, [], none, 0, 0, Nat.zero_le _, rfl, rfl, NB.nil _ _, Nat.zero_le _, UnAt.first b, Fr.refl _ _⟩
  case round =>
    obtain ⟨j, acc, A, n, c, hj, rfl, rfl, hnb, hnj, hun, hfr⟩ := hrel
    have HNB := Lib.hid hnb; have FR := Lib.hid hfr; have HUN := Lib.hid hun
    clear hnb hfr hun
    by_cases hlt : j + 1 < b.length
    · obtain ⟨g, o, rfl, hcell⟩ := (HX.out.kept0 FR.out).byte j (by omega)
      obtain ⟨g', o', hgo, hcell2⟩ := (HX.out.kept0 FR.out).byte (j + 1) hlt
      simp only [Option.some.injEq, Addr.mk.injEq, and_true] at hgo
      obtain ⟨rfl, rfl⟩ := hgo
      have hd1 : b.drop j = b[j] :: b[j + 1] :: b.drop (j + 2) := by rw [List.drop_eq_getElem_cons (by omega), List.drop_eq_getElem_cons hlt]
      have hd2 : b.drop (j + 1) = b[j + 1] :: b.drop (j + 2) := List.drop_eq_getElem_cons hlt
      have HD1 := Lib.hid hd1; have HD2 := Lib.hid hd2
      clear hd1 hd2
      by_cases h0 : b[j] = 0
      · have g0 : ((b[j].toNat : Int) != 0) = false := by rw [h0]; rfl
        by_cases h1 : b[j + 1] = 1
        · have g1 : ((b[j + 1].toNat : Int) == 1) = true := by rw [h1]; rfl
          have hu : unesc b = some (acc, b.drop (j + 2)) := by
            have h := HUN.out
            rw [HD1.out, h0, h1] at h
            exact h.done
          have hlen : b.length - (b.drop (j + 2)).length = j + 2 := by rw [List.length_drop]; omega
          have HU := Lib.hid hu; have HLN := Lib.hid hlen
          clear hu hlen h0 h1
          go_wp2
          go_ret2
          exact ⟨FR.out, .inl ⟨acc, _, A, n, c, HU.out, by rw [HLN.out]; rfl, HNB.out, by rw [List.length_drop]; omega⟩⟩
        · have g1 : ((b[j + 1].toNat : Int) == 1) = false := byte_ne h1 rfl
          by_cases h2 : b[j + 1] = 255
          · have g2 : ((b[j + 1].toNat : Int) != 255) = false := by rw [h2]; rfl
            have hun2 : UnAt b (acc ++ [0]) (b.drop (j + 2)) := by
              have h := HUN.out
              rw [HD1.out, h0, h2] at h
              exact h.zero
            have HUN2 := Lib.hid hun2
            clear hun2 h0 h1 h2
            go_wp2_with (at_builtin; refine wpList_apo (n := n) (xs := bvs acc) (m := 1) (news := bvs [0]) rfl (.tmp 40) (.tmp 41) 22 rfl tbB (HNB.out.ow.kept0 (by (repeat first | exact Fr.refl _ _ | exact Fr.drewN _ _ _ | apply Fr.drew | apply Fr.alloc | apply Fr.setAt | apply Fr.moreN))) (Sl.built _ _ _) rfl rfl (bvs_one _) ?za ?zb ?zc)
            case za => simp only [maxLen]; omega
            case zb => omega
            case zc =>
              intro A' N c' w7 hN ho7 _ hf7 hs7
              have hnb7 := (HNB.out.kept0 (by (repeat first | exact Fr.refl _ _ | exact Fr.drewN _ _ _ | apply Fr.drew | apply Fr.alloc | apply Fr.setAt | apply Fr.moreN) : Fr no wr _)).more (cs := [0]) rfl hN ho7 hs7 (Nat.le_trans FR.out.size (Fr.size (by (repeat first | exact Fr.refl _ _ | exact Fr.drewN _ _ _ | apply Fr.drew | apply Fr.alloc | apply Fr.setAt | apply Fr.moreN) : Fr no wr _)))
              have hfr7 : Fr no w w7 := (FR.out.trans (by (repeat first | exact Fr.refl _ _ | exact Fr.drewN _ _ _ | apply Fr.drew | apply Fr.alloc | apply Fr.setAt | apply Fr.moreN) : Fr no wr _) (fun _ _ h => h)).trans hf7 (fun k hk h => by have := HNB.out.new k h; omega)
              subst hN
              have HN7 := Lib.hid hnb7; have F7 := Lib.hid hfr7
              clear ho7 hf7 hs7 hnb7 hfr7
              go_wp2
              go_roundw
              case rel => exact ⟨j + 2, _, A', n + 1, c', hlt, rfl, by first | rfl | go_num | (congr 1; omega), HN7.out, by omega, HUN2.out, F7.out⟩
              case measure => simp [intOf]; omega
          · have g2 : ((b[j + 1].toNat : Int) != 255) = true := by rw [bne_iff_ne]; intro h; exact h2 (UInt8.toNat_inj.1 (by have e : (255 : UInt8).toNat = 255 := rfl; omega))
            have hu : unesc b = none := by
              have h := HUN.out
              rw [HD1.out, h0] at h
              exact h.bad h1 h2
            have HU := Lib.hid hu
            clear hu h0 h1 h2
            go_wp2
            go_ret2
            exact ⟨FR.out, .inr ⟨HU.out, rfl⟩⟩
      · have g0 : ((b[j].toNat : Int) != 0) = true := by rw [bne_iff_ne]; intro h; exact h0 (UInt8.toNat_inj.1 (by have e : (0 : UInt8).toNat = 0 := rfl; omega))
        have hun2 : UnAt b (acc ++ [b[j]]) (b.drop (j + 1)) := by
          have h := HUN.out
          rw [HD1.out, ← HD2.out] at h
          exact h.ne h0
        have HUN2 := Lib.hid hun2
        clear hun2 h0
        go_wp2_with (at_builtin; refine wpList_apo (n := n) (xs := bvs acc) (m := 1) (news := bvs [b[j]]) rfl (.tmp 18) (.tmp 23) 22 rfl tbB (HNB.out.ow.kept0 (by (repeat first | exact Fr.refl _ _ | exact Fr.drewN _ _ _ | apply Fr.drew | apply Fr.alloc | apply Fr.setAt | apply Fr.moreN))) (Sl.built _ _ _) rfl rfl (bvs_one _) ?na ?nb ?nc)
        case na => simp only [maxLen]; omega
        case nb => omega
        case nc =>
          intro A' N c' w7 hN ho7 _ hf7 hs7
          have hnb7 := (HNB.out.kept0 (by (repeat first | exact Fr.refl _ _ | exact Fr.drewN _ _ _ | apply Fr.drew | apply Fr.alloc | apply Fr.setAt | apply Fr.moreN) : Fr no wr _)).more (cs := [b[j]]) rfl hN ho7 hs7 (Nat.le_trans FR.out.size (Fr.size (by (repeat first | exact Fr.refl _ _ | exact Fr.drewN _ _ _ | apply Fr.drew | apply Fr.alloc | apply Fr.setAt | apply Fr.moreN) : Fr no wr _)))
          have hfr7 : Fr no w w7 := (FR.out.trans (by (repeat first | exact Fr.refl _ _ | exact Fr.drewN _ _ _ | apply Fr.drew | apply Fr.alloc | apply Fr.setAt | apply Fr.moreN) : Fr no wr _) (fun _ _ h => h)).trans hf7 (fun k hk h => by have := HNB.out.new k h; omega)
          subst hN
          have HN7 := Lib.hid hnb7; have F7 := Lib.hid hfr7
          clear ho7 hf7 hs7 hnb7 hfr7
          go_wp2
          go_roundw
          case rel => exact ⟨j + 1, _, A', n + 1, c', by omega, rfl, by first | rfl | go_num, HN7.out, by omega, HUN2.out, F7.out⟩
          case measure => simp [intOf]; omega
    · have hu : unesc b = none := HUN.out.short (by rw [List.length_drop]; omega)
      have HU := Lib.hid hu
      clear hu
      go_wp2
      go_ret2
      exact ⟨FR.out, .inr ⟨HU.out, rfl⟩⟩
end Go.Proofs.YtgcicljklejmjaaDoor

/- The document's reading of keys: rising, but for lists. Printed by mkrd4b.py. -/
namespace Go.Proofs.YtgcicljklejmjaaDoor
open Go.RowKit Go.Shelf
open Tr

theorem results_cell_row2 {P : Program} {fn : Func} {p u : Tmp} {ty : TypeId} (h : fn.results = #[.cell p ty, .tmp u]) (tmps : Array Value) (w : World) (g : Nat) (t : TypeId) (cs : Array Value) (fr : Nat × Nat) (d : TypeDesc)
    (hp : tmps.getD p undef = .pointer (some ⟨g, 0, none⟩)) (hg : w.heap[g]? = some (.cells cs t fr))
    (hu : P.underlying ty = some d) (hd : (match d with | .struct _ | .array _ _ => true | _ => false) = true) (hi : (P.info? ty).map (·.size) = some cs.size) :
    (results fn tmps).run P w = .ok (.tuple #[.agg cs, tmps.getD u undef]) w := by
  rw [results_cell_tmp h, hp]
  simp [asAddr, run_loadVar_row w g t ty cs fr d hg hu hd hi, Result.andThen]

/-- What the document's rising says. -/
def Ris (d : Nat) (b : List UInt8) (w : World) (e : Ending) (w' : World) : Prop :=
  Fr no w w' ∧ ((∃ (x : Tr Mm) (s : List UInt8), dec d b = some (bare x, s) ∧ e = .returned (.tuple #[x.agg, .int .i64 ((b.length - s.length : Nat) : Int)]) ∧ Tr.Own w' x ∧ (∀ k, Blk x k → w.heap.size < k))
    ∨ (dec d b = none ∧ e = .returned (.tuple #[.agg #[.int .u8 0, .bool false, .int .i64 0, .string ⟨#[]⟩, .slice none 0 0, .slice none 0 0, .slice none 0 0], .int .i64 0])))
theorem ris_good {d n : Nat} {b s : List UInt8} {w w' wz : World} {x : Tr Mm} {v : Value} (hdec : dec d b = some (bare x, s)) (hown : Tr.Own w' x) (hb : ∀ k, Blk x k → w.heap.size < k) (hfr : Fr no w w') (hz : Fr (fun k => k = w.heap.size) w' wz) (hv : v = x.agg) (hn : (n : Int) = ((b.length - s.length : Nat) : Int)) : Ris d b w (.returned (.tuple #[v, .int .i64 (n : Int)])) wz :=
  ⟨hfr.trans hz (fun k hk h => by omega), .inl ⟨x, s, hdec, by rw [hv, hn], hown.kept hz (fun k hk h => by have := hb k hk; omega), hb⟩⟩
theorem ris_bad {d : Nat} {b : List UInt8} {w w' wz : World} {e : Ending} (hdec : dec d b = none) (hfr : Fr no w w') (hz : Fr (fun k => k = w.heap.size) w' wz) (he : e = .returned (.tuple #[.agg #[.int .u8 0, .bool false, .int .i64 0, .string ⟨#[]⟩, .slice none 0 0, .slice none 0 0, .slice none 0 0], .int .i64 0])) : Ris d b w e wz :=
  ⟨hfr.trans hz (fun k hk h => by omega), .inr ⟨hdec, he⟩⟩

theorem sub_ios (u : Nat) (h : u < 256 ^ 8) : IntKind.i64.wrap (IntKind.u64.wrap ((u : Int) - 9223372036854775808)) = ios u := by
  have h' : u < 18446744073709551616 := by simpa using h
  unfold ios
  by_cases hu : u < 9223372036854775808
  · rw [wrap_u64_mod]
    simp only [IntKind.wrap, IntKind.bits, IntKind.signed]
    simp
    omega
  · rw [wrap_u64_id _ (by omega) (by omega)]
    exact IntWalk.i64_in _ ⟨by omega, by omega⟩
theorem ris_good0 {d n : Nat} {b s : List UInt8} {w wz : World} {x : Tr Mm} {v : Value} (hdec : dec d b = some (bare x, s)) (hown : Tr.Own wz x) (hb : ∀ k, Blk x k → w.heap.size < k) (hfr : Fr no w wz) (hv : v = x.agg) (hn : (n : Int) = ((b.length - s.length : Nat) : Int)) : Ris d b w (.returned (.tuple #[v, .int .i64 (n : Int)])) wz :=
  ⟨hfr, .inl ⟨x, s, hdec, by rw [hv, hn], hown, hb⟩⟩

set_option maxRecDepth 100000 in
set_option maxHeartbeats 4000000 in
theorem ris_nil (w : World) (A : Option Addr) (c d : Nat) : Calls Tryd.prog 40 #[.slice A 0 c, .int .i64 (d : Int)] w fun e w' => Ris d [] w e w' := by
  have HDC := Lib.hid (dec_nil d)
  go_enter Tryd.func40, Tryd.ntmps40
  go_wp2
  refine bodyPost_ret (results_cell_row2 (P := Tryd.prog) rfl _ _ w.heap.size 33 _ (0, 0) _ rfl (two_allocs w (.cells #[.int .u8 0, .bool false, .int .i64 0, .string ⟨#[]⟩, .slice none 0 0, .slice none 0 0, .slice none 0 0] 33) (.cells #[.int .u8 0, .bool false, .int .i64 0, .string ⟨#[]⟩, .slice none 0 0, .slice none 0 0, .slice none 0 0] 33)).1 Tryd.underlying33 rfl (by kernel_rfl)) rfl ?_
  exact ⟨by (repeat first | exact Fr.refl _ _ | exact Fr.drewN _ _ _ | apply Fr.drew | apply Fr.alloc | apply Fr.setAt | apply Fr.moreN), .inr ⟨HDC.out, rfl⟩⟩
set_option maxRecDepth 100000 in
set_option maxHeartbeats 4000000 in
theorem ris_zero (w : World) (A : Option Addr) (n c : Nat) (b : List UInt8) : Calls Tryd.prog 40 #[.slice A n c, .int .i64 0] w fun e w' => Ris 0 b w e w' := by
  have hdc : dec 0 b = none := rfl
  have HDC := Lib.hid hdc
  clear hdc
  go_enter Tryd.func40, Tryd.ntmps40
  go_wp2
  all_goals (
    refine bodyPost_ret (results_cell_row2 (P := Tryd.prog) rfl _ _ w.heap.size 33 _ (0, 0) _ rfl (two_allocs w (.cells #[.int .u8 0, .bool false, .int .i64 0, .string ⟨#[]⟩, .slice none 0 0, .slice none 0 0, .slice none 0 0] 33) (.cells #[.int .u8 0, .bool false, .int .i64 0, .string ⟨#[]⟩, .slice none 0 0, .slice none 0 0, .slice none 0 0] 33)).1 Tryd.underlying33 rfl (by kernel_rfl)) rfl ?_
    exact ⟨by (repeat first | exact Fr.refl _ _ | exact Fr.drewN _ _ _ | apply Fr.drew | apply Fr.alloc | apply Fr.setAt | apply Fr.moreN), .inr ⟨HDC.out, rfl⟩⟩)
set_option maxRecDepth 100000 in
set_option maxHeartbeats 4000000 in
theorem ris_null (w : World) (g o c d : Nat) (r : List UInt8) (hx : Sl w 1 (.slice (some ⟨g, o, none⟩) (r.length + 1) c) (r.length + 1) (bvs (16 :: r))) (hl : r.length ≤ 1000000) : Calls Tryd.prog 40 #[.slice (some ⟨g, o, none⟩) (r.length + 1) c, .int .i64 ((d + 1 : Nat) : Int)] w fun e w' => Ris (d + 1) (16 :: r) w e w' := by
  have hcell : w.cell? ⟨g, o, none⟩ = some (.int .u8 16) := by
    obtain ⟨g', o', e, h⟩ := Sl.byte (l := 16 :: r) hx 0 (by simp)
    simp only [Option.some.injEq, Addr.mk.injEq, and_true] at e
    obtain ⟨rfl, rfl⟩ := e
    exact h
  have hgl := World.block_lt_of_cell? w _ hcell
  have hd0 : (((d : Int) + 1) == 0) = false := by rw [beq_eq_false_iff_ne]; omega
  have hr0 : (((r.length : Int) + 1) == 0) = false := by rw [beq_eq_false_iff_ne]; omega
  have HDC := Lib.hid (dec16 d r)
  clear hx
  go_enter Tryd.func40, Tryd.ntmps40
  go_wp2
  refine bodyPost_ret (results_cell_row2 (P := Tryd.prog) rfl _ _ w.heap.size 33 _ (0, 0) _ rfl (two_allocs w (.cells #[.int .u8 1, .bool false, .int .i64 0, .string ⟨#[]⟩, .slice none 0 0, .slice none 0 0, .slice none 0 0] 33) (.cells #[.int .u8 0, .bool false, .int .i64 0, .string ⟨#[]⟩, .slice none 0 0, .slice none 0 0, .slice none 0 0] 33)).1 Tryd.underlying33 rfl (by kernel_rfl)) rfl ?_
  exact ris_good0 (n := 1) (x := .mk 1 false 0 [] [] nil3 [] []) (by rw [bare_leaf]; exact HDC.out) (own_leaf _ _ _ _ _) (fun k hk => (blk_leaf hk).elim) (by (repeat first | exact Fr.refl _ _ | exact Fr.drewN _ _ _ | apply Fr.drew | apply Fr.alloc | apply Fr.setAt | apply Fr.moreN)) rfl (by simp only [List.length_cons]; omega)
set_option maxRecDepth 100000 in
set_option maxHeartbeats 4000000 in
theorem ris_no (w : World) (g o c d : Nat) (r : List UInt8) (hx : Sl w 1 (.slice (some ⟨g, o, none⟩) (r.length + 1) c) (r.length + 1) (bvs (32 :: r))) (hl : r.length ≤ 1000000) : Calls Tryd.prog 40 #[.slice (some ⟨g, o, none⟩) (r.length + 1) c, .int .i64 ((d + 1 : Nat) : Int)] w fun e w' => Ris (d + 1) (32 :: r) w e w' := by
  have hcell : w.cell? ⟨g, o, none⟩ = some (.int .u8 32) := by
    obtain ⟨g', o', e, h⟩ := Sl.byte (l := 32 :: r) hx 0 (by simp)
    simp only [Option.some.injEq, Addr.mk.injEq, and_true] at e
    obtain ⟨rfl, rfl⟩ := e
    exact h
  have hgl := World.block_lt_of_cell? w _ hcell
  have hd0 : (((d : Int) + 1) == 0) = false := by rw [beq_eq_false_iff_ne]; omega
  have hr0 : (((r.length : Int) + 1) == 0) = false := by rw [beq_eq_false_iff_ne]; omega
  have HDC := Lib.hid (dec32 d r)
  clear hx
  go_enter Tryd.func40, Tryd.ntmps40
  go_wp2
  refine bodyPost_ret (results_cell_row2 (P := Tryd.prog) rfl _ _ w.heap.size 33 _ (0, 0) _ rfl (two_allocs w (.cells #[.int .u8 2, .bool false, .int .i64 0, .string ⟨#[]⟩, .slice none 0 0, .slice none 0 0, .slice none 0 0] 33) (.cells #[.int .u8 0, .bool false, .int .i64 0, .string ⟨#[]⟩, .slice none 0 0, .slice none 0 0, .slice none 0 0] 33)).1 Tryd.underlying33 rfl (by kernel_rfl)) rfl ?_
  exact ris_good0 (n := 1) (x := .mk 2 false 0 [] [] nil3 [] []) (by rw [bare_leaf]; exact HDC.out) (own_leaf _ _ _ _ _) (fun k hk => (blk_leaf hk).elim) (by (repeat first | exact Fr.refl _ _ | exact Fr.drewN _ _ _ | apply Fr.drew | apply Fr.alloc | apply Fr.setAt | apply Fr.moreN)) rfl (by simp only [List.length_cons]; omega)
set_option maxRecDepth 100000 in
set_option maxHeartbeats 4000000 in
theorem ris_yes (w : World) (g o c d : Nat) (r : List UInt8) (hx : Sl w 1 (.slice (some ⟨g, o, none⟩) (r.length + 1) c) (r.length + 1) (bvs (33 :: r))) (hl : r.length ≤ 1000000) : Calls Tryd.prog 40 #[.slice (some ⟨g, o, none⟩) (r.length + 1) c, .int .i64 ((d + 1 : Nat) : Int)] w fun e w' => Ris (d + 1) (33 :: r) w e w' := by
  have hcell : w.cell? ⟨g, o, none⟩ = some (.int .u8 33) := by
    obtain ⟨g', o', e, h⟩ := Sl.byte (l := 33 :: r) hx 0 (by simp)
    simp only [Option.some.injEq, Addr.mk.injEq, and_true] at e
    obtain ⟨rfl, rfl⟩ := e
    exact h
  have hgl := World.block_lt_of_cell? w _ hcell
  have hd0 : (((d : Int) + 1) == 0) = false := by rw [beq_eq_false_iff_ne]; omega
  have hr0 : (((r.length : Int) + 1) == 0) = false := by rw [beq_eq_false_iff_ne]; omega
  have HDC := Lib.hid (dec33 d r)
  clear hx
  go_enter Tryd.func40, Tryd.ntmps40
  go_wp2
  refine bodyPost_ret (results_cell_row2 (P := Tryd.prog) rfl _ _ w.heap.size 33 _ (0, 0) _ rfl (two_allocs w (.cells #[.int .u8 2, .bool true, .int .i64 0, .string ⟨#[]⟩, .slice none 0 0, .slice none 0 0, .slice none 0 0] 33) (.cells #[.int .u8 0, .bool false, .int .i64 0, .string ⟨#[]⟩, .slice none 0 0, .slice none 0 0, .slice none 0 0] 33)).1 Tryd.underlying33 rfl (by kernel_rfl)) rfl ?_
  exact ris_good0 (n := 1) (x := .mk 2 true 0 [] [] nil3 [] []) (by rw [bare_leaf]; exact HDC.out) (own_leaf _ _ _ _ _) (fun k hk => (blk_leaf hk).elim) (by (repeat first | exact Fr.refl _ _ | exact Fr.drewN _ _ _ | apply Fr.drew | apply Fr.alloc | apply Fr.setAt | apply Fr.moreN)) rfl (by simp only [List.length_cons]; omega)
set_option maxRecDepth 100000 in
set_option maxHeartbeats 4000000 in
theorem ris_other (w : World) (c0 : UInt8) (hc : c0 ≠ 16 ∧ c0 ≠ 32 ∧ c0 ≠ 33 ∧ c0 ≠ 48 ∧ c0 ≠ 64 ∧ c0 ≠ 80 ∧ c0 ≠ 96) (g o c d : Nat) (r : List UInt8) (hx : Sl w 1 (.slice (some ⟨g, o, none⟩) (r.length + 1) c) (r.length + 1) (bvs (c0 :: r))) (hl : r.length ≤ 1000000) : Calls Tryd.prog 40 #[.slice (some ⟨g, o, none⟩) (r.length + 1) c, .int .i64 ((d + 1 : Nat) : Int)] w fun e w' => Ris (d + 1) (c0 :: r) w e w' := by
  have hcell : w.cell? ⟨g, o, none⟩ = some (.int .u8 c0.toNat) := by
    obtain ⟨g', o', e, h⟩ := Sl.byte (l := c0 :: r) hx 0 (by simp)
    simp only [Option.some.injEq, Addr.mk.injEq, and_true] at e
    obtain ⟨rfl, rfl⟩ := e
    exact h
  have hgl := World.block_lt_of_cell? w _ hcell
  have hd0 : (((d : Int) + 1) == 0) = false := by rw [beq_eq_false_iff_ne]; omega
  have hr0 : (((r.length : Int) + 1) == 0) = false := by rw [beq_eq_false_iff_ne]; omega
  have HDC := Lib.hid (dec_other d c0 r hc)
  have g16 : ((c0.toNat : Int) == 16) = false := byte_ne hc.1 rfl
  have g32 : ((c0.toNat : Int) == 32) = false := byte_ne hc.2.1 rfl
  have g33 : ((c0.toNat : Int) == 33) = false := byte_ne hc.2.2.1 rfl
  have g48 : ((c0.toNat : Int) == 48) = false := byte_ne hc.2.2.2.1 rfl
  have g64 : ((c0.toNat : Int) == 64) = false := byte_ne hc.2.2.2.2.1 rfl
  have g80 : ((c0.toNat : Int) == 80) = false := byte_ne hc.2.2.2.2.2.1 rfl
  have g96 : ((c0.toNat : Int) == 96) = false := byte_ne hc.2.2.2.2.2.2 rfl
  clear hx hc
  go_enter Tryd.func40, Tryd.ntmps40
  go_wp2
  refine bodyPost_ret (results_cell_row2 (P := Tryd.prog) rfl _ _ w.heap.size 33 _ (0, 0) _ rfl (two_allocs w (.cells #[.int .u8 0, .bool false, .int .i64 0, .string ⟨#[]⟩, .slice none 0 0, .slice none 0 0, .slice none 0 0] 33) (.cells #[.int .u8 0, .bool false, .int .i64 0, .string ⟨#[]⟩, .slice none 0 0, .slice none 0 0, .slice none 0 0] 33)).1 Tryd.underlying33 rfl (by kernel_rfl)) rfl ?_
  exact ⟨by (repeat first | exact Fr.refl _ _ | exact Fr.drewN _ _ _ | apply Fr.drew | apply Fr.alloc | apply Fr.setAt | apply Fr.moreN), .inr ⟨HDC.out, rfl⟩⟩
set_option maxRecDepth 100000 in
set_option maxHeartbeats 4000000 in
theorem ris_int (w : World) (g o c d : Nat) (r : List UInt8) (hx : Sl w 1 (.slice (some ⟨g, o, none⟩) (r.length + 1) c) (r.length + 1) (bvs (48 :: r))) (hl : r.length ≤ 1000000) : Calls Tryd.prog 40 #[.slice (some ⟨g, o, none⟩) (r.length + 1) c, .int .i64 ((d + 1 : Nat) : Int)] w fun e w' => Ris (d + 1) (48 :: r) w e w' := by
  have hcell : w.cell? ⟨g, o, none⟩ = some (.int .u8 48) := by
    obtain ⟨g', o', e, h⟩ := Sl.byte (l := 48 :: r) hx 0 (by simp)
    simp only [Option.some.injEq, Addr.mk.injEq, and_true] at e
    obtain ⟨rfl, rfl⟩ := e
    exact h
  have hgl := World.block_lt_of_cell? w _ hcell
  have hd0 : (((d : Int) + 1) == 0) = false := by rw [beq_eq_false_iff_ne]; omega
  have hr0 : (((r.length : Int) + 1) == 0) = false := by rw [beq_eq_false_iff_ne]; omega
  have HX := Lib.hid hx
  clear hx
  by_cases h8 : r.length < 8
  · have hdc : dec (d + 1) (48 :: r) = none := by rw [dec48, if_pos h8]
    have HDC := Lib.hid hdc
    clear hdc
    go_enter Tryd.func40, Tryd.ntmps40
    go_wp2
    refine bodyPost_ret (results_cell_row2 (P := Tryd.prog) rfl _ _ w.heap.size 33 _ (0, 0) _ rfl (two_allocs w (.cells #[.int .u8 0, .bool false, .int .i64 0, .string ⟨#[]⟩, .slice none 0 0, .slice none 0 0, .slice none 0 0] 33) (.cells #[.int .u8 0, .bool false, .int .i64 0, .string ⟨#[]⟩, .slice none 0 0, .slice none 0 0, .slice none 0 0] 33)).1 Tryd.underlying33 rfl (by kernel_rfl)) rfl ?_
    exact ⟨by (repeat first | exact Fr.refl _ _ | exact Fr.drewN _ _ _ | apply Fr.drew | apply Fr.alloc | apply Fr.setAt | apply Fr.moreN), .inr ⟨HDC.out, rfl⟩⟩
  · have hdc : dec (d + 1) (48 :: r) = some (.mk 3 false (ios (un 0 (r.take 8))) [] [] () [] [], r.drop 8) := by rw [dec48, if_neg h8]
    have HDC := Lib.hid hdc
    clear hdc
    have hx := sub_ios (un 0 (r.take 8)) (by
      have h1 := un_lt (r.take 8)
      rwa [List.length_take, Nat.min_eq_left (by omega)] at h1)
    have HXO := Lib.hid hx
    clear hx
    go_enter Tryd.func40, Tryd.ntmps40
    go_wp2
    go_loop [7, 8] (fun nv iv => ∃ j : Nat, j ≤ 8 ∧ iv = .int .i64 ((j : Int) + 1) ∧ nv = .int .u64 (un 0 (r.take j))) (fun _ iv => 9 - (intOf iv).toNat)
    case atStart => exact ⟨0, Nat.zero_le _, rfl, rfl⟩
    case round =>
      obtain ⟨j, hj, rfl, rfl⟩ := hrel
      by_cases hlt : j < 8
      · have hN : un 0 (r.take j) < 72057594037927936 := by
          have h1 := un_lt (r.take j)
          rw [List.length_take, Nat.min_eq_left (by omega)] at h1
          have h2 : 256 ^ j ≤ 256 ^ 7 := Nat.pow_le_pow_right (by omega) (by omega)
          have h3 : (256 : Nat) ^ 7 = 72057594037927936 := rfl
          omega
        have hjr : j < r.length := by omega
        have he := eight (un 0 (r.take j)) r[j].toNat hN r[j].toNat_lt
        have hun : un 0 (r.take j) * 256 + r[j].toNat = un 0 (r.take (j + 1)) := by rw [List.take_succ_eq_append_getElem hjr, un_snoc]
        rw [hun] at he
        have hcj : w.cell? ⟨g, o + (j + 1), none⟩ = some (.int .u8 r[j].toNat) := by
          obtain ⟨g', o', e, h⟩ := Sl.byte (l := 48 :: r) HX.out (j + 1) (by simp; omega)
          simp only [Option.some.injEq, Addr.mk.injEq, and_true] at e
          obtain ⟨rfl, rfl⟩ := e
          exact h
        have HE := Lib.hid he
        clear hN he hun
        go_wp2
        go_round
        case rel => exact ⟨j + 1, by omega, by go_num, by rw [wrap_u64_id (r[j].toNat : Int) (by omega) (by have := r[j].toNat_lt; omega), HE.out]⟩
        case measure => simp [intOf]; omega
      · obtain rfl : j = 8 := by omega
        have hxo := HXO.out
        go_wp2
        refine bodyPost_ret (results_cell_row2 (P := Tryd.prog) rfl _ _ w.heap.size 33 _ (0, 0) _ rfl (two_allocs w (.cells #[.int .u8 3, .bool false, .int .i64 (ios (un 0 (r.take 8))), .string ⟨#[]⟩, .slice none 0 0, .slice none 0 0, .slice none 0 0] 33) (.cells #[.int .u8 0, .bool false, .int .i64 0, .string ⟨#[]⟩, .slice none 0 0, .slice none 0 0, .slice none 0 0] 33)).1 Tryd.underlying33 rfl (by kernel_rfl)) rfl ?_
        exact ris_good0 (n := 9) (x := .mk 3 false (ios (un 0 (r.take 8))) [] [] nil3 [] []) (by rw [bare_leaf]; exact HDC.out) (own_leaf _ _ _ _ _) (fun k hk => (blk_leaf hk).elim) (by (repeat first | exact Fr.refl _ _ | exact Fr.drewN _ _ _ | apply Fr.drew | apply Fr.alloc | apply Fr.setAt | apply Fr.moreN)) rfl (by simp only [List.length_cons, List.length_drop]; omega)
end Go.Proofs.YtgcicljklejmjaaDoor

/- The document's reading of keys: rising of texts and bytes. Printed by mkrd4c.py. -/
namespace Go.Proofs.YtgcicljklejmjaaDoor
open Go.RowKit Go.Shelf
open Tr

set_option maxRecDepth 100000 in
set_option maxHeartbeats 1000000 in
theorem ris_text (w : World) (g o c d : Nat) (r : List UInt8) (hx : Sl w 1 (.slice (some ⟨g, o, none⟩) (r.length + 1) c) (r.length + 1) (bvs (64 :: r))) (hl : r.length ≤ 1000000) : Calls Tryd.prog 40 #[.slice (some ⟨g, o, none⟩) (r.length + 1) c, .int .i64 ((d + 1 : Nat) : Int)] w fun e w' => Ris (d + 1) (64 :: r) w e w' := by
  have hcell : w.cell? ⟨g, o, none⟩ = some (.int .u8 64) := by
    obtain ⟨g', o', e, h⟩ := Sl.byte (l := 64 :: r) hx 0 (by simp)
    simp only [Option.some.injEq, Addr.mk.injEq, and_true] at e
    obtain ⟨rfl, rfl⟩ := e
    exact h
  have hgl := World.block_lt_of_cell? w _ hcell
  have hd0 : (((d : Int) + 1) == 0) = false := by rw [beq_eq_false_iff_ne]; omega
  have hr0 : (((r.length : Int) + 1) == 0) = false := by rw [beq_eq_false_iff_ne]; omega
  have hcl : r.length + 1 ≤ c := by
    obtain ⟨A', c', h1, h2, _⟩ := hx.form
    cases h1; exact h2
  have HX := Lib.hid hx
  clear hx
  by_cases hc1 : c = 1
  · subst hc1
    have htl : ∀ W, Fr no w W → Sl W 1 (.slice (some ⟨g, o, none⟩) r.length 0) r.length (bvs r) := fun W f => (Sl.tail0 (lo := 1) (HX.out.kept0 f) (by omega)).1
    have e0 : r.length = 0 := by omega
    rw [show Value.slice (some ⟨g, o, none⟩) r.length 0 = .slice (some ⟨g, o, none⟩) 0 0 by rw [e0]] at htl
    clear e0
    have HTL := Lib.hid htl; clear htl
    go_enter Tryd.func40, Tryd.ntmps40
    go_wp2_with fail
    refine (une4_any _ _ r (HTL.out _ (by (repeat first | exact Fr.refl _ _ | exact Fr.drewN _ _ _ | apply Fr.drew | apply Fr.alloc | apply Fr.setAt | apply Fr.moreN))) (by omega)).mono ?_
    rintro e w3 ⟨f3, ⟨t, s, A, n, cc, hu, rfl, hnb, hln⟩ | ⟨hu, rfl⟩⟩
    · skip
      obtain rfl := hnb.len
      obtain ⟨m, hm⟩ : ∃ m, m = r.length - s.length := ⟨_, rfl⟩
      rw [← hm]
      have hz : ((m : Int) == 0) = false := by rw [beq_eq_false_iff_ne]; omega
      have hm2 : m ≤ 1000000 := by omega
      have hdc : dec (d + 1) (64 :: r) = some (.mk 4 false 0 t [] () [] [], s) := by rw [dec64, hu]; rfl
      have hstr := run_str (P := Tryd.prog) w3 (src := 22) (dst := 9) (e := 5) (by kernel_rfl) (by kernel_rfl) (by kernel_rfl) hnb.ow.sl
      have f03 : Fr no w w3 := Fr.trans (by (repeat first | exact Fr.refl _ _ | exact Fr.drewN _ _ _ | apply Fr.drew | apply Fr.alloc | apply Fr.setAt | apply Fr.moreN)) f3 (fun _ _ h => h)
      have hb3 := f3.heap (two_allocs w (.cells #[.int .u8 0, .bool false, .int .i64 0, .string ⟨#[]⟩, .slice none 0 0, .slice none 0 0, .slice none 0 0] 33) (.cells #[.int .u8 0, .bool false, .int .i64 0, .string ⟨#[]⟩, .slice none 0 0, .slice none 0 0, .slice none 0 0] 33)).1 (fun h => h)
      have hc3 := f3.heap (two_allocs w (.cells #[.int .u8 0, .bool false, .int .i64 0, .string ⟨#[]⟩, .slice none 0 0, .slice none 0 0, .slice none 0 0] 33) (.cells #[.int .u8 0, .bool false, .int .i64 0, .string ⟨#[]⟩, .slice none 0 0, .slice none 0 0, .slice none 0 0] 33)).2 (fun h => h)
      obtain ⟨q0, q1, q2, q3, q4, q5, q6, qz, ql⟩ := seven_cells hb3
      obtain ⟨x0, x1, x2, x3, x4, x5, x6, xz, xl⟩ := seven_cells hc3
      have hlo : w.heap.size + 2 ≤ ((w.alloc (.cells #[.int .u8 0, .bool false, .int .i64 0, .string ⟨#[]⟩, .slice none 0 0, .slice none 0 0, .slice none 0 0] 33)).alloc (.cells #[.int .u8 0, .bool false, .int .i64 0, .string ⟨#[]⟩, .slice none 0 0, .slice none 0 0, .slice none 0 0] 33)).heap.size := by rw [World.size_alloc, World.size_alloc]; omega
      have HLO := Lib.hid hlo; have HM := Lib.hid hm; have HDC := Lib.hid hdc; have HNB := Lib.hid hnb; have HLN := Lib.hid hln; have F3 := Lib.hid f03; have HB3 := Lib.hid hb3
      clear hlo hm hdc hnb hln f03 hb3 hc3 f3 hu
      go_wp2
      have hset := set7_row (a := .int .u8 4) (b := .bool false) (c := .int .i64 0) (d := .string ⟨t.toArray⟩) (e := .slice none 0 0) (f := .slice none 0 0) (h := .slice none 0 0) HB3.out
      have hsf := set7_fr w3 w.heap.size (.int .u8 4) (.bool false) (.int .i64 0) (.string ⟨t.toArray⟩) (.slice none 0 0) (.slice none 0 0) (.slice none 0 0)
      unfold set7 at hset hsf
      refine bodyPost_ret (results_cell_row2 (P := Tryd.prog) rfl _ _ w.heap.size 33 _ (0, 0) _ rfl hset Tryd.underlying33 rfl (by kernel_rfl)) rfl ?_
      exact ris_good (n := m + 1) (x := .mk 4 false 0 t [] nil3 [] []) (by rw [HDC.out, bare_leaf]) (own_leaf _ _ _ _ _) (fun k hk => (blk_leaf hk).elim) F3.out hsf rfl (by have h1 := HM.out; have h2 := HLN.out; simp only [List.length_cons]; omega)
    · skip
      have hdc : dec (d + 1) (64 :: r) = none := by rw [dec64, hu]; rfl
      have f03 : Fr no w w3 := Fr.trans (by (repeat first | exact Fr.refl _ _ | exact Fr.drewN _ _ _ | apply Fr.drew | apply Fr.alloc | apply Fr.setAt | apply Fr.moreN)) f3 (fun _ _ h => h)
      have hb3 := f3.heap (two_allocs w (.cells #[.int .u8 0, .bool false, .int .i64 0, .string ⟨#[]⟩, .slice none 0 0, .slice none 0 0, .slice none 0 0] 33) (.cells #[.int .u8 0, .bool false, .int .i64 0, .string ⟨#[]⟩, .slice none 0 0, .slice none 0 0, .slice none 0 0] 33)).1 (fun h => h)
      have hc3 := f3.heap (two_allocs w (.cells #[.int .u8 0, .bool false, .int .i64 0, .string ⟨#[]⟩, .slice none 0 0, .slice none 0 0, .slice none 0 0] 33) (.cells #[.int .u8 0, .bool false, .int .i64 0, .string ⟨#[]⟩, .slice none 0 0, .slice none 0 0, .slice none 0 0] 33)).2 (fun h => h)
      obtain ⟨q0, q1, q2, q3, q4, q5, q6, qz, ql⟩ := seven_cells hb3
      obtain ⟨x0, x1, x2, x3, x4, x5, x6, xz, xl⟩ := seven_cells hc3
      have HDC := Lib.hid hdc; have F3 := Lib.hid f03; have HB3 := Lib.hid hb3
      clear hdc f03 hb3 hc3 f3 hu
      go_wp2
      have hset := set7_row (a := .int .u8 0) (b := .bool false) (c := .int .i64 0) (d := .string ⟨#[]⟩) (e := .slice none 0 0) (f := .slice none 0 0) (h := .slice none 0 0) HB3.out
      have hsf := set7_fr w3 w.heap.size (.int .u8 0) (.bool false) (.int .i64 0) (.string ⟨#[]⟩) (.slice none 0 0) (.slice none 0 0) (.slice none 0 0)
      unfold set7 at hset hsf
      refine bodyPost_ret (results_cell_row2 (P := Tryd.prog) rfl _ _ w.heap.size 33 _ (0, 0) _ rfl hset Tryd.underlying33 rfl (by kernel_rfl)) rfl ?_
      exact ris_bad HDC.out F3.out hsf rfl
  · skip
    have htl : ∀ W, Fr no w W → Sl W 1 (.slice (some ⟨g, o + 1, none⟩) r.length (c - 1)) r.length (bvs r) := fun W f => (Sl.tail1 (lo := 1) (HX.out.kept0 f) (by omega)).1
    have HTL := Lib.hid htl; clear htl
    go_enter Tryd.func40, Tryd.ntmps40
    go_wp2_with fail
    refine (une4_any _ _ r (HTL.out _ (by (repeat first | exact Fr.refl _ _ | exact Fr.drewN _ _ _ | apply Fr.drew | apply Fr.alloc | apply Fr.setAt | apply Fr.moreN))) (by omega)).mono ?_
    rintro e w3 ⟨f3, ⟨t, s, A, n, cc, hu, rfl, hnb, hln⟩ | ⟨hu, rfl⟩⟩
    · skip
      obtain rfl := hnb.len
      obtain ⟨m, hm⟩ : ∃ m, m = r.length - s.length := ⟨_, rfl⟩
      rw [← hm]
      have hz : ((m : Int) == 0) = false := by rw [beq_eq_false_iff_ne]; omega
      have hm2 : m ≤ 1000000 := by omega
      have hdc : dec (d + 1) (64 :: r) = some (.mk 4 false 0 t [] () [] [], s) := by rw [dec64, hu]; rfl
      have hstr := run_str (P := Tryd.prog) w3 (src := 22) (dst := 9) (e := 5) (by kernel_rfl) (by kernel_rfl) (by kernel_rfl) hnb.ow.sl
      have f03 : Fr no w w3 := Fr.trans (by (repeat first | exact Fr.refl _ _ | exact Fr.drewN _ _ _ | apply Fr.drew | apply Fr.alloc | apply Fr.setAt | apply Fr.moreN)) f3 (fun _ _ h => h)
      have hb3 := f3.heap (two_allocs w (.cells #[.int .u8 0, .bool false, .int .i64 0, .string ⟨#[]⟩, .slice none 0 0, .slice none 0 0, .slice none 0 0] 33) (.cells #[.int .u8 0, .bool false, .int .i64 0, .string ⟨#[]⟩, .slice none 0 0, .slice none 0 0, .slice none 0 0] 33)).1 (fun h => h)
      have hc3 := f3.heap (two_allocs w (.cells #[.int .u8 0, .bool false, .int .i64 0, .string ⟨#[]⟩, .slice none 0 0, .slice none 0 0, .slice none 0 0] 33) (.cells #[.int .u8 0, .bool false, .int .i64 0, .string ⟨#[]⟩, .slice none 0 0, .slice none 0 0, .slice none 0 0] 33)).2 (fun h => h)
      obtain ⟨q0, q1, q2, q3, q4, q5, q6, qz, ql⟩ := seven_cells hb3
      obtain ⟨x0, x1, x2, x3, x4, x5, x6, xz, xl⟩ := seven_cells hc3
      have hlo : w.heap.size + 2 ≤ ((w.alloc (.cells #[.int .u8 0, .bool false, .int .i64 0, .string ⟨#[]⟩, .slice none 0 0, .slice none 0 0, .slice none 0 0] 33)).alloc (.cells #[.int .u8 0, .bool false, .int .i64 0, .string ⟨#[]⟩, .slice none 0 0, .slice none 0 0, .slice none 0 0] 33)).heap.size := by rw [World.size_alloc, World.size_alloc]; omega
      have HLO := Lib.hid hlo; have HM := Lib.hid hm; have HDC := Lib.hid hdc; have HNB := Lib.hid hnb; have HLN := Lib.hid hln; have F3 := Lib.hid f03; have HB3 := Lib.hid hb3
      clear hlo hm hdc hnb hln f03 hb3 hc3 f3 hu
      go_wp2
      have hset := set7_row (a := .int .u8 4) (b := .bool false) (c := .int .i64 0) (d := .string ⟨t.toArray⟩) (e := .slice none 0 0) (f := .slice none 0 0) (h := .slice none 0 0) HB3.out
      have hsf := set7_fr w3 w.heap.size (.int .u8 4) (.bool false) (.int .i64 0) (.string ⟨t.toArray⟩) (.slice none 0 0) (.slice none 0 0) (.slice none 0 0)
      unfold set7 at hset hsf
      refine bodyPost_ret (results_cell_row2 (P := Tryd.prog) rfl _ _ w.heap.size 33 _ (0, 0) _ rfl hset Tryd.underlying33 rfl (by kernel_rfl)) rfl ?_
      exact ris_good (n := m + 1) (x := .mk 4 false 0 t [] nil3 [] []) (by rw [HDC.out, bare_leaf]) (own_leaf _ _ _ _ _) (fun k hk => (blk_leaf hk).elim) F3.out hsf rfl (by have h1 := HM.out; have h2 := HLN.out; simp only [List.length_cons]; omega)
    · skip
      have hdc : dec (d + 1) (64 :: r) = none := by rw [dec64, hu]; rfl
      have f03 : Fr no w w3 := Fr.trans (by (repeat first | exact Fr.refl _ _ | exact Fr.drewN _ _ _ | apply Fr.drew | apply Fr.alloc | apply Fr.setAt | apply Fr.moreN)) f3 (fun _ _ h => h)
      have hb3 := f3.heap (two_allocs w (.cells #[.int .u8 0, .bool false, .int .i64 0, .string ⟨#[]⟩, .slice none 0 0, .slice none 0 0, .slice none 0 0] 33) (.cells #[.int .u8 0, .bool false, .int .i64 0, .string ⟨#[]⟩, .slice none 0 0, .slice none 0 0, .slice none 0 0] 33)).1 (fun h => h)
      have hc3 := f3.heap (two_allocs w (.cells #[.int .u8 0, .bool false, .int .i64 0, .string ⟨#[]⟩, .slice none 0 0, .slice none 0 0, .slice none 0 0] 33) (.cells #[.int .u8 0, .bool false, .int .i64 0, .string ⟨#[]⟩, .slice none 0 0, .slice none 0 0, .slice none 0 0] 33)).2 (fun h => h)
      obtain ⟨q0, q1, q2, q3, q4, q5, q6, qz, ql⟩ := seven_cells hb3
      obtain ⟨x0, x1, x2, x3, x4, x5, x6, xz, xl⟩ := seven_cells hc3
      have HDC := Lib.hid hdc; have F3 := Lib.hid f03; have HB3 := Lib.hid hb3
      clear hdc f03 hb3 hc3 f3 hu
      go_wp2
      have hset := set7_row (a := .int .u8 0) (b := .bool false) (c := .int .i64 0) (d := .string ⟨#[]⟩) (e := .slice none 0 0) (f := .slice none 0 0) (h := .slice none 0 0) HB3.out
      have hsf := set7_fr w3 w.heap.size (.int .u8 0) (.bool false) (.int .i64 0) (.string ⟨#[]⟩) (.slice none 0 0) (.slice none 0 0) (.slice none 0 0)
      unfold set7 at hset hsf
      refine bodyPost_ret (results_cell_row2 (P := Tryd.prog) rfl _ _ w.heap.size 33 _ (0, 0) _ rfl hset Tryd.underlying33 rfl (by kernel_rfl)) rfl ?_
      exact ris_bad HDC.out F3.out hsf rfl
set_option maxRecDepth 100000 in
set_option maxHeartbeats 1000000 in
theorem ris_raw (w : World) (g o c d : Nat) (r : List UInt8) (hx : Sl w 1 (.slice (some ⟨g, o, none⟩) (r.length + 1) c) (r.length + 1) (bvs (80 :: r))) (hl : r.length ≤ 1000000) : Calls Tryd.prog 40 #[.slice (some ⟨g, o, none⟩) (r.length + 1) c, .int .i64 ((d + 1 : Nat) : Int)] w fun e w' => Ris (d + 1) (80 :: r) w e w' := by
  have hcell : w.cell? ⟨g, o, none⟩ = some (.int .u8 80) := by
    obtain ⟨g', o', e, h⟩ := Sl.byte (l := 80 :: r) hx 0 (by simp)
    simp only [Option.some.injEq, Addr.mk.injEq, and_true] at e
    obtain ⟨rfl, rfl⟩ := e
    exact h
  have hgl := World.block_lt_of_cell? w _ hcell
  have hd0 : (((d : Int) + 1) == 0) = false := by rw [beq_eq_false_iff_ne]; omega
  have hr0 : (((r.length : Int) + 1) == 0) = false := by rw [beq_eq_false_iff_ne]; omega
  have hcl : r.length + 1 ≤ c := by
    obtain ⟨A', c', h1, h2, _⟩ := hx.form
    cases h1; exact h2
  have HX := Lib.hid hx
  clear hx
  by_cases hc1 : c = 1
  · subst hc1
    have htl : ∀ W, Fr no w W → Sl W 1 (.slice (some ⟨g, o, none⟩) r.length 0) r.length (bvs r) := fun W f => (Sl.tail0 (lo := 1) (HX.out.kept0 f) (by omega)).1
    have e0 : r.length = 0 := by omega
    rw [show Value.slice (some ⟨g, o, none⟩) r.length 0 = .slice (some ⟨g, o, none⟩) 0 0 by rw [e0]] at htl
    clear e0
    have HTL := Lib.hid htl; clear htl
    go_enter Tryd.func40, Tryd.ntmps40
    go_wp2_with fail
    refine (une4_any _ _ r (HTL.out _ (by (repeat first | exact Fr.refl _ _ | exact Fr.drewN _ _ _ | apply Fr.drew | apply Fr.alloc | apply Fr.setAt | apply Fr.moreN))) (by omega)).mono ?_
    rintro e w3 ⟨f3, ⟨t, s, A, n, cc, hu, rfl, hnb, hln⟩ | ⟨hu, rfl⟩⟩
    · skip
      obtain rfl := hnb.len
      obtain ⟨m, hm⟩ : ∃ m, m = r.length - s.length := ⟨_, rfl⟩
      rw [← hm]
      have hz : ((m : Int) == 0) = false := by rw [beq_eq_false_iff_ne]; omega
      have hm2 : m ≤ 1000000 := by omega
      have hdc : dec (d + 1) (80 :: r) = some (.mk 5 false 0 [] t () [] [], s) := by rw [dec80, hu]; rfl
      have f03 : Fr no w w3 := Fr.trans (by (repeat first | exact Fr.refl _ _ | exact Fr.drewN _ _ _ | apply Fr.drew | apply Fr.alloc | apply Fr.setAt | apply Fr.moreN)) f3 (fun _ _ h => h)
      have hb3 := f3.heap (two_allocs w (.cells #[.int .u8 0, .bool false, .int .i64 0, .string ⟨#[]⟩, .slice none 0 0, .slice none 0 0, .slice none 0 0] 33) (.cells #[.int .u8 0, .bool false, .int .i64 0, .string ⟨#[]⟩, .slice none 0 0, .slice none 0 0, .slice none 0 0] 33)).1 (fun h => h)
      have hc3 := f3.heap (two_allocs w (.cells #[.int .u8 0, .bool false, .int .i64 0, .string ⟨#[]⟩, .slice none 0 0, .slice none 0 0, .slice none 0 0] 33) (.cells #[.int .u8 0, .bool false, .int .i64 0, .string ⟨#[]⟩, .slice none 0 0, .slice none 0 0, .slice none 0 0] 33)).2 (fun h => h)
      obtain ⟨q0, q1, q2, q3, q4, q5, q6, qz, ql⟩ := seven_cells hb3
      obtain ⟨x0, x1, x2, x3, x4, x5, x6, xz, xl⟩ := seven_cells hc3
      have hlo : w.heap.size + 2 ≤ ((w.alloc (.cells #[.int .u8 0, .bool false, .int .i64 0, .string ⟨#[]⟩, .slice none 0 0, .slice none 0 0, .slice none 0 0] 33)).alloc (.cells #[.int .u8 0, .bool false, .int .i64 0, .string ⟨#[]⟩, .slice none 0 0, .slice none 0 0, .slice none 0 0] 33)).heap.size := by rw [World.size_alloc, World.size_alloc]; omega
      have HLO := Lib.hid hlo; have HM := Lib.hid hm; have HDC := Lib.hid hdc; have HNB := Lib.hid hnb; have HLN := Lib.hid hln; have F3 := Lib.hid f03; have HB3 := Lib.hid hb3
      clear hlo hm hdc hnb hln f03 hb3 hc3 f3 hu
      go_wp2
      have hset := set7_row (a := .int .u8 5) (b := .bool false) (c := .int .i64 0) (d := .string ⟨#[]⟩) (e := .slice A t.length cc) (f := .slice none 0 0) (h := .slice none 0 0) HB3.out
      have hsf := set7_fr w3 w.heap.size (.int .u8 5) (.bool false) (.int .i64 0) (.string ⟨#[]⟩) (.slice A t.length cc) (.slice none 0 0) (.slice none 0 0)
      unfold set7 at hset hsf
      refine bodyPost_ret (results_cell_row2 (P := Tryd.prog) rfl _ _ w.heap.size 33 _ (0, 0) _ rfl hset Tryd.underlying33 rfl (by kernel_rfl)) rfl ?_
      exact ris_good (n := m + 1) (x := .mk 5 false 0 [] t (.slice A t.length cc, .slice none 0 0, .slice none 0 0) [] []) (by rw [HDC.out, bare_leaf]) (own_raw HNB.out.ow _ _ _) (fun k hk => by have h1 := HNB.out.new k (blk_raw hk); have h2 := HLO.out; omega) F3.out hsf rfl (by have h1 := HM.out; have h2 := HLN.out; simp only [List.length_cons]; omega)
    · skip
      have hdc : dec (d + 1) (80 :: r) = none := by rw [dec80, hu]; rfl
      have f03 : Fr no w w3 := Fr.trans (by (repeat first | exact Fr.refl _ _ | exact Fr.drewN _ _ _ | apply Fr.drew | apply Fr.alloc | apply Fr.setAt | apply Fr.moreN)) f3 (fun _ _ h => h)
      have hb3 := f3.heap (two_allocs w (.cells #[.int .u8 0, .bool false, .int .i64 0, .string ⟨#[]⟩, .slice none 0 0, .slice none 0 0, .slice none 0 0] 33) (.cells #[.int .u8 0, .bool false, .int .i64 0, .string ⟨#[]⟩, .slice none 0 0, .slice none 0 0, .slice none 0 0] 33)).1 (fun h => h)
      have hc3 := f3.heap (two_allocs w (.cells #[.int .u8 0, .bool false, .int .i64 0, .string ⟨#[]⟩, .slice none 0 0, .slice none 0 0, .slice none 0 0] 33) (.cells #[.int .u8 0, .bool false, .int .i64 0, .string ⟨#[]⟩, .slice none 0 0, .slice none 0 0, .slice none 0 0] 33)).2 (fun h => h)
      obtain ⟨q0, q1, q2, q3, q4, q5, q6, qz, ql⟩ := seven_cells hb3
      obtain ⟨x0, x1, x2, x3, x4, x5, x6, xz, xl⟩ := seven_cells hc3
      have HDC := Lib.hid hdc; have F3 := Lib.hid f03; have HB3 := Lib.hid hb3
      clear hdc f03 hb3 hc3 f3 hu
      go_wp2
      have hset := set7_row (a := .int .u8 0) (b := .bool false) (c := .int .i64 0) (d := .string ⟨#[]⟩) (e := .slice none 0 0) (f := .slice none 0 0) (h := .slice none 0 0) HB3.out
      have hsf := set7_fr w3 w.heap.size (.int .u8 0) (.bool false) (.int .i64 0) (.string ⟨#[]⟩) (.slice none 0 0) (.slice none 0 0) (.slice none 0 0)
      unfold set7 at hset hsf
      refine bodyPost_ret (results_cell_row2 (P := Tryd.prog) rfl _ _ w.heap.size 33 _ (0, 0) _ rfl hset Tryd.underlying33 rfl (by kernel_rfl)) rfl ?_
      exact ris_bad HDC.out F3.out hsf rfl
  · skip
    have htl : ∀ W, Fr no w W → Sl W 1 (.slice (some ⟨g, o + 1, none⟩) r.length (c - 1)) r.length (bvs r) := fun W f => (Sl.tail1 (lo := 1) (HX.out.kept0 f) (by omega)).1
    have HTL := Lib.hid htl; clear htl
    go_enter Tryd.func40, Tryd.ntmps40
    go_wp2_with fail
    refine (une4_any _ _ r (HTL.out _ (by (repeat first | exact Fr.refl _ _ | exact Fr.drewN _ _ _ | apply Fr.drew | apply Fr.alloc | apply Fr.setAt | apply Fr.moreN))) (by omega)).mono ?_
    rintro e w3 ⟨f3, ⟨t, s, A, n, cc, hu, rfl, hnb, hln⟩ | ⟨hu, rfl⟩⟩
    · skip
      obtain rfl := hnb.len
      obtain ⟨m, hm⟩ : ∃ m, m = r.length - s.length := ⟨_, rfl⟩
      rw [← hm]
      have hz : ((m : Int) == 0) = false := by rw [beq_eq_false_iff_ne]; omega
      have hm2 : m ≤ 1000000 := by omega
      have hdc : dec (d + 1) (80 :: r) = some (.mk 5 false 0 [] t () [] [], s) := by rw [dec80, hu]; rfl
      have f03 : Fr no w w3 := Fr.trans (by (repeat first | exact Fr.refl _ _ | exact Fr.drewN _ _ _ | apply Fr.drew | apply Fr.alloc | apply Fr.setAt | apply Fr.moreN)) f3 (fun _ _ h => h)
      have hb3 := f3.heap (two_allocs w (.cells #[.int .u8 0, .bool false, .int .i64 0, .string ⟨#[]⟩, .slice none 0 0, .slice none 0 0, .slice none 0 0] 33) (.cells #[.int .u8 0, .bool false, .int .i64 0, .string ⟨#[]⟩, .slice none 0 0, .slice none 0 0, .slice none 0 0] 33)).1 (fun h => h)
      have hc3 := f3.heap (two_allocs w (.cells #[.int .u8 0, .bool false, .int .i64 0, .string ⟨#[]⟩, .slice none 0 0, .slice none 0 0, .slice none 0 0] 33) (.cells #[.int .u8 0, .bool false, .int .i64 0, .string ⟨#[]⟩, .slice none 0 0, .slice none 0 0, .slice none 0 0] 33)).2 (fun h => h)
      obtain ⟨q0, q1, q2, q3, q4, q5, q6, qz, ql⟩ := seven_cells hb3
      obtain ⟨x0, x1, x2, x3, x4, x5, x6, xz, xl⟩ := seven_cells hc3
      have hlo : w.heap.size + 2 ≤ ((w.alloc (.cells #[.int .u8 0, .bool false, .int .i64 0, .string ⟨#[]⟩, .slice none 0 0, .slice none 0 0, .slice none 0 0] 33)).alloc (.cells #[.int .u8 0, .bool false, .int .i64 0, .string ⟨#[]⟩, .slice none 0 0, .slice none 0 0, .slice none 0 0] 33)).heap.size := by rw [World.size_alloc, World.size_alloc]; omega
      have HLO := Lib.hid hlo; have HM := Lib.hid hm; have HDC := Lib.hid hdc; have HNB := Lib.hid hnb; have HLN := Lib.hid hln; have F3 := Lib.hid f03; have HB3 := Lib.hid hb3
      clear hlo hm hdc hnb hln f03 hb3 hc3 f3 hu
      go_wp2
      have hset := set7_row (a := .int .u8 5) (b := .bool false) (c := .int .i64 0) (d := .string ⟨#[]⟩) (e := .slice A t.length cc) (f := .slice none 0 0) (h := .slice none 0 0) HB3.out
      have hsf := set7_fr w3 w.heap.size (.int .u8 5) (.bool false) (.int .i64 0) (.string ⟨#[]⟩) (.slice A t.length cc) (.slice none 0 0) (.slice none 0 0)
      unfold set7 at hset hsf
      refine bodyPost_ret (results_cell_row2 (P := Tryd.prog) rfl _ _ w.heap.size 33 _ (0, 0) _ rfl hset Tryd.underlying33 rfl (by kernel_rfl)) rfl ?_
      exact ris_good (n := m + 1) (x := .mk 5 false 0 [] t (.slice A t.length cc, .slice none 0 0, .slice none 0 0) [] []) (by rw [HDC.out, bare_leaf]) (own_raw HNB.out.ow _ _ _) (fun k hk => by have h1 := HNB.out.new k (blk_raw hk); have h2 := HLO.out; omega) F3.out hsf rfl (by have h1 := HM.out; have h2 := HLN.out; simp only [List.length_cons]; omega)
    · skip
      have hdc : dec (d + 1) (80 :: r) = none := by rw [dec80, hu]; rfl
      have f03 : Fr no w w3 := Fr.trans (by (repeat first | exact Fr.refl _ _ | exact Fr.drewN _ _ _ | apply Fr.drew | apply Fr.alloc | apply Fr.setAt | apply Fr.moreN)) f3 (fun _ _ h => h)
      have hb3 := f3.heap (two_allocs w (.cells #[.int .u8 0, .bool false, .int .i64 0, .string ⟨#[]⟩, .slice none 0 0, .slice none 0 0, .slice none 0 0] 33) (.cells #[.int .u8 0, .bool false, .int .i64 0, .string ⟨#[]⟩, .slice none 0 0, .slice none 0 0, .slice none 0 0] 33)).1 (fun h => h)
      have hc3 := f3.heap (two_allocs w (.cells #[.int .u8 0, .bool false, .int .i64 0, .string ⟨#[]⟩, .slice none 0 0, .slice none 0 0, .slice none 0 0] 33) (.cells #[.int .u8 0, .bool false, .int .i64 0, .string ⟨#[]⟩, .slice none 0 0, .slice none 0 0, .slice none 0 0] 33)).2 (fun h => h)
      obtain ⟨q0, q1, q2, q3, q4, q5, q6, qz, ql⟩ := seven_cells hb3
      obtain ⟨x0, x1, x2, x3, x4, x5, x6, xz, xl⟩ := seven_cells hc3
      have HDC := Lib.hid hdc; have F3 := Lib.hid f03; have HB3 := Lib.hid hb3
      clear hdc f03 hb3 hc3 f3 hu
      go_wp2
      have hset := set7_row (a := .int .u8 0) (b := .bool false) (c := .int .i64 0) (d := .string ⟨#[]⟩) (e := .slice none 0 0) (f := .slice none 0 0) (h := .slice none 0 0) HB3.out
      have hsf := set7_fr w3 w.heap.size (.int .u8 0) (.bool false) (.int .i64 0) (.string ⟨#[]⟩) (.slice none 0 0) (.slice none 0 0) (.slice none 0 0)
      unfold set7 at hset hsf
      refine bodyPost_ret (results_cell_row2 (P := Tryd.prog) rfl _ _ w.heap.size 33 _ (0, 0) _ rfl hset Tryd.underlying33 rfl (by kernel_rfl)) rfl ?_
      exact ris_bad HDC.out F3.out hsf rfl
end Go.Proofs.YtgcicljklejmjaaDoor
