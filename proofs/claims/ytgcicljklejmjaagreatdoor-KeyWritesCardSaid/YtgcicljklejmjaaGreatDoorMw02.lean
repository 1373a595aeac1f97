import Derived.Test.YtgcicljklejmjaaGreatDoorMw01
import Derived.Test.YtgcicljklejmjaaGreatDoorMb17
import Derived.Test.YtgcicljklejmjaaGreatDoorMb13

/- The document's bytes of keys: escaped; keyed. -/
namespace Go.Proofs.YtgcicljklejmjaaGreatDoor
open Go.RowKit Go.Shelf
open Tr

attribute [local go_sem] ba_get

set_option maxRecDepth 100000 in
set_option maxHeartbeats 4000000 in
theorem escaped4_any (lo : Nat) (w : World) (A : Option Addr) (n c : Nat) (p s : List UInt8) (h : NB lo w A n c p) (hlo : lo ≤ w.heap.size) (hlen : p.length + (esc s).length + 2 ≤ 1000000000) (hs : s.length ≤ 1000000000) :
    Calls Tryz.prog 76 #[.slice A n c, .string ⟨s.toArray⟩] w fun e w' => ∃ A' n' c', e = .returned (.slice A' n' c') ∧ NB lo w' A' n' c' (p ++ (esc s ++ [0, 1])) ∧ Fr (fun k => lo ≤ k) w w' := by
  have H := Lib.hid h; have HL := Lib.hid hlen; have HLO := Lib.hid hlo
  clear h hlen hlo
  go_enter Tryz.func76, Tryz.ntmps76
  go_wp2
  go_loopw [0, 5] (fun ov iv wr => ∃ (j : Nat) (A' : Option Addr) (n' c' : Nat), j ≤ s.length ∧ ov = .slice A' n' c' ∧ iv = .int .i64 (j : Int) ∧ NB lo wr A' n' c' (p ++ esc (s.take j)) ∧ Fr (fun k => lo ≤ k) w wr) (fun _ iv _ => s.length - (intOf iv).toNat)
  case atStart => exact ⟨0, A, n, c, Nat.zero_le _, rfl, rfl, by rw [List.take_zero, show p ++ esc [] = p by simp [esc]]; exact H.out, Fr.refl _ _⟩
  case round =>
    obtain ⟨j, B, m, d, hj, rfl, rfl, hnb, hfr⟩ := hrel
    have hlow : lo ≤ wr.heap.size := Nat.le_trans HLO.out hfr.size
    have HNB := Lib.hid hnb; have FR := Lib.hid hfr; have HLW := Lib.hid hlow
    clear hnb hfr hlow
    by_cases hlt : j < s.length
    · have hst := esc_take s j hlt
      have hbl : m = p.length + (esc (s.take j)).length := by rw [HNB.out.len, List.length_append]
      by_cases h0 : s[j] = 0
      · have hl2 := esc_len2 s j hlt h0
        have hm : m + 2 ≤ 1000000000 := by have := HL.out; omega
        have gz : ((s[j].toNat : Int) == 0) = true := by rw [h0]; rfl
        rw [if_pos h0] at hst
        have H0 := Lib.hid h0; have HST := Lib.hid hst
        clear hst hbl hl2 h0
        go_wp2_with (at_builtin; refine wpList_apo (n := m) (xs := bvs (p ++ esc (s.take j))) (m := 1) (news := bvs [s[j]]) rfl (.tmp 12) (.tmp 16) 27 rfl tbB (HNB.out.ow.kept0 (by (repeat first | exact Fr.refl _ _ | exact Fr.drewN _ _ _ | apply Fr.drew | apply Fr.alloc | apply Fr.setAt | apply Fr.moreN))) (Sl.built _ _ _) rfl rfl (bvs_one _) ?za ?zb ?zc)
        case za => simp only [maxLen]; omega
        case zb => omega
        case zc =>
          intro A' N c' w7 hN ho7 _ hf7 hs7
          have hnb7 := (HNB.out.kept0 (by (repeat first | exact Fr.refl _ _ | exact Fr.drewN _ _ _ | apply Fr.drew | apply Fr.alloc | apply Fr.setAt | apply Fr.moreN) : Fr no wr _)).more (cs := [s[j]]) rfl hN ho7 hs7 (Nat.le_trans HLW.out (Fr.size (by (repeat first | exact Fr.refl _ _ | exact Fr.drewN _ _ _ | apply Fr.drew | apply Fr.alloc | apply Fr.setAt | apply Fr.moreN) : Fr no wr _)))
          have hfr7 : Fr (fun k => lo ≤ k) w w7 := (FR.out.trans (by (repeat first | exact Fr.refl _ _ | exact Fr.drewN _ _ _ | apply Fr.drew | apply Fr.alloc | apply Fr.setAt | apply Fr.moreN) : Fr no wr _) (fun _ _ h => h.elim)).trans (HNB.out.fr hf7) (fun _ _ h => h)
          have hlo7 : lo ≤ w7.heap.size := Nat.le_trans HLO.out hfr7.size
          subst hN
          have HN7 := Lib.hid hnb7; have F7 := Lib.hid hfr7; have HL7 := Lib.hid hlo7
          clear ho7 hf7 hs7 hnb7 hfr7 hlo7
          go_wp2_with (at_builtin; refine wpList_apo (n := m + 1) (xs := bvs ((p ++ esc (s.take j)) ++ [s[j]])) (m := 1) (news := bvs [255]) rfl (.tmp 22) (.tmp 23) 27 rfl tbB (HN7.out.ow.kept0 (by (repeat first | exact Fr.refl _ _ | exact Fr.drewN _ _ _ | apply Fr.drew | apply Fr.alloc | apply Fr.setAt | apply Fr.moreN))) (Sl.built _ _ _) rfl rfl (bvs_one _) ?ya ?yb ?yc)
          case ya => simp only [maxLen]; omega
          case yb => omega
          case yc =>
            intro A2 N2 c2 w8 hN2 ho8 _ hf8 hs8
            simp only [← List.append_assoc] at ho8
            have hnb8 := (HN7.out.kept0 (by (repeat first | exact Fr.refl _ _ | exact Fr.drewN _ _ _ | apply Fr.drew | apply Fr.alloc | apply Fr.setAt | apply Fr.moreN) : Fr no w7 _)).more (cs := [255]) rfl hN2 ho8 hs8 (Nat.le_trans HL7.out (Fr.size (by (repeat first | exact Fr.refl _ _ | exact Fr.drewN _ _ _ | apply Fr.drew | apply Fr.alloc | apply Fr.setAt | apply Fr.moreN) : Fr no w7 _)))
            have hfr8 : Fr (fun k => lo ≤ k) w w8 := (F7.out.trans (by (repeat first | exact Fr.refl _ _ | exact Fr.drewN _ _ _ | apply Fr.drew | apply Fr.alloc | apply Fr.setAt | apply Fr.moreN) : Fr no w7 _) (fun _ _ h => h.elim)).trans (HN7.out.fr hf8) (fun _ _ h => h)
            have he : p ++ esc (s.take j) ++ [s[j]] ++ [255] = p ++ esc (s.take (j + 1)) := by rw [HST.out, H0.out]; simp
            rw [he] at hnb8
            subst hN2
            have HN8 := Lib.hid hnb8; have F8 := Lib.hid hfr8
            clear ho8 hf8 hs8 hnb8 hfr8 he
            go_wp2
            go_roundw
            case rel => exact ⟨j + 1, A2, _, c2, hlt, rfl, by first | rfl | go_num, HN8.out, F8.out⟩
            case measure => simp [intOf]; omega
      · have hl2 := esc_len s j hlt
        have hm : m + 1 ≤ 1000000000 := by have := HL.out; omega
        have gz : ((s[j].toNat : Int) == 0) = false := byte_ne h0 rfl
        rw [if_neg h0] at hst
        have HST := Lib.hid hst
        clear hst hbl hl2 h0
        go_wp2_with (at_builtin; refine wpList_apo (n := m) (xs := bvs (p ++ esc (s.take j))) (m := 1) (news := bvs [s[j]]) rfl (.tmp 12) (.tmp 16) 27 rfl tbB (HNB.out.ow.kept0 (by (repeat first | exact Fr.refl _ _ | exact Fr.drewN _ _ _ | apply Fr.drew | apply Fr.alloc | apply Fr.setAt | apply Fr.moreN))) (Sl.built _ _ _) rfl rfl (bvs_one _) ?na ?nb ?nc)
        case na => simp only [maxLen]; omega
        case nb => omega
        case nc =>
          intro A' N c' w7 hN ho7 _ hf7 hs7
          have hnb7 := (HNB.out.kept0 (by (repeat first | exact Fr.refl _ _ | exact Fr.drewN _ _ _ | apply Fr.drew | apply Fr.alloc | apply Fr.setAt | apply Fr.moreN) : Fr no wr _)).more (cs := [s[j]]) rfl hN ho7 hs7 (Nat.le_trans HLW.out (Fr.size (by (repeat first | exact Fr.refl _ _ | exact Fr.drewN _ _ _ | apply Fr.drew | apply Fr.alloc | apply Fr.setAt | apply Fr.moreN) : Fr no wr _)))
          have hfr7 : Fr (fun k => lo ≤ k) w w7 := (FR.out.trans (by (repeat first | exact Fr.refl _ _ | exact Fr.drewN _ _ _ | apply Fr.drew | apply Fr.alloc | apply Fr.setAt | apply Fr.moreN) : Fr no wr _) (fun _ _ h => h.elim)).trans (HNB.out.fr hf7) (fun _ _ h => h)
          have he : p ++ esc (s.take j) ++ [s[j]] = p ++ esc (s.take (j + 1)) := by rw [HST.out, List.append_assoc]
          rw [he] at hnb7
          subst hN
          have HN7 := Lib.hid hnb7; have F7 := Lib.hid hfr7
          clear ho7 hf7 hs7 hnb7 hfr7 he
          go_wp2
          go_roundw
          case rel => exact ⟨j + 1, A', _, c', hlt, rfl, by first | rfl | go_num, HN7.out, F7.out⟩
          case measure => simp [intOf]; omega
    · obtain rfl : j = s.length := by omega
      have h7 := HNB.out
      rw [List.take_length] at h7
      have hbl : m = p.length + (esc s).length := by rw [h7.len, List.length_append]
      have hm : m + 2 ≤ 1000000000 := by have := HL.out; omega
      have HN := Lib.hid h7
      clear h7 HNB hbl hj
      go_wp2_with (at_builtin; refine wpList_apo (n := m) (xs := bvs (p ++ esc s)) (m := 2) (news := bvs [0, 1]) rfl (.tmp 25) (.tmp 26) 27 rfl tbB (HN.out.ow.kept0 (by (repeat first | exact Fr.refl _ _ | exact Fr.drewN _ _ _ | apply Fr.drew | apply Fr.alloc | apply Fr.setAt | apply Fr.moreN))) (Sl.fresh _ [0, 1] 5 (by rfl) (by simp [maxLen])) rfl rfl (bvs_one _) ?ea ?eb ?ec)
      case ea => simp only [maxLen]; omega
      case eb => omega
      case ec =>
        intro A' N c' w7 hN ho7 _ hf7 hs7
        have hnb7 := (HN.out.kept0 (by (repeat first | exact Fr.refl _ _ | exact Fr.drewN _ _ _ | apply Fr.drew | apply Fr.alloc | apply Fr.setAt | apply Fr.moreN) : Fr no wr _)).more (cs := [0, 1]) rfl hN ho7 hs7 (Nat.le_trans HLW.out (Fr.size (by (repeat first | exact Fr.refl _ _ | exact Fr.drewN _ _ _ | apply Fr.drew | apply Fr.alloc | apply Fr.setAt | apply Fr.moreN) : Fr no wr _)))
        have hfr7 : Fr (fun k => lo ≤ k) w w7 := (FR.out.trans (by (repeat first | exact Fr.refl _ _ | exact Fr.drewN _ _ _ | apply Fr.drew | apply Fr.alloc | apply Fr.setAt | apply Fr.moreN) : Fr no wr _) (fun _ _ h => h.elim)).trans (HN.out.fr hf7) (fun _ _ h => h)
        rw [List.append_assoc] at hnb7
        have HN7 := Lib.hid hnb7; have F7 := Lib.hid hfr7
        clear ho7 hf7 hs7 hnb7 hfr7 hN
        go_wp2
        go_ret
        exact ⟨A', N, c', rfl, HN7.out, F7.out⟩

set_option maxRecDepth 100000 in
set_option maxHeartbeats 2000000 in
/-- keyed, of a value of a right shape, all of it. -/
theorem keyed4_any (x : Tr Mm) : ∀ (w : World), Tr.Good w x → (∀ q ∈ pre 1 x, shapeV q.2 = true) → Calls Tryz.prog 34 #[x.agg] w fun e w' => e = .returned (.bool (keyed x)) ∧ Fr no w w' := by
  induction x using Tr.ind with
  | h x ih =>
    intro w hx hs
    obtain ⟨BA, bc, LA, lc, FA, fc, hf⟩ := hx.node.forms
    have hnl : x.l.length ≤ 140737488351232 := hx.node.l
    have hxl := hx.inL
    rw [hf.L] at hxl
    rw [hf.agg]
    have hke : keyed x = (x.k != 7 && x.kids.all keyed) := keyed_kids x 1
    have hsh := shape_parts (hs _ (mem_pre_self 1 x))
    have hcall : ∀ y ∈ x.l, ∀ W, Fr no w W → Calls Tryz.prog 34 #[y.agg] W fun e w' => e = .returned (.bool (keyed y)) ∧ Fr no W w' := fun y hy W f => ih y (List.mem_append_left _ hy) W ((hx.l y hy).kept0 f) (pre_kid (P := fun z => shapeV z = true) (List.mem_append_left _ hy) hs)
    have HC := Lib.hid hcall; have HXL := Lib.hid hxl
    clear hcall hxl hx ih hs hf
    by_cases h7 : x.k = 7
    · have hk : keyed x = false := by rw [hke, h7]; rfl
      have g7 : ((x.k.toNat : Int) == 7) = true := by rw [h7]; rfl
      rw [hk]
      clear hke hsh h7 hk
      go_enter Tryz.func34, Tryz.ntmps34
      go_wp2
      go_ret
      exact ⟨rfl, by (repeat first | exact Fr.refl _ _ | exact Fr.drewN _ _ _ | apply Fr.drew | apply Fr.alloc | apply Fr.setAt | apply Fr.moreN)⟩
    · have g7 : ((x.k.toNat : Int) == 7) = false := byte_ne h7 rfl
      have hf0 : x.f = [] := hsh.2.2.2.2.2.2 h7
      have hk : keyed x = x.l.all keyed := by
        rw [hke]
        unfold kids
        rw [hf0, List.map_nil, List.append_nil]
        have : (x.k != 7) = true := by rw [bne_iff_ne]; exact h7
        rw [this, Bool.true_and]
      have HK := Lib.hid hk
      clear hke hsh h7 hk hf0
      go_enter Tryz.func34, Tryz.ntmps34
      go_wp2
      have hb0 := heap_alloc_new w (.cells #[.int .u8 x.k.toNat, .bool x.b, .int .i64 x.i, .string ⟨x.t.toArray⟩, .slice BA x.bs.length bc, .slice LA x.l.length lc, .slice FA x.f.length fc] 63)
      have hF1 : Fr no w (w.alloc (.cells #[.int .u8 x.k.toNat, .bool x.b, .int .i64 x.i, .string ⟨x.t.toArray⟩, .slice BA x.bs.length bc, .slice LA x.l.length lc, .slice FA x.f.length fc] 63)) := by (repeat first | exact Fr.refl _ _ | exact Fr.drewN _ _ _ | apply Fr.drew | apply Fr.alloc | apply Fr.setAt | apply Fr.moreN)
      generalize (w.alloc (.cells #[.int .u8 x.k.toNat, .bool x.b, .int .i64 x.i, .string ⟨x.t.toArray⟩, .slice BA x.bs.length bc, .slice LA x.l.length lc, .slice FA x.f.length fc] 63)) = w1 at hb0 hF1 ⊢
      have F1 := Lib.hid hF1; have HB0 := Lib.hid hb0
      clear hb0 hF1 g7
      go_loopw [3] (fun iv wr => ∃ j : Nat, j ≤ x.l.length ∧ iv = .int .i64 (j : Int) ∧ Fr no w1 wr ∧ ∀ k (h : k < x.l.length), k < j → keyed x.l[k] = true) (fun iv _ => x.l.length - (intOf iv).toNat)
      case atStart => exact ⟨0, Nat.zero_le _, rfl, Fr.refl _ _, fun k _ h => by omega⟩
      case round =>
        obtain ⟨j, hj, rfl, hfr, hall⟩ := hrel
        have hbr := hfr.heap HB0.out (fun h => h)
        obtain ⟨q0, q1, q2, q3, q4, q5, q6, qz, ql⟩ := seven_cells hbr
        have FR := Lib.hid hfr; have HA := Lib.hid hall
        clear hfr hall hbr qz
        by_cases hlt : j < x.l.length
        · have hX := HXL.out.kept0 (F1.out.trans FR.out (fun _ _ h => h))
          obtain ⟨b, o, KB, kb, KL, kl, KF, kf, rfl, hfj, r0, r1, r2, r3, r4, r5, r6, hgl⟩ := In.get hX j hlt
          have hc := fun W (f : Fr no wr W) => HC.out x.l[j] (List.getElem_mem _) W ((F1.out.trans FR.out (fun _ _ h => h)).trans f (fun _ _ h => h))
          rw [hfj.agg] at hc
          have HCJ := Lib.hid hc
          clear hX hfj hc
          go_wp2_with fail
          refine (HCJ.out _ (by (repeat first | exact Fr.refl _ _ | exact Fr.drewN _ _ _ | apply Fr.drew | apply Fr.alloc | apply Fr.setAt | apply Fr.moreN))).mono ?_
          rintro e w5 ⟨rfl, f5⟩
          have F5 := Lib.hid (FR.out.trans ((by (repeat first | exact Fr.refl _ _ | exact Fr.drewN _ _ _ | apply Fr.drew | apply Fr.alloc | apply Fr.setAt | apply Fr.moreN) : Fr no wr _).trans f5 (fun _ _ h => h)) (fun _ _ h => h))
          clear f5 q0 q1 q2 q3 q4 q5 q6 ql r0 r1 r2 r3 r4 r5 r6 hgl
          cases hkj : keyed x.l[j] with
          | true =>
            have HKJ := Lib.hid hkj
            go_wp2
            go_roundw
            case rel => exact ⟨j + 1, hlt, by first | rfl | go_num, F5.out, fun k hk h => by
              by_cases hkj2 : k = j
              · subst hkj2; exact HKJ.out
              · exact HA.out k hk (by omega)⟩
            case measure => simp [intOf]; omega
          | false =>
            have HKJ := Lib.hid hkj
            go_wp2
            go_ret
            have hall : x.l.all keyed = false := by
              rw [List.all_eq_false]
              exact ⟨x.l[j], List.getElem_mem _, by rw [HKJ.out]; exact Bool.false_ne_true⟩
            exact ⟨by rw [HK.out, hall]; rfl, F1.out.trans F5.out (fun _ _ h => h)⟩
        · obtain rfl : j = x.l.length := by omega
          have hall : x.l.all keyed = true := List.all_eq_true.2 (fun y hy => by obtain ⟨k, hk, rfl⟩ := List.getElem_of_mem hy; exact HA.out k hk hk)
          have HAL := Lib.hid hall
          clear hall hj
          go_wp2
          go_ret
          exact ⟨by rw [HK.out, HAL.out]; rfl, F1.out.trans FR.out (fun _ _ h => h)⟩
end Go.Proofs.YtgcicljklejmjaaGreatDoor

/- The document's bytes of keys: Bytes. Printed by mkrf4c.py. -/
namespace Go.Proofs.YtgcicljklejmjaaGreatDoor
open Go.RowKit Go.Shelf
open Tr

theorem u64_and255 (x : Nat) (h : x < 18446744073709551616) : bits .and .u64 (x : Int) 255 = ((x % 256 : Nat) : Int) := by
  have := bits_and_u64_nat x 255 h (by omega)
  rw [show ((255 : Nat) : Int) = 255 from rfl] at this
  rw [this]
  congr 1
  exact Nat.and_two_pow_sub_one_eq_mod x 8
theorem byte_at (v e : Nat) (h : v < 18446744073709551616) : ([Value.int .u8 (bits .and .u64 ((v : Int) / 2 ^ e) 255 % 256)] : List Value) = bvs [UInt8.ofNat (v / 2 ^ e)] := by
  have e1 : ((v : Int) / 2 ^ e) = ((v / 2 ^ e : Nat) : Int) := by simp
  have h2 : v / 2 ^ e ≤ v := Nat.div_le_self _ _
  rw [e1, u64_and255 _ (by omega)]
  unfold bvs
  rw [List.map_singleton]
  unfold Bv
  rw [UInt8.toNat_ofNat']
  congr 2
  omega
theorem add_ofs (i : Int) (h : I64 i) : IntKind.u64.wrap (IntKind.u64.wrap i + 9223372036854775808) = (ofs i : Int) := by
  have h1 := h.lo; have h2 := h.hi
  unfold ofs
  rw [wrap_u64_mod, wrap_u64_mod]
  omega
theorem be_step (u k : Nat) (hk : k < 8) : (be 8 u).take (8 - (k + 1)) ++ [UInt8.ofNat (u / 2 ^ (8 * k))] = (be 8 u).take (8 - k) := by
  have h := be_get 8 u (8 - (k + 1)) (by omega)
  rw [show 8 - k = 8 - (k + 1) + 1 by omega, List.take_add_one, h]
  have e : 8 - 1 - (8 - (k + 1)) = k := by omega
  rw [e, show (256 : Nat) ^ k = 2 ^ (8 * k) by rw [Nat.pow_mul]]
  rfl
theorem be_lt64 {i : Int} (h : I64 i) : ofs i < 18446744073709551616 := by have := ofs_lt h; simpa using this
theorem built_at (w : World) (u : Value) (T : TypeId) (g : Nat) (hg : g = w.heap.size) : Sl (w.alloc (.cells #[u] T)) 1 (.slice (some ⟨g, 0, none⟩) 1 1) 1 [u] := by
  subst hg
  exact Sl.built w u T
structure L64 (u : Nat) : Prop where
  out : u < 18446744073709551616

set_option maxRecDepth 100000 in
set_option maxHeartbeats 8000000 in
theorem bytes4_any (x : Tr Mm) : ∀ (w : World), Tr.Good w x → KeyedAll x → (enc x).length ≤ 5000000 → Calls Tryz.prog 36 #[x.agg] w fun e w' => ∃ A n c, e = .returned (.slice A n c) ∧ NB w.heap.size w' A n c (enc x) ∧ Fr no w w' := by
  induction x using Tr.ind with
  | h x ih =>
    intro w hx hk hle
    obtain ⟨BA, bc, LA, lc, FA, fc, hf⟩ := hx.node.forms
    have hnl : x.l.length ≤ 140737488351232 := hx.node.l
    have hxl := hx.inL; have hxb := fun W (f : Fr no w W) => (hx.kept0 f).node.B
    rw [hf.L] at hxl; rw [hf.B] at hxb
    rw [hf.agg]
    have hke := hk.here
    have hcall : ∀ y ∈ x.l, (enc y).length ≤ 5000000 → ∀ W, Fr no w W → Calls Tryz.prog 36 #[y.agg] W fun e w' => ∃ A n c, e = .returned (.slice A n c) ∧ NB W.heap.size w' A n c (enc y) ∧ Fr no W w' := fun y hy h W f => ih y (List.mem_append_left _ hy) W ((hx.l y hy).kept0 f) (hk.l y hy) h
    have HC := Lib.hid hcall; have HXL := Lib.hid hxl; have HXB := Lib.hid hxb; have HLE := Lib.hid hle; have HKE := Lib.hid hke
    have hen := enc_eq x
    clear hcall hxl hxb hx ih hk hf hle
    rcases hke.1 with h | h | h | h | h | h
    · rw [h] at hen ⊢
      show Calls Tryz.prog 36 #[.agg #[.int .u8 1, .bool x.b, .int .i64 x.i, .string ⟨x.t.toArray⟩, .slice BA x.bs.length bc, .slice LA x.l.length lc, .slice FA x.f.length fc]] w _
      rw [if_pos rfl] at hen
      have HEN := Lib.hid hen
      clear hen h hke
      go_enter Tryz.func36, Tryz.ntmps36
      have HB := Lib.hid (NB.nil w.heap.size w)
      go_wp2_with (at_builtin; refine wpList_apo (n := 0) (xs := bvs ([])) (m := 1) (news := bvs [16]) rfl (.tmp 12) (.tmp 13) 27 rfl tbB (HB.out.ow.kept0 (by (repeat first | exact Fr.refl _ _ | exact Fr.drewN _ _ _ | apply Fr.drew | apply Fr.alloc | apply Fr.setAt | apply Fr.moreN))) (built_at (w.alloc (.cells #[.int .u8 1, .bool x.b, .int .i64 x.i, .string ⟨x.t.toArray⟩, .slice BA x.bs.length bc, .slice LA x.l.length lc, .slice FA x.f.length fc] 63)) _ _ (w.heap.size + 1) (by simp)) rfl rfl (bvs_one _) ?p1a ?p1b ?p1c)
      case p1a => simp only [maxLen]; omega
      case p1b => omega
      case p1c =>
        intro A1 N1 c1 W1 hN1 ho1 _ hf1 hs1
        have hnb := (HB.out.kept0 (by (repeat first | exact Fr.refl _ _ | exact Fr.drewN _ _ _ | apply Fr.drew | apply Fr.alloc | apply Fr.setAt | apply Fr.moreN) : Fr no w _)).more (cs := [16]) rfl hN1 ho1 hs1 (Fr.size (by (repeat first | exact Fr.refl _ _ | exact Fr.drewN _ _ _ | apply Fr.drew | apply Fr.alloc | apply Fr.setAt | apply Fr.moreN) : Fr no w _))
        have hfr : Fr no w W1 := (by (repeat first | exact Fr.refl _ _ | exact Fr.drewN _ _ _ | apply Fr.drew | apply Fr.alloc | apply Fr.setAt | apply Fr.moreN) : Fr no w _).trans hf1 (fun k hk h => by have := HB.out.new k h; omega)
        obtain rfl : N1 = 1 := by omega
        clear hN1
        have HN7 := Lib.hid hnb; have F7 := Lib.hid hfr
        clear ho1 hf1 hs1 hnb hfr
        go_wp2
        go_ret
        exact ⟨A1, 1, c1, rfl, by rw [HEN.out]; exact HN7.out, F7.out⟩
    · rw [h] at hen ⊢
      show Calls Tryz.prog 36 #[.agg #[.int .u8 2, .bool x.b, .int .i64 x.i, .string ⟨x.t.toArray⟩, .slice BA x.bs.length bc, .slice LA x.l.length lc, .slice FA x.f.length fc]] w _
      rw [if_neg (by decide), if_pos rfl] at hen
      cases hb : x.b with
      | true =>
        rw [hb, if_pos rfl] at hen
        have HEN := Lib.hid hen
        clear hen h hke hb
        go_enter Tryz.func36, Tryz.ntmps36
        have HB := Lib.hid (NB.nil w.heap.size w)
        go_wp2_with (at_builtin; refine wpList_apo (n := 0) (xs := bvs ([])) (m := 1) (news := bvs [33]) rfl (.tmp 19) (.tmp 20) 27 rfl tbB (HB.out.ow.kept0 (by (repeat first | exact Fr.refl _ _ | exact Fr.drewN _ _ _ | apply Fr.drew | apply Fr.alloc | apply Fr.setAt | apply Fr.moreN))) (built_at (w.alloc (.cells #[.int .u8 2, .bool true, .int .i64 x.i, .string ⟨x.t.toArray⟩, .slice BA x.bs.length bc, .slice LA x.l.length lc, .slice FA x.f.length fc] 63)) _ _ (w.heap.size + 1) (by simp)) rfl rfl (bvs_one _) ?p2a ?p2b ?p2c)
        case p2a => simp only [maxLen]; omega
        case p2b => omega
        case p2c =>
          intro A1 N1 c1 W1 hN1 ho1 _ hf1 hs1
          have hnb := (HB.out.kept0 (by (repeat first | exact Fr.refl _ _ | exact Fr.drewN _ _ _ | apply Fr.drew | apply Fr.alloc | apply Fr.setAt | apply Fr.moreN) : Fr no w _)).more (cs := [33]) rfl hN1 ho1 hs1 (Fr.size (by (repeat first | exact Fr.refl _ _ | exact Fr.drewN _ _ _ | apply Fr.drew | apply Fr.alloc | apply Fr.setAt | apply Fr.moreN) : Fr no w _))
          have hfr : Fr no w W1 := (by (repeat first | exact Fr.refl _ _ | exact Fr.drewN _ _ _ | apply Fr.drew | apply Fr.alloc | apply Fr.setAt | apply Fr.moreN) : Fr no w _).trans hf1 (fun k hk h => by have := HB.out.new k h; omega)
          obtain rfl : N1 = 1 := by omega
          clear hN1
          have HN7 := Lib.hid hnb; have F7 := Lib.hid hfr
          clear ho1 hf1 hs1 hnb hfr
          go_wp2
          go_ret
          exact ⟨A1, 1, c1, rfl, by rw [HEN.out]; exact HN7.out, F7.out⟩
      | false =>
        rw [hb, if_neg (by decide)] at hen
        have HEN := Lib.hid hen
        clear hen h hke hb
        go_enter Tryz.func36, Tryz.ntmps36
        have HB := Lib.hid (NB.nil w.heap.size w)
        go_wp2_with (at_builtin; refine wpList_apo (n := 0) (xs := bvs ([])) (m := 1) (news := bvs [32]) rfl (.tmp 22) (.tmp 23) 27 rfl tbB (HB.out.ow.kept0 (by (repeat first | exact Fr.refl _ _ | exact Fr.drewN _ _ _ | apply Fr.drew | apply Fr.alloc | apply Fr.setAt | apply Fr.moreN))) (built_at (w.alloc (.cells #[.int .u8 2, .bool false, .int .i64 x.i, .string ⟨x.t.toArray⟩, .slice BA x.bs.length bc, .slice LA x.l.length lc, .slice FA x.f.length fc] 63)) _ _ (w.heap.size + 1) (by simp)) rfl rfl (bvs_one _) ?p3a ?p3b ?p3c)
        case p3a => simp only [maxLen]; omega
        case p3b => omega
        case p3c =>
          intro A1 N1 c1 W1 hN1 ho1 _ hf1 hs1
          have hnb := (HB.out.kept0 (by (repeat first | exact Fr.refl _ _ | exact Fr.drewN _ _ _ | apply Fr.drew | apply Fr.alloc | apply Fr.setAt | apply Fr.moreN) : Fr no w _)).more (cs := [32]) rfl hN1 ho1 hs1 (Fr.size (by (repeat first | exact Fr.refl _ _ | exact Fr.drewN _ _ _ | apply Fr.drew | apply Fr.alloc | apply Fr.setAt | apply Fr.moreN) : Fr no w _))
          have hfr : Fr no w W1 := (by (repeat first | exact Fr.refl _ _ | exact Fr.drewN _ _ _ | apply Fr.drew | apply Fr.alloc | apply Fr.setAt | apply Fr.moreN) : Fr no w _).trans hf1 (fun k hk h => by have := HB.out.new k h; omega)
          obtain rfl : N1 = 1 := by omega
          clear hN1
          have HN7 := Lib.hid hnb; have F7 := Lib.hid hfr
          clear ho1 hf1 hs1 hnb hfr
          go_wp2
          go_ret
          exact ⟨A1, 1, c1, rfl, by rw [HEN.out]; exact HN7.out, F7.out⟩
    · rw [h] at hen ⊢
      show Calls Tryz.prog 36 #[.agg #[.int .u8 3, .bool x.b, .int .i64 x.i, .string ⟨x.t.toArray⟩, .slice BA x.bs.length bc, .slice LA x.l.length lc, .slice FA x.f.length fc]] w _
      rw [if_neg (by decide), if_neg (by decide), if_pos rfl] at hen
      have HEN := Lib.hid hen
      clear hen h hke
      have hao := add_ofs x.i HKE.out.2
      have hu : L64 (ofs x.i) := ⟨be_lt64 HKE.out.2⟩
      obtain ⟨u, hue⟩ : ∃ u, u = ofs x.i := ⟨_, rfl⟩
      rw [← hue] at hao hu HEN
      clear hue
      go_enter Tryz.func36, Tryz.ntmps36
      have HB := Lib.hid (NB.nil w.heap.size w)
      go_wp2_with (at_builtin; refine wpList_apo (n := 0) (xs := bvs ([])) (m := 1) (news := bvs [48]) rfl (.tmp 27) (.tmp 28) 27 rfl tbB (HB.out.ow.kept0 (by (repeat first | exact Fr.refl _ _ | exact Fr.drewN _ _ _ | apply Fr.drew | apply Fr.alloc | apply Fr.setAt | apply Fr.moreN))) (built_at (w.alloc (.cells #[.int .u8 3, .bool x.b, .int .i64 x.i, .string ⟨x.t.toArray⟩, .slice BA x.bs.length bc, .slice LA x.l.length lc, .slice FA x.f.length fc] 63)) _ _ (w.heap.size + 1) (by simp)) rfl rfl (bvs_one _) ?i1a ?i1b ?i1c)
      case i1a => simp only [maxLen]; omega
      case i1b => omega
      case i1c =>
        intro A1 N1 c1 W1 hN1 ho1 _ hf1 hs1
        have hnb := (HB.out.kept0 (by (repeat first | exact Fr.refl _ _ | exact Fr.drewN _ _ _ | apply Fr.drew | apply Fr.alloc | apply Fr.setAt | apply Fr.moreN) : Fr no w _)).more (cs := [48]) rfl hN1 ho1 hs1 (Fr.size (by (repeat first | exact Fr.refl _ _ | exact Fr.drewN _ _ _ | apply Fr.drew | apply Fr.alloc | apply Fr.setAt | apply Fr.moreN) : Fr no w _))
        have hfr : Fr no w W1 := (by (repeat first | exact Fr.refl _ _ | exact Fr.drewN _ _ _ | apply Fr.drew | apply Fr.alloc | apply Fr.setAt | apply Fr.moreN) : Fr no w _).trans hf1 (fun k hk h => by have := HB.out.new k h; omega)
        obtain rfl : N1 = 1 := by omega
        clear hN1
        have HB1 := Lib.hid hnb; have F7 := Lib.hid hfr
        have hsz : w.heap.size ≤ W1.heap.size := hfr.size
        have hcl : W1.cell? ⟨w.heap.size, 2, none⟩ = some (.int .i64 x.i) := ((by (repeat first | exact Fr.refl _ _ | exact Fr.drewN _ _ _ | apply Fr.drew | apply Fr.alloc | apply Fr.setAt | apply Fr.moreN) : Fr (fun k => Value.ownBlock (.slice none 0 0) = some k) (w.alloc (.cells #[.int .u8 3, .bool x.b, .int .i64 x.i, .string ⟨x.t.toArray⟩, .slice BA x.bs.length bc, .slice LA x.l.length lc, .slice FA x.f.length fc] 63)) _).trans hf1 (fun _ _ h => h)).cell (by rw [cell_of_row _ _ _ _ _ (0, 0) (heap_alloc_new w (.cells #[.int .u8 3, .bool x.b, .int .i64 x.i, .string ⟨x.t.toArray⟩, .slice BA x.bs.length bc, .slice LA x.l.length lc, .slice FA x.f.length fc] 63))]; rfl) (fun h => by have := HB.out.new _ h; simp [Value.ownBlock] at h)
        have hbl : w.heap.size < W1.heap.size := World.block_lt_of_cell? W1 _ hcl
        clear ho1 hf1 hs1 hnb hfr HB
        go_wp2
        clear hcl hbl hao
        go_loopw [3, 5] (fun ov iv wr => ∃ (k : Nat) (A : Option Addr) (n c : Nat), k ≤ 8 ∧ ov = .slice A n c ∧ iv = .int .i64 ((k : Int) - 1) ∧ NB w.heap.size wr A n c (48 :: (be 8 u).take (8 - k)) ∧ Fr no w wr) (fun _ iv _ => (intOf iv + 1).toNat)
        case atStart => exact ⟨8, A1, 1, c1, Nat.le_refl _, rfl, rfl, HB1.out, F7.out⟩
        case round =>
          obtain ⟨k, A, n, c, hk, rfl, rfl, hnb, hfr⟩ := hrel
          have hn9 : n = 9 - k := by have := hnb.len; simp only [List.length_cons, List.length_take, be_len] at this; omega
          have hn : n ≤ 9 := by omega
          have HB := Lib.hid hnb; have FR := Lib.hid hfr; have HN9 := Lib.hid hn9
          clear hnb hfr hn9
          by_cases hk0 : 0 < k
          · have h1 : (0 : Int) ≤ (k : Int) - 1 := by omega
            go_wp2_with (at_builtin; refine wpList_apo (n := n) (xs := bvs (48 :: (be 8 u).take (8 - k))) (m := 1) rfl (.tmp 38) (.tmp 46) 27 rfl tbB (HB.out.ow.kept0 (by (repeat first | exact Fr.refl _ _ | exact Fr.drewN _ _ _ | apply Fr.drew | apply Fr.alloc | apply Fr.setAt | apply Fr.moreN))) (Sl.built wr _ _) rfl rfl (by simp [Value.oneCell']) ?i2a ?i2b ?i2c)
            case i2a => simp only [maxLen]; omega
            case i2b => omega
            case i2c =>
              intro A2 N2 c2 W2 hN2 ho2 _ hf2 hs2
              rw [byte_at u _ hu.out] at ho2
              have hnb := (HB.out.kept0 (by (repeat first | exact Fr.refl _ _ | exact Fr.drewN _ _ _ | apply Fr.drew | apply Fr.alloc | apply Fr.setAt | apply Fr.moreN) : Fr no wr _)).more (cs := [_]) rfl hN2 ho2 hs2 (Nat.le_trans FR.out.size (Fr.size (by (repeat first | exact Fr.refl _ _ | exact Fr.drewN _ _ _ | apply Fr.drew | apply Fr.alloc | apply Fr.setAt | apply Fr.moreN) : Fr no wr _)))
              have hfr : Fr no w W2 := (FR.out.trans (by (repeat first | exact Fr.refl _ _ | exact Fr.drewN _ _ _ | apply Fr.drew | apply Fr.alloc | apply Fr.setAt | apply Fr.moreN) : Fr no wr _) (fun _ _ h => h)).trans hf2 (fun k hk h => by have := HB.out.new k h; omega)
              obtain ⟨j, rfl⟩ : ∃ j, k = j + 1 := ⟨k - 1, by omega⟩
              have hst := be_step u j (by omega)
              have HNB := Lib.hid hnb; have F2 := Lib.hid hfr; have HST := Lib.hid hst
              clear ho2 hf2 hs2 hnb hfr hst hN2
              go_wp2
              go_roundw
              case rel => exact ⟨j, A2, N2, c2, by omega, rfl, (by congr 1), (by have h := HNB.out; simp only [Nat.add_sub_cancel, List.cons_append] at h; rw [HST.out] at h; exact h), F2.out⟩
              case measure => simp [intOf]
          · obtain rfl : k = 0 := by omega
            have hb := HB.out
            rw [show 8 - 0 = 8 from rfl, List.take_of_length_le (by rw [be_len]; omega)] at hb
            have HBB := Lib.hid hb
            clear hb
            go_wp2
            go_ret
            exact ⟨A, n, c, rfl, by rw [HEN.out]; exact HBB.out, FR.out⟩
    · rw [h] at hen ⊢
      show Calls Tryz.prog 36 #[.agg #[.int .u8 4, .bool x.b, .int .i64 x.i, .string ⟨x.t.toArray⟩, .slice BA x.bs.length bc, .slice LA x.l.length lc, .slice FA x.f.length fc]] w _
      rw [if_neg (by decide), if_neg (by decide), if_neg (by decide), if_pos rfl] at hen
      have HEN := Lib.hid hen
      clear hen h hke
      go_enter Tryz.func36, Tryz.ntmps36
      have HB := Lib.hid (NB.nil w.heap.size w)
      go_wp2_with (at_builtin; refine wpList_apo (n := 0) (xs := bvs ([])) (m := 1) (news := bvs [64]) rfl (.tmp 51) (.tmp 52) 27 rfl tbB (HB.out.ow.kept0 (by (repeat first | exact Fr.refl _ _ | exact Fr.drewN _ _ _ | apply Fr.drew | apply Fr.alloc | apply Fr.setAt | apply Fr.moreN))) (built_at (w.alloc (.cells #[.int .u8 4, .bool x.b, .int .i64 x.i, .string ⟨x.t.toArray⟩, .slice BA x.bs.length bc, .slice LA x.l.length lc, .slice FA x.f.length fc] 63)) _ _ (w.heap.size + 1) (by simp)) rfl rfl (bvs_one _) ?e4a ?e4b ?e4c)
      case e4a => simp only [maxLen]; omega
      case e4b => omega
      case e4c =>
        intro A1 N1 c1 W1 hN1 ho1 _ hf1 hs1
        have hnb := (HB.out.kept0 (by (repeat first | exact Fr.refl _ _ | exact Fr.drewN _ _ _ | apply Fr.drew | apply Fr.alloc | apply Fr.setAt | apply Fr.moreN) : Fr no w _)).more (cs := [64]) rfl hN1 ho1 hs1 (Fr.size (by (repeat first | exact Fr.refl _ _ | exact Fr.drewN _ _ _ | apply Fr.drew | apply Fr.alloc | apply Fr.setAt | apply Fr.moreN) : Fr no w _))
        have hfr : Fr no w W1 := (by (repeat first | exact Fr.refl _ _ | exact Fr.drewN _ _ _ | apply Fr.drew | apply Fr.alloc | apply Fr.setAt | apply Fr.moreN) : Fr no w _).trans hf1 (fun k hk h => by have := HB.out.new k h; omega)
        obtain rfl : N1 = 1 := by omega
        clear hN1
        have HB1 := Lib.hid hnb; have F7 := Lib.hid hfr
        have hcl : W1.cell? ⟨w.heap.size, 3, none⟩ = some (.string ⟨x.t.toArray⟩) := ((by (repeat first | exact Fr.refl _ _ | exact Fr.drewN _ _ _ | apply Fr.drew | apply Fr.alloc | apply Fr.setAt | apply Fr.moreN) : Fr (fun k => Value.ownBlock (.slice none 0 0) = some k) (w.alloc (.cells #[.int .u8 4, .bool x.b, .int .i64 x.i, .string ⟨x.t.toArray⟩, .slice BA x.bs.length bc, .slice LA x.l.length lc, .slice FA x.f.length fc] 63)) _).trans hf1 (fun _ _ h => h)).cell (by rw [cell_of_row _ _ _ _ _ (0, 0) (heap_alloc_new w (.cells #[.int .u8 4, .bool x.b, .int .i64 x.i, .string ⟨x.t.toArray⟩, .slice BA x.bs.length bc, .slice LA x.l.length lc, .slice FA x.f.length fc] 63))]; rfl) (fun h => by simp [Value.ownBlock] at h)
        have hbl : w.heap.size < W1.heap.size := World.block_lt_of_cell? W1 _ hcl
        have hsl : (enc x).length ≤ 5000000 := HLE.out
        have hel : (esc x.t).length + 3 ≤ 5000001 := by rw [HEN.out] at hsl; simp only [List.length_cons, List.length_append, List.length_nil] at hsl; omega
        have hln : x.t.length ≤ (esc x.t).length := by
          have : ∀ l : List UInt8, l.length ≤ (esc l).length := fun l => by
            induction l with
            | nil => exact Nat.le_refl _
            | cons c l ih => rw [esc_cons, List.length_append, List.length_cons]; split <;> simp only [List.length_cons, List.length_nil] <;> omega
          exact this _
        have HEL := Lib.hid hel; have HLN := Lib.hid hln
        clear ho1 hf1 hs1 hnb hfr HB hsl hel hln
        go_wp2_with fail
        refine (escaped4_any w.heap.size _ A1 1 c1 [64] x.t (HB1.out.kept0 (by (repeat first | exact Fr.refl _ _ | exact Fr.drewN _ _ _ | apply Fr.drew | apply Fr.alloc | apply Fr.setAt | apply Fr.moreN))) F7.out.size (by have := HEL.out; simp only [List.length_cons, List.length_nil]; omega) (by have := HEL.out; have := HLN.out; omega)).mono ?_
        rintro e W2 ⟨A2, n2, c2, rfl, hnb2, f2⟩
        have HN2 := Lib.hid hnb2; have F2 := Lib.hid (F7.out.trans ((by (repeat first | exact Fr.refl _ _ | exact Fr.drewN _ _ _ | apply Fr.drew | apply Fr.alloc | apply Fr.setAt | apply Fr.moreN) : Fr (fun k => w.heap.size ≤ k) W1 _).trans f2 (fun _ _ h => h)) (fun k hk h => by omega))
        clear hnb2 f2
        go_wp2
        go_ret
        exact ⟨A2, n2, c2, rfl, by rw [HEN.out]; exact HN2.out, F2.out⟩
    · rw [h] at hen ⊢
      show Calls Tryz.prog 36 #[.agg #[.int .u8 5, .bool x.b, .int .i64 x.i, .string ⟨x.t.toArray⟩, .slice BA x.bs.length bc, .slice LA x.l.length lc, .slice FA x.f.length fc]] w _
      rw [if_neg (by decide), if_neg (by decide), if_neg (by decide), if_neg (by decide), if_pos rfl] at hen
      have HEN := Lib.hid hen
      clear hen h hke
      go_enter Tryz.func36, Tryz.ntmps36
      have HB := Lib.hid (NB.nil w.heap.size w)
      go_wp2_with (at_builtin; refine wpList_apo (n := 0) (xs := bvs ([])) (m := 1) (news := bvs [80]) rfl (.tmp 60) (.tmp 61) 27 rfl tbB (HB.out.ow.kept0 (by (repeat first | exact Fr.refl _ _ | exact Fr.drewN _ _ _ | apply Fr.drew | apply Fr.alloc | apply Fr.setAt | apply Fr.moreN))) (built_at (w.alloc (.cells #[.int .u8 5, .bool x.b, .int .i64 x.i, .string ⟨x.t.toArray⟩, .slice BA x.bs.length bc, .slice LA x.l.length lc, .slice FA x.f.length fc] 63)) _ _ (w.heap.size + 1) (by simp)) rfl rfl (bvs_one _) ?e5a ?e5b ?e5c)
      case e5a => simp only [maxLen]; omega
      case e5b => omega
      case e5c =>
        intro A1 N1 c1 W1 hN1 ho1 _ hf1 hs1
        have hnb := (HB.out.kept0 (by (repeat first | exact Fr.refl _ _ | exact Fr.drewN _ _ _ | apply Fr.drew | apply Fr.alloc | apply Fr.setAt | apply Fr.moreN) : Fr no w _)).more (cs := [80]) rfl hN1 ho1 hs1 (Fr.size (by (repeat first | exact Fr.refl _ _ | exact Fr.drewN _ _ _ | apply Fr.drew | apply Fr.alloc | apply Fr.setAt | apply Fr.moreN) : Fr no w _))
        have hfr : Fr no w W1 := (by (repeat first | exact Fr.refl _ _ | exact Fr.drewN _ _ _ | apply Fr.drew | apply Fr.alloc | apply Fr.setAt | apply Fr.moreN) : Fr no w _).trans hf1 (fun k hk h => by have := HB.out.new k h; omega)
        obtain rfl : N1 = 1 := by omega
        clear hN1
        have HB1 := Lib.hid hnb; have F7 := Lib.hid hfr
        have hcl : W1.cell? ⟨w.heap.size, 4, none⟩ = some (.slice BA x.bs.length bc) := ((by (repeat first | exact Fr.refl _ _ | exact Fr.drewN _ _ _ | apply Fr.drew | apply Fr.alloc | apply Fr.setAt | apply Fr.moreN) : Fr (fun k => Value.ownBlock (.slice none 0 0) = some k) (w.alloc (.cells #[.int .u8 5, .bool x.b, .int .i64 x.i, .string ⟨x.t.toArray⟩, .slice BA x.bs.length bc, .slice LA x.l.length lc, .slice FA x.f.length fc] 63)) _).trans hf1 (fun _ _ h => h)).cell (by rw [cell_of_row _ _ _ _ _ (0, 0) (heap_alloc_new w (.cells #[.int .u8 5, .bool x.b, .int .i64 x.i, .string ⟨x.t.toArray⟩, .slice BA x.bs.length bc, .slice LA x.l.length lc, .slice FA x.f.length fc] 63))]; rfl) (fun h => by simp [Value.ownBlock] at h)
        have hbl : w.heap.size < W1.heap.size := World.block_lt_of_cell? W1 _ hcl
        have hsl : (enc x).length ≤ 5000000 := HLE.out
        have hel : (esc x.bs).length + 3 ≤ 5000001 := by rw [HEN.out] at hsl; simp only [List.length_cons, List.length_append, List.length_nil] at hsl; omega
        have hln : x.bs.length ≤ (esc x.bs).length := by
          have : ∀ l : List UInt8, l.length ≤ (esc l).length := fun l => by
            induction l with
            | nil => exact Nat.le_refl _
            | cons c l ih => rw [esc_cons, List.length_append, List.length_cons]; split <;> simp only [List.length_cons, List.length_nil] <;> omega
          exact this _
        have HEL := Lib.hid hel; have HLN := Lib.hid hln
        have s1 := run_str (P := Tryz.prog) (src := 27) (dst := 9) (e := 5) W1 (by kernel_rfl) (by kernel_rfl) (by kernel_rfl) (HXB.out W1 F7.out)
        clear ho1 hf1 hs1 hnb hfr HB hsl hel hln
        go_wp2_with fail
        refine (escaped4_any w.heap.size _ A1 1 c1 [80] x.bs (HB1.out.kept0 (by (repeat first | exact Fr.refl _ _ | exact Fr.drewN _ _ _ | apply Fr.drew | apply Fr.alloc | apply Fr.setAt | apply Fr.moreN))) F7.out.size (by have := HEL.out; simp only [List.length_cons, List.length_nil]; omega) (by have := HEL.out; have := HLN.out; omega)).mono ?_
        rintro e W2 ⟨A2, n2, c2, rfl, hnb2, f2⟩
        have HN2 := Lib.hid hnb2; have F2 := Lib.hid (F7.out.trans ((by (repeat first | exact Fr.refl _ _ | exact Fr.drewN _ _ _ | apply Fr.drew | apply Fr.alloc | apply Fr.setAt | apply Fr.moreN) : Fr (fun k => w.heap.size ≤ k) W1 _).trans f2 (fun _ _ h => h)) (fun k hk h => by omega))
        clear hnb2 f2
        go_wp2
        go_ret
        exact ⟨A2, n2, c2, rfl, by rw [HEN.out]; exact HN2.out, F2.out⟩
    · rw [h] at hen ⊢
      show Calls Tryz.prog 36 #[.agg #[.int .u8 6, .bool x.b, .int .i64 x.i, .string ⟨x.t.toArray⟩, .slice BA x.bs.length bc, .slice LA x.l.length lc, .slice FA x.f.length fc]] w _
      rw [if_neg (by decide), if_neg (by decide), if_neg (by decide), if_neg (by decide), if_neg (by decide), if_pos rfl] at hen
      have HEN := Lib.hid hen
      clear hen h hke
      go_enter Tryz.func36, Tryz.ntmps36
      have HB := Lib.hid (NB.nil w.heap.size w)
      go_wp2_with (at_builtin; refine wpList_apo (n := 0) (xs := bvs ([])) (m := 1) (news := bvs [96]) rfl (.tmp 68) (.tmp 69) 27 rfl tbB (HB.out.ow.kept0 (by (repeat first | exact Fr.refl _ _ | exact Fr.drewN _ _ _ | apply Fr.drew | apply Fr.alloc | apply Fr.setAt | apply Fr.moreN))) (built_at (w.alloc (.cells #[.int .u8 6, .bool x.b, .int .i64 x.i, .string ⟨x.t.toArray⟩, .slice BA x.bs.length bc, .slice LA x.l.length lc, .slice FA x.f.length fc] 63)) _ _ (w.heap.size + 1) (by simp)) rfl rfl (bvs_one _) ?l1a ?l1b ?l1c)
      case l1a => simp only [maxLen]; omega
      case l1b => omega
      case l1c =>
        intro A1 N1 c1 W1 hN1 ho1 _ hf1 hs1
        have hnb := (HB.out.kept0 (by (repeat first | exact Fr.refl _ _ | exact Fr.drewN _ _ _ | apply Fr.drew | apply Fr.alloc | apply Fr.setAt | apply Fr.moreN) : Fr no w _)).more (cs := [96]) rfl hN1 ho1 hs1 (Fr.size (by (repeat first | exact Fr.refl _ _ | exact Fr.drewN _ _ _ | apply Fr.drew | apply Fr.alloc | apply Fr.setAt | apply Fr.moreN) : Fr no w _))
        have hfr : Fr no w W1 := (by (repeat first | exact Fr.refl _ _ | exact Fr.drewN _ _ _ | apply Fr.drew | apply Fr.alloc | apply Fr.setAt | apply Fr.moreN) : Fr no w _).trans hf1 (fun k hk h => by have := HB.out.new k h; omega)
        obtain rfl : N1 = 1 := by omega
        clear hN1
        have HB1 := Lib.hid hnb; have F7 := Lib.hid hfr
        have hrow : W1.heap[w.heap.size]? = some (.cells #[.int .u8 6, .bool x.b, .int .i64 x.i, .string ⟨x.t.toArray⟩, .slice BA x.bs.length bc, .slice LA x.l.length lc, .slice FA x.f.length fc] 63 (0, 0)) := ((by (repeat first | exact Fr.refl _ _ | exact Fr.drewN _ _ _ | apply Fr.drew | apply Fr.alloc | apply Fr.setAt | apply Fr.moreN) : Fr (fun k => Value.ownBlock (.slice none 0 0) = some k) (w.alloc (.cells #[.int .u8 6, .bool x.b, .int .i64 x.i, .string ⟨x.t.toArray⟩, .slice BA x.bs.length bc, .slice LA x.l.length lc, .slice FA x.f.length fc] 63)) _).trans hf1 (fun _ _ h => h)).heap (heap_alloc_new w (.cells #[.int .u8 6, .bool x.b, .int .i64 x.i, .string ⟨x.t.toArray⟩, .slice BA x.bs.length bc, .slice LA x.l.length lc, .slice FA x.f.length fc] 63)) (fun h => by simp [Value.ownBlock] at h)
        have HROW := Lib.hid hrow
        have hne : Value.ownBlock (.slice A1 1 c1) ≠ some w.heap.size := fun h => by
          rcases hs1 with ⟨a1, c3, e1, e2⟩ | e1
          · simp only [Value.slice.injEq] at e1 e2
            obtain ⟨rfl, -, rfl⟩ := e1
            obtain ⟨rfl, -, rfl⟩ := e2
            simp [Value.ownBlock] at h
          · have h2 := (e1 _ h).1
            simp at h2
            omega
        have HNE := Lib.hid hne
        clear hne
        have hsl : 1 + (x.l.flatMap enc).length + 1 ≤ 5000000 := by have h := HLE.out; rw [HEN.out] at h; simp only [List.length_cons, List.length_append, List.length_nil] at h; omega
        have HSL := Lib.hid hsl
        clear ho1 hf1 hs1 hnb hfr HB hrow hsl
        go_wp2
        go_loopw [3, 6] (fun ov iv wr => ∃ (j : Nat) (A : Option Addr) (n c : Nat), j ≤ x.l.length ∧ ov = .slice A n c ∧ iv = .int .i64 (j : Int) ∧ NB w.heap.size wr A n c (96 :: (x.l.take j).flatMap enc) ∧ Fr no w wr ∧ wr.heap[w.heap.size]? = some (.cells #[.int .u8 6, .bool x.b, .int .i64 x.i, .string ⟨x.t.toArray⟩, .slice BA x.bs.length bc, .slice LA x.l.length lc, .slice FA x.f.length fc] 63 (0, 0)) ∧ Value.ownBlock (.slice A n c) ≠ some w.heap.size) (fun _ iv _ => x.l.length - (intOf iv).toNat)
        case atStart => exact ⟨0, A1, 1, c1, Nat.zero_le _, rfl, rfl, by simpa using HB1.out, F7.out, HROW.out, HNE.out⟩
        case round =>
          obtain ⟨j, A, n, c, hj, rfl, rfl, hnb, hfr, hrow, hne⟩ := hrel
          obtain ⟨q0, q1, q2, q3, q4, q5, q6, qz, ql⟩ := seven_cells hrow
          have HB := Lib.hid hnb; have FR := Lib.hid hfr; have HR := Lib.hid hrow; have HNQ := Lib.hid hne
          clear hnb hfr hrow hne qz
          by_cases hlt : j < x.l.length
          · have hfl := flat_len enc x.l j hlt
            have hln : n = 1 + ((x.l.take j).flatMap enc).length := by rw [HB.out.len, List.length_cons, Nat.add_comm]
            have hnn : n + (enc x.l[j]).length ≤ 5000000 := by have := HSL.out; omega
            have hX := HXL.out.kept0 FR.out
            obtain ⟨b, o, KB, kb, KL, kl, KF, kf, rfl, hfj, r0, r1, r2, r3, r4, r5, r6, hgl⟩ := In.get hX j hlt
            have hc := fun W (f : Fr no wr W) => HC.out x.l[j] (List.getElem_mem _) (by omega) W (FR.out.trans f (fun _ _ h => h))
            rw [hfj.agg] at hc
            have HCJ := Lib.hid hc; have HNN := Lib.hid hnn
            clear hX hfj hc hfl hln hnn
            go_wp2_with fail
            refine (HCJ.out _ (by (repeat first | exact Fr.refl _ _ | exact Fr.drewN _ _ _ | apply Fr.drew | apply Fr.alloc | apply Fr.setAt | apply Fr.moreN))).mono ?_
            rintro e w5 ⟨A5, n5, c5, rfl, hnb5, f5⟩
            have F50 := Lib.hid ((by (repeat first | exact Fr.refl _ _ | exact Fr.drewN _ _ _ | apply Fr.drew | apply Fr.alloc | apply Fr.setAt | apply Fr.moreN) : Fr no wr _).trans f5 (fun _ _ h => h)); have HB5 := Lib.hid hnb5
            have hn5 : n + n5 ≤ 5000000 := by have := HNN.out; rw [hnb5.len]; exact this
            clear f5 hnb5 q0 q1 q2 q3 q4 q5 q6 ql r0 r1 r2 r3 r4 r5 r6 hgl
            have HBW := Lib.hid (HB.out.kept0 F50.out)
            go_wp2_with (at_builtin; refine wpList_apo (n := n) (xs := bvs (96 :: (x.l.take j).flatMap enc)) (m := n5) (news := bvs (enc x.l[j])) rfl (.tmp 84) (.tmp 85) 27 rfl tbB (HBW.out.ow.kept0 (by (repeat first | exact Fr.refl _ _ | exact Fr.drewN _ _ _ | apply Fr.drew | apply Fr.alloc | apply Fr.setAt | apply Fr.moreN))) (HB5.out.ow.kept0 (by (repeat first | exact Fr.refl _ _ | exact Fr.drewN _ _ _ | apply Fr.drew | apply Fr.alloc | apply Fr.setAt | apply Fr.moreN))).sl rfl rfl (bvs_one _) ?l2a ?l2b ?l2c)
            case l2a => simp only [maxLen]; omega
            case l2b => omega
            case l2c =>
              intro A2 N2 c2 W2 hN2 ho2 _ hf2 hs2
              have hlo : w.heap.size ≤ wr.heap.size := FR.out.size
              have hnb := (HBW.out.kept0 (by (repeat first | exact Fr.refl _ _ | exact Fr.drewN _ _ _ | apply Fr.drew | apply Fr.alloc | apply Fr.setAt | apply Fr.moreN) : Fr no w5 _)).more (cs := enc x.l[j]) HB5.out.len hN2 ho2 hs2 (Nat.le_trans hlo (Nat.le_trans F50.out.size (Fr.size (by (repeat first | exact Fr.refl _ _ | exact Fr.drewN _ _ _ | apply Fr.drew | apply Fr.alloc | apply Fr.setAt | apply Fr.moreN) : Fr no w5 _))))
              have hfr : Fr no w W2 := (FR.out.trans (F50.out.trans (by (repeat first | exact Fr.refl _ _ | exact Fr.drewN _ _ _ | apply Fr.drew | apply Fr.alloc | apply Fr.setAt | apply Fr.moreN) : Fr no w5 _) (fun _ _ h => h)) (fun _ _ h => h)).trans hf2 (fun k hk h => by have := HB.out.new k h; omega)
              have hrw := ((F50.out.trans (by (repeat first | exact Fr.refl _ _ | exact Fr.drewN _ _ _ | apply Fr.drew | apply Fr.alloc | apply Fr.setAt | apply Fr.moreN) : Fr no w5 _) (fun _ _ h => h)).mono (fun _ _ h => h.elim) (S' := fun k => Value.ownBlock (.slice A n c) = some k)).trans hf2 (fun _ _ h => h)
              have hrow := hrw.heap HR.out HNQ.out
              have hne : Value.ownBlock (.slice A2 N2 c2) ≠ some w.heap.size := fun h => by
                rcases hs2 with ⟨a1, c3, e1, e2⟩ | e1
                · simp only [Value.slice.injEq] at e1 e2
                  obtain ⟨rfl, -, rfl⟩ := e1
                  obtain ⟨rfl, -, rfl⟩ := e2
                  refine HNQ.out ?_
                  cases A2 with
                  | none => simp [Value.ownBlock] at h
                  | some a => exact h
                · have h2 := (e1 _ h).1
                  have h3 := F50.out.size; have h4 := Fr.size (by (repeat first | exact Fr.refl _ _ | exact Fr.drewN _ _ _ | apply Fr.drew | apply Fr.alloc | apply Fr.setAt | apply Fr.moreN) : Fr no w5 _)
                  have h5 := (Array.getElem?_eq_some_iff.1 HR.out).1
                  omega
              rw [List.cons_append, ← List.flatMap_singleton enc, ← List.flatMap_append, ← List.take_succ_eq_append_getElem hlt] at hnb
              have HNB := Lib.hid hnb; have F2 := Lib.hid hfr; have HR2 := Lib.hid hrow; have HN2 := Lib.hid hne
              clear ho2 hf2 hs2 hnb hfr hrow hne hrw hN2
              go_wp2
              go_roundw
              case rel => exact ⟨j + 1, A2, N2, c2, hlt, rfl, by first | rfl | go_num, HNB.out, F2.out, HR2.out, HN2.out⟩
              case measure => simp [intOf]; omega
          · obtain rfl : j = x.l.length := by omega
            have hb := HB.out
            rw [List.take_length] at hb
            have hn : n + 1 ≤ 5000000 := by have := HSL.out; rw [hb.len, List.length_cons]; omega
            have HBB := Lib.hid hb
            clear hb
            go_wp2_with (at_builtin; refine wpList_apo (n := n) (xs := bvs (96 :: x.l.flatMap enc)) (m := 1) (news := bvs [1]) rfl (.tmp 87) (.tmp 88) 27 rfl tbB (HBB.out.ow.kept0 (by (repeat first | exact Fr.refl _ _ | exact Fr.drewN _ _ _ | apply Fr.drew | apply Fr.alloc | apply Fr.setAt | apply Fr.moreN))) (Sl.built _ _ _) rfl rfl (bvs_one _) ?l3a ?l3b ?l3c)
            case l3a => simp only [maxLen]; omega
            case l3b => omega
            case l3c =>
              intro A2 N2 c2 W2 hN2 ho2 _ hf2 hs2
              have hnb := (HBB.out.kept0 (by (repeat first | exact Fr.refl _ _ | exact Fr.drewN _ _ _ | apply Fr.drew | apply Fr.alloc | apply Fr.setAt | apply Fr.moreN) : Fr no wr _)).more (cs := [1]) rfl hN2 ho2 hs2 (Nat.le_trans FR.out.size (Fr.size (by (repeat first | exact Fr.refl _ _ | exact Fr.drewN _ _ _ | apply Fr.drew | apply Fr.alloc | apply Fr.setAt | apply Fr.moreN) : Fr no wr _)))
              have hfr : Fr no w W2 := (FR.out.trans (by (repeat first | exact Fr.refl _ _ | exact Fr.drewN _ _ _ | apply Fr.drew | apply Fr.alloc | apply Fr.setAt | apply Fr.moreN) : Fr no wr _) (fun _ _ h => h)).trans hf2 (fun k hk h => by have := HBB.out.new k h; omega)
              have HNB := Lib.hid hnb; have F2 := Lib.hid hfr
              clear ho2 hf2 hs2 hnb hfr hN2
              go_wp2
              go_ret
              exact ⟨A2, N2, c2, rfl, by rw [HEN.out]; exact HNB.out, F2.out⟩
end Go.Proofs.YtgcicljklejmjaaGreatDoor

/- codicilref03.kids, deep, parts. -/
namespace Go.Proofs.YtgcicljklejmjaaGreatDoor
open Go.RowKit Go.Shelf
open Tr

theorem parts_kids (x : Tr Mm) : parts x = 1 + (x.kids.map parts).sum := by
  unfold parts
  rw [pre_eq, List.length_cons, Nat.add_comm]
  congr 1
  rw [List.length_flatMap]
  congr 1
  exact List.map_congr_left (fun y _ => pre_len 2 1 y)
theorem parts_pos (x : Tr Mm) : 1 ≤ parts x := by rw [parts_kids]; omega
theorem sum_ge {α : Type} {f : α → Nat} {l : List α} (h : ∀ y ∈ l, 1 ≤ f y) : l.length ≤ (l.map f).sum := by
  induction l with
  | nil => simp
  | cons a l ih =>
    have h1 := h a (.head _)
    have h2 := ih (fun y hy => h y (.tail _ hy))
    simp only [List.length_cons, List.map_cons, List.sum_cons]
    omega
theorem sum_mem {α : Type} {f : α → Nat} {l : List α} {y : α} (h : y ∈ l) : f y ≤ (l.map f).sum := by
  induction l with
  | nil => cases h
  | cons a l ih =>
    simp only [List.map_cons, List.sum_cons]
    rcases List.mem_cons.1 h with rfl | h
    · omega
    · have := ih h; omega
theorem kids_le (x : Tr Mm) : x.kids.length ≤ parts x := by
  have := sum_ge (f := parts) (l := x.kids) (fun y _ => parts_pos y)
  rw [parts_kids]; omega
theorem parts_kid {x y : Tr Mm} (h : y ∈ x.kids) : parts y ≤ parts x := by
  have := sum_mem (f := parts) h
  rw [parts_kids x]; omega

set_option maxRecDepth 100000 in
set_option maxHeartbeats 4000000 in
theorem kids3_any (w : World) (x : Tr Mm) (hx : Tr.Good w x) (hp : parts x ≤ 1000000) : Calls Tryz.prog 99 #[x.agg] w fun e w' => ∃ A c, e = .returned (.slice A x.kids.length c) ∧ In w' (.slice A x.kids.length c) x.kids ∧ Fr no w w' := by
  obtain ⟨BA, bc, LA, lc, FA, fc, hf⟩ := hx.node.forms
  have hkl := kids_le x
  have hkk : x.kids.length = x.l.length + x.f.length := by unfold kids; rw [List.length_append, List.length_map]
  have hL := hx.inL; have hF := hx.inF
  rw [hf.agg]
  rw [hf.L] at hL; rw [hf.F] at hF
  have hlf : x.l.length + x.f.length ≤ 1000000 := by omega
  have HX := Lib.hid hx; have HL := Lib.hid hL; have HF := Lib.hid hF; have HKK := Lib.hid hkk
  clear hx hf hL hF hkl hkk hp
  go_enter Tryz.func99, Tryz.ntmps99
  have fz : Fr no w (w.alloc (.cells #[.int .u8 x.k.toNat, .bool x.b, .int .i64 x.i, .string ⟨x.t.toArray⟩, .slice BA x.bs.length bc, .slice LA x.l.length lc, .slice FA x.f.length fc] 63)) := (Fr.refl no w).alloc _
  have hb0 := heap_alloc_new w (.cells #[.int .u8 x.k.toNat, .bool x.b, .int .i64 x.i, .string ⟨x.t.toArray⟩, .slice BA x.bs.length bc, .slice LA x.l.length lc, .slice FA x.f.length fc] 63)
  have FZ := Lib.hid fz; have HB0 := Lib.hid hb0
  clear fz hb0
  go_wp2_with (at_builtin; refine wpList_apo (n := 0) (xs := []) (m := x.l.length) (news := x.l.flatMap cells) rfl (.tmp 5) (.tmp 7) 22 rfl tbV (ow_none _ _ _) (HL.out.kept0 FZ.out).sl rfl rfl (cells_one x.l (fun y hy => (HL.out.good y hy).node.forms)) ?b1 ?b2 ?go)
  case b1 => simp only [maxLen]; omega
  case b2 => omega
  case go =>
    intro P N pc w2 hN ho2 _ hf2 hs2
    obtain rfl : N = x.l.length := by omega
    have f2 : Fr no w w2 := FZ.out.trans hf2 (fun _ _ h => nomatch h)
    have hb2 := hf2.heap HB0.out (fun h => nomatch h)
    have hnew : ∀ k, Value.ownBlock (.slice P x.l.length pc) = some k → w.heap.size < k := fun k hk => by
      rcases stays_own hs2 k hk with h | h
      · cases h
      · rw [World.size_alloc] at h; omega
    have F2 := Lib.hid f2; have HB2 := Lib.hid hb2; have HO2 := Lib.hid ho2; have HN2 := Lib.hid hnew
    clear f2 hf2 hb2 ho2 hs2 hnew
    go_wp2
    go_loopw [3, 4] (fun ov iv wr => ∃ (j : Nat) (O : Option Addr) (oc : Nat), j ≤ x.f.length ∧ iv = .int .i64 (j : Int) ∧ ov = .slice O (x.l.length + j) oc ∧ Ow wr 63 7 (.slice O (x.l.length + j) oc) (x.l.length + j) ((x.l ++ (x.f.take j).map Prod.snd).flatMap cells) ∧ (∀ k, Value.ownBlock (.slice O (x.l.length + j) oc) = some k → w.heap.size < k) ∧ Fr no w wr ∧
      wr.heap[w.heap.size]? = some (.cells #[.int .u8 x.k.toNat, .bool x.b, .int .i64 x.i, .string ⟨x.t.toArray⟩, .slice BA x.bs.length bc, .slice LA x.l.length lc, .slice FA x.f.length fc] 63 (0, 0))) (fun _ iv _ => x.f.length - (intOf iv).toNat)
    case atStart => exact ⟨0, P, pc, Nat.zero_le _, rfl, rfl, by simpa using HO2.out, HN2.out, F2.out, HB2.out⟩
    case round =>
      obtain ⟨j, O, oc, hj, rfl, rfl, how, hon, hfr, hbr⟩ := hrel
      obtain ⟨q0, q1, q2, q3, q4, q5, q6, qz, ql⟩ := seven_cells hbr
      have HOW := Lib.hid how; have HON := Lib.hid hon; have FR := Lib.hid hfr; have HBR := Lib.hid hbr
      clear how hon hfr hbr
      by_cases hlt : j < x.f.length
      · have hFr := HF.out.kept0 FR.out
        obtain ⟨b, o, KB, kb, KL, kl, KF, kf, rfl, hfj, n0, r0, r1, r2, r3, r4, r5, r6, rl⟩ := InF.get hFr j hlt
        have hcl : x.f[j].2.cells = [.int .u8 x.f[j].2.k.toNat, .bool x.f[j].2.b, .int .i64 x.f[j].2.i, .string ⟨x.f[j].2.t.toArray⟩, .slice KB x.f[j].2.bs.length kb, .slice KL x.f[j].2.l.length kl, .slice KF x.f[j].2.f.length kf] := by unfold cells; rw [hfj.B, hfj.L, hfj.F]
        have hal := (Fr.refl no wr).alloc (.cells #[.int .u8 x.f[j].2.k.toNat, .bool x.f[j].2.b, .int .i64 x.f[j].2.i, .string ⟨x.f[j].2.t.toArray⟩, .slice KB x.f[j].2.bs.length kb, .slice KL x.f[j].2.l.length kl, .slice KF x.f[j].2.f.length kf] 63)
        have hbx := built7 wr (.int .u8 x.f[j].2.k.toNat) (.bool x.f[j].2.b) (.int .i64 x.f[j].2.i) (.string ⟨x.f[j].2.t.toArray⟩) (.slice KB x.f[j].2.bs.length kb) (.slice KL x.f[j].2.l.length kl) (.slice KF x.f[j].2.f.length kf) 63
        have HAL := Lib.hid hal; have HBX := Lib.hid hbx; have HCL := Lib.hid hcl
        clear hfj hFr hal hbx hcl
        go_wp2_with (at_builtin; refine wpList_apo (n := x.l.length + j) (xs := (x.l ++ (x.f.take j).map Prod.snd).flatMap cells) (m := 1) (news := [.int .u8 x.f[j].2.k.toNat, .bool x.f[j].2.b, .int .i64 x.f[j].2.i, .string ⟨x.f[j].2.t.toArray⟩, .slice KB x.f[j].2.bs.length kb, .slice KL x.f[j].2.l.length kl, .slice KF x.f[j].2.f.length kf]) rfl (.tmp 16) (.tmp 23) 22 rfl tbV (HOW.out.kept0 HAL.out) HBX.out rfl rfl (by intro u hu; simp only [List.mem_cons, List.not_mem_nil, or_false] at hu; rcases hu with rfl | rfl | rfl | rfl | rfl | rfl | rfl <;> rfl) ?c1 ?c2 ?go2)
        case c1 => simp only [maxLen]; omega
        case c2 => omega
        case go2 =>
          intro A' N c' w7 hN ho7 _ hf7 hs7
          obtain rfl : N = x.l.length + (j + 1) := by omega
          have fr7 : Fr no w w7 := (FR.out.trans HAL.out (fun _ _ h => h)).trans hf7 (fun k hk h => by have := HON.out k h; omega)
          have hb7 := hf7.heap (HAL.out.heap HBR.out (fun h => h)) (fun h => by have := HON.out _ h; omega)
          have hn7 : ∀ k, Value.ownBlock (.slice A' (x.l.length + (j + 1)) c') = some k → w.heap.size < k := fun k hk => by
            rcases stays_own hs7 k hk with h | h
            · exact HON.out k h
            · have h1 := FR.out.size; have h2 := (Array.getElem?_eq_some_iff.1 HBR.out).1; have h3 := HAL.out.size; omega
          have ho8 : Ow w7 63 7 (.slice A' (x.l.length + (j + 1)) c') (x.l.length + (j + 1)) ((x.l ++ (x.f.take (j + 1)).map Prod.snd).flatMap cells) := by
            rw [List.take_succ_eq_append_getElem hlt, List.map_append, ← List.append_assoc, List.flatMap_append, List.map_singleton, List.flatMap_singleton, HCL.out]
            simpa [List.flatMap_append, List.map_take, List.append_assoc] using ho7
          have F7 := Lib.hid fr7; have HB7 := Lib.hid hb7; have HN7 := Lib.hid hn7; have HO8 := Lib.hid ho8
          clear fr7 hb7 hn7 ho8 ho7 hf7 hs7 hN
          go_wp2
          go_roundw
          case rel => exact ⟨j + 1, A', c', by omega, by go_num, rfl, HO8.out, HN7.out, F7.out, HB7.out⟩
          case measure => simp [intOf]; omega
      · obtain rfl : j = x.f.length := by omega
        have hin : In wr (.slice O x.kids.length oc) x.kids := by
          refine ⟨?_, fun z hz => (HX.out.kids z hz).kept0 FR.out, by rw [HKK.out]; simp only [reachBytes]; omega, by rw [HKK.out]; simp only [reachBytes]; omega⟩
          have h := HOW.out.sl
          rw [List.take_length] at h
          rw [HKK.out]
          exact h
        have HIN := Lib.hid hin
        clear hin
        go_wp2
        go_ret
        exact ⟨O, oc, by rw [HKK.out]; rfl, HIN.out, FR.out⟩
end Go.Proofs.YtgcicljklejmjaaGreatDoor
