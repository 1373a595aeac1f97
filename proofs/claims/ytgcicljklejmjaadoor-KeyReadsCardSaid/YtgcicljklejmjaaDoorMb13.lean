import Derived.Test.YtgcicljklejmjaaDoorMb12

/- key.reader.value: lists, and all of it. -/
namespace Go.Proofs.YtgcicljklejmjaaDoor
open Go.RowKit Go.Shelf
open Tr

theorem built7 (w : World) (a b c d e f h : Value) (T : TypeId) : Sl (w.alloc (.cells #[a, b, c, d, e, f, h] T)) 7 (.slice (some ⟨w.heap.size, 0, none⟩) 1 1) 1 [a, b, c, d, e, f, h] := by
  refine ⟨rfl, .inr ⟨w.heap.size, 0, 1, rfl, by omega, by simp [maxLen], fun j u hu => ?_⟩⟩
  rw [cell_of_row _ _ _ _ _ (0, 0) (heap_alloc_new w _)]
  simpa using hu

theorem dec_nil (d : Nat) : dec d [] = none := by cases d <;> rfl
theorem decL_one (g : List UInt8 → Option (Tr Unit × List UInt8)) (n : Nat) (s : List UInt8) : decL g (n + 1) (1 :: s) = some ([], s) := by simp [decL]
theorem decL_next (g : List UInt8 → Option (Tr Unit × List UInt8)) (n : Nat) (s : List UInt8) (h : s.head? ≠ some 1) (hg : g [] = none) : decL g (n + 1) s = match g s with | none => none | some (x, t) => (decL g n t).map fun p => (x :: p.1, p.2) := by
  cases s with
  | nil => rw [hg]; rfl
  | cons c s =>
    have h1 : c ≠ 1 := fun e => h (by rw [e]; rfl)
    rw [decL, if_neg h1]
    cases g (c :: s) <;> rfl

/-- A list under way. -/
structure LGood (d m p : Nat) (w wr : World) (r : List UInt8) (ys : List (Tr Mm)) (s : List UInt8) (A : Option Addr) (c : Nat) : Prop where
  row : wr.heap[w.heap.size]? = some (.cells #[.int .u8 6, .bool false, .int .i64 0, .string ⟨#[]⟩, .slice none 0 0, .slice A ys.length c, .slice none 0 0] 33 (0, 0))
  ow : Ow wr 33 7 (.slice A ys.length c) ys.length (ys.flatMap cells)
  own : ∀ k, Value.ownBlock (.slice A ys.length c) = some k → w.heap.size < k
  each : ∀ y ∈ ys, Tr.Own wr y
  pw : ys.Pairwise fun y z => ∀ k, Blk y k → ¬ Blk z k
  yn : ∀ y ∈ ys, ∀ k, Blk y k → w.heap.size < k ∧ Value.ownBlock (.slice A ys.length c) ≠ some k
  rd : Rdr m wr p s false
  dl : ∃ n, s.length < n ∧ decL (dec d) (r.length + 1) r = (decL (dec d) n s).map fun q => (ys.map bare ++ q.1, q.2)
  ln : s.length + ys.length ≤ r.length
structure LBad (d m p : Nat) (w wr : World) (r s : List UInt8) (A : Option Addr) (n c : Nat) : Prop where
  row : wr.heap[w.heap.size]? = some (.cells #[.int .u8 6, .bool false, .int .i64 0, .string ⟨#[]⟩, .slice none 0 0, .slice A n c, .slice none 0 0] 33 (0, 0))
  rd : Rdr m wr p s true
  dl : decL (dec d) (r.length + 1) r = none
  ln : s.length ≤ r.length

theorem LGood.lt {d m p : Nat} {w wr : World} {r s : List UInt8} {ys : List (Tr Mm)} {A : Option Addr} {c : Nat} (h : LGood d m p w wr r ys s A c) : w.heap.size < wr.heap.size := (Array.getElem?_eq_some_iff.1 h.row).1

theorem row_on {m p : Nat} {w wr w5 W6 w7 : World} {A : Option Addr} {n c : Nat} {o : Obj} (hr : wr.heap[w.heap.size]? = some o) (hp : p < m) (hm : m ≤ w.heap.size) (f5 : Fr (At p) wr w5) (f6 : Fr no w5 W6) (f7 : Fr (fun k => Value.ownBlock (.slice A n c) = some k) W6 w7) (ho : ∀ k, Value.ownBlock (.slice A n c) = some k → w.heap.size < k) :
    w7.heap[w.heap.size]? = some o :=
  f7.heap (f6.heap (f5.heap hr (fun h => by have h : w.heap.size = p := h; omega)) (fun h => h)) (fun h => by have := ho _ h; omega)

theorem lgood_step {d m p : Nat} {w wr w5 W6 w7 : World} {r s s2 : List UInt8} {ys : List (Tr Mm)} {A A' : Option Addr} {c c' : Nat} {y : Tr Mm}
    (h : LGood d m p w wr r ys s A c) (hm : m ≤ w.heap.size) (f5 : Fr (At p) wr w5) (ho : Tr.Own w5 y) (hb : ∀ k, Blk y k → wr.heap.size ≤ k) (hr : Rdr m w5 p s2 false) (hd : dec d s = some (bare y, s2)) (hl : s2.length < s.length) (hs : s.head? ≠ some 1)
    (f6 : Fr no w5 W6) (o7 : Ow w7 33 7 (.slice A' (ys.length + 1) c') (ys.length + 1) (ys.flatMap cells ++ y.cells)) (f7 : Fr (fun k => Value.ownBlock (.slice A ys.length c) = some k) W6 w7) (st : Stays W6 w7 (.slice A ys.length c) (.slice A' (ys.length + 1) c') ys.length (ys.length + 1)) :
    LGood d m p w (w7.setCell ⟨w.heap.size, 5, none⟩ (.slice A' (ys.length + 1) c')) r (ys ++ [y]) s2 A' c' := by
  have hp := hr.1
  have hlt := h.lt
  have e1 : (ys ++ [y]).length = ys.length + 1 := by simp
  have hs5 := f5.size; have hs6 := f6.size
  have hset := Fr.setCell (Fr.refl (fun k => k = w.heap.size) w7) ⟨w.heap.size, 5, none⟩ (.slice A' (ys.length + 1) c') (fun _ => rfl)
  have hown : ∀ k, Value.ownBlock (.slice A' (ys.length + 1) c') = some k → w.heap.size < k := fun k hk => by
    rcases stays_own st k hk with h1 | h1
    · exact h.own k h1
    · omega
  have hnot : ∀ k, Value.ownBlock (.slice A' (ys.length + 1) c') = some k → Value.ownBlock (.slice A ys.length c) = some k ∨ W6.heap.size ≤ k := stays_own st
  have hrow := row_on (A := A) (n := ys.length) (c := c) h.row hp hm f5 f6 f7 h.own
  refine ⟨?_, ?_, ?_, ?_, ?_, ?_, ?_, ?_, ?_⟩
  · rw [hp_same hrow 5, e1]
    rfl
  · rw [e1, List.flatMap_append, List.flatMap_singleton]
    exact o7.kept hset (fun k hk h1 => by have := hown k hk; omega)
  · rw [e1]; exact hown
  · intro z hz
    rcases List.mem_append.1 hz with hz | hz
    · have hzn := h.yn z hz
      exact ((((h.each z hz).kept f5 (fun k hk h1 => by have := (hzn k hk).1; have h1 : k = p := h1; omega)).kept0 f6).kept f7 (fun k hk h1 => (hzn k hk).2 h1)).kept hset (fun k hk h1 => by have := (hzn k hk).1; omega)
    · rw [List.mem_singleton.1 hz]
      exact ((ho.kept0 f6).kept f7 (fun k hk h1 => by have := h.ow.lt k h1; have := hb k hk; omega)).kept hset (fun k hk h1 => by have := hb k hk; omega)
  · refine List.pairwise_append.2 ⟨h.pw, List.pairwise_singleton _ _, fun z hz z' hz' k hk hk2 => ?_⟩
    rw [List.mem_singleton.1 hz'] at hk2
    have := (h.each z hz).lt k hk; have := hb k hk2; omega
  · intro z hz k hk
    rw [e1]
    rcases List.mem_append.1 hz with hz | hz
    · refine ⟨(h.yn z hz k hk).1, fun h1 => ?_⟩
      rcases hnot k h1 with h2 | h2
      · exact (h.yn z hz k hk).2 h2
      · have := (h.each z hz).lt k hk; omega
    · rw [List.mem_singleton.1 hz] at hk
      refine ⟨by have := hb k hk; omega, fun h1 => ?_⟩
      rcases hnot k h1 with h2 | h2
      · have := h.ow.lt k h2; have := hb k hk; omega
      · have := ho.lt k hk; omega
  · exact ((hr.kept0 f6).kept f7 (fun k h1 => by have := h.own k h1; omega)).kept hset (fun k h1 => by omega)
  · obtain ⟨n, hn, hdl⟩ := h.dl
    cases n with
    | zero => omega
    | succ n =>
      refine ⟨n, by omega, ?_⟩
      rw [hdl, decL_next _ _ _ hs (dec_nil d), hd]
      simp only
      cases decL (dec d) n s2 <;> simp
  · rw [e1]
    have := h.ln
    omega

theorem lbad_step {d m p : Nat} {w wr w5 W6 w7 : World} {r s s2 : List UInt8} {ys : List (Tr Mm)} {A A' : Option Addr} {c n' c' : Nat}
    (h : LGood d m p w wr r ys s A c) (hm : m ≤ w.heap.size) (f5 : Fr (At p) wr w5) (hr : Rdr m w5 p s2 true) (hd : dec d s = none) (hl : s2.length ≤ s.length) (hs : s.head? ≠ some 1)
    (f6 : Fr no w5 W6) (f7 : Fr (fun k => Value.ownBlock (.slice A ys.length c) = some k) W6 w7) :
    LBad d m p w (w7.setCell ⟨w.heap.size, 5, none⟩ (.slice A' n' c')) r s2 A' n' c' := by
  have hp := hr.1
  have hlt := h.lt
  have hset := Fr.setCell (Fr.refl (fun k => k = w.heap.size) w7) ⟨w.heap.size, 5, none⟩ (.slice A' n' c') (fun _ => rfl)
  have hrow := row_on (A := A) (n := ys.length) (c := c) h.row hp hm f5 f6 f7 h.own
  refine ⟨?_, ?_, ?_, ?_⟩
  · rw [hp_same hrow 5]
    rfl
  · exact ((hr.kept0 f6).kept f7 (fun k h1 => by have := h.own k h1; omega)).kept hset (fun k h1 => by omega)
  · obtain ⟨n, hn, hdl⟩ := h.dl
    cases n with
    | zero => omega
    | succ n =>
      rw [hdl, decL_next _ _ _ hs (dec_nil d), hd]
      rfl
  · have := h.ln
    omega
theorem l_fr {p : Nat} {w wr w5 W6 w7 : World} {A : Option Addr} {n c : Nat} {v : Value} (f : Fr (At p) w wr) (f5 : Fr (At p) wr w5) (f6 : Fr no w5 W6) (f7 : Fr (fun k => Value.ownBlock (.slice A n c) = some k) W6 w7) (ho : ∀ k, Value.ownBlock (.slice A n c) = some k → w.heap.size < k) :
    Fr (At p) w (w7.setCell ⟨w.heap.size, 5, none⟩ v) := by
  have hset := Fr.setCell (Fr.refl (fun k => k = w.heap.size) w7) ⟨w.heap.size, 5, none⟩ v (fun _ => rfl)
  exact (((f.trans f5 (fun _ _ h => h)).trans f6 (fun _ _ h => h.elim)).trans f7 (fun k hk h => by have := ho k h; omega)).trans hset (fun k hk h => by omega)

set_option maxRecDepth 100000 in
set_option maxHeartbeats 4000000 in
theorem val_list (d m p : Nat) (w : World) (hd8 : d ≤ 8) (r : List UInt8) (IH : ∀ (w : World) (l : List UInt8), Rdr m w p l false → m ≤ w.heap.size → l.length ≤ 1000000000 → Calls Tryd.prog 35 #[.pointer (some ⟨p, 0, none⟩), .int .i64 (d : Int)] w fun e w' => ValOut d m p w l e w') (h : Rdr m w p (96 :: r) false) (hm : m ≤ w.heap.size) (hl : (96 :: r).length ≤ 1000000000) :
    Calls Tryd.prog 35 #[.pointer (some ⟨p, 0, none⟩), .int .i64 ((d + 1 : Nat) : Int)] w fun e w' => ValOut (d + 1) m p w (96 :: r) e w' := by
  have g0 : (((d + 1 : Nat) : Int) == 0) = false := by rw [beq_eq_false_iff_ne]; omega
  have hd1 : IntKind.i64.wrap ((d : Int) + 1 - 1) = (d : Int) := IntWalk.i64_in _ ⟨by omega, by omega⟩ |>.trans (by omega)
  have HR := Lib.hid h
  have HP := Lib.hid h.1
  clear h
  go_enter Tryd.func35, Tryd.ntmps35
  go_wp2_with fail
  refine (rnext_any m p _ (96 :: r) false (HR.out.kept0 (by (repeat first | exact Fr.refl _ _ | exact Fr.drewN _ _ _ | apply Fr.drew | apply Fr.alloc | apply Fr.setAt | apply Fr.moreN))) (by first | omega | simp)).mono ?_
  rintro e w2 ⟨rfl, h2, f2⟩
  have hb := f2.heap (heap_alloc_new w (.cells #[.int .u8 0, .bool false, .int .i64 0, .string ⟨#[]⟩, .slice none 0 0, .slice none 0 0, .slice none 0 0] 33)) (fun h => by have h1 := HP.out; have h : w.heap.size = p := h; omega)
  have ff : Fr (At p) w w2 := Fr.trans (S := At p) ((Fr.refl (At p) w).alloc _) f2 (fun _ _ h => h)
  obtain ⟨q0, q1, q2, q3, q4, q5, q6, qz, ql⟩ := seven_cells hb
  have HB := Lib.hid hb; have HR2 := Lib.hid h2; have F2 := Lib.hid ff
  clear hb h2 f2 ff
  have hrl : r.length ≤ 1000000000 := by simp only [List.length_cons] at hl; omega
  have hne : w.heap.size ≠ p := by have h1 := HP.out; omega
  have hpf := Fr.setCell (Fr.refl (fun k => k = w.heap.size) w2) ⟨w.heap.size, 0, none⟩ (.int .u8 6) (fun _ => rfl)
  have hs1 := hp_same HB.out 0 (.int .u8 6)
  simp only [List.setIfInBounds_toArray, List.set_cons_zero] at hs1
  have hg0 : LGood d m p w (w2.setCell ⟨w.heap.size, 0, none⟩ (.int .u8 6)) r [] r none 0 := ⟨hs1, ow_none _ _ _, (fun _ h => nomatch h), (fun _ h => nomatch h), List.Pairwise.nil, (fun _ h => nomatch h), HR2.out.kept hpf (fun k h => by omega), ⟨r.length + 1, by omega, by cases decL (dec d) (r.length + 1) r <;> simp⟩, by simp⟩
  have hf3 : Fr (At p) w (w2.setCell ⟨w.heap.size, 0, none⟩ (.int .u8 6)) := F2.out.trans hpf (fun k hk h => by omega)
  have IHH := Lib.hid IH; have HG0 := Lib.hid hg0; have HF3 := Lib.hid hf3
  clear IH hs1 hpf hg0 hf3
  simp only [nextB, List.headD_cons]
  go_wp2
  clear q0 q1 q2 q3 q4 q5 q6 qz ql
  go_loopw [] (fun wr => Fr (At p) w wr ∧ ((∃ ys s A c, LGood d m p w wr r ys s A c) ∨ ∃ s A n c, LBad d m p w wr r s A n c)) (fun wr => rdM wr p)
  case atStart => exact ⟨HF3.out, .inl ⟨[], r, none, 0, HG0.out⟩⟩
  case round =>
    obtain ⟨hfr, hst⟩ := hrel
    rcases hst with ⟨ys, s, A, c, hg⟩ | ⟨s, A, n, c, hb⟩
    · obtain ⟨q0, q1, q2, q3, q4, q5, q6, qz, ql⟩ := seven_cells hg.row
      have HFR := Lib.hid hfr; have HG := Lib.hid hg
      obtain ⟨_, RA, rc, hp1, hsl, hrn⟩ := hg.rd
      obtain ⟨y0, y1, yz, yb⟩ := two_cells hp1
      clear hfr hg hrn hp1
      cases s with
      | nil =>
        clear hsl
        have hcall := IHH.out wr.drew [] (HG.out.rd.kept0 (Fr.drew (Fr.refl no wr))) (show m ≤ wr.heap.size by have := HG.out.lt; omega) (by simp)
        have hnb := dec_nil d
        have hsh : ([] : List UInt8).head? ≠ some 1 := by simp
        have HC := Lib.hid hcall; have HNB := Lib.hid hnb; have HSH := Lib.hid hsh
        clear hcall hnb hsh
        go_wp2_with fail
        refine wp_region_fork anyW (.fork [0, 2, 3, 4] (.lin [1, 5, 6, 7, 8, 9]) (.lin [5, 1, 6, 7, 8, 9])) (fun i => [Kd.p, Kd.l, Kd.p, Kd.p, Kd.p, Kd.e, Kd.g, Kd.e, Kd.p, Kd.e].getD i .e) (by kernel_rfl) (by kernel_rfl) True.intro (wpB_fork ?_)
        iterate 4
          first | refine wpX_pu rfl rfl rfl (by first | exact pu_move rfl | exact pu_assign rfl | exact pu_nilCheck rfl rfl | exact pu_binInt rfl rfl rfl | exact pu_conv rfl rfl (by kernel_rfl) | exact pu_fld rfl (by kernel_rfl) | exact pu_ix rfl rfl rfl (by kernel_rfl) | exact pu_unOp rfl | exact pu_binStr rfl rfl rfl | exact pu_len rfl rfl | exact pu_lens rfl rfl | exact pu_pick rfl | exact pu_slice rfl rfl) (fun K hK => ?_) | refine wpX_rd rfl rfl rfl (rd_load rfl) (fun K hK => ?_) | refine wpX_gr rfl rfl rfl (by first | exact gr_buildSlice rfl | exact gr_box rfl | exact gr_alloc rfl) (fun K hK => ?_) | refine wpX_ex rfl rfl rfl (fun K hK => ?_)
          try go_wp2
        refine wpX_fork (wpB_lin ?_) (wpB_lin ?_)
        · skip
          first | refine wpX_pu rfl rfl rfl (by first | exact pu_move rfl | exact pu_assign rfl | exact pu_nilCheck rfl rfl | exact pu_binInt rfl rfl rfl | exact pu_conv rfl rfl (by kernel_rfl) | exact pu_fld rfl (by kernel_rfl) | exact pu_ix rfl rfl rfl (by kernel_rfl) | exact pu_unOp rfl | exact pu_binStr rfl rfl rfl | exact pu_len rfl rfl | exact pu_lens rfl rfl | exact pu_pick rfl | exact pu_slice rfl rfl) (fun K hK => ?_) | refine wpX_rd rfl rfl rfl (rd_load rfl) (fun K hK => ?_) | refine wpX_gr rfl rfl rfl (by first | exact gr_buildSlice rfl | exact gr_box rfl | exact gr_alloc rfl) (fun K hK => ?_) | refine wpX_ex rfl rfl rfl (fun K hK => ?_)
          try go_wp2
          refine wpX_ex rfl rfl rfl (fun K hK => ?_)
          go_wp2_with fail
          refine HC.out.mono ?_
          rintro e w5 ⟨f5, ⟨y, s2, hdc, rfl, hoy, hby, hr5, hln⟩ | ⟨hdc, ⟨jk, jb, ji, jt, JB, jbn, jbc, JL, jln, jlc, JF, jfn, jfc, rfl⟩, s2, hr5, hln⟩⟩
          · exact absurd (HNB.out.symm.trans hdc) (by simp)
          · skip
            have f5 := (Fr.drew (Fr.refl (At p) wr)).trans f5 (fun _ _ h => h)
            have how5 := HG.out.ow.kept f5 (fun k hk h => by have := HG.out.own k hk; have h1 := HP.out; have h : k = p := h; omega)
            have hb5 := f5.heap HG.out.row (fun h => hne h)
            obtain ⟨q0, q1, q2, q3, q4, q5, q6, qz, ql⟩ := seven_cells hb5
            have F5 := Lib.hid f5; have HOW5 := Lib.hid how5; have HR5 := Lib.hid hr5; have HDC := Lib.hid hdc; have HLN := Lib.hid hln
            clear f5 how5 hb5 hr5 hdc hln
            go_simp
            refine hK _ _ ?_
            clear hK K
            first | refine wpX_pu rfl rfl rfl (by first | exact pu_move rfl | exact pu_assign rfl | exact pu_nilCheck rfl rfl | exact pu_binInt rfl rfl rfl | exact pu_conv rfl rfl (by kernel_rfl) | exact pu_fld rfl (by kernel_rfl) | exact pu_ix rfl rfl rfl (by kernel_rfl) | exact pu_unOp rfl | exact pu_binStr rfl rfl rfl | exact pu_len rfl rfl | exact pu_lens rfl rfl | exact pu_pick rfl | exact pu_slice rfl rfl) (fun K hK => ?_) | refine wpX_rd rfl rfl rfl (rd_load rfl) (fun K hK => ?_) | refine wpX_gr rfl rfl rfl (by first | exact gr_buildSlice rfl | exact gr_box rfl | exact gr_alloc rfl) (fun K hK => ?_) | refine wpX_ex rfl rfl rfl (fun K hK => ?_)
            try go_wp2
            refine wpX_ex rfl rfl rfl (fun K hK => ?_)
            have hal := (Fr.refl no w5).alloc (.cells #[.int .u8 jk, .bool jb, .int .i64 ji, .string jt, .slice JB jbn jbc, .slice JL jln jlc, .slice JF jfn jfc] 33)
            have HAL := Lib.hid hal; clear hal
            refine wp_apo (n := ys.length) (xs := ys.flatMap cells) (m := 1) (news := [.int .u8 jk, .bool jb, .int .i64 ji, .string jt, .slice JB jbn jbc, .slice JL jln jlc, .slice JF jfn jfc]) (.tmp 84) (.tmp 89) 25 rfl tbV (HOW5.out.kept0 HAL.out) (built7 w5 (.int .u8 jk) (.bool jb) (.int .i64 ji) (.string jt) (.slice JB jbn jbc) (.slice JL jln jlc) (.slice JF jfn jfc) 33) rfl rfl (by intro u hu; simp only [List.mem_cons, List.not_mem_nil, or_false] at hu; rcases hu with rfl | rfl | rfl | rfl | rfl | rfl | rfl <;> rfl) ?mn1b1 ?mn1b2 ?mn1b3
            case mn1b1 => have := HG.out.ln; simp only [maxLen]; omega
            case mn1b2 => have := HG.out.ln; omega
            case mn1b3 =>
              intro A' N c' w7 hN ho7 _ hf7 hs7
              subst hN
              have hrow := row_on (A := A) (n := ys.length) (c := c) HG.out.row HP.out hm F5.out HAL.out hf7 HG.out.own
              obtain ⟨q0, q1, q2, q3, q4, q5, q6, qz, ql⟩ := seven_cells hrow
              have FW := Lib.hid (l_fr (v := .slice A' (ys.length + 1) c') HFR.out F5.out HAL.out hf7 HG.out.own)
              have hst := lbad_step (n' := ys.length + 1) (A' := A') (c' := c') HG.out hm F5.out HR5.out HDC.out HLN.out HSH.out HAL.out hf7
              have HST := Lib.hid hst
              clear hst ho7 hf7 hs7 hrow
              go_simp
              refine hK _ _ ?_
              clear hK K
              first | refine wpX_pu rfl rfl rfl (by first | exact pu_move rfl | exact pu_assign rfl | exact pu_nilCheck rfl rfl | exact pu_binInt rfl rfl rfl | exact pu_conv rfl rfl (by kernel_rfl) | exact pu_fld rfl (by kernel_rfl) | exact pu_ix rfl rfl rfl (by kernel_rfl) | exact pu_unOp rfl | exact pu_binStr rfl rfl rfl | exact pu_len rfl rfl | exact pu_lens rfl rfl | exact pu_pick rfl | exact pu_slice rfl rfl) (fun K hK => ?_) | refine wpX_rd rfl rfl rfl (rd_load rfl) (fun K hK => ?_) | refine wpX_gr rfl rfl rfl (by first | exact gr_buildSlice rfl | exact gr_box rfl | exact gr_alloc rfl) (fun K hK => ?_) | refine wpX_ex rfl rfl rfl (fun K hK => ?_)
              try go_wp2
              refine wpX_ex rfl rfl rfl (fun K hK => ?_)
              go_simp
              refine hK _ _ ?_
              clear hK K
              refine wpX_done ?_
              go_wp2
              go_roundw
              case rel => (repeat apply Exists.intro); exact ⟨⟨FW.out, .inr ⟨s2, A', _, c', HST.out⟩⟩, rfl⟩
              case measure => have h1 := HST.out.rd.M; have h2 := HG.out.rd.M; have h3 := HLN.out; simp only [if_true, Bool.false_eq_true, if_false, List.length_nil] at h1 h2 h3; omega
        · skip
          refine wpX_ex rfl rfl rfl (fun K hK => ?_)
          go_wp2_with fail
          refine HC.out.mono ?_
          rintro e w5 ⟨f5, ⟨y, s2, hdc, rfl, hoy, hby, hr5, hln⟩ | ⟨hdc, ⟨jk, jb, ji, jt, JB, jbn, jbc, JL, jln, jlc, JF, jfn, jfc, rfl⟩, s2, hr5, hln⟩⟩
          · exact absurd (HNB.out.symm.trans hdc) (by simp)
          · skip
            have f5 := (Fr.drew (Fr.refl (At p) wr)).trans f5 (fun _ _ h => h)
            have how5 := HG.out.ow.kept f5 (fun k hk h => by have := HG.out.own k hk; have h1 := HP.out; have h : k = p := h; omega)
            have hb5 := f5.heap HG.out.row (fun h => hne h)
            obtain ⟨q0, q1, q2, q3, q4, q5, q6, qz, ql⟩ := seven_cells hb5
            have F5 := Lib.hid f5; have HOW5 := Lib.hid how5; have HR5 := Lib.hid hr5; have HDC := Lib.hid hdc; have HLN := Lib.hid hln
            clear f5 how5 hb5 hr5 hdc hln
            go_simp
            refine hK _ _ ?_
            clear hK K
            first | refine wpX_pu rfl rfl rfl (by first | exact pu_move rfl | exact pu_assign rfl | exact pu_nilCheck rfl rfl | exact pu_binInt rfl rfl rfl | exact pu_conv rfl rfl (by kernel_rfl) | exact pu_fld rfl (by kernel_rfl) | exact pu_ix rfl rfl rfl (by kernel_rfl) | exact pu_unOp rfl | exact pu_binStr rfl rfl rfl | exact pu_len rfl rfl | exact pu_lens rfl rfl | exact pu_pick rfl | exact pu_slice rfl rfl) (fun K hK => ?_) | refine wpX_rd rfl rfl rfl (rd_load rfl) (fun K hK => ?_) | refine wpX_gr rfl rfl rfl (by first | exact gr_buildSlice rfl | exact gr_box rfl | exact gr_alloc rfl) (fun K hK => ?_) | refine wpX_ex rfl rfl rfl (fun K hK => ?_)
            try go_wp2
            first | refine wpX_pu rfl rfl rfl (by first | exact pu_move rfl | exact pu_assign rfl | exact pu_nilCheck rfl rfl | exact pu_binInt rfl rfl rfl | exact pu_conv rfl rfl (by kernel_rfl) | exact pu_fld rfl (by kernel_rfl) | exact pu_ix rfl rfl rfl (by kernel_rfl) | exact pu_unOp rfl | exact pu_binStr rfl rfl rfl | exact pu_len rfl rfl | exact pu_lens rfl rfl | exact pu_pick rfl | exact pu_slice rfl rfl) (fun K hK => ?_) | refine wpX_rd rfl rfl rfl (rd_load rfl) (fun K hK => ?_) | refine wpX_gr rfl rfl rfl (by first | exact gr_buildSlice rfl | exact gr_box rfl | exact gr_alloc rfl) (fun K hK => ?_) | refine wpX_ex rfl rfl rfl (fun K hK => ?_)
            try go_wp2
            refine wpX_ex rfl rfl rfl (fun K hK => ?_)
            have hal := (Fr.refl no w5).alloc (.cells #[.int .u8 jk, .bool jb, .int .i64 ji, .string jt, .slice JB jbn jbc, .slice JL jln jlc, .slice JF jfn jfc] 33)
            have HAL := Lib.hid hal; clear hal
            refine wp_apo (n := ys.length) (xs := ys.flatMap cells) (m := 1) (news := [.int .u8 jk, .bool jb, .int .i64 ji, .string jt, .slice JB jbn jbc, .slice JL jln jlc, .slice JF jfn jfc]) (.tmp 84) (.tmp 89) 25 rfl tbV (HOW5.out.kept0 HAL.out) (built7 w5 (.int .u8 jk) (.bool jb) (.int .i64 ji) (.string jt) (.slice JB jbn jbc) (.slice JL jln jlc) (.slice JF jfn jfc) 33) rfl rfl (by intro u hu; simp only [List.mem_cons, List.not_mem_nil, or_false] at hu; rcases hu with rfl | rfl | rfl | rfl | rfl | rfl | rfl <;> rfl) ?mn2b1 ?mn2b2 ?mn2b3
            case mn2b1 => have := HG.out.ln; simp only [maxLen]; omega
            case mn2b2 => have := HG.out.ln; omega
            case mn2b3 =>
              intro A' N c' w7 hN ho7 _ hf7 hs7
              subst hN
              have hrow := row_on (A := A) (n := ys.length) (c := c) HG.out.row HP.out hm F5.out HAL.out hf7 HG.out.own
              obtain ⟨q0, q1, q2, q3, q4, q5, q6, qz, ql⟩ := seven_cells hrow
              have FW := Lib.hid (l_fr (v := .slice A' (ys.length + 1) c') HFR.out F5.out HAL.out hf7 HG.out.own)
              have hst := lbad_step (n' := ys.length + 1) (A' := A') (c' := c') HG.out hm F5.out HR5.out HDC.out HLN.out HSH.out HAL.out hf7
              have HST := Lib.hid hst
              clear hst ho7 hf7 hs7 hrow
              go_simp
              refine hK _ _ ?_
              clear hK K
              first | refine wpX_pu rfl rfl rfl (by first | exact pu_move rfl | exact pu_assign rfl | exact pu_nilCheck rfl rfl | exact pu_binInt rfl rfl rfl | exact pu_conv rfl rfl (by kernel_rfl) | exact pu_fld rfl (by kernel_rfl) | exact pu_ix rfl rfl rfl (by kernel_rfl) | exact pu_unOp rfl | exact pu_binStr rfl rfl rfl | exact pu_len rfl rfl | exact pu_lens rfl rfl | exact pu_pick rfl | exact pu_slice rfl rfl) (fun K hK => ?_) | refine wpX_rd rfl rfl rfl (rd_load rfl) (fun K hK => ?_) | refine wpX_gr rfl rfl rfl (by first | exact gr_buildSlice rfl | exact gr_box rfl | exact gr_alloc rfl) (fun K hK => ?_) | refine wpX_ex rfl rfl rfl (fun K hK => ?_)
              try go_wp2
              refine wpX_ex rfl rfl rfl (fun K hK => ?_)
              go_simp
              refine hK _ _ ?_
              clear hK K
              refine wpX_done ?_
              go_wp2
              go_roundw
              case rel => (repeat apply Exists.intro); exact ⟨⟨FW.out, .inr ⟨s2, A', _, c', HST.out⟩⟩, rfl⟩
              case measure => have h1 := HST.out.rd.M; have h2 := HG.out.rd.M; have h3 := HLN.out; simp only [if_true, Bool.false_eq_true, if_false, List.length_nil] at h1 h2 h3; omega
      | cons c0 s =>
        have hdc : ∃ b o, RA = some ⟨b, o, none⟩ ∧ wr.cell? ⟨b, o, none⟩ = some (.int .u8 c0.toNat) := by
          obtain ⟨b, o, h1, h2⟩ := hsl.byte 0 (by simp)
          exact ⟨b, o, h1, h2⟩
        obtain ⟨b, o, rfl, hcd⟩ := hdc
        simp only [List.length_cons] at y0
        by_cases hc1 : c0 = 1
        · subst hc1
          clear hsl
          go_wp2_with fail
          refine (rnext_any m p _ (1 :: s) false HG.out.rd (by have := HG.out.ln; omega)).mono ?_
          rintro e w5 ⟨rfl, h5, f5⟩
          have hb5 := f5.heap HG.out.row (fun h => hne h)
          obtain ⟨q0, q1, q2, q3, q4, q5, q6, qz, ql⟩ := seven_cells hb5
          have hye : ∀ y ∈ ys, Tr.Own w5 y := fun y hy => (HG.out.each y hy).kept f5 (fun k hk h => by have := (HG.out.yn y hy k hk).1; have h1 := HP.out; have h : k = p := h; omega)
          have how := HG.out.ow.kept f5 (fun k hk h => by have := HG.out.own k hk; have h1 := HP.out; have h : k = p := h; omega)
          have hdl : decL (dec d) (r.length + 1) r = some (ys.map bare, s) := by
            obtain ⟨n, hn, hdl⟩ := HG.out.dl
            cases n with
            | zero => omega
            | succ n => rw [hdl, decL_one]; simp
          have HB5 := Lib.hid hb5; have HR5 := Lib.hid h5; have F5 := Lib.hid (HFR.out.trans f5 (fun _ _ h => h)); have HYE := Lib.hid hye; have HOW := Lib.hid how; have HDL := Lib.hid hdl
          clear hb5 h5 f5 hye how hdl
          go_wp2
          have hp0 := Fr.refl (fun k => k = w.heap.size) w5
          have hset := set7_row (a := .int .u8 6) (b := .bool false) (c := .int .i64 0) (d := .string ⟨#[]⟩) (e := .slice none 0 0) (f := .slice A ys.length c) (h := .slice none 0 0) HB5.out
          have hsf := hp0.trans (set7_fr _ w.heap.size (.int .u8 6) (.bool false) (.int .i64 0) (.string ⟨#[]⟩) (.slice none 0 0) (.slice A ys.length c) (.slice none 0 0)) (fun _ _ h => h)
          unfold set7 at hset hsf
          refine bodyPost_ret (results_cell_row (P := Tryd.prog) rfl _ _ w.heap.size 33 _ (0, 0) _ rfl hset Tryd.underlying33 rfl (by kernel_rfl)) rfl ?_
          exact val_fin (x := .mk 6 false 0 [] [] (.slice none 0 0, .slice A ys.length c, .slice none 0 0) ys []) (by rw [dec96, HDL.out, bare_eq]; rfl) (own_list HOW.out HYE.out HG.out.pw (fun y hy k hk => (HG.out.yn y hy k hk).2) _ _ _) (fun k hk => by
            rcases blk_list hk with h | ⟨y, hy, h⟩
            · exact HG.out.own k h
            · exact (HG.out.yn y hy k h).1) HR5.out F5.out hsf hm (by have := HG.out.ln; simp only [List.length_cons, List.tail_cons] at this ⊢; omega)
        · have gc : ((c0.toNat : Int) != 1) = true := by
            rw [bne_iff_ne]; intro h; exact hc1 (UInt8.toNat_inj.1 (show c0.toNat = (1 : UInt8).toNat from by have : (1 : UInt8).toNat = 1 := rfl; omega))
          have hcall := IHH.out wr.drew (c0 :: s) (HG.out.rd.kept0 (Fr.drew (Fr.refl no wr))) (show m ≤ wr.heap.size by have := HG.out.lt; omega) (by have := HG.out.ln; omega)
          have hsh : (c0 :: s).head? ≠ some 1 := by simpa using hc1
          have HC := Lib.hid hcall; have HSH := Lib.hid hsh
          clear hcall hsh hsl hc1
          go_wp2_with fail
          refine wp_region_fork anyW (.fork [0, 2, 3, 4] (.lin [1, 5, 6, 7, 8, 9]) (.lin [5, 1, 6, 7, 8, 9])) (fun i => [Kd.p, Kd.l, Kd.p, Kd.p, Kd.p, Kd.e, Kd.g, Kd.e, Kd.p, Kd.e].getD i .e) (by kernel_rfl) (by kernel_rfl) True.intro (wpB_fork ?_)
          iterate 4
            first | refine wpX_pu rfl rfl rfl (by first | exact pu_move rfl | exact pu_assign rfl | exact pu_nilCheck rfl rfl | exact pu_binInt rfl rfl rfl | exact pu_conv rfl rfl (by kernel_rfl) | exact pu_fld rfl (by kernel_rfl) | exact pu_ix rfl rfl rfl (by kernel_rfl) | exact pu_unOp rfl | exact pu_binStr rfl rfl rfl | exact pu_len rfl rfl | exact pu_lens rfl rfl | exact pu_pick rfl | exact pu_slice rfl rfl) (fun K hK => ?_) | refine wpX_rd rfl rfl rfl (rd_load rfl) (fun K hK => ?_) | refine wpX_gr rfl rfl rfl (by first | exact gr_buildSlice rfl | exact gr_box rfl | exact gr_alloc rfl) (fun K hK => ?_) | refine wpX_ex rfl rfl rfl (fun K hK => ?_)
            try go_wp2
          refine wpX_fork (wpB_lin ?_) (wpB_lin ?_)
          · skip
            first | refine wpX_pu rfl rfl rfl (by first | exact pu_move rfl | exact pu_assign rfl | exact pu_nilCheck rfl rfl | exact pu_binInt rfl rfl rfl | exact pu_conv rfl rfl (by kernel_rfl) | exact pu_fld rfl (by kernel_rfl) | exact pu_ix rfl rfl rfl (by kernel_rfl) | exact pu_unOp rfl | exact pu_binStr rfl rfl rfl | exact pu_len rfl rfl | exact pu_lens rfl rfl | exact pu_pick rfl | exact pu_slice rfl rfl) (fun K hK => ?_) | refine wpX_rd rfl rfl rfl (rd_load rfl) (fun K hK => ?_) | refine wpX_gr rfl rfl rfl (by first | exact gr_buildSlice rfl | exact gr_box rfl | exact gr_alloc rfl) (fun K hK => ?_) | refine wpX_ex rfl rfl rfl (fun K hK => ?_)
            try go_wp2
            refine wpX_ex rfl rfl rfl (fun K hK => ?_)
            go_wp2_with fail
            refine HC.out.mono ?_
            rintro e w5 ⟨f5, ⟨y, s2, hdc, rfl, hoy, hby, hr5, hln⟩ | ⟨hdc, ⟨jk, jb, ji, jt, JB, jbn, jbc, JL, jln, jlc, JF, jfn, jfc, rfl⟩, s2, hr5, hln⟩⟩
            · skip
              have f5 := (Fr.drew (Fr.refl (At p) wr)).trans f5 (fun _ _ h => h)
              have how5 := HG.out.ow.kept f5 (fun k hk h => by have := HG.out.own k hk; have h1 := HP.out; have h : k = p := h; omega)
              have hb5 := f5.heap HG.out.row (fun h => hne h)
              obtain ⟨q0, q1, q2, q3, q4, q5, q6, qz, ql⟩ := seven_cells hb5
              have hgy := own_good_of (N := 1000000001) (by omega) y (dec_some d _ _ _ hdc).2.1 (dec_some d _ _ _ hdc).2.2.1 (by have h1 := congrArg List.length (dec_some d _ _ _ hdc).1; have h2 := HG.out.ln; simp only [List.length_append] at h1 h2; omega) hoy
              obtain ⟨YB, yb, YL, yl, YF, yf, hfy⟩ := hgy.node.forms
              rw [hfy.agg]
              have hyc : y.cells = [.int .u8 y.k.toNat, .bool y.b, .int .i64 y.i, .string ⟨y.t.toArray⟩, .slice YB y.bs.length yb, .slice YL y.l.length yl, .slice YF y.f.length yf] := by unfold cells; rw [hfy.B, hfy.L, hfy.F]
              have HOY := Lib.hid hoy; have HBY := Lib.hid hby; have HYC := Lib.hid hyc
              clear hoy hby hyc hfy hgy
              have F5 := Lib.hid f5; have HOW5 := Lib.hid how5; have HR5 := Lib.hid hr5; have HDC := Lib.hid hdc; have HLN := Lib.hid hln
              clear f5 how5 hb5 hr5 hdc hln
              go_simp
              refine hK _ _ ?_
              clear hK K
              first | refine wpX_pu rfl rfl rfl (by first | exact pu_move rfl | exact pu_assign rfl | exact pu_nilCheck rfl rfl | exact pu_binInt rfl rfl rfl | exact pu_conv rfl rfl (by kernel_rfl) | exact pu_fld rfl (by kernel_rfl) | exact pu_ix rfl rfl rfl (by kernel_rfl) | exact pu_unOp rfl | exact pu_binStr rfl rfl rfl | exact pu_len rfl rfl | exact pu_lens rfl rfl | exact pu_pick rfl | exact pu_slice rfl rfl) (fun K hK => ?_) | refine wpX_rd rfl rfl rfl (rd_load rfl) (fun K hK => ?_) | refine wpX_gr rfl rfl rfl (by first | exact gr_buildSlice rfl | exact gr_box rfl | exact gr_alloc rfl) (fun K hK => ?_) | refine wpX_ex rfl rfl rfl (fun K hK => ?_)
              try go_wp2
              refine wpX_ex rfl rfl rfl (fun K hK => ?_)
              have hal := (Fr.refl no w5).alloc (.cells #[.int .u8 y.k.toNat, .bool y.b, .int .i64 y.i, .string ⟨y.t.toArray⟩, .slice YB y.bs.length yb, .slice YL y.l.length yl, .slice YF y.f.length yf] 33)
              have HAL := Lib.hid hal; clear hal
              refine wp_apo (n := ys.length) (xs := ys.flatMap cells) (m := 1) (news := [.int .u8 y.k.toNat, .bool y.b, .int .i64 y.i, .string ⟨y.t.toArray⟩, .slice YB y.bs.length yb, .slice YL y.l.length yl, .slice YF y.f.length yf]) (.tmp 84) (.tmp 89) 25 rfl tbV (HOW5.out.kept0 HAL.out) (built7 w5 (.int .u8 y.k.toNat) (.bool y.b) (.int .i64 y.i) (.string ⟨y.t.toArray⟩) (.slice YB y.bs.length yb) (.slice YL y.l.length yl) (.slice YF y.f.length yf) 33) rfl rfl (by intro u hu; simp only [List.mem_cons, List.not_mem_nil, or_false] at hu; rcases hu with rfl | rfl | rfl | rfl | rfl | rfl | rfl <;> rfl) ?mc1g1 ?mc1g2 ?mc1g3
              case mc1g1 => have := HG.out.ln; simp only [maxLen]; omega
              case mc1g2 => have := HG.out.ln; omega
              case mc1g3 =>
                intro A' N c' w7 hN ho7 _ hf7 hs7
                subst hN
                have hrow := row_on (A := A) (n := ys.length) (c := c) HG.out.row HP.out hm F5.out HAL.out hf7 HG.out.own
                obtain ⟨q0, q1, q2, q3, q4, q5, q6, qz, ql⟩ := seven_cells hrow
                have FW := Lib.hid (l_fr (v := .slice A' (ys.length + 1) c') HFR.out F5.out HAL.out hf7 HG.out.own)
                have hst := lgood_step HG.out hm F5.out HOY.out (show ∀ k, Blk y k → wr.heap.size ≤ k from HBY.out) HR5.out HDC.out HLN.out HSH.out HAL.out (by rw [HYC.out]; exact ho7) hf7 hs7
                have HST := Lib.hid hst
                clear hst ho7 hf7 hs7 hrow
                go_simp
                refine hK _ _ ?_
                clear hK K
                first | refine wpX_pu rfl rfl rfl (by first | exact pu_move rfl | exact pu_assign rfl | exact pu_nilCheck rfl rfl | exact pu_binInt rfl rfl rfl | exact pu_conv rfl rfl (by kernel_rfl) | exact pu_fld rfl (by kernel_rfl) | exact pu_ix rfl rfl rfl (by kernel_rfl) | exact pu_unOp rfl | exact pu_binStr rfl rfl rfl | exact pu_len rfl rfl | exact pu_lens rfl rfl | exact pu_pick rfl | exact pu_slice rfl rfl) (fun K hK => ?_) | refine wpX_rd rfl rfl rfl (rd_load rfl) (fun K hK => ?_) | refine wpX_gr rfl rfl rfl (by first | exact gr_buildSlice rfl | exact gr_box rfl | exact gr_alloc rfl) (fun K hK => ?_) | refine wpX_ex rfl rfl rfl (fun K hK => ?_)
                try go_wp2
                refine wpX_ex rfl rfl rfl (fun K hK => ?_)
                go_simp
                refine hK _ _ ?_
                clear hK K
                refine wpX_done ?_
                go_wp2
                go_roundw
                case rel => (repeat apply Exists.intro); exact ⟨⟨FW.out, .inl ⟨ys ++ [y], s2, A', c', HST.out⟩⟩, rfl⟩
                case measure => have h1 := HST.out.rd.M; have h2 := HG.out.rd.M; have h3 := HLN.out; simp only [Bool.false_eq_true, if_false, List.length_cons] at h1 h2 h3; omega
            · skip
              have f5 := (Fr.drew (Fr.refl (At p) wr)).trans f5 (fun _ _ h => h)
              have how5 := HG.out.ow.kept f5 (fun k hk h => by have := HG.out.own k hk; have h1 := HP.out; have h : k = p := h; omega)
              have hb5 := f5.heap HG.out.row (fun h => hne h)
              obtain ⟨q0, q1, q2, q3, q4, q5, q6, qz, ql⟩ := seven_cells hb5
              have F5 := Lib.hid f5; have HOW5 := Lib.hid how5; have HR5 := Lib.hid hr5; have HDC := Lib.hid hdc; have HLN := Lib.hid hln
              clear f5 how5 hb5 hr5 hdc hln
              go_simp
              refine hK _ _ ?_
              clear hK K
              first | refine wpX_pu rfl rfl rfl (by first | exact pu_move rfl | exact pu_assign rfl | exact pu_nilCheck rfl rfl | exact pu_binInt rfl rfl rfl | exact pu_conv rfl rfl (by kernel_rfl) | exact pu_fld rfl (by kernel_rfl) | exact pu_ix rfl rfl rfl (by kernel_rfl) | exact pu_unOp rfl | exact pu_binStr rfl rfl rfl | exact pu_len rfl rfl | exact pu_lens rfl rfl | exact pu_pick rfl | exact pu_slice rfl rfl) (fun K hK => ?_) | refine wpX_rd rfl rfl rfl (rd_load rfl) (fun K hK => ?_) | refine wpX_gr rfl rfl rfl (by first | exact gr_buildSlice rfl | exact gr_box rfl | exact gr_alloc rfl) (fun K hK => ?_) | refine wpX_ex rfl rfl rfl (fun K hK => ?_)
              try go_wp2
              refine wpX_ex rfl rfl rfl (fun K hK => ?_)
              have hal := (Fr.refl no w5).alloc (.cells #[.int .u8 jk, .bool jb, .int .i64 ji, .string jt, .slice JB jbn jbc, .slice JL jln jlc, .slice JF jfn jfc] 33)
              have HAL := Lib.hid hal; clear hal
              refine wp_apo (n := ys.length) (xs := ys.flatMap cells) (m := 1) (news := [.int .u8 jk, .bool jb, .int .i64 ji, .string jt, .slice JB jbn jbc, .slice JL jln jlc, .slice JF jfn jfc]) (.tmp 84) (.tmp 89) 25 rfl tbV (HOW5.out.kept0 HAL.out) (built7 w5 (.int .u8 jk) (.bool jb) (.int .i64 ji) (.string jt) (.slice JB jbn jbc) (.slice JL jln jlc) (.slice JF jfn jfc) 33) rfl rfl (by intro u hu; simp only [List.mem_cons, List.not_mem_nil, or_false] at hu; rcases hu with rfl | rfl | rfl | rfl | rfl | rfl | rfl <;> rfl) ?mc1b1 ?mc1b2 ?mc1b3
              case mc1b1 => have := HG.out.ln; simp only [maxLen]; omega
              case mc1b2 => have := HG.out.ln; omega
              case mc1b3 =>
                intro A' N c' w7 hN ho7 _ hf7 hs7
                subst hN
                have hrow := row_on (A := A) (n := ys.length) (c := c) HG.out.row HP.out hm F5.out HAL.out hf7 HG.out.own
                obtain ⟨q0, q1, q2, q3, q4, q5, q6, qz, ql⟩ := seven_cells hrow
                have FW := Lib.hid (l_fr (v := .slice A' (ys.length + 1) c') HFR.out F5.out HAL.out hf7 HG.out.own)
                have hst := lbad_step (n' := ys.length + 1) (A' := A') (c' := c') HG.out hm F5.out HR5.out HDC.out HLN.out HSH.out HAL.out hf7
                have HST := Lib.hid hst
                clear hst ho7 hf7 hs7 hrow
                go_simp
                refine hK _ _ ?_
                clear hK K
                first | refine wpX_pu rfl rfl rfl (by first | exact pu_move rfl | exact pu_assign rfl | exact pu_nilCheck rfl rfl | exact pu_binInt rfl rfl rfl | exact pu_conv rfl rfl (by kernel_rfl) | exact pu_fld rfl (by kernel_rfl) | exact pu_ix rfl rfl rfl (by kernel_rfl) | exact pu_unOp rfl | exact pu_binStr rfl rfl rfl | exact pu_len rfl rfl | exact pu_lens rfl rfl | exact pu_pick rfl | exact pu_slice rfl rfl) (fun K hK => ?_) | refine wpX_rd rfl rfl rfl (rd_load rfl) (fun K hK => ?_) | refine wpX_gr rfl rfl rfl (by first | exact gr_buildSlice rfl | exact gr_box rfl | exact gr_alloc rfl) (fun K hK => ?_) | refine wpX_ex rfl rfl rfl (fun K hK => ?_)
                try go_wp2
                refine wpX_ex rfl rfl rfl (fun K hK => ?_)
                go_simp
                refine hK _ _ ?_
                clear hK K
                refine wpX_done ?_
                go_wp2
                go_roundw
                case rel => (repeat apply Exists.intro); exact ⟨⟨FW.out, .inr ⟨s2, A', _, c', HST.out⟩⟩, rfl⟩
                case measure => have h1 := HST.out.rd.M; have h2 := HG.out.rd.M; have h3 := HLN.out; simp only [if_true, Bool.false_eq_true, if_false, List.length_cons] at h1 h2 h3; omega
          · skip
            refine wpX_ex rfl rfl rfl (fun K hK => ?_)
            go_wp2_with fail
            refine HC.out.mono ?_
            rintro e w5 ⟨f5, ⟨y, s2, hdc, rfl, hoy, hby, hr5, hln⟩ | ⟨hdc, ⟨jk, jb, ji, jt, JB, jbn, jbc, JL, jln, jlc, JF, jfn, jfc, rfl⟩, s2, hr5, hln⟩⟩
            · skip
              have f5 := (Fr.drew (Fr.refl (At p) wr)).trans f5 (fun _ _ h => h)
              have how5 := HG.out.ow.kept f5 (fun k hk h => by have := HG.out.own k hk; have h1 := HP.out; have h : k = p := h; omega)
              have hb5 := f5.heap HG.out.row (fun h => hne h)
              obtain ⟨q0, q1, q2, q3, q4, q5, q6, qz, ql⟩ := seven_cells hb5
              have hgy := own_good_of (N := 1000000001) (by omega) y (dec_some d _ _ _ hdc).2.1 (dec_some d _ _ _ hdc).2.2.1 (by have h1 := congrArg List.length (dec_some d _ _ _ hdc).1; have h2 := HG.out.ln; simp only [List.length_append] at h1 h2; omega) hoy
              obtain ⟨YB, yb, YL, yl, YF, yf, hfy⟩ := hgy.node.forms
              rw [hfy.agg]
              have hyc : y.cells = [.int .u8 y.k.toNat, .bool y.b, .int .i64 y.i, .string ⟨y.t.toArray⟩, .slice YB y.bs.length yb, .slice YL y.l.length yl, .slice YF y.f.length yf] := by unfold cells; rw [hfy.B, hfy.L, hfy.F]
              have HOY := Lib.hid hoy; have HBY := Lib.hid hby; have HYC := Lib.hid hyc
              clear hoy hby hyc hfy hgy
              have F5 := Lib.hid f5; have HOW5 := Lib.hid how5; have HR5 := Lib.hid hr5; have HDC := Lib.hid hdc; have HLN := Lib.hid hln
              clear f5 how5 hb5 hr5 hdc hln
              go_simp
              refine hK _ _ ?_
              clear hK K
              first | refine wpX_pu rfl rfl rfl (by first | exact pu_move rfl | exact pu_assign rfl | exact pu_nilCheck rfl rfl | exact pu_binInt rfl rfl rfl | exact pu_conv rfl rfl (by kernel_rfl) | exact pu_fld rfl (by kernel_rfl) | exact pu_ix rfl rfl rfl (by kernel_rfl) | exact pu_unOp rfl | exact pu_binStr rfl rfl rfl | exact pu_len rfl rfl | exact pu_lens rfl rfl | exact pu_pick rfl | exact pu_slice rfl rfl) (fun K hK => ?_) | refine wpX_rd rfl rfl rfl (rd_load rfl) (fun K hK => ?_) | refine wpX_gr rfl rfl rfl (by first | exact gr_buildSlice rfl | exact gr_box rfl | exact gr_alloc rfl) (fun K hK => ?_) | refine wpX_ex rfl rfl rfl (fun K hK => ?_)
              try go_wp2
              first | refine wpX_pu rfl rfl rfl (by first | exact pu_move rfl | exact pu_assign rfl | exact pu_nilCheck rfl rfl | exact pu_binInt rfl rfl rfl | exact pu_conv rfl rfl (by kernel_rfl) | exact pu_fld rfl (by kernel_rfl) | exact pu_ix rfl rfl rfl (by kernel_rfl) | exact pu_unOp rfl | exact pu_binStr rfl rfl rfl | exact pu_len rfl rfl | exact pu_lens rfl rfl | exact pu_pick rfl | exact pu_slice rfl rfl) (fun K hK => ?_) | refine wpX_rd rfl rfl rfl (rd_load rfl) (fun K hK => ?_) | refine wpX_gr rfl rfl rfl (by first | exact gr_buildSlice rfl | exact gr_box rfl | exact gr_alloc rfl) (fun K hK => ?_) | refine wpX_ex rfl rfl rfl (fun K hK => ?_)
              try go_wp2
              refine wpX_ex rfl rfl rfl (fun K hK => ?_)
              have hal := (Fr.refl no w5).alloc (.cells #[.int .u8 y.k.toNat, .bool y.b, .int .i64 y.i, .string ⟨y.t.toArray⟩, .slice YB y.bs.length yb, .slice YL y.l.length yl, .slice YF y.f.length yf] 33)
              have HAL := Lib.hid hal; clear hal
              refine wp_apo (n := ys.length) (xs := ys.flatMap cells) (m := 1) (news := [.int .u8 y.k.toNat, .bool y.b, .int .i64 y.i, .string ⟨y.t.toArray⟩, .slice YB y.bs.length yb, .slice YL y.l.length yl, .slice YF y.f.length yf]) (.tmp 84) (.tmp 89) 25 rfl tbV (HOW5.out.kept0 HAL.out) (built7 w5 (.int .u8 y.k.toNat) (.bool y.b) (.int .i64 y.i) (.string ⟨y.t.toArray⟩) (.slice YB y.bs.length yb) (.slice YL y.l.length yl) (.slice YF y.f.length yf) 33) rfl rfl (by intro u hu; simp only [List.mem_cons, List.not_mem_nil, or_false] at hu; rcases hu with rfl | rfl | rfl | rfl | rfl | rfl | rfl <;> rfl) ?mc2g1 ?mc2g2 ?mc2g3
              case mc2g1 => have := HG.out.ln; simp only [maxLen]; omega
              case mc2g2 => have := HG.out.ln; omega
              case mc2g3 =>
                intro A' N c' w7 hN ho7 _ hf7 hs7
                subst hN
                have hrow := row_on (A := A) (n := ys.length) (c := c) HG.out.row HP.out hm F5.out HAL.out hf7 HG.out.own
                obtain ⟨q0, q1, q2, q3, q4, q5, q6, qz, ql⟩ := seven_cells hrow
                have FW := Lib.hid (l_fr (v := .slice A' (ys.length + 1) c') HFR.out F5.out HAL.out hf7 HG.out.own)
                have hst := lgood_step HG.out hm F5.out HOY.out (show ∀ k, Blk y k → wr.heap.size ≤ k from HBY.out) HR5.out HDC.out HLN.out HSH.out HAL.out (by rw [HYC.out]; exact ho7) hf7 hs7
                have HST := Lib.hid hst
                clear hst ho7 hf7 hs7 hrow
                go_simp
                refine hK _ _ ?_
                clear hK K
                first | refine wpX_pu rfl rfl rfl (by first | exact pu_move rfl | exact pu_assign rfl | exact pu_nilCheck rfl rfl | exact pu_binInt rfl rfl rfl | exact pu_conv rfl rfl (by kernel_rfl) | exact pu_fld rfl (by kernel_rfl) | exact pu_ix rfl rfl rfl (by kernel_rfl) | exact pu_unOp rfl | exact pu_binStr rfl rfl rfl | exact pu_len rfl rfl | exact pu_lens rfl rfl | exact pu_pick rfl | exact pu_slice rfl rfl) (fun K hK => ?_) | refine wpX_rd rfl rfl rfl (rd_load rfl) (fun K hK => ?_) | refine wpX_gr rfl rfl rfl (by first | exact gr_buildSlice rfl | exact gr_box rfl | exact gr_alloc rfl) (fun K hK => ?_) | refine wpX_ex rfl rfl rfl (fun K hK => ?_)
                try go_wp2
                refine wpX_ex rfl rfl rfl (fun K hK => ?_)
                go_simp
                refine hK _ _ ?_
                clear hK K
                refine wpX_done ?_
                go_wp2
                go_roundw
                case rel => (repeat apply Exists.intro); exact ⟨⟨FW.out, .inl ⟨ys ++ [y], s2, A', c', HST.out⟩⟩, rfl⟩
                case measure => have h1 := HST.out.rd.M; have h2 := HG.out.rd.M; have h3 := HLN.out; simp only [Bool.false_eq_true, if_false, List.length_cons] at h1 h2 h3; omega
            · skip
              have f5 := (Fr.drew (Fr.refl (At p) wr)).trans f5 (fun _ _ h => h)
              have how5 := HG.out.ow.kept f5 (fun k hk h => by have := HG.out.own k hk; have h1 := HP.out; have h : k = p := h; omega)
              have hb5 := f5.heap HG.out.row (fun h => hne h)
              obtain ⟨q0, q1, q2, q3, q4, q5, q6, qz, ql⟩ := seven_cells hb5
              have F5 := Lib.hid f5; have HOW5 := Lib.hid how5; have HR5 := Lib.hid hr5; have HDC := Lib.hid hdc; have HLN := Lib.hid hln
              clear f5 how5 hb5 hr5 hdc hln
              go_simp
              refine hK _ _ ?_
              clear hK K
              first | refine wpX_pu rfl rfl rfl (by first | exact pu_move rfl | exact pu_assign rfl | exact pu_nilCheck rfl rfl | exact pu_binInt rfl rfl rfl | exact pu_conv rfl rfl (by kernel_rfl) | exact pu_fld rfl (by kernel_rfl) | exact pu_ix rfl rfl rfl (by kernel_rfl) | exact pu_unOp rfl | exact pu_binStr rfl rfl rfl | exact pu_len rfl rfl | exact pu_lens rfl rfl | exact pu_pick rfl | exact pu_slice rfl rfl) (fun K hK => ?_) | refine wpX_rd rfl rfl rfl (rd_load rfl) (fun K hK => ?_) | refine wpX_gr rfl rfl rfl (by first | exact gr_buildSlice rfl | exact gr_box rfl | exact gr_alloc rfl) (fun K hK => ?_) | refine wpX_ex rfl rfl rfl (fun K hK => ?_)
              try go_wp2
              first | refine wpX_pu rfl rfl rfl (by first | exact pu_move rfl | exact pu_assign rfl | exact pu_nilCheck rfl rfl | exact pu_binInt rfl rfl rfl | exact pu_conv rfl rfl (by kernel_rfl) | exact pu_fld rfl (by kernel_rfl) | exact pu_ix rfl rfl rfl (by kernel_rfl) | exact pu_unOp rfl | exact pu_binStr rfl rfl rfl | exact pu_len rfl rfl | exact pu_lens rfl rfl | exact pu_pick rfl | exact pu_slice rfl rfl) (fun K hK => ?_) | refine wpX_rd rfl rfl rfl (rd_load rfl) (fun K hK => ?_) | refine wpX_gr rfl rfl rfl (by first | exact gr_buildSlice rfl | exact gr_box rfl | exact gr_alloc rfl) (fun K hK => ?_) | refine wpX_ex rfl rfl rfl (fun K hK => ?_)
              try go_wp2
              refine wpX_ex rfl rfl rfl (fun K hK => ?_)
              have hal := (Fr.refl no w5).alloc (.cells #[.int .u8 jk, .bool jb, .int .i64 ji, .string jt, .slice JB jbn jbc, .slice JL jln jlc, .slice JF jfn jfc] 33)
              have HAL := Lib.hid hal; clear hal
              refine wp_apo (n := ys.length) (xs := ys.flatMap cells) (m := 1) (news := [.int .u8 jk, .bool jb, .int .i64 ji, .string jt, .slice JB jbn jbc, .slice JL jln jlc, .slice JF jfn jfc]) (.tmp 84) (.tmp 89) 25 rfl tbV (HOW5.out.kept0 HAL.out) (built7 w5 (.int .u8 jk) (.bool jb) (.int .i64 ji) (.string jt) (.slice JB jbn jbc) (.slice JL jln jlc) (.slice JF jfn jfc) 33) rfl rfl (by intro u hu; simp only [List.mem_cons, List.not_mem_nil, or_false] at hu; rcases hu with rfl | rfl | rfl | rfl | rfl | rfl | rfl <;> rfl) ?mc2b1 ?mc2b2 ?mc2b3
              case mc2b1 => have := HG.out.ln; simp only [maxLen]; omega
              case mc2b2 => have := HG.out.ln; omega
              case mc2b3 =>
                intro A' N c' w7 hN ho7 _ hf7 hs7
                subst hN
                have hrow := row_on (A := A) (n := ys.length) (c := c) HG.out.row HP.out hm F5.out HAL.out hf7 HG.out.own
                obtain ⟨q0, q1, q2, q3, q4, q5, q6, qz, ql⟩ := seven_cells hrow
                have FW := Lib.hid (l_fr (v := .slice A' (ys.length + 1) c') HFR.out F5.out HAL.out hf7 HG.out.own)
                have hst := lbad_step (n' := ys.length + 1) (A' := A') (c' := c') HG.out hm F5.out HR5.out HDC.out HLN.out HSH.out HAL.out hf7
                have HST := Lib.hid hst
                clear hst ho7 hf7 hs7 hrow
                go_simp
                refine hK _ _ ?_
                clear hK K
                first | refine wpX_pu rfl rfl rfl (by first | exact pu_move rfl | exact pu_assign rfl | exact pu_nilCheck rfl rfl | exact pu_binInt rfl rfl rfl | exact pu_conv rfl rfl (by kernel_rfl) | exact pu_fld rfl (by kernel_rfl) | exact pu_ix rfl rfl rfl (by kernel_rfl) | exact pu_unOp rfl | exact pu_binStr rfl rfl rfl | exact pu_len rfl rfl | exact pu_lens rfl rfl | exact pu_pick rfl | exact pu_slice rfl rfl) (fun K hK => ?_) | refine wpX_rd rfl rfl rfl (rd_load rfl) (fun K hK => ?_) | refine wpX_gr rfl rfl rfl (by first | exact gr_buildSlice rfl | exact gr_box rfl | exact gr_alloc rfl) (fun K hK => ?_) | refine wpX_ex rfl rfl rfl (fun K hK => ?_)
                try go_wp2
                refine wpX_ex rfl rfl rfl (fun K hK => ?_)
                go_simp
                refine hK _ _ ?_
                clear hK K
                refine wpX_done ?_
                go_wp2
                go_roundw
                case rel => (repeat apply Exists.intro); exact ⟨⟨FW.out, .inr ⟨s2, A', _, c', HST.out⟩⟩, rfl⟩
                case measure => have h1 := HST.out.rd.M; have h2 := HG.out.rd.M; have h3 := HLN.out; simp only [if_true, Bool.false_eq_true, if_false, List.length_cons] at h1 h2 h3; omega
    · obtain ⟨q0, q1, q2, q3, q4, q5, q6, qz, ql⟩ := seven_cells hb.row
      obtain ⟨y1, yz, yb⟩ := hb.rd.cells
      have HFR := Lib.hid hfr; have HBD := Lib.hid hb
      clear hfr hb
      go_wp2_with fail
      refine (rnext_any m p _ s true HBD.out.rd (by have := HBD.out.ln; omega)).mono ?_
      rintro e w5 ⟨rfl, h5, f5⟩
      have hb5 := f5.heap HBD.out.row (fun h => hne h)
      obtain ⟨q0, q1, q2, q3, q4, q5, q6, qz, ql⟩ := seven_cells hb5
      have HB5 := Lib.hid hb5; have HR5 := Lib.hid h5; have F5 := Lib.hid (HFR.out.trans f5 (fun _ _ h => h))
      clear hb5 h5 f5
      go_wp2
      have hp0 := Fr.refl (fun k => k = w.heap.size) w5
      have hset := set7_row (a := .int .u8 6) (b := .bool false) (c := .int .i64 0) (d := .string ⟨#[]⟩) (e := .slice none 0 0) (f := .slice A n c) (h := .slice none 0 0) HB5.out
      have hsf := hp0.trans (set7_fr _ w.heap.size (.int .u8 6) (.bool false) (.int .i64 0) (.string ⟨#[]⟩) (.slice none 0 0) (.slice A n c) (.slice none 0 0)) (fun _ _ h => h)
      unfold set7 at hset hsf
      refine bodyPost_ret (results_cell_row (P := Tryd.prog) rfl _ _ w.heap.size 33 _ (0, 0) _ rfl hset Tryd.underlying33 rfl (by kernel_rfl)) rfl ?_
      exact val_bad_fin (by rw [dec96, HBD.out.dl]; rfl) HR5.out F5.out hsf hm (by have := HBD.out.ln; simp only [List.length_cons, List.length_tail]; omega)

theorem val_any (m p : Nat) : ∀ (d : Nat) (_ : d ≤ 9) (w : World) (l : List UInt8), Rdr m w p l false → m ≤ w.heap.size → l.length ≤ 1000000000 →
    Calls Tryd.prog 35 #[.pointer (some ⟨p, 0, none⟩), .int .i64 (d : Int)] w fun e w' => ValOut d m p w l e w' := by
  intro d
  induction d with
  | zero => intro _ w l h hm hl; exact val_zero m p w l h hm
  | succ d ih =>
    intro hd w l h hm hl
    cases l with
    | nil => exact val_nil d m p w h hm hl
    | cons c r =>
      by_cases h1 : c = 16
      · subst h1; exact val_null d m p w r h hm hl
      by_cases h2 : c = 32
      · subst h2; exact val_no d m p w r h hm hl
      by_cases h3 : c = 33
      · subst h3; exact val_yes d m p w r h hm hl
      by_cases h4 : c = 48
      · subst h4; exact val_int d m p w r h hm hl
      by_cases h5 : c = 64
      · subst h5; exact val_text d m p w r h hm hl
      by_cases h6 : c = 80
      · subst h6; exact val_raw d m p w r h hm hl
      by_cases h7 : c = 96
      · subst h7; exact val_list d m p w (by omega) r (ih (by omega)) h hm hl
      exact val_other d m p w c r ⟨h1, h2, h3, h4, h5, h6, h7⟩ h hm hl
end Go.Proofs.YtgcicljklejmjaaDoor
