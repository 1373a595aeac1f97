/- The writer of package code: what each call of it writes. Conditions: a row of its own, of fewer than 2^31 bytes. -/
import Derived.Test.YtomnhblecnbmaaaProg
import Derived.Test.YtomnhblecnbmaaaMem
import Derived.KernelRfl
import Derived.Lib.Hide
namespace Go.Proofs.Ytomnhblecnbmaaa
open Go.RowKit

theorem tbB : Tb Try.prog 22 5 (.int .u8 0) 1 1 := ⟨by kernel_rfl, by kernel_rfl, rfl, by decide⟩

/-- A writer at block p: what it has written. -/
def Wr (w : World) (p : Nat) (sv : Value) (l : List UInt8) : Prop :=
  w.heap[p]? = some (.cells #[sv] 90 (0, 0)) ∧ w.ownsRow 0 5 1 sv l.length (bvs l) ∧ sv.ownBlock ≠ some p

def Own (p : Nat) (sv : Value) : Nat → Prop := fun k => k = p ∨ sv.ownBlock = some k

/-- From w to w' the writer has written bs. -/
def Wrote (w w' : World) (p : Nat) (sv : Value) (l bs : List UInt8) : Prop :=
  ∃ A n c, Wr w' p (.slice A n c) (l ++ bs) ∧ Fr (Own p sv) w w' ∧ Moved w w' sv (.slice A n c)

theorem one_cells {w : World} {p : Nat} {v : Value} {T : TypeId} (h : w.heap[p]? = some (.cells #[v] T (0, 0))) : w.cell? ⟨p, 0, none⟩ = some v ∧ (∀ o, w.frozen? ⟨p, o, none⟩ = false) ∧ p < w.heap.size := by
  refine ⟨by simp [World.cell?, h], fun o => by simp [World.frozen?, h], (Array.getElem?_eq_some_iff.1 h).1⟩

theorem Wr.wrote {w : World} {p : Nat} {sv : Value} {l : List UInt8} (h : Wr w p sv l) : Wrote w w p sv l [] := by
  obtain ⟨h1, h2, h3⟩ := h
  obtain ⟨A, c, rfl⟩ := own_form h2
  simp only [Wrote, List.append_nil]
  exact ⟨A, _, c, ⟨h1, h2, h3⟩, Fr.refl _ _, Moved.refl _ _⟩

theorem Own.sub {w w1 : World} {p : Nat} {sv v1 : Value} (m : Moved w w1 sv v1) : ∀ k, k < w.heap.size → Own p v1 k → Own p sv k := by
  intro k hk h
  rcases h with h | h
  · exact .inl h
  · rcases m with m | m
    · exact .inr (m ▸ h)
    · have := m k h; omega

theorem Wrote.trans {w w1 w2 : World} {p : Nat} {sv : Value} {l bs cs : List UInt8} {A : Option Addr} {n c : Nat} (f : Fr (Own p sv) w w1) (m : Moved w w1 sv (.slice A n c))
    (h : Wrote w1 w2 p (.slice A n c) (l ++ bs) cs) : Wrote w w2 p sv l (bs ++ cs) := by
  obtain ⟨A', n', c', h1, h2, h3⟩ := h
  rw [List.append_assoc] at h1
  exact ⟨A', n', c', h1, f.trans h2 (Own.sub m), m.trans h3 f.size h2.size⟩

theorem Wr.lt {w : World} {p : Nat} {sv : Value} {l : List UInt8} (h : Wr w p sv l) : p < w.heap.size := (one_cells h.1).2.2

theorem Wr.kept {w w1 : World} {p : Nat} {sv : Value} {l : List UInt8} {S : Nat → Prop} (h : Wr w p sv l) (f : Fr S w w1) (hn : ∀ k, Own p sv k → ¬ S k) : Wr w1 p sv l :=
  ⟨f.heap h.1 (hn p (.inl rfl)), own_kept h.2.1 f fun k hk => hn k (.inr hk), h.2.2⟩

/-- One more append: the row stored back into the writer. -/
theorem Wrote.more {w wr wx w2 : World} {p : Nat} {sv : Value} {l bs cs : List UInt8} {A A' : Option Addr} {n c n' c' N : Nat} (h : Wr wr p (.slice A n c) (l ++ bs)) (f : Fr (Own p sv) w wr) (m : Moved w wr sv (.slice A n c))
    (fx : Fr no wr wx) (ho : w2.ownsRow 0 5 1 (.slice A' n' c') N (bvs (l ++ bs) ++ bvs cs)) (f2 : Fr (fun k => Value.ownBlock (.slice A n c) = some k) wx w2) (m2 : Moved wx w2 (.slice A n c) (.slice A' n' c')) :
    Wrote w (w2.setCell ⟨p, 0, none⟩ (.slice A' n' c')) p sv l (bs ++ cs) := by
  obtain ⟨h1, h2, h3⟩ := h
  rw [← bvs_append, List.append_assoc] at ho
  obtain rfl : N = (l ++ (bs ++ cs)).length := by have := ho.1; rw [bvs_length, Nat.mul_one] at this; exact this.symm
  have hp := (one_cells h1).2.2
  have hne : Value.ownBlock (.slice A' n' c') ≠ some p := m2.not (by have := fx.size; omega) h3
  have g : Fr (fun k => Value.ownBlock (.slice A n c) = some k) wr w2 := (fx.mono (fun _ _ h => h.elim)).trans f2 (fun _ _ h => h)
  have hb : w2.heap[p]? = some (.cells #[.slice A n c] 90 (0, 0)) := g.heap h1 h3
  refine ⟨A', n', c', ⟨?_, own_set ho _ _ (by simpa using hne), hne⟩, ?_, ?_⟩
  · rw [hp_same hb]; simp
  · exact (f.trans g (fun k hk h => Own.sub m k hk (.inr h))).setCell _ _ (fun _ => .inl rfl)
  · exact (m.trans (m2.first fx.size) f.size g.size).later (by simp [World.setCell])

/-- The bytes of a number of so many bytes, the highest first. -/
def fx (v : Nat) : Nat → List UInt8
  | 0 => []
  | k + 1 => UInt8.ofNat (v / 2 ^ (8 * k)) :: fx v k

theorem byte_ofNat (x : Nat) : ([Value.int .u8 ((x : Int) % 256)] : List Value) = bvs [UInt8.ofNat x] := by simp [bvs, Bv]

theorem byte_shr (v e : Nat) : ([Value.int .u8 ((v : Int) / 2 ^ e % 256)] : List Value) = bvs [UInt8.ofNat (v / 2 ^ e)] := by
  rw [← byte_ofNat]; simp

theorem fx_length (v n : Nat) : (fx v n).length = n := by induction n with | zero => rfl | succ n ih => simp [fx, ih]

set_option maxRecDepth 100000 in
set_option maxHeartbeats 400000 in
theorem fixed_any (p : Nat) (w : World) (sv : Value) (l : List UInt8) (v n : Nat) (hn : n ≤ 8) (hw : Wr w p sv l) (hl : l.length ≤ 1000000000) :
    Calls Try.prog 80 #[.pointer (some ⟨p, 0, none⟩), .int .u64 v, .int .i64 n] w fun e w' => e = .returned (.tuple #[]) ∧ Wrote w w' p sv l (fx v n) := by
  go_enter Try.func80, Try.ntmps80
  go_wp2
  go_loopw [2] (fun i wr => ∃ (k : Nat) (d : List UInt8), k ≤ n ∧ i = .int .i64 ((k : Int) - 1) ∧ d ++ fx v k = fx v n ∧ Wrote w wr p sv l d) (fun i _ => (intOf i + 1).toNat)
  case atStart => exact ⟨n, [], Nat.le_refl _, rfl, rfl, hw.wrote⟩
  case round =>
    obtain ⟨k, d, hk, rfl, hd, A, m, c, hwr, hfr, hmv⟩ := hrel
    have hdl : d.length ≤ n := by have := congrArg List.length hd; simp [fx_length] at this; omega
    obtain ⟨hc0, hfz, hps⟩ := one_cells hwr.1
    have HW := Lib.hid hwr; have HD := Lib.hid hd; clear hwr hd
    by_cases hk0 : 0 < k
    · have h1 : (0 : Int) ≤ (k : Int) - 1 := by omega
      go_wp2
      refine wp_region_ord (List.range 15) (fun i => [Kd.p, Kd.p, Kd.p, Kd.p, Kd.l, Kd.p, Kd.p, Kd.p, Kd.p, Kd.p, Kd.g, Kd.e, Kd.e, Kd.e, Kd.e].getD i .e) (by kernel_rfl) (by kernel_rfl) ?_
      iterate 11
        first | refine wpX_pu rfl rfl rfl (by first | exact pu_move rfl | exact pu_assign rfl | exact pu_nilCheck rfl rfl | exact pu_binInt rfl rfl rfl | exact pu_conv rfl rfl (by kernel_rfl) | exact pu_fld rfl (by kernel_rfl) | exact pu_ix rfl rfl rfl (by kernel_rfl) | exact pu_unOp rfl | exact pu_binStr rfl rfl rfl | exact pu_len rfl rfl | exact pu_lens rfl rfl | exact pu_pick rfl | exact pu_slice rfl rfl) (fun K hK => ?_) | refine wpX_rd rfl rfl rfl (rd_load rfl) (fun K hK => ?_) | refine wpX_gr rfl rfl rfl (by first | exact gr_buildSlice rfl | exact gr_box rfl | exact gr_alloc rfl) (fun K hK => ?_) | refine wpX_ex rfl rfl rfl (fun K hK => ?_)
        go_wp2
      refine wpX_ex rfl rfl rfl (fun K hK => ?_)
      refine wp_apx (.tmp 16) (.tmp 22) 22 rfl tbB HW.out.2.1 ?fr ((Sl.built wr _ _).kept0 ((Fr.refl no _).drew)) rfl rfl (by simp [Value.oneCell']) ?b1 ?b2 ?go
      case fr => (repeat first | exact Fr.refl _ _ | apply Fr.drew | apply Fr.alloc)
      case b1 => simp [maxLen]; omega
      case b2 => simp; omega
      case go =>
        intro A' N c' w2 ho hf2 hm2
        have hg : Fr (fun k => Value.ownBlock (.slice A m c) = some k) wr w2 := Fr.trans (S := fun k => Value.ownBlock (.slice A m c) = some k) (by (repeat first | exact Fr.refl _ _ | apply Fr.drew | apply Fr.alloc)) hf2 (fun _ _ h => h)
        have hc1 := hg.cell hc0 HW.out.2.2
        have hf1 := (hg.frozen (a := ⟨p, 0, none⟩) hps HW.out.2.2).trans (hfz 0)
        have HO := Lib.hid ho; have HG := Lib.hid hf2; have HM := Lib.hid hm2; clear ho hf2 hm2 hg
        go_simp
        refine hK _ _ ?_
        clear hK K
        iterate 3
          refine wpX_ex rfl rfl rfl (fun K hK => ?_)
          go_simp
          refine hK _ _ ?_
          clear hK K
        refine wpX_done ?_
        go_wp2
        go_roundw
        case rel =>
          refine ⟨k - 1, d ++ [UInt8.ofNat (v / 2 ^ (8 * (k - 1)))], by omega, by congr 1; omega, ?_, ?_⟩
          · have h := HD.out
            obtain ⟨j, rfl⟩ : ∃ j, k = j + 1 := ⟨k - 1, by omega⟩
            rw [← h]; simp [fx]
          · have ho := HO.out
            rw [byte_shr] at ho
            exact Wrote.more HW.out hfr hmv (by (repeat first | exact Fr.refl _ _ | apply Fr.drew | apply Fr.alloc)) ho HG.out HM.out
        case measure => simp [intOf]; omega
    · have hz : k = 0 := by omega
      subst hz
      go_wp2
      go_end0
      have h := HD.out
      simp [fx] at h
      subst h
      exact ⟨rfl, A, m, c, HW.out, hfr, hmv⟩
end Go.Proofs.Ytomnhblecnbmaaa
