/- slices.Backward at func(): what it hands out. -/
import Derived.Test.YtdnohhlgaaihmaaRange
import Derived.Test.YtdnohhlgaaihmaaUndo
namespace Go.Proofs.Ytdnohhlgaaihmaa
open Go.RowKit Go.Shelf
attribute [local go_sem] Oper.semAt_some

/-- The places and values of a row, from its end on. -/
def backL (vals : List Value) : List (Nat × Value) := (vals.zipIdx.map fun p => (p.2, p.1)).reverse
theorem backL_len (vals : List Value) : (backL vals).length = vals.length := by simp [backL]
theorem backL_at (vals : List Value) (m : Nat) (h : m < vals.length) : ∃ h2 : vals.length - 1 - m < (backL vals).length, (backL vals)[vals.length - 1 - m] = (m, vals[m]) := by
  refine ⟨by rw [backL_len]; omega, ?_⟩
  simp only [backL, List.getElem_reverse, List.getElem_map, List.getElem_zipIdx, List.length_map, List.length_zipIdx, Nat.zero_add]
  have e : vals.length - 1 - (vals.length - 1 - m) = m := by omega
  simp only [e]

def encIV (x : Nat × Value) : Array Value := #[.int .i64 x.1, x.2]
/-- What the rounds must keep: the box of the slice, and its row. -/
def keepB (Bs b : Nat) (W W' : World) : Prop := W'.heap[Bs]? = W.heap[Bs]? ∧ W'.heap[b]? = W.heap[b]?

theorem backwf_any (w : World) (A : Option Addr) (n c : Nat) : Calls Try.prog 70 #[.slice A n c] w fun e w' => e = .returned (.func (.func 131) #[] #[.pointer (some ⟨w.heap.size, 0, none⟩)]) ∧ w' = w.alloc (.cells #[.slice A n c] 110) := by
  go_enter Try.func70, Try.ntmps70
  go_wp2
  go_ret
  exact ⟨rfl, rfl⟩

set_option maxRecDepth 100000 in
set_option maxHeartbeats 4000000 in
theorem backw_iter (n : Nat) (hn : 1 ≤ n) (w : World) (Bs b off len cap : Nat) (vals : List Value) (hl : vals.length = len) (hlen : len ≤ 1000000) (hB : w.heap[Bs]? = some (.cells #[.slice (some ⟨b, off, none⟩) len cap] 110 (0, 0)))
    (hc : ∀ j u, vals[j]? = some u → w.cell? ⟨b, off + j, none⟩ = some u) :
    IterAt n Try.prog 131 #[.pointer (some ⟨Bs, 0, none⟩)] encIV (backL vals) (keepB Bs b) w := by
  intro l J Jx W hW hJ hJx hY h0
  have hBs := hW.heap hB (fun h => h)
  have hcs : ∀ j u, vals[j]? = some u → W.cell? ⟨b, off + j, none⟩ = some u := fun j u hu => hW.cell (hc j u hu) (fun h => h)
  have HL := Lib.hid hl; have HC := Lib.hid hcs; have HBS := Lib.hid hBs; have HY := Lib.hid hY; have HJ := Lib.hid hJ
  clear hl hc hcs hBs hB hY hJ
  obtain ⟨b0, bz, blt⟩ := one_cell HBS.out
  refine callsIn_of_wp Try.func131 rfl trivial ?_ rfl
  simp only [Try.ntmps131, List.size_toArray, List.length_cons, List.length_nil, Nat.reduceAdd, Nat.reduceSub, Array.replicate_succ, Array.replicate_zero, List.push_toArray, List.append_toArray, List.nil_append, List.cons_append]
  gi_wp2
  gi_loopw [3] (fun i wr => ∃ k : Nat, k ≤ len ∧ i = .int .i64 ((k : Int) - 1) ∧ J (len - k) wr ∧ keepB Bs b W wr) (fun i _ => (intOf i + 1).toNat)
  case atStart => exact ⟨len, Nat.le_refl _, rfl, by rw [Nat.sub_self]; exact h0, rfl, rfl⟩
  case round =>
    obtain ⟨k, hk, rfl, hJs, hkp⟩ := hrel
    rcases k with _ | m
    · rw [show (((0 : Nat) : Int) - 1) = -1 from rfl]
      rw [show len - 0 = (backL vals).length by rw [backL_len, HL.out, Nat.sub_zero]] at hJs
      gi_wp2
      go_end0
      exact ⟨⟨_, rfl⟩, .inl hJs⟩
    · rw [show (((m + 1 : Nat) : Int) - 1) = (m : Int) by omega]
      have hm : m < vals.length := by rw [HL.out]; omega
      obtain ⟨h2, e⟩ := backL_at vals m hm
      have hy0 := HY.out (vals.length - 1 - m) h2 wr (by rw [show vals.length - 1 - m = len - (m + 1) by rw [HL.out]; omega]; exact hJs)
      rw [e, show vals.length - 1 - m + 1 = len - m by rw [HL.out]; omega] at hy0
      obtain ⟨fn, tmps, assign, body, hy, hR⟩ := hy0
      have hy : (Instr.yield l #[.int .i64 (m : Int), vals[m]]).run Try.prog wr = .ok (.round l fn tmps assign body) wr := hy
      obtain ⟨b0, bz, blt⟩ := one_cell (hkp.1.trans HBS.out)
      have v0 : wr.cell? ⟨b, off + m, none⟩ = some vals[m] := by
        have := HC.out m vals[m] (List.getElem?_eq_getElem hm)
        simpa only [World.cell?, hkp.2] using this
      have HR := Lib.hid hR; have HKP := Lib.hid hkp
      clear hR hJs e h2 hkp
      generalize vals[m] = v at hy v0 HR
      gi_wp2_with (fail)
      refine HR.out.mono ?_
      rintro e W3 (⟨rfl, hJ3, hk3⟩ | ⟨rfl, hJx3⟩)
      · gi_wp2
        go_roundw
        case rel => exact ⟨m, by omega, rfl, hJ3, hk3.1.trans HKP.out.1, hk3.2.trans HKP.out.2⟩
        case measure => simp [intOf]
      · gi_wp2
        refine bodyPost_ret (results_none rfl _ _ _) rfl ?_
        exact ⟨⟨_, rfl⟩, .inr hJx3⟩

/-- A row of nothing hands out nothing. -/
theorem backw_nil (n : Nat) (w : World) (A : Option Addr) (Bs cap b : Nat) (hB : w.heap[Bs]? = some (.cells #[.slice A 0 cap] 110 (0, 0))) :
    IterAt n Try.prog 131 #[.pointer (some ⟨Bs, 0, none⟩)] encIV (backL []) (keepB Bs b) w := by
  intro l J Jx W hW hJ hJx hY h0
  obtain ⟨b0, bz, blt⟩ := one_cell (hW.heap hB (fun h => h))
  clear hY hJ
  refine callsIn_of_wp Try.func131 rfl trivial ?_ rfl
  simp only [Try.ntmps131, List.size_toArray, List.length_cons, List.length_nil, Nat.reduceAdd, Nat.reduceSub, Array.replicate_succ, Array.replicate_zero, List.push_toArray, List.append_toArray, List.nil_append, List.cons_append]
  gi_wp2
  gi_loopw [3] (fun i wr => i = .int .i64 (-1) ∧ J 0 wr) (fun _ _ => 0)
  case atStart => exact ⟨rfl, h0⟩
  case round =>
    obtain ⟨rfl, hJs⟩ := hrel
    gi_wp2
    go_end0
    exact ⟨⟨_, rfl⟩, .inl hJs⟩
end Go.Proofs.Ytdnohhlgaaihmaa
