/- Bytes of package bytes: Compare, Clone; slices.Clip. -/
import Derived.Test.YtdnohhlgaaihmaaBase
import Derived.Test.YtdnohhlgaaihmaaRws
import Derived.WalkSpells
import Derived.Lib.Bytealg
import Derived.Laws.Externs
namespace Go
open Go.RowKit
theorem run_loadB {P : Program} {w : World} (b : Nat) : ∀ (l : List UInt8) (o : Nat) (acc : ByteArray), (∀ (j : Nat) u, l[j]? = some u → w.cell? ⟨b, o + j, none⟩ = some (.int .u8 u.toNat)) →
    (Extern.Bytes.loadBytes ⟨b, o, none⟩ l.length acc).run P w = .ok ⟨acc.data ++ l.toArray⟩ w
  | [], o, acc, _ => by simp [Extern.Bytes.loadBytes]
  | c :: l, o, acc, h => by
    have h0 := h 0 c rfl
    have ih := run_loadB (P := P) (w := w) b l (o + 1) (acc.push c) (fun j u hu => by rw [show o + 1 + j = o + (j + 1) by omega]; exact h (j + 1) u (by simpa using hu))
    have hl := run_load P w ⟨b, o, none⟩
    simp only [Nat.add_zero] at h0
    rw [h0] at hl
    have e1 : (⟨b, o, none⟩ : Addr).add 1 = ⟨b, o + 1, none⟩ := Addr.add_lit _ _ _
    have e2 : ((c.toNat : Int).toNat).toUInt8 = c := by simp
    simp only [List.length_cons, Extern.Bytes.loadBytes, Sem.run_bind, hl, Result.andThen_ok, e1, e2, ih]
    simp [ByteArray.push]

theorem run_bytesOf {P : Program} {w : World} {v : Value} {l : List UInt8} (h : Sl w 1 v l.length (bvs l)) : (Extern.Bytes.bytesOf v).run P w = .ok ⟨l.toArray⟩ w := by
  rcases h.2 with ⟨A, rfl, h0⟩ | ⟨b, o, cap, rfl, h1, h2, h3⟩
  · obtain rfl : l = [] := List.eq_nil_of_length_eq_zero h0
    cases A <;> simp [Extern.Bytes.bytesOf, Extern.Bytes.loadBytes, ByteArray.empty, ByteArray.emptyWithCapacity] <;> rfl
  · have := run_loadB (P := P) (w := w) b l o .empty (fun j u hu => by
      have hj := (List.getElem?_eq_some_iff.1 hu).1
      have := h3 j _ (bvs_get l j hj)
      rw [List.getElem?_eq_getElem hj] at hu
      cases hu
      exact this)
    simp only [Extern.Bytes.bytesOf, this]
    simp [ByteArray.empty, ByteArray.emptyWithCapacity]; rfl
end Go
namespace Go.Proofs.Ytdnohhlgaaihmaa
open Go.RowKit

/-- Bytes compared. -/
def cb (l k : List UInt8) : Int := Lib.compareBytes l k

theorem cb_range (l k : List UInt8) : cb l k = -1 ∨ cb l k = 0 ∨ cb l k = 1 := by
  unfold cb
  induction l generalizing k with
  | nil => cases k <;> simp [Lib.compareBytes]
  | cons a l ih =>
    cases k with
    | nil => simp [Lib.compareBytes]
    | cons b k =>
      simp only [Lib.compareBytes]
      split
      · exact .inl rfl
      · split
        · exact .inr (.inr rfl)
        · exact ih k

set_option maxRecDepth 100000 in
set_option maxHeartbeats 400000 in
theorem cmp_any (w : World) (x y : Value) (l k : List UInt8) (hx : Sl w 1 x l.length (bvs l)) (hy : Sl w 1 y k.length (bvs k)) :
    Calls Try.prog 62 #[x, y] w fun e w' => e = .returned (.int .i64 (cb l k)) ∧ w' = w := by
  have hrun : (Extern.BytealgCompare.compare #[x, y]).run Try.prog w = .ok (.int .i64 (cb l k)) w := by
    change Sem.run Try.prog (do pure (goInt (Extern.BytealgCompare.cmp (← Extern.Bytes.bytesOf x) (← Extern.Bytes.bytesOf y)))) w = _
    simp only [Sem.run_bind, Sem.run_pure, Result.andThen_ok, run_bytesOf hx, run_bytesOf hy]
    rw [Lib.cmp_eq]
    rfl
  go_enter Try.func62, Try.ntmps62
  go_wp2
  rw [run_callFunc_extern Try.func122 (by kernel_rfl) (by kernel_rfl) (by kernel_rfl) (e := Extern.BytealgCompare.compare) (by kernel_rfl), hrun]
  simp only [Result.andThen]
  rw [Oper.upon_value]
  go_wp2
  go_ret
  exact ⟨rfl, rfl⟩

set_option maxRecDepth 100000 in
set_option maxHeartbeats 400000 in
theorem bclip_any (w : World) (A : Option Addr) (n c : Nat) (hc : n ≤ c) :
    Calls Try.prog 133 #[.slice A n c] w fun e w' => e = .returned (.slice A n n) ∧ w' = w := by
  by_cases hn : n = 0
  · subst hn
    go_enter Try.func133, Try.ntmps133
    go_wp2
    go_ret
    exact ⟨rfl, rfl⟩
  · go_enter Try.func133, Try.ntmps133
    go_wp2
    go_ret
    refine ⟨?_, rfl⟩
    cases A <;> simp

set_option maxRecDepth 100000 in
set_option maxHeartbeats 400000 in
/-- bytes.Clone: nil of nil; else a row of its own. -/
theorem bclone_any (w : World) (x : Value) (l : List UInt8) (hx : Sl w 1 x l.length (bvs l)) (hl : l.length ≤ 140737488351232) :
    Calls Try.prog 134 #[x] w fun e w' => ∃ A c, e = .returned (.slice A l.length c) ∧ Ow w' 5 1 (.slice A l.length c) l.length (bvs l) ∧ (∀ k, Value.ownBlock (.slice A l.length c) = some k → w.heap.size ≤ k) ∧ Fr no w w' := by
  have hx2 : (x = .slice none 0 0 ∧ l.length = 0) ∨ ∃ y cap, x = .slice (some y) l.length cap ∧ l.length ≤ cap ∧ cap ≤ maxLen := by
    rcases hx.2 with ⟨Y, h1, h2⟩ | ⟨b, o, cap, h1, h2, h3, _⟩
    · cases Y with
      | none => exact .inl ⟨h1, h2⟩
      | some y => exact .inr ⟨y, 0, by rw [h1, h2], by omega, Nat.zero_le _⟩
    · exact .inr ⟨_, cap, h1, h2, h3⟩
  rcases hx2 with ⟨rfl, h0⟩ | ⟨y, cap, rfl, h1, h2⟩
  · obtain rfl : l = [] := List.eq_nil_of_length_eq_zero h0
    have hnil := fun (w : World) (a : Option Addr) (n c n' c' : Nat) => Lib.run_eql_slice_nil (P := Try.prog) w 34 5 a n c n' c' (by kernel_rfl)
    go_enter Try.func134, Try.ntmps134
    go_wp2
    go_ret
    exact ⟨none, 0, rfl, ⟨rfl, .inl ⟨rfl, rfl⟩⟩, by simp [Value.ownBlock], Fr.refl _ _⟩
  · have HX := Lib.hid hx; clear hx
    have hnil := fun (w : World) (a : Option Addr) (n c n' c' : Nat) => Lib.run_eql_slice_nil (P := Try.prog) w 34 5 a n c n' c' (by kernel_rfl)
    go_enter Try.func134, Try.ntmps134
    go_wp2_with (at_builtin; refine wpList_apo (n := 0) (xs := []) rfl (.tmp 5) (.tmp 6) 34 rfl tbB ?own (HX.out.kept0 ?fr) rfl rfl (bvs_one l) ?b1 ?b2 ?go)
    case own => exact ⟨rfl, .inr ⟨w.heap.size, 0, #[], rfl, heap_alloc_new _ _, Nat.le_refl _, Nat.zero_le _, by simp, by simp⟩⟩
    case fr => (repeat first | exact Fr.refl _ _ | apply Fr.drew | apply Fr.alloc)
    case b1 => simp only [maxLen]; omega
    case b2 => omega
    case go =>
      intro A N c w' hN ho _ hf hs
      obtain rfl : N = l.length := by omega
      have HO := Lib.hid ho; have HF := Lib.hid hf; have HS := Lib.hid hs; clear ho hf hs
      go_wp2
      go_ret
      refine ⟨A, c, rfl, HO.out, fun k hk => ?_, ?_⟩
      · rcases HS.out with ⟨A', c', h, h'⟩ | h
        · cases h; cases h'
          have : w.heap.size = k := by simpa [Value.ownBlock] using hk
          omega
        · have := h k hk; simp at this; omega
      · exact Fr.trans (S := no) (by (repeat first | exact Fr.refl _ _ | apply Fr.drew | apply Fr.alloc)) HF.out (fun k hk h => by simp [Value.ownBlock] at h; omega)
end Go.Proofs.Ytdnohhlgaaihmaa
