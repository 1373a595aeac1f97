/- reads.Set: Meets; keys in a row. -/
import Derived.Test.YtdnohhlgaaihmaaSpanB
namespace Go.Proofs.Ytdnohhlgaaihmaa
open Go.RowKit

/-- A key: its slice, its bytes. -/
structure Kv where
  V : Value
  b : List UInt8
def Kv.Good (w : World) (k : Kv) : Prop := Sl w 1 k.V k.b.length (bvs k.b) ∧ k.b.length ≤ reachBytes
/-- Keys in a row. -/
structure Keys (w : World) (x : Value) (ks : List Kv) : Prop where
  sl : Sl w 1 x ks.length (ks.map Kv.V)
  good : ∀ k ∈ ks, k.Good w
theorem Keys.kept0 {w w1 : World} {x : Value} {ks : List Kv} (h : Keys w x ks) (f : Fr no w w1) : Keys w1 x ks := ⟨h.sl.kept0 f, fun k hk => ⟨(h.good k hk).1.kept0 f, (h.good k hk).2⟩⟩
theorem Keys.below {w w1 : World} {x : Value} {ks : List Kv} (h : Keys w x ks) (b : Below w.heap.size w w1) : Keys w1 x ks := ⟨h.sl.below b, fun k hk => ⟨(h.good k hk).1.below b, (h.good k hk).2⟩⟩
theorem Keys.at {w : World} {A : Option Addr} {n c : Nat} {ks : List Kv} (h : Keys w (.slice A n c) ks) (j : Nat) (hj : j < ks.length) : ∃ b o, A = some ⟨b, o, none⟩ ∧ w.cell? ⟨b, o + j, none⟩ = some ks[j].V := by
  rcases h.sl.2 with ⟨_, h1, h2⟩ | ⟨b, o, cap, h1, _, _, h4⟩
  · omega
  · cases h1
    exact ⟨b, o, rfl, h4 j _ (by simp [hj])⟩

/-- The first key that fits; -1: none does. -/
def kfits (p : Kv → Bool) (l : List Kv) : Int := match l.findIdx? p with | some i => i | none => -1

set_option maxRecDepth 100000 in
set_option maxHeartbeats 400000 in
theorem index_keys (w : World) (p : Nat) (A : Option Addr) (c : Nat) (l : List Kv) (hl : Keys w (.slice A l.length c) l) (hn : l.length ≤ 1000000000) (q : Kv → Bool)
    (hp : ∀ w', Fr no w w' → ∀ x ∈ l, Calls Try.prog 48 #[.pointer (some ⟨p, 0, none⟩), x.V] w' fun e w'' => e = .returned (.bool (q x)) ∧ Fr no w' w'') :
    Calls Try.prog 139 #[.slice A l.length c, .func (.func 48) #[.pointer (some ⟨p, 0, none⟩)] #[]] w fun e w' => e = .returned (.int .i64 (kfits q l)) ∧ Fr no w w' := by
  have HL := Lib.hid hl; have HP := Lib.hid hp; clear hl hp
  go_enter Try.func139, Try.ntmps139
  go_wp2
  go_loopw [8] (fun i wr => ∃ j : Nat, j ≤ l.length ∧ i = .int .i64 j ∧ Fr no w wr ∧ ∀ k (hk : k < l.length), k < j → q l[k] = false) (fun i _ => l.length - (intOf i).toNat)
  case atStart => exact ⟨0, Nat.zero_le _, rfl, Fr.refl _ _, fun k _ h => by omega⟩
  case round =>
    obtain ⟨j, hj, rfl, hf, hno⟩ := hrel
    have HF := Lib.hid hf; have HNO := Lib.hid hno; clear hf hno
    by_cases hlt : j < l.length
    · obtain ⟨b, o, hA, q0⟩ := Keys.at (HL.out.kept0 HF.out) j hlt
      subst hA
      cases hpj : q l[j] with
      | true =>
        have HPJ := Lib.hid hpj; clear hpj
        go_wp2_with fail
        refine (HP.out wr HF.out l[j] (List.getElem_mem _)).mono ?_
        rintro e w1 ⟨rfl, hf1⟩
        rw [HPJ.out]
        have HF1 := Lib.hid hf1; clear hf1
        go_wp2
        go_ret
        have e : kfits q l = j := by
          unfold kfits
          rw [List.findIdx?_eq_some_iff_getElem.2 ⟨hlt, HPJ.out, fun k hk => by rw [HNO.out k (by omega) hk]; simp⟩]
        rw [e]
        exact ⟨rfl, HF.out.trans HF1.out (fun _ _ h => h)⟩
      | false =>
        have HPJ := Lib.hid hpj; clear hpj
        go_wp2_with fail
        refine (HP.out wr HF.out l[j] (List.getElem_mem _)).mono ?_
        rintro e w1 ⟨rfl, hf1⟩
        rw [HPJ.out]
        have HF1 := Lib.hid hf1; clear hf1
        go_wp2
        go_roundw
        case rel =>
          refine ⟨j + 1, hlt, by go_num, HF.out.trans HF1.out (fun _ _ h => h), fun k hk hkj => ?_⟩
          by_cases h : k = j
          · subst h; exact HPJ.out
          · exact HNO.out k hk (by omega)
        case measure => simp [intOf]; omega
    · go_wp2
      go_ret
      have e : kfits q l = -1 := by
        unfold kfits
        rw [List.findIdx?_eq_none_iff.2 (fun x hx => by
          obtain ⟨k, hk, rfl⟩ := List.getElem_of_mem hx
          exact HNO.out k hk (by omega))]
      rw [e]
      exact ⟨rfl, HF.out⟩

theorem kfits_any (q : Kv → Bool) (l : List Kv) : decide (0 ≤ kfits q l) = l.any q := by
  unfold kfits
  cases h : l.findIdx? q with
  | none =>
    have := List.findIdx?_eq_none_iff.1 h
    symm
    simpa using this
  | some i =>
    obtain ⟨h1, h2, _⟩ := List.findIdx?_eq_some_iff_getElem.1 h
    have : l.any q = true := List.any_eq_true.2 ⟨_, List.getElem_mem h1, h2⟩
    simp [this]

set_option maxRecDepth 100000 in
set_option maxHeartbeats 400000 in
theorem meets_any (w : World) (p : Nat) (sv K : Value) (l : List SpV) (ks : List Kv) (hs : Se w p sv l) (hK : Keys w K ks) (hl : l.length ≤ 100000) (hk : ks.length ≤ 1000000000) :
    Calls Try.prog 50 #[.pointer (some ⟨p, 0, none⟩), K] w fun e w' => e = .returned (.bool (ks.any fun k => hasV l k.b)) ∧ Fr no w w' := by
  obtain ⟨A, c, rfl, _, _⟩ := hK.sl.form
  have inner : Calls Try.prog 119 #[.slice A ks.length c, .func (.func 48) #[.pointer (some ⟨p, 0, none⟩)] #[]] w fun e w' => e = .returned (.bool (ks.any fun k => hasV l k.b)) ∧ Fr no w w' := by
    have HS := Lib.hid hs; have HK := Lib.hid hK; clear hs hK
    go_enter Try.func119, Try.ntmps119
    go_wp2_with fail
    refine (index_keys w p A c ks HK.out hk (fun k => hasV l k.b) (fun w' hf' x hx => has_any w' p sv x.V l x.b (HS.out.kept0 hf') ((HK.out.good x hx).1.kept0 hf') hl)).mono ?_
    rintro e w1 ⟨rfl, hf⟩
    have HF := Lib.hid hf; clear hf
    go_wp2
    go_ret
    exact ⟨by rw [← kfits_any]; rfl, HF.out⟩
  have HI := Lib.hid inner; clear inner hs hK
  go_enter Try.func50, Try.ntmps50
  go_wp2_with fail
  refine HI.out.mono ?_
  rintro e w1 ⟨rfl, hf⟩
  have HF := Lib.hid hf; clear hf
  go_wp2
  go_ret
  exact ⟨rfl, HF.out⟩
end Go.Proofs.Ytdnohhlgaaihmaa
