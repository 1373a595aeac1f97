/- law17: ReadsSpans, whatever comes in. -/
import Derived.Test.YtdnohhlgaaihmaaSpansL
namespace Go.Proofs.Ytdnohhlgaaihmaa
open Go.RowKit

set_option maxRecDepth 100000 in
set_option maxHeartbeats 4000000 in
theorem spans_any (w : World) (X Y V : Value) (ks : List Kv) (l : List SpV) (asked : List Kv) (hk : Keys w X ks) (hn : ks.length ≤ reachBytes) (hl : SpIn w Y l) (ha : Keys w V asked) (hna : asked.length ≤ reachBytes) :
    Calls Try.prog 10 #[X, Y, V] w fun e w' => e = .returned (.bool true) ∧ Fr no w w' := by
  cases o1 : over17 ks.length (ks.map fun k => k.b.length) with
  | true =>
    have O1 := Lib.hid o1; clear o1
    go_enter Try.func10, Try.ntmps10
    have F0 := Lib.hid (Fr.refl no w)
    go_wp2_with fail
    refine (many_any w X ks (hk.kept0 (F0.out)) hn).mono ?_
    rintro e w1 ⟨rfl, f⟩
    rw [O1.out]
    have F1 := Lib.hid (F0.out.trans f (fun _ _ h => h)); clear f
    go_wp2
    go_ret
    exact ⟨rfl, F1.out⟩
  | false =>
    cases o2 : over17 l.length (l.map fun k => k.f.length + k.t.length) with
    | true =>
      have O1 := Lib.hid o1; clear o1
      have O2 := Lib.hid o2; clear o2
      go_enter Try.func10, Try.ntmps10
      have F0 := Lib.hid (Fr.refl no w)
      go_wp2_with fail
      refine (many_any w X ks (hk.kept0 (F0.out)) hn).mono ?_
      rintro e w1 ⟨rfl, f⟩
      rw [O1.out]
      have F1 := Lib.hid (F0.out.trans f (fun _ _ h => h)); clear f
      go_wp2_with fail
      refine (much_any w1 Y l (hl.kept0 (F1.out))).mono ?_
      rintro e w2 ⟨rfl, f⟩
      rw [O2.out]
      have F2 := Lib.hid (F1.out.trans f (fun _ _ h => h)); clear f
      go_wp2
      go_ret
      exact ⟨rfl, F2.out⟩
    | false =>
      cases o3 : over17 asked.length (asked.map fun k => k.b.length) with
      | true =>
        have O1 := Lib.hid o1; clear o1
        have O2 := Lib.hid o2; clear o2
        have O3 := Lib.hid o3; clear o3
        go_enter Try.func10, Try.ntmps10
        have F0 := Lib.hid (Fr.refl no w)
        go_wp2_with fail
        refine (many_any w X ks (hk.kept0 (F0.out)) hn).mono ?_
        rintro e w1 ⟨rfl, f⟩
        rw [O1.out]
        have F1 := Lib.hid (F0.out.trans f (fun _ _ h => h)); clear f
        go_wp2_with fail
        refine (much_any w1 Y l (hl.kept0 (F1.out))).mono ?_
        rintro e w2 ⟨rfl, f⟩
        rw [O2.out]
        have F2 := Lib.hid (F1.out.trans f (fun _ _ h => h)); clear f
        go_wp2_with fail
        refine (many_any w2 V asked (ha.kept0 (F2.out)) hna).mono ?_
        rintro e w3 ⟨rfl, f⟩
        rw [O3.out]
        have F3 := Lib.hid (F2.out.trans f (fun _ _ h => h)); clear f
        go_wp2
        go_ret
        exact ⟨rfl, F3.out⟩
      | false =>
        exact spans_walk w X Y V ks l asked hk hn hl ha hna o1 o2 o3
end Go.Proofs.Ytdnohhlgaaihmaa
