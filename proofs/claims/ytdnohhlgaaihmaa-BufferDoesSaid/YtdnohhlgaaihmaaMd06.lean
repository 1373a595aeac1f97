import Derived.Test.YtdnohhlgaaihmaaMd04
import Derived.Test.YtdnohhlgaaihmaaMd03
import Derived.Lib.Overlaps
import Derived.Laws.Externs
import Derived.Test.YtdnohhlgaaihmaaMd05
import Derived.Laws.ResultCell
import Derived.Laws.Rows

/- Rows of three cells an element, spliced: plain lists, and what memory tells of them. General. -/
namespace Go
open Go.RowKit

theorem Has.sl {w : World} {g : Nat} {e : TypeId} {cur : List Value} (h : Has w g e cur) (sz off n c : Nat) (hn : off + n * sz ≤ cur.length) (hc : n ≤ c) (hm : c ≤ maxLen) : Sl w sz (.slice (some ⟨g, off, none⟩) n c) n ((cur.drop off).take (n * sz)) := by
  refine ⟨by rw [List.length_take, List.length_drop]; omega, .inr ⟨g, off, c, rfl, hc, hm, fun j u hu => ?_⟩⟩
  rw [List.getElem?_take] at hu
  split at hu
  · rw [List.getElem?_drop] at hu
    rw [cell_of_row w g _ cur.toArray e (0, 0) h]
    simpa using hu
  · cases hu

theorem Has.kept {w w1 : World} {g : Nat} {e : TypeId} {cur : List Value} {S : Nat → Prop} (h : Has w g e cur) (f : Fr S w w1) (hn : ¬ S g) : Has w1 g e cur := f.heap h hn

theorem Has.ow {w : World} {g : Nat} {e : TypeId} {cur : List Value} (h : Has w g e cur) (sz n c : Nat) (hc : c * sz ≤ cur.length) (hn : n ≤ c) (hm : c ≤ maxLen) : Ow w e sz (.slice (some ⟨g, 0, none⟩) n c) n (cur.take (n * sz)) := by
  have : n * sz ≤ c * sz := Nat.mul_le_mul_right _ hn
  exact ⟨by rw [List.length_take]; omega, .inr ⟨g, c, _, rfl, h, hn, hm, by simpa using hc, by simp⟩⟩

theorem Ow.has {w : World} {e : TypeId} {sz g n c : Nat} {xs : List Value} (h : Ow w e sz (.slice (some ⟨g, 0, none⟩) n c) n xs) : ∃ cur, Has w g e cur ∧ c * sz ≤ cur.length ∧ n ≤ c ∧ c ≤ maxLen ∧ cur.take (n * sz) = xs := by
  rcases h.2 with ⟨h1, _⟩ | ⟨g', cap, cur, h1, hg, h2, h3, h4, h5⟩
  · cases h1
  · cases h1
    exact ⟨cur.toList, by simpa [Has] using hg, by simpa using h4, h2, h3, h5⟩

/-- With room: what lies behind is moved, then the new ones laid in. -/
theorem ins_room (cur xs us : List Value) (i n : Nat) (hx : cur.take (n * 3) = xs) (hl : (n + 1) * 3 ≤ cur.length) (hi : i ≤ n) (hu : us.length = 3) :
    let cur1 := cur.take ((i + 1) * 3) ++ ((cur.drop (i * 3)).take ((n + 1 - i) * 3)).take ((n - i) * 3) ++ cur.drop ((i + 1) * 3 + (n - i) * 3)
    (cur1.take (i * 3) ++ us ++ cur1.drop (i * 3 + 3)).take ((n + 1) * 3) = xs.take (i * 3) ++ us ++ xs.drop (i * 3) := by
  intro cur1
  obtain ⟨a, b, r, hc, ha, hb⟩ : ∃ a b r, cur = a ++ (b ++ r) ∧ a.length = i * 3 ∧ b.length = (n - i) * 3 :=
    ⟨cur.take (i * 3), (cur.drop (i * 3)).take ((n - i) * 3), cur.drop (i * 3 + (n - i) * 3), by
      rw [← List.drop_drop, List.take_append_drop, List.take_append_drop], by rw [List.length_take]; omega, by rw [List.length_take, List.length_drop]; omega⟩
  have hr : 3 ≤ r.length := by have := congrArg List.length hc; simp at this; omega
  have hxs : xs = a ++ b := by
    rw [← hx, hc, show n * 3 = (a ++ b).length by simp; omega, ← List.append_assoc, List.take_left]
  have h1 : cur1 = a ++ ((b ++ r).take 3 ++ b ++ r.drop 3) := by
    show cur.take ((i + 1) * 3) ++ ((cur.drop (i * 3)).take ((n + 1 - i) * 3)).take ((n - i) * 3) ++ cur.drop ((i + 1) * 3 + (n - i) * 3) = _
    rw [List.take_take, Nat.min_eq_left (by omega), hc]
    rw [show (i + 1) * 3 = a.length + 3 by omega, List.take_length_add_append]
    rw [show i * 3 = a.length by omega, List.drop_left, show (n - i) * 3 = b.length by omega, List.take_left]
    rw [show a.length + 3 + b.length = a.length + (b.length + 3) by omega, List.drop_length_add_append, List.drop_length_add_append]
    simp [List.append_assoc]
  have h2 : ((b ++ r).take 3).length = 3 := by rw [List.length_take, List.length_append]; omega
  rw [h1, hxs, show i * 3 = a.length by omega, List.take_left, List.drop_length_add_append, List.take_left, List.drop_left]
  rw [List.append_assoc ((b ++ r).take 3)]
  rw [List.drop_left' h2]
  rw [show (n + 1) * 3 = (a ++ us ++ b).length by simp only [List.length_append]; omega]
  rw [← List.append_assoc, List.take_left]

/-- Into a new block. -/
theorem ins_new (xs us ys : List Value) (i n : Nat) (hx : xs.length = n * 3) (_hy : (n + 1) * 3 ≤ i * 3 + ys.length) (hi : i ≤ n) (hu : us.length = 3) :
    let cur := xs.take (i * 3) ++ ys
    let cur1 := cur.take (i * 3) ++ us ++ cur.drop (i * 3 + 3)
    (cur1.take ((i + 1) * 3) ++ xs.drop (i * 3) ++ cur1.drop ((i + 1) * 3 + (n - i) * 3)).take ((n + 1) * 3) = xs.take (i * 3) ++ us ++ xs.drop (i * 3) := by
  intro cur cur1
  have ha : (xs.take (i * 3)).length = i * 3 := by rw [List.length_take]; omega
  have h1 : cur1.take ((i + 1) * 3) = xs.take (i * 3) ++ us := by
    show (cur.take (i * 3) ++ us ++ cur.drop (i * 3 + 3)).take ((i + 1) * 3) = _
    have h2 : cur.take (i * 3) = xs.take (i * 3) := by
      show (xs.take (i * 3) ++ ys).take (i * 3) = _
      conv => lhs; rw [show i * 3 = (xs.take (i * 3)).length from ha.symm]
      rw [ha, List.take_left' ha]
    rw [h2, show (i + 1) * 3 = (xs.take (i * 3) ++ us).length by rw [List.length_append]; omega, List.take_left]
  rw [h1, show (n + 1) * 3 = (xs.take (i * 3) ++ us ++ xs.drop (i * 3)).length by simp only [List.length_append, List.length_drop]; omega, List.take_left]

theorem rep_mid (cur xs us : List Value) (i j n : Nat) (hx : cur.take (n * 3) = xs) (hl : n * 3 ≤ cur.length) (hi : i < j) (hj : j ≤ n) (hu : us.length = 3) :
    ((cur.take (i * 3) ++ us ++ cur.drop (i * 3 + 3)).drop (j * 3)).take ((n - j) * 3) = xs.drop (j * 3) := by
  have hp : (cur.take (i * 3) ++ us).length = i * 3 + 3 := by rw [List.length_append, List.length_take]; omega
  have hd : (cur.take (i * 3) ++ us ++ cur.drop (i * 3 + 3)).drop (j * 3) = cur.drop (j * 3) := by
    rw [List.drop_append, List.drop_of_length_le (by omega), List.nil_append, List.drop_drop, hp]
    congr 1
    omega
  rw [hd, ← hx, List.drop_take]
  congr 1
  omega

/-- A part written over by one, what lies behind drawn up. -/
theorem rep_room (cur xs us ys : List Value) (i j n : Nat) (hx : cur.take (n * 3) = xs) (hl : n * 3 ≤ cur.length) (hi : i < j) (hj : j ≤ n) (hu : us.length = 3) (_hy : ys.length = (j - i - 1) * 3) :
    let cur1 := cur.take (i * 3) ++ us ++ cur.drop (i * 3 + 3)
    let cur2 := cur1.take ((i + 1) * 3) ++ (cur1.drop (j * 3)).take ((n - j) * 3) ++ cur1.drop ((i + 1) * 3 + (n - j) * 3)
    (cur2.take ((i + 1 + (n - j)) * 3) ++ ys ++ cur2.drop ((i + 1 + (n - j)) * 3 + (j - i - 1) * 3)).take ((i + 1 + (n - j)) * 3) = xs.take (i * 3) ++ us ++ xs.drop (j * 3) := by
  intro cur1 cur2
  have ha : (cur.take (i * 3)).length = i * 3 := by rw [List.length_take]; omega
  have hxa : xs.take (i * 3) = cur.take (i * 3) := by rw [← hx, List.take_take, Nat.min_eq_left (by omega)]
  have h1 : cur1.take ((i + 1) * 3) = cur.take (i * 3) ++ us := by
    show (cur.take (i * 3) ++ us ++ cur.drop (i * 3 + 3)).take ((i + 1) * 3) = _
    rw [show (i + 1) * 3 = (cur.take (i * 3) ++ us).length by rw [List.length_append]; omega, List.take_left]
  have h2 : (cur1.drop (j * 3)).take ((n - j) * 3) = xs.drop (j * 3) := by
    have hd : cur1.drop (j * 3) = cur.drop (j * 3) := by
      show (cur.take (i * 3) ++ us ++ cur.drop (i * 3 + 3)).drop (j * 3) = _
      have hp : (cur.take (i * 3) ++ us).length = i * 3 + 3 := by rw [List.length_append]; omega
      rw [List.drop_append, List.drop_of_length_le (by omega), List.nil_append, List.drop_drop, hp]
      congr 1
      omega
    rw [hd, ← hx, List.drop_take]
    congr 1
    omega
  have h3 : cur2.take ((i + 1 + (n - j)) * 3) = xs.take (i * 3) ++ us ++ xs.drop (j * 3) := by
    show (cur1.take ((i + 1) * 3) ++ (cur1.drop (j * 3)).take ((n - j) * 3) ++ cur1.drop ((i + 1) * 3 + (n - j) * 3)).take ((i + 1 + (n - j)) * 3) = _
    have hxl : xs.length = n * 3 := by rw [← hx, List.length_take]; omega
    rw [h1, h2, hxa, show (i + 1 + (n - j)) * 3 = (cur.take (i * 3) ++ us ++ xs.drop (j * 3)).length by simp only [List.length_append, List.length_drop]; omega, List.take_left]
  have hl3 : (cur2.take ((i + 1 + (n - j)) * 3)).length = (i + 1 + (n - j)) * 3 := by
    have hxl : xs.length = n * 3 := by rw [← hx, List.length_take]; omega
    rw [h3]; simp only [List.length_append, List.length_drop, List.length_take]; omega
  rw [List.append_assoc, List.take_left' hl3, h3]
end Go

/- slices.Insert and slices.Replace of one element into a row of one's own, elements of three cells. -/
namespace Go.Proofs.Ytdnohhlgaaihmaa
open Go.RowKit

theorem tbChange : Tb Try.prog 30 36 (.agg #[.slice none 0 0, .slice none 0 0, .bool false]) 3 56 := ⟨by kernel_rfl, by kernel_rfl, rfl, by decide⟩

/-- What a call leaves that turned a row of one's own. -/
def Turned (w w' : World) (e : TypeId) (v : Value) (N : Nat) (ys : List Value) (en : Ending) : Prop :=
  ∃ A c, en = .returned (.slice A N c) ∧ Ow w' e 3 (.slice A N c) N ys ∧ Fr (fun k => v.ownBlock = some k) w w' ∧ Moved w w' v (.slice A N c)

theorem stays_moved {w w' : World} {v v' : Value} {n N : Nat} (h : Stays w w' v v' n N) : Moved w w' v v' := by
  rcases h with ⟨A, c, rfl, rfl⟩ | h
  · left; cases A <;> rfl
  · exact .inr h

theorem cut3 (us : List Value) (h : us.length = 3) (n : Nat) (hn : 1 ≤ n) : us.take (min 1 n * 3) = us := by rw [Nat.min_eq_left hn]; exact List.take_of_length_le (by omega)

set_option maxRecDepth 100000 in
set_option maxHeartbeats 4000000 in
theorem insertChange (w : World) (A : Option Addr) (n c i vb : Nat) (xs us : List Value) (hs : Ow w 36 3 (.slice A n c) n xs) (hi : i ≤ n) (hu : us.length = 3) (hv : Has w vb 36 us) (hvb : ∀ k, (Value.slice A n c).ownBlock = some k → k ≠ vb) (hx1 : ∀ u ∈ xs, u.oneCell' = true) (hu1 : ∀ u ∈ us, u.oneCell' = true) (hn : n ≤ 1000000) :
    Calls Try.prog 128 #[.slice A n c, .int .i64 i, .slice (some ⟨vb, 0, none⟩) 1 1] w fun e w' => Turned w w' 36 (.slice A n c) (n + 1) (xs.take (i * 3) ++ us ++ xs.drop (i * 3)) e := by
  have hvs : Sl w 3 (.slice (some ⟨vb, 0, none⟩) 1 1) 1 us := by
    have h := hv.sl 3 0 1 1 (by omega) (Nat.le_refl _) (by simp [maxLen])
    rwa [List.drop_zero, List.take_of_length_le (by omega)] at h
  obtain ⟨A', c', hf, hnc, hcm⟩ := hs.form
  cases hf
  have HV := Lib.hid hv; have HVS := Lib.hid hvs; have HVB := Lib.hid hvb; have HX1 := Lib.hid hx1; have HU1 := Lib.hid hu1; have HU := Lib.hid hu
  clear hv hvs hvb hx1 hu1 hu
  by_cases hin : i = n
  · subst hin
    have hxl := hs.1
    have HS := Lib.hid hs; clear hs
    by_cases hic : c = i
    all_goals
      try subst hic
      go_enter Try.func128, Try.ntmps128
      go_wp2_with (at_builtin; refine wpList_apo rfl (.tmp 23) (.tmp 24) 30 rfl tbChange HS.out HVS.out rfl rfl HU1.out ?b1 ?b2 ?go)
      case b1 => simp only [maxLen]; omega
      case b2 => omega
      case go =>
        intro B N d w' hN ho _ hf2 hst
        subst hN
        have HO := Lib.hid ho; have HF := Lib.hid hf2; have HST := Lib.hid hst; clear ho hf2 hst
        go_wp2
        go_ret
        refine ⟨B, d, rfl, ?_, HF.out, stays_moved HST.out⟩
        rw [List.take_of_length_le (by omega), List.drop_of_length_le (by omega), List.append_nil]
        exact HO.out
  · have hil : i < n := by omega
    have hbin : ((i : Int) == (n : Int)) = false := by rw [beq_eq_false_iff_ne]; omega
    obtain ⟨g, rfl⟩ : ∃ g, A = some ⟨g, 0, none⟩ := by
      obtain ⟨g, c2, h, _⟩ := hs.cells i hil
      cases h; exact ⟨g, rfl⟩
    obtain ⟨cur, hg, hcl, _, _, hcx⟩ := hs.has
    have hxl := hs.1
    have HG := Lib.hid hg; have HCX := Lib.hid hcx; have HS := Lib.hid hs
    have hgv : g ≠ vb := HVB.out g rfl
    have hglt : g < w.heap.size := (Array.getElem?_eq_some_iff.1 hg).1
    clear hg hcx hs hin
    by_cases hroom : n + 1 ≤ c
    · have hi1 : ¬ (c = i) := by omega
      have hi2 : ¬ (c = i + 1) := by omega
      have hover := Lib.run_overlaps_apart (P := Try.prog) w 30 4 36 Try.underlying30 3 (fun _ => by kernel_rfl) ⟨vb, 0, none⟩ ⟨g, (i + 1) * 3, none⟩ 1 1 (n - i) (c - (i + 1)) (fun e => hgv e.symm) 36 36 3 cur.length (by have h := HV.out; unfold Has at h; simp only [World.shape?, h, Option.some.injEq, Prod.mk.injEq, true_and]; simpa using HU.out) (by have h := HG.out; unfold Has at h; simp only [World.shape?, h]; simp) (by omega) (by have h := HV.out; unfold Has at h; simp [World.frozen?, h]) (by have h := HV.out; unfold Has at h; simp [World.frozen?, h])
      have HOV := Lib.hid hover; clear hover
      have hb1 : decide ((c : Int) < (n : Int) + 1) = false := by simp; omega
      have hi3 : (0 : Int) ≤ (i : Int) + 1 := by omega
      go_enter Try.func128, Try.ntmps128
      go_wp2
      rw [run_callFunc_extern Try.func140 (by kernel_rfl) (by kernel_rfl) (by kernel_rfl) (e := Extern.SlicesOverlaps.overlaps #[30, 30] #[4]) (by kernel_rfl), HOV.out]
      simp only [Result.andThen]
      rw [Oper.upon_value]
      go_wp2_with fail
      refine wp_region_ord (List.range 9) (fun i => [Kd.p, Kd.p, Kd.p, Kd.p, Kd.p, Kd.p, Kd.p, Kd.p, Kd.e].getD i .e) (by kernel_rfl) (by kernel_rfl) ?_
      iterate 8
        first | refine wpX_pu rfl rfl rfl (by first | exact pu_move rfl | exact pu_assign rfl | exact pu_nilCheck rfl rfl | exact pu_binInt rfl rfl rfl | exact pu_conv rfl rfl (by kernel_rfl) | exact pu_fld rfl (by kernel_rfl) | exact pu_ix rfl rfl rfl (by kernel_rfl) | exact pu_unOp rfl | exact pu_binStr rfl rfl rfl | exact pu_len rfl rfl | exact pu_lens rfl rfl | exact pu_pick rfl | exact pu_slice rfl rfl) (fun K hK => ?_) | refine wpX_rd rfl rfl rfl (rd_load rfl) (fun K hK => ?_) | refine wpX_gr rfl rfl rfl (by first | exact gr_buildSlice rfl | exact gr_box rfl | exact gr_alloc rfl) (fun K hK => ?_) | refine wpX_ex rfl rfl rfl (fun K hK => ?_)
        try go_wp2
      refine wpX_ex rfl rfl rfl (fun K hK => ?_)
      refine wp_cp (.tmp 73) (.tmp 76) 30 30 rfl tbChange (HG.out.kept (Fr.drew (Fr.refl no w)) (fun h => h)) ((HG.out.kept (Fr.drew (Fr.refl no w)) (fun h => h)).sl 3 (i * 3) (n + 1 - i) (c - i) (by omega) (by omega) (by omega)) rfl rfl (by omega) ?h1 ?go
      case h1 =>
        intro u hu
        rw [Nat.min_eq_right (by omega), List.take_take, Nat.min_eq_left (by omega)] at hu
        refine HX1.out u ?_
        rw [← HCX.out]
        exact List.mem_of_mem_drop (i := i * 3) (by rw [List.drop_take]; have e : n * 3 - i * 3 = (n - i) * 3 := (by omega); rw [e]; exact hu)
      case go =>
        intro w2 hg2 hf2
        rw [Nat.min_eq_right (by omega)] at hg2
        have HG2 := Lib.hid hg2; have HF2 := Lib.hid hf2; clear hg2 hf2
        go_simp
        refine hK _ _ ?_
        clear hK K
        refine wpX_done ?_
        have hvs2 : Sl w2 3 (.slice (some ⟨vb, 0, none⟩) 1 1) 1 us := (HVS.out.kept0 (Fr.drew (Fr.refl no w))).kept HF2.out (fun k hk e => by have h1 : vb = k := (by simpa [Value.ownBlock] using hk); omega)
        have HVS2 := Lib.hid hvs2; clear hvs2
        go_wp2_with (with_reducible refine wpList_cp rfl (.tmp 80) (.tmp 81) 30 30 rfl tbChange HG2.out HVS2.out rfl rfl ?b1 (fun u hu => HU1.out u (List.mem_of_mem_take hu)) ?go)
        case b1 => simp only [List.length_append, List.length_take, List.length_drop]; omega
        case go =>
          intro w3 hg3 hf3
          rw [cut3 us HU.out _ (by omega), Nat.min_eq_left (by omega)] at hg3
          have HG3 := Lib.hid hg3; have HF3 := Lib.hid hf3; clear hg3 hf3
          go_wp2
          go_ret
          have hln : (cur.take ((i + 1) * 3) ++ ((cur.drop (i * 3)).take ((n + 1 - i) * 3)).take ((n - i) * 3) ++ cur.drop ((i + 1) * 3 + (n - i) * 3)).length = cur.length := by
            simp only [List.length_append, List.length_take, List.length_drop]; omega
          have how := HG3.out.ow 3 (n + 1) c (by have := HU.out; simp only [List.length_append, List.length_take, List.length_drop] at hln ⊢; omega) hroom hcm
          have hir := ins_room cur xs us i n HCX.out (by omega) hi HU.out
          dsimp only at hir
          simp only [Nat.one_mul, List.append_assoc] at how hir
          rw [hir, ← List.append_assoc] at how
          refine ⟨_, _, rfl, how, ?_, .inl rfl⟩
          have f1 : Fr (fun k => k = g) w w3 := (fr_sooner (Fr.drew (Fr.refl no w)) HF2.out).trans HF3.out (fun _ _ h => h)
          exact f1.mono (fun k _ h => by rw [h]; rfl)
    · have hcn : c = n := by omega
      subst hcn
      have hb1 : decide ((c : Int) < (c : Int) + 1) = true := by simp; omega
      have hta : (xs.take (i * 3)).length = i * 3 := by rw [List.length_take]; omega
      have HTA := Lib.hid hta; clear hta
      go_enter Try.func128, Try.ntmps128
      go_wp2_with (at_builtin; refine wpList_apm rfl (.tmp 34) (.tmp 39) 30 3 rfl tbChange Try.underlying3 (m := c + 1 - i) HTA.out ?hxs rfl rfl ?hmi ?b0 ?b1 ?b2 ?b3 ?go)
      case hxs =>
        intro j u hu
        rw [Addr.add_lit, Nat.zero_add]
        obtain ⟨g2, c2, h, _, _, _, _, hc⟩ := HS.out.cells i hil
        cases h
        exact hc j u (by rw [List.getElem?_take] at hu; split at hu; exact hu; cases hu)
      case hmi => omega
      case b0 => omega
      case b1 => omega
      case b2 => simp only [maxLen]; omega
      case b3 => omega
      case go =>
        intro d N ys w2 hN hd1 hd2 hln hg2 hf2 hsz2
        obtain rfl : N = c + 1 := by omega
        have HG2 := Lib.hid hg2; have HF2 := Lib.hid hf2; have HLN := Lib.hid hln; have HSZ := Lib.hid hsz2
        have HVS2 := Lib.hid (HVS.out.kept0 hf2)
        clear hg2 hf2 hln hN hsz2
        go_wp2_with (with_reducible refine wpList_cp rfl (.tmp 43) (.tmp 44) 30 30 rfl tbChange HG2.out HVS2.out rfl rfl ?b1 (fun u hu => HU1.out u (List.mem_of_mem_take hu)) ?go)
        case b1 => have hL := HLN.out; have hT := HTA.out; rw [List.length_append]; (try simp only [List.length_append] at hL); omega
        case go =>
          intro w3 hg3 hf3
          rw [cut3 us HU.out _ (by omega), Nat.min_eq_left (by omega)] at hg3
          have hs3 : Sl w3 3 (.slice (some ⟨g, i * 3, none⟩) (c - i) (c - i)) (c - i) (xs.drop (i * 3)) := by
            have h := (HG.out.kept HF2.out (fun h => h)).kept hf3 (fun e => by omega)
            have h2 := h.sl 3 (i * 3) (c - i) (c - i) (by omega) (Nat.le_refl _) (by omega)
            rw [← HCX.out, List.drop_take]
            have e : c * 3 - i * 3 = (c - i) * 3 := by omega
            rw [e]; exact h2
          have HG3 := Lib.hid hg3; have HF3 := Lib.hid hf3; have HS3 := Lib.hid hs3; clear hg3 hf3 hs3
          go_wp2_with fail
          refine wp_region_ord (List.range 9) (fun i => [Kd.p, Kd.p, Kd.p, Kd.p, Kd.p, Kd.p, Kd.p, Kd.p, Kd.e].getD i .e) (by kernel_rfl) (by kernel_rfl) ?_
          iterate 8
            first | refine wpX_pu rfl rfl rfl (by first | exact pu_move rfl | exact pu_assign rfl | exact pu_nilCheck rfl rfl | exact pu_binInt rfl rfl rfl | exact pu_conv rfl rfl (by kernel_rfl) | exact pu_fld rfl (by kernel_rfl) | exact pu_ix rfl rfl rfl (by kernel_rfl) | exact pu_unOp rfl | exact pu_binStr rfl rfl rfl | exact pu_len rfl rfl | exact pu_lens rfl rfl | exact pu_pick rfl | exact pu_slice rfl rfl) (fun K hK => ?_) | refine wpX_rd rfl rfl rfl (rd_load rfl) (fun K hK => ?_) | refine wpX_gr rfl rfl rfl (by first | exact gr_buildSlice rfl | exact gr_box rfl | exact gr_alloc rfl) (fun K hK => ?_) | refine wpX_ex rfl rfl rfl (fun K hK => ?_)
            try go_wp2
          refine wpX_ex rfl rfl rfl (fun K hK => ?_)
          refine wp_cp (.tmp 50) (.tmp 53) 30 30 rfl tbChange (HG3.out.kept (Fr.drew (Fr.refl no _)) (fun h => h)) (HS3.out.kept0 (Fr.drew (Fr.refl no _))) rfl rfl ?b1 (fun u hu => HX1.out u (List.mem_of_mem_drop (List.mem_of_mem_take hu))) ?go
          case b1 => have := HLN.out; have := HU.out; simp only [List.length_append, List.length_take, List.length_drop] at this ⊢; omega
          case go =>
            intro w4 hg4 hf4
            rw [Nat.min_eq_left (by omega)] at hg4
            have HG4 := Lib.hid hg4; have HF4 := Lib.hid hf4; clear hg4 hf4
            go_simp
            refine hK _ _ ?_
            clear hK K
            refine wpX_done ?_
            go_wp2
            go_ret
            have hxd : (xs.drop (i * 3)).take ((c - i) * 3) = xs.drop (i * 3) := List.take_of_length_le (by rw [List.length_drop]; omega)
            have hL := HLN.out
            have hU := HU.out
            have hT := HTA.out
            (try simp only [List.length_append] at hL)
            have how := HG4.out.ow 3 (c + 1) d (by simp only [List.length_append, List.length_take, List.length_drop] at hT ⊢; omega) hd1 hd2
            have hir := ins_new xs us ys i c hxl (by omega) hi HU.out
            dsimp only at hir
            have htt : (xs.take (i * 3) ++ ys).take (i * 3) = xs.take (i * 3) := List.take_left' hT
            simp only [Nat.one_mul, hxd, htt, List.append_assoc] at how hir
            rw [hir, ← List.append_assoc] at how
            have f3 : Fr no w w4 := by
              have f1 : Fr (fun k => k = w.heap.size) w2 w4 := HF3.out.trans (fr_sooner (Fr.drew (Fr.refl no _)) HF4.out) (fun _ _ h => h)
              exact HF2.out.trans f1 (fun k hk h => by omega)
            refine ⟨_, _, rfl, how, f3.mono (fun _ _ h => h.elim), .inr fun k hk => ?_⟩
            have hk' : w.heap.size = k := by simpa [Value.ownBlock] using hk
            have h2 := HSZ.out
            have h3 := HF3.out.size
            have h4 := HF4.out.size
            replace h4 : w3.heap.size ≤ w4.heap.size := h4
            omega
end Go.Proofs.Ytdnohhlgaaihmaa

/- package buffer: own, copied. -/
namespace Go.Proofs.Ytdnohhlgaaihmaa
open Go.RowKit

set_option maxRecDepth 100000 in
set_option maxHeartbeats 400000 in
theorem bown_any (w : World) (x : Value) (l : List UInt8) (hx : Sl w 1 x l.length (bvs l)) (hl : l.length ≤ 140737488351232) :
    Calls Try.prog 121 #[x] w fun e w' => ∃ A, e = .returned (.slice A l.length l.length) ∧ Ow w' 5 1 (.slice A l.length l.length) l.length (bvs l) ∧ (∀ k, Value.ownBlock (.slice A l.length l.length) = some k → w.heap.size ≤ k) ∧ Fr no w w' := by
  have HX := Lib.hid hx; clear hx
  go_enter Try.func121, Try.ntmps121
  go_wp2_with fail
  refine (bclone_any _ _ l HX.out hl).mono ?_
  rintro e w1 ⟨A1, c1, rfl, ho, hfresh, hf⟩
  obtain ⟨A2, c2, h1, h2, h3⟩ := ho.form
  cases h1
  have HO := Lib.hid ho; have HFR := Lib.hid hfresh; have HF := Lib.hid hf; clear ho hfresh hf h3
  go_wp2_with fail
  refine (bclip_any _ _ _ _ h2).mono ?_
  rintro e w2 ⟨rfl, rfl⟩
  go_wp2
  go_ret
  exact ⟨A1, rfl, HO.out.clip, fun k hk => HFR.out k (by cases A1 <;> exact hk), HF.out⟩


/-- Three cells of a block set. -/
def set3 (w : World) (g : Nat) (a b c : Value) : World := ((w.setCell ⟨g, 0, none⟩ a).setCell ⟨g, 1, none⟩ b).setCell ⟨g, 2, none⟩ c
theorem set3_fr (w : World) (g : Nat) (a b c : Value) : Fr (fun k => k = g) w (set3 w g a b c) :=
  Fr.setCell (Fr.setCell (Fr.setCell (Fr.refl (fun k => k = g) w) ⟨g, 0, none⟩ a (fun _ => rfl)) ⟨g, 1, none⟩ b (fun _ => rfl)) ⟨g, 2, none⟩ c (fun _ => rfl)
theorem set3_row {w : World} {g : Nat} {a b c x y z : Value} {T : TypeId} (h : w.heap[g]? = some (.cells #[x, y, z] T (0, 0))) : (set3 w g a b c).heap[g]? = some (.cells #[a, b, c] T (0, 0)) :=
  hp_same (hp_same (hp_same h 0 a) 1 b) 2 c
/-- The cells of a block of three. -/
theorem three_cells {w : World} {g : Nat} {x y z : Value} {T : TypeId} (h : w.heap[g]? = some (.cells #[x, y, z] T (0, 0))) :
    w.cell? ⟨g, 0, none⟩ = some x ∧ w.cell? ⟨g, 1, none⟩ = some y ∧ w.cell? ⟨g, 2, none⟩ = some z ∧ (∀ j, w.frozen? ⟨g, j, none⟩ = false) ∧ g < w.heap.size :=
  ⟨by rw [cell_of_row _ _ _ _ _ (0, 0) h]; rfl, by rw [cell_of_row _ _ _ _ _ (0, 0) h]; rfl, by rw [cell_of_row _ _ _ _ _ (0, 0) h]; rfl, fun j => by simp [World.frozen?, h], (Array.getElem?_eq_some_iff.1 h).1⟩

/-- A change in memory of its own. -/
structure Cpd (w w' : World) (x : SpV) (F T : Value) : Prop where
  oF : Ow w' 5 1 F x.f.length (bvs x.f)
  oT : Ow w' 5 1 T x.t.length (bvs x.t)
  nF : ∀ k, F.ownBlock = some k → w.heap.size ≤ k
  nT : ∀ k, T.ownBlock = some k → w.heap.size ≤ k
  ne : ∀ k, F.ownBlock = some k → T.ownBlock ≠ some k
  fF : ∃ A, F = .slice A x.f.length x.f.length
  fT : ∃ A, T = .slice A x.t.length x.t.length
  fr : Fr no w w'

set_option maxRecDepth 100000 in
set_option maxHeartbeats 4000000 in
theorem copied_any (w : World) (x : SpV) (hx : x.Good w) :
    Calls Try.prog 55 #[.agg #[x.F, x.T, .bool x.o]] w fun e w' => ∃ F T, e = .returned (.agg #[F, T, .bool x.o]) ∧ Cpd w w' x F T := by
  obtain ⟨xF, xT, f, t, o⟩ := x
  obtain ⟨FA, fc, hF, _, _⟩ := hx.F.form
  obtain ⟨TA, tc, hT, _, _⟩ := hx.T.form
  simp only at hF hT
  subst hF; subst hT
  have HX := Lib.hid hx; clear hx
  go_enter Try.func55, Try.ntmps55
  go_wp2_with fail
  refine wp_region_ord [0, 1, 3, 4, 6, 7, 2, 5, 8, 9] (fun i => [Kd.p, Kd.l, Kd.g, Kd.p, Kd.l, Kd.g, Kd.p, Kd.l, Kd.e, Kd.e].getD i .e) (by kernel_rfl) (by kernel_rfl) ?_
  iterate 6
    first | refine wpX_pu rfl rfl rfl (by first | exact pu_move rfl | exact pu_assign rfl | exact pu_nilCheck rfl rfl | exact pu_binInt rfl rfl rfl | exact pu_conv rfl rfl (by kernel_rfl) | exact pu_fld rfl (by kernel_rfl) | exact pu_ix rfl rfl rfl (by kernel_rfl) | exact pu_unOp rfl | exact pu_binStr rfl rfl rfl | exact pu_len rfl rfl | exact pu_lens rfl rfl | exact pu_pick rfl | exact pu_slice rfl rfl) (fun K hK => ?_) | refine wpX_rd rfl rfl rfl (rd_load rfl) (fun K hK => ?_) | refine wpX_gr rfl rfl rfl (by first | exact gr_buildSlice rfl | exact gr_box rfl | exact gr_alloc rfl) (fun K hK => ?_) | refine wpX_ex rfl rfl rfl (fun K hK => ?_)
    try go_wp2
  have hr : ((w.alloc (.cells #[.slice FA f.length fc, .slice TA t.length tc, .bool o] 36)).alloc (.cells #[.slice none 0 0, .slice none 0 0, .bool false] 36)).drew.heap[w.heap.size + 1]? = some (.cells #[.slice none 0 0, .slice none 0 0, .bool false] 36 (0, 0)) := heap_alloc2_new _ _ _
  have hf : Fr no w ((w.alloc (.cells #[.slice FA f.length fc, .slice TA t.length tc, .bool o] 36)).alloc (.cells #[.slice none 0 0, .slice none 0 0, .bool false] 36)).drew := Fr.drew (((Fr.refl no w).alloc _).alloc _)
  generalize ((w.alloc (.cells #[.slice FA f.length fc, .slice TA t.length tc, .bool o] 36)).alloc (.cells #[.slice none 0 0, .slice none 0 0, .bool false] 36)).drew = W0 at hr hf ⊢
  have HR := Lib.hid hr; have HF := Lib.hid hf; clear hr hf
  refine wpX_ca rfl rfl rfl (fun K hK => ?_)
  go_wp2_with fail
  refine (bown_any _ _ f (HX.out.F.kept0 HF.out) HX.out.lf).mono ?_
  rintro e w1 ⟨A1, rfl, h1, h2, h3⟩
  have H1 := Lib.hid h1; have H2 := Lib.hid h2; have H3 := Lib.hid h3; clear h1 h2 h3
  go_wp2
  obtain ⟨⟨xa, xb⟩, hext⟩ := H3.out.ext
  refine ⟨⟨xa, xb, hext⟩, hK _ _ ?_⟩
  clear hK K hext xa xb
  refine wpX_ca rfl rfl rfl (fun K hK => ?_)
  go_wp2_with fail
  refine (bown_any _ _ t ((HX.out.T.kept0 HF.out).kept0 H3.out) HX.out.lt).mono ?_
  rintro e w2 ⟨A2, rfl, h1, h2, h3⟩
  have G1 := Lib.hid h1; have G2 := Lib.hid h2; have G3 := Lib.hid h3; clear h1 h2 h3
  go_wp2
  obtain ⟨⟨xa, xb⟩, hext⟩ := G3.out.ext
  refine ⟨⟨xa, xb, hext⟩, hK _ _ ?_⟩
  clear hK K hext xa xb
  have hr2 := G3.out.heap (H3.out.heap HR.out (fun h => h)) (fun h => h)
  have HR2 := Lib.hid hr2
  obtain ⟨c0, c1, c2, hz, hlt⟩ := three_cells hr2
  clear hr2
  iterate 2
    first | refine wpX_pu rfl rfl rfl (by first | exact pu_move rfl | exact pu_assign rfl | exact pu_nilCheck rfl rfl | exact pu_binInt rfl rfl rfl | exact pu_conv rfl rfl (by kernel_rfl) | exact pu_fld rfl (by kernel_rfl) | exact pu_ix rfl rfl rfl (by kernel_rfl) | exact pu_unOp rfl | exact pu_binStr rfl rfl rfl | exact pu_len rfl rfl | exact pu_lens rfl rfl | exact pu_pick rfl | exact pu_slice rfl rfl) (fun K hK => ?_) | refine wpX_rd rfl rfl rfl (rd_load rfl) (fun K hK => ?_) | refine wpX_gr rfl rfl rfl (by first | exact gr_buildSlice rfl | exact gr_box rfl | exact gr_alloc rfl) (fun K hK => ?_) | refine wpX_ex rfl rfl rfl (fun K hK => ?_)
    try go_wp2
  refine wpX_done ?_
  go_wp2
  have hg := set3_row (a := .slice A1 f.length f.length) (b := .slice A2 t.length t.length) (c := .bool o) HR2.out
  have fs := set3_fr w2 (w.heap.size + 1) (.slice A1 f.length f.length) (.slice A2 t.length t.length) (.bool o)
  rw [show ((w2.setCell ⟨w.heap.size + 1, 0, none⟩ (.slice A1 f.length f.length)).setCell ⟨w.heap.size + 1, 1, none⟩ (.slice A2 t.length t.length)).setCell ⟨w.heap.size + 1, 2, none⟩ (.bool o) = set3 w2 (w.heap.size + 1) (.slice A1 f.length f.length) (.slice A2 t.length t.length) (.bool o) from rfl]
  generalize set3 w2 (w.heap.size + 1) (.slice A1 f.length f.length) (.slice A2 t.length t.length) (.bool o) = w3 at hg fs ⊢
  refine bodyPost_ret (results_cell_row rfl _ _ (w.heap.size + 1) _ #[.slice A1 f.length f.length, .slice A2 t.length t.length, .bool o] (0, 0) _ rfl hg Try.underlying36 rfl (by kernel_rfl)) rfl ?_
  have sz0 := HF.out.size; have sz1 := H3.out.size; have sz2 := G3.out.size
  have hro := HR.out
  have hlt0 := (Array.getElem?_eq_some_iff.1 hro).1
  have n1 : ∀ k, (Value.slice A1 f.length f.length).ownBlock = some k → W0.heap.size ≤ k := fun k hk => H2.out k hk
  have n2 : ∀ k, (Value.slice A2 t.length t.length).ownBlock = some k → w1.heap.size ≤ k := fun k hk => G2.out k hk
  exact ⟨_, _, rfl, (H1.out.kept0 G3.out).kept fs (fun k hk e => by have := n1 k hk; omega), G1.out.kept fs (fun k hk e => by have := n2 k hk; omega),
    fun k hk => by have := n1 k hk; omega, fun k hk => by have := n2 k hk; omega, fun k hk e => by have := n2 k e; have := H1.out.lt k hk; omega, ⟨_, rfl⟩, ⟨_, rfl⟩,
    ((HF.out.trans H3.out (fun _ _ h => h)).trans G3.out (fun _ _ h => h)).trans fs (fun k hk e => by omega)⟩
end Go.Proofs.Ytdnohhlgaaihmaa

/- package buffer: where a key stands. -/
namespace Go.Proofs.Ytdnohhlgaaihmaa
open Go.RowKit

/-- Changes by rising keys. -/
def Ris (l : List SpV) : Prop := l.Pairwise fun x y => lt x.f y.f
/-- How many keys lie ahead of k. -/
def posK (l : List SpV) (k : List UInt8) : Nat := (l.takeWhile fun y => decide (cb y.f k < 0)).length
/-- Is it said of k? -/
def saidK (l : List SpV) (k : List UInt8) : Bool := match l[posK l k]? with | some y => decide (cb y.f k = 0) | none => false

theorem posK_le (l : List SpV) (k : List UInt8) : posK l k ≤ l.length := by
  unfold posK
  induction l with
  | nil => simp
  | cons a l ih => rw [List.takeWhile_cons]; split <;> simp; omega

theorem posK_of {l : List SpV} {k : List UInt8} {i : Nat} (hi : i ≤ l.length) (h1 : ∀ m (h : m < l.length), m < i → cb l[m].f k < 0) (h2 : ∀ h : i < l.length, ¬ cb l[i].f k < 0) : posK l k = i := by
  induction l generalizing i with
  | nil => simp at hi; subst hi; rfl
  | cons a l ih =>
    unfold posK
    rw [List.takeWhile_cons]
    cases i with
    | zero =>
      have := h2 (by simp)
      simp only [List.getElem_cons_zero] at this
      simp [this]
    | succ i =>
      have h0 := h1 0 (by simp) (by omega)
      simp only [List.getElem_cons_zero] at h0
      simp only [h0, decide_true, if_true, List.length_cons]
      have := ih (i := i) (by simpa using hi) (fun m h hm => h1 (m + 1) (Nat.succ_lt_succ h) (by omega)) (fun h => h2 (Nat.succ_lt_succ h))
      unfold posK at this
      rw [this]

theorem posK_lt {l : List SpV} {k : List UInt8} (m : Nat) (h : m < l.length) (hm : m < posK l k) : cb l[m].f k < 0 := by
  unfold posK at hm
  induction l generalizing m with
  | nil => simp at h
  | cons a l ih =>
    rw [List.takeWhile_cons] at hm
    split at hm
    · rename_i h0
      cases m with
      | zero => simpa using h0
      | succ m => simpa using ih m (by simpa using h) (by simpa using hm)
    · simp at hm
theorem posK_ge {l : List SpV} {k : List UInt8} (h : posK l k < l.length) : ¬ cb l[posK l k].f k < 0 := by
  induction l with
  | nil => simp at h
  | cons a l ih =>
    by_cases h0 : cb a.f k < 0
    · have e : posK (a :: l) k = posK l k + 1 := by unfold posK; rw [List.takeWhile_cons]; simp [h0]
      simp only [e] at h ⊢
      simpa using ih (by simpa using h)
    · have e : posK (a :: l) k = 0 := by unfold posK; rw [List.takeWhile_cons]; simp [h0]
      simp only [e]
      simpa using h0

theorem below_mono {l : List SpV} (h : Ris l) {k : List UInt8} {i j : Nat} (hi : i < l.length) (hj : j < l.length) (hij : i ≤ j) (hc : cb l[j].f k < 0) : cb l[i].f k < 0 := by
  rcases Nat.lt_or_eq_of_le hij with h1 | rfl
  · exact lt_trans (List.pairwise_iff_getElem.1 h i j hi hj h1) hc
  · exact hc

set_option maxRecDepth 100000 in
set_option maxHeartbeats 400000 in
theorem cmpk_any (w : World) (x : SpV) (K : Value) (k : List UInt8) (hx : x.Good w) (hK : Sl w 1 K k.length (bvs k)) :
    Calls Try.prog 126 #[.agg #[x.F, x.T, .bool x.o], K] w fun e w' => e = .returned (.int .i64 (cb x.f k)) ∧ Fr no w w' := by
  have HX := Lib.hid hx; have HK := Lib.hid hK; clear hx hK
  go_enter Try.func126, Try.ntmps126
  go_wp2_with fail
  refine (cmp_any _ _ _ x.f k (HX.out.F.kept0 ((Fr.refl no w).alloc _)) (HK.out.kept0 ((Fr.refl no w).alloc _))).mono ?_
  rintro e w1 ⟨rfl, rfl⟩
  go_wp2
  go_ret
  exact ⟨rfl, (Fr.refl no w).alloc _⟩

set_option maxRecDepth 100000 in
set_option maxHeartbeats 4000000 in
theorem search_any (w : World) (x K : Value) (l : List SpV) (k : List UInt8) (hx : Sl w 3 x l.length (l.flatMap SpV.cells)) (hg : ∀ y ∈ l, y.Good w) (hK : Sl w 1 K k.length (bvs k)) (hr : Ris l) (hl : l.length ≤ 1000000) :
    Calls Try.prog 125 #[x, K, .func (.func 126) #[] #[]] w fun e w' => e = .returned (.tuple #[.int .i64 (posK l k), .bool (saidK l k)]) ∧ Fr no w w' := by
  obtain ⟨A, c, rfl, hc1, hc2⟩ := hx.form
  have HX := Lib.hid hx; have HG := Lib.hid hg; have HK := Lib.hid hK; have HR := Lib.hid hr; clear hx hg hK hr hc2
  go_enter Try.func125, Try.ntmps125
  go_wp2
  go_loopw [9, 10, 11] (fun i j _ wr => ∃ a b : Nat, i = .int .i64 a ∧ j = .int .i64 b ∧ a ≤ b ∧ b ≤ l.length ∧ (∀ m (h : m < l.length), m < a → cb l[m].f k < 0) ∧ (∀ m (h : m < l.length), b ≤ m → ¬ cb l[m].f k < 0) ∧ Fr no w wr) (fun i j _ _ => (intOf j - intOf i).toNat)
  case atStart => exact ⟨0, l.length, rfl, rfl, Nat.zero_le _, Nat.le_refl _, fun m h h0 => by omega, fun m h h0 => by omega, Fr.refl _ _⟩
  case round =>
    obtain ⟨a, b, rfl, rfl, hab, hbl, h1, h2, hf⟩ := hrel
    have H1 := Lib.hid h1; have H2 := Lib.hid h2; have HF := Lib.hid hf; clear h1 h2 hf
    by_cases hlt : a < b
    · have hMl : (a + b) / 2 < l.length := by omega
      obtain ⟨bb, o, hA, q0, q1, q2⟩ := Spans.at (HX.out.kept0 HF.out) ((a + b) / 2) hMl
      subst hA
      have hgm := HG.out l[(a + b) / 2] (List.getElem_mem _)
      obtain ⟨FA, fc, hF, _, _⟩ := hgm.F.form
      obtain ⟨TA, tc, hT, _, _⟩ := hgm.T.form
      have hgm2 : SpV.Good w ⟨.slice FA l[(a + b) / 2].f.length fc, .slice TA l[(a + b) / 2].t.length tc, l[(a + b) / 2].f, l[(a + b) / 2].t, l[(a + b) / 2].o⟩ := ⟨hF ▸ hgm.F, hT ▸ hgm.T, hgm.lf, hgm.lt⟩
      rw [hF] at q0; rw [hT] at q1
      have HGM := Lib.hid hgm2; clear hgm hgm2 hF hT
      by_cases hc : cb l[(a + b) / 2].f k < 0
      · go_wp2_with fail
        refine (cmpk_any _ _ K k (HGM.out.kept0 HF.out) (HK.out.kept0 HF.out)).mono ?_
        rintro e w1 ⟨rfl, f1⟩
        have F1 := Lib.hid f1; clear f1
        have HC := Lib.hid hc
        go_wp2
        go_roundw
        case rel => exact ⟨(a + b) / 2 + 1, b, by first | rfl | go_num, rfl, by omega, hbl, fun m h hm => below_mono HR.out h hMl (by omega) HC.out, (fun m h hm => by have := H2.out m h hm; omega), HF.out.trans F1.out (fun _ _ h => h)⟩
        case measure => simp [intOf]; omega
      · go_wp2_with fail
        refine (cmpk_any _ _ K k (HGM.out.kept0 HF.out) (HK.out.kept0 HF.out)).mono ?_
        rintro e w1 ⟨rfl, f1⟩
        have F1 := Lib.hid f1; clear f1
        have HC := Lib.hid hc
        go_wp2
        go_roundw
        case rel => exact ⟨a, (a + b) / 2, rfl, by first | rfl | go_num, by omega, by omega, H1.out, fun m h hm h0 => by have := below_mono HR.out hMl h hm h0; have := HC.out; omega, HF.out.trans F1.out (fun _ _ h => h)⟩
        case measure => simp [intOf]; omega
    · obtain rfl : a = b := by omega
      have hp : posK l k = a := posK_of hbl H1.out (fun h => H2.out a h (Nat.le_refl _))
      have HP := Lib.hid hp; clear hp
      by_cases hal : a < l.length
      · obtain ⟨bb, o, hA, q0, q1, q2⟩ := Spans.at (HX.out.kept0 HF.out) a hal
        subst hA
        have hgm := HG.out l[a] (List.getElem_mem _)
        obtain ⟨FA, fc, hF, _, _⟩ := hgm.F.form
        obtain ⟨TA, tc, hT, _, _⟩ := hgm.T.form
        have hgm2 : SpV.Good w ⟨.slice FA l[a].f.length fc, .slice TA l[a].t.length tc, l[a].f, l[a].t, l[a].o⟩ := ⟨hF ▸ hgm.F, hT ▸ hgm.T, hgm.lf, hgm.lt⟩
        rw [hF] at q0; rw [hT] at q1
        have HGM := Lib.hid hgm2; clear hgm hgm2 hF hT
        go_wp2_with fail
        refine (cmpk_any _ _ K k (HGM.out.kept0 HF.out) (HK.out.kept0 HF.out)).mono ?_
        rintro e w1 ⟨rfl, f1⟩
        have F1 := Lib.hid f1; clear f1
        have hs : saidK l k = decide (cb l[a].f k = 0) := by unfold saidK; rw [HP.out, List.getElem?_eq_getElem hal]
        have HS := Lib.hid hs; clear hs
        go_wp2
        refine bodyPost_ret (results_tmp2 rfl _ _ _) rfl ?_
        rw [HP.out, HS.out]
        exact ⟨by first | rfl | simp, HF.out.trans F1.out (fun _ _ h => h)⟩
      · have hs : saidK l k = false := by unfold saidK; rw [HP.out, List.getElem?_eq_none (by omega)]
        have HS := Lib.hid hs; clear hs
        go_wp2
        refine bodyPost_ret (results_tmp2 rfl _ _ _) rfl ?_
        rw [HP.out, HS.out]
        exact ⟨rfl, HF.out⟩
end Go.Proofs.Ytdnohhlgaaihmaa
