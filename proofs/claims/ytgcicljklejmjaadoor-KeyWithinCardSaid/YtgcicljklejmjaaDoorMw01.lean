import Derived.Test.YtgcicljklejmjaaDoorMb16
import Derived.Test.YtgcicljklejmjaaDoorMb17
import Derived.Test.YtgcicljklejmjaaDoorMb12

/- KeyWithin: tuples that begin with some values. Printed by mkwithin.py. -/
namespace Go.Proofs.YtgcicljklejmjaaDoor
open Go.RowKit Go.Shelf
open Tr

theorem in_one {w : World} {v : Value} {l : List (Tr Mm)} (h : In w v l) : ∀ u ∈ l.flatMap cells, u.oneCell' = true := cells_one l (fun y hy => (h.good y hy).node.forms)
theorem nums_in {w : World} {v : Value} {l : List (Tr Mm)} (h : In w v l) : ∀ x ∈ l, Nums x := fun x hx => good_nums (h.good x hx)

theorem sl_head7 {w : World} {A : Option Addr} {c n : Nat} {o : List (Tr Mm)} (h : Sl w 7 (.slice A o.length c) o.length (o.flatMap cells)) (hn : n ≤ o.length) : Sl w 7 (.slice A n c) n ((o.take n).flatMap cells) := by
  have hlen : ∀ l : List (Tr Mm), (l.flatMap cells).length = l.length * 7 := fun l => by
    induction l with
    | nil => rfl
    | cons a l ih => rw [List.flatMap_cons, List.length_append, cells_len, ih, List.length_cons]; omega
  refine ⟨by rw [hlen, List.length_take, Nat.min_eq_left hn], ?_⟩
  rcases h.2 with ⟨B, h1, h2⟩ | ⟨b, q, cap, h1, h2, h3, h4⟩
  · simp only [Value.slice.injEq] at h1
    obtain ⟨rfl, h3, rfl⟩ := h1
    exact .inl ⟨A, by rw [show n = 0 by omega], by omega⟩
  · simp only [Value.slice.injEq] at h1
    obtain ⟨rfl, _, rfl⟩ := h1
    refine .inr ⟨b, q, c, rfl, by omega, h3, fun j u hu => h4 j u ?_⟩
    have hp : (o.take n).flatMap cells <+: o.flatMap cells := by
      conv => rhs; rw [← List.take_append_drop n o]
      rw [List.flatMap_append]
      exact List.prefix_append _ _
    obtain ⟨r, hr⟩ := hp
    rw [← hr, List.getElem?_append_left (List.getElem?_eq_some_iff.1 hu).1]
    exact hu

set_option maxRecDepth 100000 in
set_option maxHeartbeats 16000000 in
theorem within_any (w : World) (X Y Z D : Value) (l m o : List (Tr Mm)) (dl : List Bool) (hx : In w X l) (hy : In w Y m) (hz : In w Z o) (hd : Sl w 1 D dl.length (bls dl)) (hdn : dl.length ≤ reachBytes) (hT : Tabs w) :
    Calls Tryd.prog 9 #[X, Y, Z, D] w fun e w' => e = .returned (.bool true) ∧ Fr no w w' := by
  obtain ⟨XA, xc, rfl, _, _⟩ := hx.sl.form
  obtain ⟨YA, yc, rfl, _, _⟩ := hy.sl.form
  obtain ⟨ZA, zc, rfl, _, _⟩ := hz.sl.form
  obtain ⟨DA, dc, rfl, _, _⟩ := hd.form
  have lx : l.length ≤ 140737488351232 := hx.n
  have ly : m.length ≤ 140737488351232 := hy.n
  have lz : o.length ≤ 140737488351232 := hz.n
  have ldn : dl.length ≤ 140737488351232 := hdn
  have HX := Lib.hid hx; have HY := Lib.hid hy; have HZ := Lib.hid hz; have HD := Lib.hid hd; have HDN := Lib.hid hdn; have HT := Lib.hid hT
  clear hx hy hz hd hdn hT
  go_enter Tryd.func9, Tryd.ntmps9
  go_wp2_with fail
  refine (much_any l w _ HX.out).mono ?_
  rintro e w1 ⟨f1, b1, rfl, hb1⟩
  have F1 := Lib.hid f1; have HB1 := Lib.hid hb1
  clear f1 hb1
  cases b1 with
  | true =>
    go_wp2_with fail
    refine (known_any w1 (HT.out.kept0 F1.out)).mono ?_
    rintro e w9 ⟨rfl, f9⟩
    have F9 := Lib.hid (F1.out.trans f9 (fun _ _ h => h))
    clear f9
    go_wp2
    go_ret
    exact ⟨rfl, F9.out⟩
  | false =>
    go_wp2_with fail
    refine (much_any m w1 _ (HY.out.kept0 F1.out)).mono ?_
    rintro e w2 ⟨f2, b2, rfl, hb2⟩
    have F2 := Lib.hid (F1.out.trans f2 (fun _ _ h => h)); have HB2 := Lib.hid hb2
    clear f2 hb2
    cases b2 with
    | true =>
      go_wp2_with fail
      refine (known_any w2 (HT.out.kept0 F2.out)).mono ?_
      rintro e w9 ⟨rfl, f9⟩
      have F9 := Lib.hid (F2.out.trans f9 (fun _ _ h => h))
      clear f9
      go_wp2
      go_ret
      exact ⟨rfl, F9.out⟩
    | false =>
      go_wp2_with fail
      refine (much_any o w2 _ (HZ.out.kept0 F2.out)).mono ?_
      rintro e w3 ⟨f3, b3, rfl, hb3⟩
      have F3 := Lib.hid (F2.out.trans f3 (fun _ _ h => h)); have HB3 := Lib.hid hb3
      clear f3 hb3
      cases b3 with
      | true =>
        go_wp2_with fail
        refine (known_any w3 (HT.out.kept0 F3.out)).mono ?_
        rintro e w9 ⟨rfl, f9⟩
        have F9 := Lib.hid (F3.out.trans f9 (fun _ _ h => h))
        clear f9
        go_wp2
        go_ret
        exact ⟨rfl, F9.out⟩
      | false =>
        by_cases hdl : dl.length ≤ 20000
        rotate_left
        · skip
          go_wp2_with fail
          refine (known_any w3 (HT.out.kept0 F3.out)).mono ?_
          rintro e w9 ⟨rfl, f9⟩
          have F9 := Lib.hid (F3.out.trans f9 (fun _ _ h => h))
          clear f9
          go_wp2
          go_ret
          exact ⟨rfl, F9.out⟩
        have hl1 : l.length ≤ 20000 := by have h : l.length + wgtL l ≤ 20000 := (by first | exact HB1.out rfl | exact HB1.out trivial); omega
        have hl2 : m.length ≤ 20000 := by have h : m.length + wgtL m ≤ 20000 := (by first | exact HB2.out rfl | exact HB2.out trivial); omega
        have hl3 : o.length ≤ 20000 := by have h : o.length + wgtL o ≤ 20000 := (by first | exact HB3.out rfl | exact HB3.out trivial); omega
        go_wp2_with fail
        refine (known_any w3 (HT.out.kept0 F3.out)).mono ?_
        rintro e w4 ⟨rfl, f4⟩
        have F4 := Lib.hid (F3.out.trans f4 (fun _ _ h => h))
        clear f4
        go_wp2_with fail
        refine (encode_any w4 _ _ l dl (HX.out.kept0 F4.out) (HD.out.kept0 F4.out) HDN.out (HT.out.kept0 F4.out)).mono ?_
        rintro e w5 ⟨f5, he5⟩
        have F5 := Lib.hid (F4.out.trans f5 (fun _ _ h => h)); have HE5 := Lib.hid he5
        clear f5 he5
        rcases HE5.out with ⟨ht, A, na, rfl, hna, hoa, _⟩ | ⟨ht, rfl⟩
        · by_cases hle : l = []
          · have ge : ((l.length : Int) == 0) = true := by rw [hle]; rfl
            clear hle
            go_wp2_with (at_builtin; refine wpList_apo (n := 0) (xs := []) (m := l.length) (news := l.flatMap cells) rfl (.tmp 45) (.tmp 46) 25 rfl tbV (ow_none _ _ _) (HX.out.kept0 F5.out).sl rfl rfl (in_one HX.out) ?pa1 ?pa2 ?pa3)
            case pa1 => simp only [maxLen]; omega
            case pa2 => omega
            case pa3 =>
              intro P N1 pc w6 hN ho6 _ hf6 hs6
              obtain rfl : N1 = l.length := by omega
              have f56 : Fr no w5 w6 := hf6.mono (fun _ _ h => nomatch h)
              have hnew : ∀ k, Value.ownBlock (.slice P l.length pc) = some k → w5.heap.size ≤ k := fun k hk => (stays_own hs6 k hk).elim (fun h => nomatch h) id
              have F56 := Lib.hid f56; have F6 := Lib.hid (F5.out.trans f56 (fun _ _ h => h)); have HO6 := Lib.hid ho6; have HN6 := Lib.hid hnew
              clear f56 hf6 ho6 hs6 hnew
              go_wp2_with (at_builtin; refine wpList_apo (n := l.length) (xs := [] ++ l.flatMap cells) (m := m.length) (news := m.flatMap cells) rfl (.tmp 48) (.tmp 49) 25 rfl tbV HO6.out (HY.out.kept0 F6.out).sl rfl rfl (in_one HY.out) ?pb1 ?pb2 ?pb3)
              case pb1 => simp only [maxLen]; omega
              case pb2 => omega
              case pb3 =>
                intro R N2 rc w7 hN2 ho7 _ hf7 hs7
                subst hN2
                have f57 : Fr no w5 w7 := F56.out.trans hf7 (fun k hk h => by have := HN6.out k h; omega)
                have hall : In w7 (.slice R (l.length + m.length) rc) (l ++ m) := by
                  refine ⟨?_, fun z hz => ?_, by rw [List.length_append]; simp only [reachBytes]; omega, by rw [List.length_append]; simp only [reachBytes]; omega⟩
                  · rw [List.length_append, List.flatMap_append]
                    simpa using ho7.sl
                  · rcases List.mem_append.1 hz with hz | hz
                    · exact (HX.out.good z hz).kept0 (F5.out.trans f57 (fun _ _ h => h))
                    · exact (HY.out.good z hz).kept0 (F5.out.trans f57 (fun _ _ h => h))
                have F57 := Lib.hid f57; have F7 := Lib.hid (F5.out.trans f57 (fun _ _ h => h)); have HALL := Lib.hid hall
                clear f57 hf7 hs7 ho7 hall
                go_wp2_with fail
                refine (encode_any w7 _ _ (l ++ m) dl HALL.out (HD.out.kept0 F7.out) HDN.out (HT.out.kept0 F7.out)).mono ?_
                rintro e w8 ⟨f8, he8⟩
                have F58 := Lib.hid (F57.out.trans f8 (fun _ _ h => h)); have F8 := Lib.hid (F7.out.trans f8 (fun _ _ h => h)); have HE8 := Lib.hid he8
                clear f8 he8
                rcases HE8.out with ⟨hta, B, nb, rfl, hnb, hob, _⟩ | ⟨hta, rfl⟩
                · skip
                  go_wp2_with fail
                  refine (encode_any w8 _ _ o dl (HZ.out.kept0 F8.out) (HD.out.kept0 F8.out) HDN.out (HT.out.kept0 F8.out)).mono ?_
                  rintro e w9 ⟨f9, he9⟩
                  have F89 := Lib.hid f9; have F59 := Lib.hid (F58.out.trans f9 (fun _ _ h => h)); have F9 := Lib.hid (F8.out.trans f9 (fun _ _ h => h)); have HE9 := Lib.hid he9
                  clear f9 he9
                  rcases HE9.out with ⟨hto, C, nc, rfl, hnc, hoc, _⟩ | ⟨hto, rfl⟩
                  · skip
                    go_wp2
                    go_ret
                    exact ⟨rfl, F9.out⟩
                  · skip
                    go_wp2
                    go_ret
                    exact ⟨rfl, F9.out⟩
                · skip
                  go_wp2_with fail
                  refine (encode_any w8 _ _ o dl (HZ.out.kept0 F8.out) (HD.out.kept0 F8.out) HDN.out (HT.out.kept0 F8.out)).mono ?_
                  rintro e w9 ⟨f9, he9⟩
                  have F89 := Lib.hid f9; have F59 := Lib.hid (F58.out.trans f9 (fun _ _ h => h)); have F9 := Lib.hid (F8.out.trans f9 (fun _ _ h => h)); have HE9 := Lib.hid he9
                  clear f9 he9
                  rcases HE9.out with ⟨hto, C, nc, rfl, hnc, hoc, _⟩ | ⟨hto, rfl⟩
                  · skip
                    go_wp2
                    go_ret
                    exact ⟨rfl, F9.out⟩
                  · skip
                    go_wp2
                    go_ret
                    exact ⟨rfl, F9.out⟩
          · have ge : ((l.length : Int) == 0) = false := by
              rw [beq_eq_false_iff_ne]
              intro h
              exact hle (List.eq_nil_of_length_eq_zero (by omega))
            have HTL := Lib.hid ht; have HNA := Lib.hid hna; have HOA := Lib.hid hoa
            clear ht hna hoa hle
            go_wp2_with (at_builtin; refine wpList_apo (n := 0) (xs := []) (m := l.length) (news := l.flatMap cells) rfl (.tmp 45) (.tmp 46) 25 rfl tbV (ow_none _ _ _) (HX.out.kept0 F5.out).sl rfl rfl (in_one HX.out) ?ra1 ?ra2 ?ra3)
            case ra1 => simp only [maxLen]; omega
            case ra2 => omega
            case ra3 =>
              intro P N1 pc w6 hN ho6 _ hf6 hs6
              obtain rfl : N1 = l.length := by omega
              have f56 : Fr no w5 w6 := hf6.mono (fun _ _ h => nomatch h)
              have hnew : ∀ k, Value.ownBlock (.slice P l.length pc) = some k → w5.heap.size ≤ k := fun k hk => (stays_own hs6 k hk).elim (fun h => nomatch h) id
              have F56 := Lib.hid f56; have F6 := Lib.hid (F5.out.trans f56 (fun _ _ h => h)); have HO6 := Lib.hid ho6; have HN6 := Lib.hid hnew
              clear f56 hf6 ho6 hs6 hnew
              go_wp2_with (at_builtin; refine wpList_apo (n := l.length) (xs := [] ++ l.flatMap cells) (m := m.length) (news := m.flatMap cells) rfl (.tmp 48) (.tmp 49) 25 rfl tbV HO6.out (HY.out.kept0 F6.out).sl rfl rfl (in_one HY.out) ?rb1 ?rb2 ?rb3)
              case rb1 => simp only [maxLen]; omega
              case rb2 => omega
              case rb3 =>
                intro R N2 rc w7 hN2 ho7 _ hf7 hs7
                subst hN2
                have f57 : Fr no w5 w7 := F56.out.trans hf7 (fun k hk h => by have := HN6.out k h; omega)
                have hall : In w7 (.slice R (l.length + m.length) rc) (l ++ m) := by
                  refine ⟨?_, fun z hz => ?_, by rw [List.length_append]; simp only [reachBytes]; omega, by rw [List.length_append]; simp only [reachBytes]; omega⟩
                  · rw [List.length_append, List.flatMap_append]
                    simpa using ho7.sl
                  · rcases List.mem_append.1 hz with hz | hz
                    · exact (HX.out.good z hz).kept0 (F5.out.trans f57 (fun _ _ h => h))
                    · exact (HY.out.good z hz).kept0 (F5.out.trans f57 (fun _ _ h => h))
                have F57 := Lib.hid f57; have F7 := Lib.hid (F5.out.trans f57 (fun _ _ h => h)); have HALL := Lib.hid hall
                clear f57 hf7 hs7 ho7 hall
                go_wp2_with fail
                refine (encode_any w7 _ _ (l ++ m) dl HALL.out (HD.out.kept0 F7.out) HDN.out (HT.out.kept0 F7.out)).mono ?_
                rintro e w8 ⟨f8, he8⟩
                have F58 := Lib.hid (F57.out.trans f8 (fun _ _ h => h)); have F8 := Lib.hid (F7.out.trans f8 (fun _ _ h => h)); have HE8 := Lib.hid he8
                clear f8 he8
                rcases HE8.out with ⟨hta, B, nb, rfl, hnb, hob, _⟩ | ⟨hta, rfl⟩
                · skip
                  have HNB := Lib.hid hnb; have HOB := Lib.hid hob
                  clear hta hnb hob
                  go_wp2_with fail
                  refine (encode_any w8 _ _ o dl (HZ.out.kept0 F8.out) (HD.out.kept0 F8.out) HDN.out (HT.out.kept0 F8.out)).mono ?_
                  rintro e w9 ⟨f9, he9⟩
                  have F89 := Lib.hid f9; have F59 := Lib.hid (F58.out.trans f9 (fun _ _ h => h)); have F9 := Lib.hid (F8.out.trans f9 (fun _ _ h => h)); have HE9 := Lib.hid he9
                  clear f9 he9
                  rcases HE9.out with ⟨hto, C, nc, rfl, hnc, hoc, _⟩ | ⟨hto, rfl⟩
                  · skip
                    have HTO := Lib.hid hto
                    have HNC := Lib.hid hnc; have HOC := Lib.hid hoc
                    clear hto hnc hoc
                    have hoa9 := HOA.out.kept0 F59.out
                    have haft := after_any w9 (.slice A na na) (encT (fallsB dl) 0 l) (by have h := hoa9.sl; rw [HNA.out] at h ⊢; exact h) (by have := encT_le (fallsB dl) l (tupErr_zero.1 HTL.out).2.1 0; omega)
                    have HOA9 := Lib.hid hoa9; have HAFT := Lib.hid haft
                    clear hoa9 haft
                    go_wp2_with fail
                    refine HAFT.out.mono ?_
                    rintro e wA ⟨fA, ⟨hno, rfl⟩ | ⟨a, T, nt, hsa, rfl, hnt, hot, _⟩⟩
                    · skip
                      have HAF := Lib.hid hno
                      clear hno
                      have F9A := Lib.hid (F9.out.trans fA (fun _ _ h => h)); have FA := Lib.hid fA
                      clear fA
                      have hle : encT (fallsB dl) 0 l <+: encT (fallsB dl) 0 (l ++ m) := by rw [encT_append]; exact List.prefix_append _ _
                      have hbb := (after_begins (encT (fallsB dl) 0 l) (encT (fallsB dl) 0 (l ++ m))).1 hle
                      have hge8 : ¬ cb (encT (fallsB dl) 0 (l ++ m)) (encT (fallsB dl) 0 l) < 0 := by have := hbb.1; omega
                      have o1 := order_any wA (.slice B nb nb) (.slice A na na) (encT (fallsB dl) 0 (l ++ m)) (encT (fallsB dl) 0 l) (by rw [← HNB.out]; exact ((HOB.out.kept0 F89.out).kept0 FA.out).sl) (by rw [← HNA.out]; exact (HOA9.out.kept0 FA.out).sl)
                      have O1 := Lib.hid o1; clear o1 hle hbb
                      go_wp2_with fail
                      refine O1.out.mono ?_
                      rintro e wB ⟨rfl, hw⟩
                      subst wB
                      have hoc9 := HOC.out.kept0 FA.out; have hoa10 := HOA9.out.kept0 FA.out
                      have HOC := Lib.hid hoc9; have HOA9 := Lib.hid hoa10; have F9 := F9A
                      clear hoc9 hoa10
                      have hnz : ∀ x ∈ o, oneErr x = 0 ∧ Nums x := fun x hx => ⟨(tupErr_zero.1 HTO.out).2.1 x hx, nums_in HZ.out x hx⟩
                      have hnx : ∀ x ∈ l, oneErr x = 0 ∧ Nums x := fun x hx => ⟨(tupErr_zero.1 HTL.out).2.1 x hx, nums_in HX.out x hx⟩
                      have hpre := encT_pre (fallsB dl) 0 l o hnx hnz
                      have hab := after_begins (encT (fallsB dl) 0 l) (encT (fallsB dl) 0 o)
                      have HPRE := Lib.hid hpre; have HAB := Lib.hid hab
                      clear hnz hnx hpre hab
                      have hor := fun W (f : Fr no wA W) => order_any W (.slice C nc nc) (.slice A na na) (encT (fallsB dl) 0 o) (encT (fallsB dl) 0 l) (by rw [← HNC.out]; exact (HOC.out.kept0 f).sl) (by rw [← HNA.out]; exact (HOA9.out.kept0 f).sl)
                      have HOR := Lib.hid hor; clear hor
                      by_cases hlen : l.length ≤ o.length
                      · have hhd : In wA (.slice ZA l.length zc) (o.take l.length) := by
                          have h9 := HZ.out.kept0 F9.out
                          have hl : (o.take l.length).length = l.length := by rw [List.length_take]; omega
                          refine ⟨?_, fun z hz => h9.good z (List.mem_of_mem_take hz), by rw [hl]; simp only [reachBytes]; omega, by rw [hl]; simp only [reachBytes]; omega⟩
                          rw [hl]
                          exact sl_head7 h9.sl hlen
                        have hsv := samevs_any (o.take l.length) l wA _ _ hhd (HX.out.kept0 F9.out)
                        have HSV := Lib.hid hsv
                        clear hhd hsv
                        go_wp2_with fail
                        refine HSV.out.mono ?_
                        rintro e wS ⟨⟨v, rfl, hv⟩, fS⟩
                        have HV := Lib.hid hv; have FS := Lib.hid fS
                        clear hv fS
                        cases v with
                        | true =>
                          have hb : encT (fallsB dl) 0 l <+: encT (fallsB dl) 0 o := HPRE.out.2 ⟨hlen, by first | exact HV.out.1 rfl | exact HV.out.1 trivial | (have h := HV.out; simpa using h)⟩
                          have hge : 0 ≤ cb (encT (fallsB dl) 0 o) (encT (fallsB dl) 0 l) := (HAB.out.1 hb).1
                          clear hb
                          go_wp2_with fail
                          refine (HOR.out wS FS.out).mono ?_
                          rintro e w10 ⟨rfl, hw⟩
                          subst w10
                          go_wp2
                          go_ret
                          exact ⟨rfl, F9.out.trans FS.out (fun _ _ h => h)⟩
                        | false =>
                          have hb : ¬ encT (fallsB dl) 0 l <+: encT (fallsB dl) 0 o := fun h => by
                            have h2 := HV.out.2 (HPRE.out.1 h).2
                            first | cases h2 | exact h2
                          have hin : cb (encT (fallsB dl) 0 o) (encT (fallsB dl) 0 l) < 0 := by
                            have h5 : ¬ 0 ≤ cb (encT (fallsB dl) 0 o) (encT (fallsB dl) 0 l) := fun h => hb (HAB.out.2 ⟨h, fun a' ha' => by rw [HAF.out] at ha'; cases ha'⟩)
                            omega
                          clear hb
                          go_wp2_with fail
                          refine (HOR.out wS FS.out).mono ?_
                          rintro e w10 ⟨rfl, hw⟩
                          subst w10
                          go_wp2
                          go_ret
                          exact ⟨rfl, F9.out.trans FS.out (fun _ _ h => h)⟩
                      · have hb : ¬ encT (fallsB dl) 0 l <+: encT (fallsB dl) 0 o := fun h => hlen (HPRE.out.1 h).1
                        have hin : cb (encT (fallsB dl) 0 o) (encT (fallsB dl) 0 l) < 0 := by
                          have h5 : ¬ 0 ≤ cb (encT (fallsB dl) 0 o) (encT (fallsB dl) 0 l) := fun h => hb (HAB.out.2 ⟨h, fun a' ha' => by rw [HAF.out] at ha'; cases ha'⟩)
                          omega
                        clear hb
                        go_wp2_with fail
                        refine (HOR.out wA (Fr.refl no wA)).mono ?_
                        rintro e w10 ⟨rfl, hw⟩
                        subst w10
                        go_wp2
                        go_ret
                        exact ⟨rfl, F9.out.trans (Fr.refl no wA) (fun _ _ h => h)⟩
                    · skip
                      have HAF := Lib.hid hsa
                      have HNT := Lib.hid hnt; have HOT := Lib.hid hot
                      clear hsa hnt hot
                      have F9A := Lib.hid (F9.out.trans fA (fun _ _ h => h)); have FA := Lib.hid fA
                      clear fA
                      have hle : encT (fallsB dl) 0 l <+: encT (fallsB dl) 0 (l ++ m) := by rw [encT_append]; exact List.prefix_append _ _
                      have hbb := (after_begins (encT (fallsB dl) 0 l) (encT (fallsB dl) 0 (l ++ m))).1 hle
                      have hge8 : ¬ cb (encT (fallsB dl) 0 (l ++ m)) (encT (fallsB dl) 0 l) < 0 := by have := hbb.1; omega
                      have hlt8 : cb (encT (fallsB dl) 0 (l ++ m)) a < 0 := hbb.2 a HAF.out
                      have o1 := order_any wA (.slice B nb nb) (.slice A na na) (encT (fallsB dl) 0 (l ++ m)) (encT (fallsB dl) 0 l) (by rw [← HNB.out]; exact ((HOB.out.kept0 F89.out).kept0 FA.out).sl) (by rw [← HNA.out]; exact (HOA9.out.kept0 FA.out).sl)
                      have O1 := Lib.hid o1; clear o1 hle hbb
                      have o2 := order_any wA (.slice B nb nb) (.slice T nt nt) (encT (fallsB dl) 0 (l ++ m)) a (by rw [← HNB.out]; exact ((HOB.out.kept0 F89.out).kept0 FA.out).sl) (by rw [← HNT.out]; exact HOT.out.sl)
                      have O2 := Lib.hid o2; clear o2
                      go_wp2_with fail
                      refine O1.out.mono ?_
                      rintro e wB ⟨rfl, hw⟩
                      subst wB
                      go_wp2_with fail
                      refine O2.out.mono ?_
                      rintro e wC ⟨rfl, hw⟩
                      subst wC
                      have hoc9 := HOC.out.kept0 FA.out; have hoa10 := HOA9.out.kept0 FA.out
                      have HOC := Lib.hid hoc9; have HOA9 := Lib.hid hoa10; have F9 := F9A
                      clear hoc9 hoa10
                      have hnz : ∀ x ∈ o, oneErr x = 0 ∧ Nums x := fun x hx => ⟨(tupErr_zero.1 HTO.out).2.1 x hx, nums_in HZ.out x hx⟩
                      have hnx : ∀ x ∈ l, oneErr x = 0 ∧ Nums x := fun x hx => ⟨(tupErr_zero.1 HTL.out).2.1 x hx, nums_in HX.out x hx⟩
                      have hpre := encT_pre (fallsB dl) 0 l o hnx hnz
                      have hab := after_begins (encT (fallsB dl) 0 l) (encT (fallsB dl) 0 o)
                      have HPRE := Lib.hid hpre; have HAB := Lib.hid hab
                      clear hnz hnx hpre hab
                      have hor := fun W (f : Fr no wA W) => order_any W (.slice C nc nc) (.slice A na na) (encT (fallsB dl) 0 o) (encT (fallsB dl) 0 l) (by rw [← HNC.out]; exact (HOC.out.kept0 f).sl) (by rw [← HNA.out]; exact (HOA9.out.kept0 f).sl)
                      have HOR := Lib.hid hor; clear hor
                      have hor2 := fun W (f : Fr no wA W) => order_any W (.slice C nc nc) (.slice T nt nt) (encT (fallsB dl) 0 o) a (by rw [← HNC.out]; exact (HOC.out.kept0 f).sl) (by rw [← HNT.out]; exact (HOT.out.kept0 f).sl)
                      have HOR2 := Lib.hid hor2; clear hor2
                      by_cases hlen : l.length ≤ o.length
                      · have hhd : In wA (.slice ZA l.length zc) (o.take l.length) := by
                          have h9 := HZ.out.kept0 F9.out
                          have hl : (o.take l.length).length = l.length := by rw [List.length_take]; omega
                          refine ⟨?_, fun z hz => h9.good z (List.mem_of_mem_take hz), by rw [hl]; simp only [reachBytes]; omega, by rw [hl]; simp only [reachBytes]; omega⟩
                          rw [hl]
                          exact sl_head7 h9.sl hlen
                        have hsv := samevs_any (o.take l.length) l wA _ _ hhd (HX.out.kept0 F9.out)
                        have HSV := Lib.hid hsv
                        clear hhd hsv
                        go_wp2_with fail
                        refine HSV.out.mono ?_
                        rintro e wS ⟨⟨v, rfl, hv⟩, fS⟩
                        have HV := Lib.hid hv; have FS := Lib.hid fS
                        clear hv fS
                        cases v with
                        | true =>
                          have hb : encT (fallsB dl) 0 l <+: encT (fallsB dl) 0 o := HPRE.out.2 ⟨hlen, by first | exact HV.out.1 rfl | exact HV.out.1 trivial | (have h := HV.out; simpa using h)⟩
                          have hge : 0 ≤ cb (encT (fallsB dl) 0 o) (encT (fallsB dl) 0 l) := (HAB.out.1 hb).1
                          have hlt : cb (encT (fallsB dl) 0 o) a < 0 := (HAB.out.1 hb).2 a HAF.out
                          clear hb
                          go_wp2_with fail
                          refine (HOR.out wS FS.out).mono ?_
                          rintro e w10 ⟨rfl, hw⟩
                          subst w10
                          go_wp2_with fail
                          refine (HOR2.out wS FS.out).mono ?_
                          rintro e w11 ⟨rfl, hw⟩
                          subst w11
                          go_wp2
                          go_ret
                          exact ⟨rfl, F9.out.trans FS.out (fun _ _ h => h)⟩
                        | false =>
                          have hb : ¬ encT (fallsB dl) 0 l <+: encT (fallsB dl) 0 o := fun h => by
                            have h2 := HV.out.2 (HPRE.out.1 h).2
                            first | cases h2 | exact h2
                          have hin : cb (encT (fallsB dl) 0 o) (encT (fallsB dl) 0 l) < 0 ∨ (0 ≤ cb (encT (fallsB dl) 0 o) (encT (fallsB dl) 0 l) ∧ ¬ cb (encT (fallsB dl) 0 o) a < 0) := by
                            by_cases h : 0 ≤ cb (encT (fallsB dl) 0 o) (encT (fallsB dl) 0 l)
                            · right
                              refine ⟨h, ?_⟩
                              have h5 : ¬ cb (encT (fallsB dl) 0 o) a < 0 := fun h6 => hb (HAB.out.2 ⟨h, fun a' ha' => by
                                have := HAF.out.symm.trans ha'
                                simp only [Option.some.injEq] at this
                                rw [← this]; exact h6⟩)
                              exact h5
                            · left; omega
                          clear hb
                          rcases hin with hin | ⟨hin, hia⟩
                          · skip
                            go_wp2_with fail
                            refine (HOR.out wS FS.out).mono ?_
                            rintro e w10 ⟨rfl, hw⟩
                            subst w10
                            go_wp2
                            go_ret
                            exact ⟨rfl, F9.out.trans FS.out (fun _ _ h => h)⟩
                          · skip
                            go_wp2_with fail
                            refine (HOR.out wS FS.out).mono ?_
                            rintro e w10 ⟨rfl, hw⟩
                            subst w10
                            go_wp2_with fail
                            refine (HOR2.out wS FS.out).mono ?_
                            rintro e w11 ⟨rfl, hw⟩
                            subst w11
                            go_wp2
                            go_ret
                            refine ⟨?_, F9.out.trans FS.out (fun _ _ h => h)⟩
                            show Ending.returned (.bool (!decide (cb (encT (fallsB dl) 0 o) a < 0))) = _
                            rw [decide_eq_false (show ¬ cb (encT (fallsB dl) 0 o) a < 0 by omega)]
                            rfl
                      · have hb : ¬ encT (fallsB dl) 0 l <+: encT (fallsB dl) 0 o := fun h => hlen (HPRE.out.1 h).1
                        have hin : cb (encT (fallsB dl) 0 o) (encT (fallsB dl) 0 l) < 0 ∨ (0 ≤ cb (encT (fallsB dl) 0 o) (encT (fallsB dl) 0 l) ∧ ¬ cb (encT (fallsB dl) 0 o) a < 0) := by
                          by_cases h : 0 ≤ cb (encT (fallsB dl) 0 o) (encT (fallsB dl) 0 l)
                          · right
                            refine ⟨h, ?_⟩
                            have h5 : ¬ cb (encT (fallsB dl) 0 o) a < 0 := fun h6 => hb (HAB.out.2 ⟨h, fun a' ha' => by
                              have := HAF.out.symm.trans ha'
                              simp only [Option.some.injEq] at this
                              rw [← this]; exact h6⟩)
                            exact h5
                          · left; omega
                        clear hb
                        rcases hin with hin | ⟨hin, hia⟩
                        · skip
                          go_wp2_with fail
                          refine (HOR.out wA (Fr.refl no wA)).mono ?_
                          rintro e w10 ⟨rfl, hw⟩
                          subst w10
                          go_wp2
                          go_ret
                          exact ⟨rfl, F9.out.trans (Fr.refl no wA) (fun _ _ h => h)⟩
                        · skip
                          go_wp2_with fail
                          refine (HOR.out wA (Fr.refl no wA)).mono ?_
                          rintro e w10 ⟨rfl, hw⟩
                          subst w10
                          go_wp2_with fail
                          refine (HOR2.out wA (Fr.refl no wA)).mono ?_
                          rintro e w11 ⟨rfl, hw⟩
                          subst w11
                          go_wp2
                          go_ret
                          refine ⟨?_, F9.out.trans (Fr.refl no wA) (fun _ _ h => h)⟩
                          show Ending.returned (.bool (!decide (cb (encT (fallsB dl) 0 o) a < 0))) = _
                          rw [decide_eq_false (show ¬ cb (encT (fallsB dl) 0 o) a < 0 by omega)]
                          rfl
                  · skip
                    have HTO := Lib.hid hto
                    have gto : ((tupErr o : Int) != 0) = true := by rw [bne_iff_ne]; omega
                    clear hto
                    have hoa9 := HOA.out.kept0 F59.out
                    have haft := after_any w9 (.slice A na na) (encT (fallsB dl) 0 l) (by have h := hoa9.sl; rw [HNA.out] at h ⊢; exact h) (by have := encT_le (fallsB dl) l (tupErr_zero.1 HTL.out).2.1 0; omega)
                    have HOA9 := Lib.hid hoa9; have HAFT := Lib.hid haft
                    clear hoa9 haft
                    go_wp2_with fail
                    refine HAFT.out.mono ?_
                    rintro e wA ⟨fA, ⟨hno, rfl⟩ | ⟨a, T, nt, hsa, rfl, hnt, hot, _⟩⟩
                    · skip
                      have HAF := Lib.hid hno
                      clear hno
                      have F9A := Lib.hid (F9.out.trans fA (fun _ _ h => h)); have FA := Lib.hid fA
                      clear fA
                      have hle : encT (fallsB dl) 0 l <+: encT (fallsB dl) 0 (l ++ m) := by rw [encT_append]; exact List.prefix_append _ _
                      have hbb := (after_begins (encT (fallsB dl) 0 l) (encT (fallsB dl) 0 (l ++ m))).1 hle
                      have hge8 : ¬ cb (encT (fallsB dl) 0 (l ++ m)) (encT (fallsB dl) 0 l) < 0 := by have := hbb.1; omega
                      have o1 := order_any wA (.slice B nb nb) (.slice A na na) (encT (fallsB dl) 0 (l ++ m)) (encT (fallsB dl) 0 l) (by rw [← HNB.out]; exact ((HOB.out.kept0 F89.out).kept0 FA.out).sl) (by rw [← HNA.out]; exact (HOA9.out.kept0 FA.out).sl)
                      have O1 := Lib.hid o1; clear o1 hle hbb
                      go_wp2_with fail
                      refine O1.out.mono ?_
                      rintro e wB ⟨rfl, hw⟩
                      subst wB
                      go_wp2
                      go_ret
                      exact ⟨rfl, F9A.out⟩
                    · skip
                      have HAF := Lib.hid hsa
                      have HNT := Lib.hid hnt; have HOT := Lib.hid hot
                      clear hsa hnt hot
                      have F9A := Lib.hid (F9.out.trans fA (fun _ _ h => h)); have FA := Lib.hid fA
                      clear fA
                      have hle : encT (fallsB dl) 0 l <+: encT (fallsB dl) 0 (l ++ m) := by rw [encT_append]; exact List.prefix_append _ _
                      have hbb := (after_begins (encT (fallsB dl) 0 l) (encT (fallsB dl) 0 (l ++ m))).1 hle
                      have hge8 : ¬ cb (encT (fallsB dl) 0 (l ++ m)) (encT (fallsB dl) 0 l) < 0 := by have := hbb.1; omega
                      have hlt8 : cb (encT (fallsB dl) 0 (l ++ m)) a < 0 := hbb.2 a HAF.out
                      have o1 := order_any wA (.slice B nb nb) (.slice A na na) (encT (fallsB dl) 0 (l ++ m)) (encT (fallsB dl) 0 l) (by rw [← HNB.out]; exact ((HOB.out.kept0 F89.out).kept0 FA.out).sl) (by rw [← HNA.out]; exact (HOA9.out.kept0 FA.out).sl)
                      have O1 := Lib.hid o1; clear o1 hle hbb
                      have o2 := order_any wA (.slice B nb nb) (.slice T nt nt) (encT (fallsB dl) 0 (l ++ m)) a (by rw [← HNB.out]; exact ((HOB.out.kept0 F89.out).kept0 FA.out).sl) (by rw [← HNT.out]; exact HOT.out.sl)
                      have O2 := Lib.hid o2; clear o2
                      go_wp2_with fail
                      refine O1.out.mono ?_
                      rintro e wB ⟨rfl, hw⟩
                      subst wB
                      go_wp2_with fail
                      refine O2.out.mono ?_
                      rintro e wC ⟨rfl, hw⟩
                      subst wC
                      go_wp2
                      go_ret
                      exact ⟨rfl, F9A.out⟩
                · skip
                  have gta : ((tupErr (l ++ m) : Int) == 0) = false := by rw [beq_eq_false_iff_ne]; omega
                  clear hta
                  go_wp2_with fail
                  refine (encode_any w8 _ _ o dl (HZ.out.kept0 F8.out) (HD.out.kept0 F8.out) HDN.out (HT.out.kept0 F8.out)).mono ?_
                  rintro e w9 ⟨f9, he9⟩
                  have F89 := Lib.hid f9; have F59 := Lib.hid (F58.out.trans f9 (fun _ _ h => h)); have F9 := Lib.hid (F8.out.trans f9 (fun _ _ h => h)); have HE9 := Lib.hid he9
                  clear f9 he9
                  rcases HE9.out with ⟨hto, C, nc, rfl, hnc, hoc, _⟩ | ⟨hto, rfl⟩
                  · skip
                    have HTO := Lib.hid hto
                    have HNC := Lib.hid hnc; have HOC := Lib.hid hoc
                    clear hto hnc hoc
                    have hoa9 := HOA.out.kept0 F59.out
                    have haft := after_any w9 (.slice A na na) (encT (fallsB dl) 0 l) (by have h := hoa9.sl; rw [HNA.out] at h ⊢; exact h) (by have := encT_le (fallsB dl) l (tupErr_zero.1 HTL.out).2.1 0; omega)
                    have HOA9 := Lib.hid hoa9; have HAFT := Lib.hid haft
                    clear hoa9 haft
                    go_wp2_with fail
                    refine HAFT.out.mono ?_
                    rintro e wA ⟨fA, ⟨hno, rfl⟩ | ⟨a, T, nt, hsa, rfl, hnt, hot, _⟩⟩
                    · skip
                      have HAF := Lib.hid hno
                      clear hno
                      have F9A := Lib.hid (F9.out.trans fA (fun _ _ h => h)); have FA := Lib.hid fA
                      clear fA
                      have hoc9 := HOC.out.kept0 FA.out; have hoa10 := HOA9.out.kept0 FA.out
                      have HOC := Lib.hid hoc9; have HOA9 := Lib.hid hoa10; have F9 := F9A
                      clear hoc9 hoa10
                      have hnz : ∀ x ∈ o, oneErr x = 0 ∧ Nums x := fun x hx => ⟨(tupErr_zero.1 HTO.out).2.1 x hx, nums_in HZ.out x hx⟩
                      have hnx : ∀ x ∈ l, oneErr x = 0 ∧ Nums x := fun x hx => ⟨(tupErr_zero.1 HTL.out).2.1 x hx, nums_in HX.out x hx⟩
                      have hpre := encT_pre (fallsB dl) 0 l o hnx hnz
                      have hab := after_begins (encT (fallsB dl) 0 l) (encT (fallsB dl) 0 o)
                      have HPRE := Lib.hid hpre; have HAB := Lib.hid hab
                      clear hnz hnx hpre hab
                      have hor := fun W (f : Fr no wA W) => order_any W (.slice C nc nc) (.slice A na na) (encT (fallsB dl) 0 o) (encT (fallsB dl) 0 l) (by rw [← HNC.out]; exact (HOC.out.kept0 f).sl) (by rw [← HNA.out]; exact (HOA9.out.kept0 f).sl)
                      have HOR := Lib.hid hor; clear hor
                      by_cases hlen : l.length ≤ o.length
                      · have hhd : In wA (.slice ZA l.length zc) (o.take l.length) := by
                          have h9 := HZ.out.kept0 F9.out
                          have hl : (o.take l.length).length = l.length := by rw [List.length_take]; omega
                          refine ⟨?_, fun z hz => h9.good z (List.mem_of_mem_take hz), by rw [hl]; simp only [reachBytes]; omega, by rw [hl]; simp only [reachBytes]; omega⟩
                          rw [hl]
                          exact sl_head7 h9.sl hlen
                        have hsv := samevs_any (o.take l.length) l wA _ _ hhd (HX.out.kept0 F9.out)
                        have HSV := Lib.hid hsv
                        clear hhd hsv
                        go_wp2_with fail
                        refine HSV.out.mono ?_
                        rintro e wS ⟨⟨v, rfl, hv⟩, fS⟩
                        have HV := Lib.hid hv; have FS := Lib.hid fS
                        clear hv fS
                        cases v with
                        | true =>
                          have hb : encT (fallsB dl) 0 l <+: encT (fallsB dl) 0 o := HPRE.out.2 ⟨hlen, by first | exact HV.out.1 rfl | exact HV.out.1 trivial | (have h := HV.out; simpa using h)⟩
                          have hge : 0 ≤ cb (encT (fallsB dl) 0 o) (encT (fallsB dl) 0 l) := (HAB.out.1 hb).1
                          clear hb
                          go_wp2_with fail
                          refine (HOR.out wS FS.out).mono ?_
                          rintro e w10 ⟨rfl, hw⟩
                          subst w10
                          go_wp2
                          go_ret
                          exact ⟨rfl, F9.out.trans FS.out (fun _ _ h => h)⟩
                        | false =>
                          have hb : ¬ encT (fallsB dl) 0 l <+: encT (fallsB dl) 0 o := fun h => by
                            have h2 := HV.out.2 (HPRE.out.1 h).2
                            first | cases h2 | exact h2
                          have hin : cb (encT (fallsB dl) 0 o) (encT (fallsB dl) 0 l) < 0 := by
                            have h5 : ¬ 0 ≤ cb (encT (fallsB dl) 0 o) (encT (fallsB dl) 0 l) := fun h => hb (HAB.out.2 ⟨h, fun a' ha' => by rw [HAF.out] at ha'; cases ha'⟩)
                            omega
                          clear hb
                          go_wp2_with fail
                          refine (HOR.out wS FS.out).mono ?_
                          rintro e w10 ⟨rfl, hw⟩
                          subst w10
                          go_wp2
                          go_ret
                          exact ⟨rfl, F9.out.trans FS.out (fun _ _ h => h)⟩
                      · have hb : ¬ encT (fallsB dl) 0 l <+: encT (fallsB dl) 0 o := fun h => hlen (HPRE.out.1 h).1
                        have hin : cb (encT (fallsB dl) 0 o) (encT (fallsB dl) 0 l) < 0 := by
                          have h5 : ¬ 0 ≤ cb (encT (fallsB dl) 0 o) (encT (fallsB dl) 0 l) := fun h => hb (HAB.out.2 ⟨h, fun a' ha' => by rw [HAF.out] at ha'; cases ha'⟩)
                          omega
                        clear hb
                        go_wp2_with fail
                        refine (HOR.out wA (Fr.refl no wA)).mono ?_
                        rintro e w10 ⟨rfl, hw⟩
                        subst w10
                        go_wp2
                        go_ret
                        exact ⟨rfl, F9.out.trans (Fr.refl no wA) (fun _ _ h => h)⟩
                    · skip
                      have HAF := Lib.hid hsa
                      have HNT := Lib.hid hnt; have HOT := Lib.hid hot
                      clear hsa hnt hot
                      have F9A := Lib.hid (F9.out.trans fA (fun _ _ h => h)); have FA := Lib.hid fA
                      clear fA
                      have hoc9 := HOC.out.kept0 FA.out; have hoa10 := HOA9.out.kept0 FA.out
                      have HOC := Lib.hid hoc9; have HOA9 := Lib.hid hoa10; have F9 := F9A
                      clear hoc9 hoa10
                      have hnz : ∀ x ∈ o, oneErr x = 0 ∧ Nums x := fun x hx => ⟨(tupErr_zero.1 HTO.out).2.1 x hx, nums_in HZ.out x hx⟩
                      have hnx : ∀ x ∈ l, oneErr x = 0 ∧ Nums x := fun x hx => ⟨(tupErr_zero.1 HTL.out).2.1 x hx, nums_in HX.out x hx⟩
                      have hpre := encT_pre (fallsB dl) 0 l o hnx hnz
                      have hab := after_begins (encT (fallsB dl) 0 l) (encT (fallsB dl) 0 o)
                      have HPRE := Lib.hid hpre; have HAB := Lib.hid hab
                      clear hnz hnx hpre hab
                      have hor := fun W (f : Fr no wA W) => order_any W (.slice C nc nc) (.slice A na na) (encT (fallsB dl) 0 o) (encT (fallsB dl) 0 l) (by rw [← HNC.out]; exact (HOC.out.kept0 f).sl) (by rw [← HNA.out]; exact (HOA9.out.kept0 f).sl)
                      have HOR := Lib.hid hor; clear hor
                      have hor2 := fun W (f : Fr no wA W) => order_any W (.slice C nc nc) (.slice T nt nt) (encT (fallsB dl) 0 o) a (by rw [← HNC.out]; exact (HOC.out.kept0 f).sl) (by rw [← HNT.out]; exact (HOT.out.kept0 f).sl)
                      have HOR2 := Lib.hid hor2; clear hor2
                      by_cases hlen : l.length ≤ o.length
                      · have hhd : In wA (.slice ZA l.length zc) (o.take l.length) := by
                          have h9 := HZ.out.kept0 F9.out
                          have hl : (o.take l.length).length = l.length := by rw [List.length_take]; omega
                          refine ⟨?_, fun z hz => h9.good z (List.mem_of_mem_take hz), by rw [hl]; simp only [reachBytes]; omega, by rw [hl]; simp only [reachBytes]; omega⟩
                          rw [hl]
                          exact sl_head7 h9.sl hlen
                        have hsv := samevs_any (o.take l.length) l wA _ _ hhd (HX.out.kept0 F9.out)
                        have HSV := Lib.hid hsv
                        clear hhd hsv
                        go_wp2_with fail
                        refine HSV.out.mono ?_
                        rintro e wS ⟨⟨v, rfl, hv⟩, fS⟩
                        have HV := Lib.hid hv; have FS := Lib.hid fS
                        clear hv fS
                        cases v with
                        | true =>
                          have hb : encT (fallsB dl) 0 l <+: encT (fallsB dl) 0 o := HPRE.out.2 ⟨hlen, by first | exact HV.out.1 rfl | exact HV.out.1 trivial | (have h := HV.out; simpa using h)⟩
                          have hge : 0 ≤ cb (encT (fallsB dl) 0 o) (encT (fallsB dl) 0 l) := (HAB.out.1 hb).1
                          have hlt : cb (encT (fallsB dl) 0 o) a < 0 := (HAB.out.1 hb).2 a HAF.out
                          clear hb
                          go_wp2_with fail
                          refine (HOR.out wS FS.out).mono ?_
                          rintro e w10 ⟨rfl, hw⟩
                          subst w10
                          go_wp2_with fail
                          refine (HOR2.out wS FS.out).mono ?_
                          rintro e w11 ⟨rfl, hw⟩
                          subst w11
                          go_wp2
                          go_ret
                          exact ⟨rfl, F9.out.trans FS.out (fun _ _ h => h)⟩
                        | false =>
                          have hb : ¬ encT (fallsB dl) 0 l <+: encT (fallsB dl) 0 o := fun h => by
                            have h2 := HV.out.2 (HPRE.out.1 h).2
                            first | cases h2 | exact h2
                          have hin : cb (encT (fallsB dl) 0 o) (encT (fallsB dl) 0 l) < 0 ∨ (0 ≤ cb (encT (fallsB dl) 0 o) (encT (fallsB dl) 0 l) ∧ ¬ cb (encT (fallsB dl) 0 o) a < 0) := by
                            by_cases h : 0 ≤ cb (encT (fallsB dl) 0 o) (encT (fallsB dl) 0 l)
                            · right
                              refine ⟨h, ?_⟩
                              have h5 : ¬ cb (encT (fallsB dl) 0 o) a < 0 := fun h6 => hb (HAB.out.2 ⟨h, fun a' ha' => by
                                have := HAF.out.symm.trans ha'
                                simp only [Option.some.injEq] at this
                                rw [← this]; exact h6⟩)
                              exact h5
                            · left; omega
                          clear hb
                          rcases hin with hin | ⟨hin, hia⟩
                          · skip
                            go_wp2_with fail
                            refine (HOR.out wS FS.out).mono ?_
                            rintro e w10 ⟨rfl, hw⟩
                            subst w10
                            go_wp2
                            go_ret
                            exact ⟨rfl, F9.out.trans FS.out (fun _ _ h => h)⟩
                          · skip
                            go_wp2_with fail
                            refine (HOR.out wS FS.out).mono ?_
                            rintro e w10 ⟨rfl, hw⟩
                            subst w10
                            go_wp2_with fail
                            refine (HOR2.out wS FS.out).mono ?_
                            rintro e w11 ⟨rfl, hw⟩
                            subst w11
                            go_wp2
                            go_ret
                            refine ⟨?_, F9.out.trans FS.out (fun _ _ h => h)⟩
                            show Ending.returned (.bool (!decide (cb (encT (fallsB dl) 0 o) a < 0))) = _
                            rw [decide_eq_false (show ¬ cb (encT (fallsB dl) 0 o) a < 0 by omega)]
                            rfl
                      · have hb : ¬ encT (fallsB dl) 0 l <+: encT (fallsB dl) 0 o := fun h => hlen (HPRE.out.1 h).1
                        have hin : cb (encT (fallsB dl) 0 o) (encT (fallsB dl) 0 l) < 0 ∨ (0 ≤ cb (encT (fallsB dl) 0 o) (encT (fallsB dl) 0 l) ∧ ¬ cb (encT (fallsB dl) 0 o) a < 0) := by
                          by_cases h : 0 ≤ cb (encT (fallsB dl) 0 o) (encT (fallsB dl) 0 l)
                          · right
                            refine ⟨h, ?_⟩
                            have h5 : ¬ cb (encT (fallsB dl) 0 o) a < 0 := fun h6 => hb (HAB.out.2 ⟨h, fun a' ha' => by
                              have := HAF.out.symm.trans ha'
                              simp only [Option.some.injEq] at this
                              rw [← this]; exact h6⟩)
                            exact h5
                          · left; omega
                        clear hb
                        rcases hin with hin | ⟨hin, hia⟩
                        · skip
                          go_wp2_with fail
                          refine (HOR.out wA (Fr.refl no wA)).mono ?_
                          rintro e w10 ⟨rfl, hw⟩
                          subst w10
                          go_wp2
                          go_ret
                          exact ⟨rfl, F9.out.trans (Fr.refl no wA) (fun _ _ h => h)⟩
                        · skip
                          go_wp2_with fail
                          refine (HOR.out wA (Fr.refl no wA)).mono ?_
                          rintro e w10 ⟨rfl, hw⟩
                          subst w10
                          go_wp2_with fail
                          refine (HOR2.out wA (Fr.refl no wA)).mono ?_
                          rintro e w11 ⟨rfl, hw⟩
                          subst w11
                          go_wp2
                          go_ret
                          refine ⟨?_, F9.out.trans (Fr.refl no wA) (fun _ _ h => h)⟩
                          show Ending.returned (.bool (!decide (cb (encT (fallsB dl) 0 o) a < 0))) = _
                          rw [decide_eq_false (show ¬ cb (encT (fallsB dl) 0 o) a < 0 by omega)]
                          rfl
                  · skip
                    have HTO := Lib.hid hto
                    have gto : ((tupErr o : Int) != 0) = true := by rw [bne_iff_ne]; omega
                    clear hto
                    have hoa9 := HOA.out.kept0 F59.out
                    have haft := after_any w9 (.slice A na na) (encT (fallsB dl) 0 l) (by have h := hoa9.sl; rw [HNA.out] at h ⊢; exact h) (by have := encT_le (fallsB dl) l (tupErr_zero.1 HTL.out).2.1 0; omega)
                    have HOA9 := Lib.hid hoa9; have HAFT := Lib.hid haft
                    clear hoa9 haft
                    go_wp2_with fail
                    refine HAFT.out.mono ?_
                    rintro e wA ⟨fA, ⟨hno, rfl⟩ | ⟨a, T, nt, hsa, rfl, hnt, hot, _⟩⟩
                    · skip
                      have HAF := Lib.hid hno
                      clear hno
                      have F9A := Lib.hid (F9.out.trans fA (fun _ _ h => h)); have FA := Lib.hid fA
                      clear fA
                      go_wp2
                      go_ret
                      exact ⟨rfl, F9A.out⟩
                    · skip
                      have HAF := Lib.hid hsa
                      have HNT := Lib.hid hnt; have HOT := Lib.hid hot
                      clear hsa hnt hot
                      have F9A := Lib.hid (F9.out.trans fA (fun _ _ h => h)); have FA := Lib.hid fA
                      clear fA
                      go_wp2
                      go_ret
                      exact ⟨rfl, F9A.out⟩
        · have gt : ((tupErr l : Int) != 0) = true := by rw [bne_iff_ne]; omega
          go_wp2_with (at_builtin; refine wpList_apo (n := 0) (xs := []) (m := l.length) (news := l.flatMap cells) rfl (.tmp 45) (.tmp 46) 25 rfl tbV (ow_none _ _ _) (HX.out.kept0 F5.out).sl rfl rfl (in_one HX.out) ?qa1 ?qa2 ?qa3)
          case qa1 => simp only [maxLen]; omega
          case qa2 => omega
          case qa3 =>
            intro P N1 pc w6 hN ho6 _ hf6 hs6
            obtain rfl : N1 = l.length := by omega
            have f56 : Fr no w5 w6 := hf6.mono (fun _ _ h => nomatch h)
            have hnew : ∀ k, Value.ownBlock (.slice P l.length pc) = some k → w5.heap.size ≤ k := fun k hk => (stays_own hs6 k hk).elim (fun h => nomatch h) id
            have F56 := Lib.hid f56; have F6 := Lib.hid (F5.out.trans f56 (fun _ _ h => h)); have HO6 := Lib.hid ho6; have HN6 := Lib.hid hnew
            clear f56 hf6 ho6 hs6 hnew
            go_wp2_with (at_builtin; refine wpList_apo (n := l.length) (xs := [] ++ l.flatMap cells) (m := m.length) (news := m.flatMap cells) rfl (.tmp 48) (.tmp 49) 25 rfl tbV HO6.out (HY.out.kept0 F6.out).sl rfl rfl (in_one HY.out) ?qb1 ?qb2 ?qb3)
            case qb1 => simp only [maxLen]; omega
            case qb2 => omega
            case qb3 =>
              intro R N2 rc w7 hN2 ho7 _ hf7 hs7
              subst hN2
              have f57 : Fr no w5 w7 := F56.out.trans hf7 (fun k hk h => by have := HN6.out k h; omega)
              have hall : In w7 (.slice R (l.length + m.length) rc) (l ++ m) := by
                refine ⟨?_, fun z hz => ?_, by rw [List.length_append]; simp only [reachBytes]; omega, by rw [List.length_append]; simp only [reachBytes]; omega⟩
                · rw [List.length_append, List.flatMap_append]
                  simpa using ho7.sl
                · rcases List.mem_append.1 hz with hz | hz
                  · exact (HX.out.good z hz).kept0 (F5.out.trans f57 (fun _ _ h => h))
                  · exact (HY.out.good z hz).kept0 (F5.out.trans f57 (fun _ _ h => h))
              have F57 := Lib.hid f57; have F7 := Lib.hid (F5.out.trans f57 (fun _ _ h => h)); have HALL := Lib.hid hall
              clear f57 hf7 hs7 ho7 hall
              go_wp2_with fail
              refine (encode_any w7 _ _ (l ++ m) dl HALL.out (HD.out.kept0 F7.out) HDN.out (HT.out.kept0 F7.out)).mono ?_
              rintro e w8 ⟨f8, he8⟩
              have F58 := Lib.hid (F57.out.trans f8 (fun _ _ h => h)); have F8 := Lib.hid (F7.out.trans f8 (fun _ _ h => h)); have HE8 := Lib.hid he8
              clear f8 he8
              rcases HE8.out with ⟨hta, B, nb, rfl, hnb, hob, _⟩ | ⟨hta, rfl⟩
              · skip
                go_wp2_with fail
                refine (encode_any w8 _ _ o dl (HZ.out.kept0 F8.out) (HD.out.kept0 F8.out) HDN.out (HT.out.kept0 F8.out)).mono ?_
                rintro e w9 ⟨f9, he9⟩
                have F89 := Lib.hid f9; have F59 := Lib.hid (F58.out.trans f9 (fun _ _ h => h)); have F9 := Lib.hid (F8.out.trans f9 (fun _ _ h => h)); have HE9 := Lib.hid he9
                clear f9 he9
                rcases HE9.out with ⟨hto, C, nc, rfl, hnc, hoc, _⟩ | ⟨hto, rfl⟩
                · skip
                  go_wp2
                  go_ret
                  exact ⟨rfl, F9.out⟩
                · skip
                  go_wp2
                  go_ret
                  exact ⟨rfl, F9.out⟩
              · skip
                go_wp2_with fail
                refine (encode_any w8 _ _ o dl (HZ.out.kept0 F8.out) (HD.out.kept0 F8.out) HDN.out (HT.out.kept0 F8.out)).mono ?_
                rintro e w9 ⟨f9, he9⟩
                have F89 := Lib.hid f9; have F59 := Lib.hid (F58.out.trans f9 (fun _ _ h => h)); have F9 := Lib.hid (F8.out.trans f9 (fun _ _ h => h)); have HE9 := Lib.hid he9
                clear f9 he9
                rcases HE9.out with ⟨hto, C, nc, rfl, hnc, hoc, _⟩ | ⟨hto, rfl⟩
                · skip
                  go_wp2
                  go_ret
                  exact ⟨rfl, F9.out⟩
                · skip
                  go_wp2
                  go_ret
                  exact ⟨rfl, F9.out⟩
end Go.Proofs.YtgcicljklejmjaaDoor
