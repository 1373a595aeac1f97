/- What a set of spans says: plain. -/
import Derived.Test.YtdnohhlgaaihmaaSetSpan
namespace Go.Proofs.Ytdnohhlgaaihmaa

theorem cb_self (l : List UInt8) : cb l l = 0 := by
  unfold cb
  induction l with
  | nil => rfl
  | cons a l ih => simp [Lib.compareBytes, ih]
theorem cb_eq {l k : List UInt8} (h : cb l k = 0) : l = k := by
  unfold cb at h
  induction l generalizing k with
  | nil => cases k <;> simp_all [Lib.compareBytes]
  | cons a l ih =>
    cases k with
    | nil => simp [Lib.compareBytes] at h
    | cons b k =>
      simp only [Lib.compareBytes] at h
      split at h
      · omega
      · split at h
        · omega
        · rename_i h1 h2
          rw [ih h, UInt8.le_antisymm (UInt8.not_lt.1 h2) (UInt8.not_lt.1 h1)]
theorem cb_swap (l k : List UInt8) : cb k l = - cb l k := by
  unfold cb
  induction l generalizing k with
  | nil => cases k <;> simp [Lib.compareBytes]
  | cons a l ih =>
    cases k with
    | nil => simp [Lib.compareBytes]
    | cons b k =>
      simp only [Lib.compareBytes]
      by_cases h1 : a < b
      · have h2 : ¬ b < a := UInt8.not_lt.2 (UInt8.le_of_lt h1)
        simp [h1, h2]
      · by_cases h2 : b < a <;> simp [h1, h2, ih]
theorem cb_trans {a b c : List UInt8} (h1 : cb a b ≤ 0) (h2 : cb b c ≤ 0) : cb a c ≤ 0 ∧ (cb a b < 0 ∨ cb b c < 0 → cb a c < 0) := by
  unfold cb at *
  induction a generalizing b c with
  | nil =>
    cases c with
    | nil => cases b with
      | nil => simp [Lib.compareBytes]
      | cons b bs => simp [Lib.compareBytes] at h2
    | cons c cs => simp [Lib.compareBytes]
  | cons a us ih =>
    cases b with
    | nil => simp [Lib.compareBytes] at h1
    | cons b bs =>
      cases c with
      | nil => simp [Lib.compareBytes] at h2
      | cons c cs =>
        simp only [Lib.compareBytes] at h1 h2 ⊢
        by_cases ab : a < b
        · by_cases bc : b < c
          · have ac := UInt8.lt_trans ab bc
            simp [ac]
          · by_cases cb' : c < b
            · simp [bc, cb'] at h2
            · have e : b = c := UInt8.le_antisymm (UInt8.not_lt.1 cb') (UInt8.not_lt.1 bc)
              subst e
              simp [ab]
        · by_cases ba : b < a
          · simp [ab, ba] at h1
          · have e : a = b := UInt8.le_antisymm (UInt8.not_lt.1 ba) (UInt8.not_lt.1 ab)
            subst e
            by_cases bc : a < c
            · simp [bc]
            · by_cases cb' : c < a
              · simp [bc, cb'] at h2
              · simp only [bc, cb', if_false, if_neg ab] at h1 h2 ⊢
                exact ih h1 h2

/-- No later than. -/
def le (a b : List UInt8) : Prop := cb a b ≤ 0
/-- Sooner than. -/
def lt (a b : List UInt8) : Prop := cb a b < 0
theorem le_rfl (a : List UInt8) : le a a := by unfold le; rw [cb_self]; omega
theorem lt_irrefl {a : List UInt8} (h : lt a a) : False := by unfold lt at h; rw [cb_self] at h; omega
theorem lt_le {a b : List UInt8} (h : lt a b) : le a b := by unfold lt at h; unfold le; omega
theorem le_trans {a b c : List UInt8} (h1 : le a b) (h2 : le b c) : le a c := (cb_trans h1 h2).1
theorem lt_le_trans {a b c : List UInt8} (h1 : lt a b) (h2 : le b c) : lt a c := (cb_trans (lt_le h1) h2).2 (.inl h1)
theorem le_lt_trans {a b c : List UInt8} (h1 : le a b) (h2 : lt b c) : lt a c := (cb_trans h1 (lt_le h2)).2 (.inr h2)
theorem lt_trans {a b c : List UInt8} (h1 : lt a b) (h2 : lt b c) : lt a c := lt_le_trans h1 (lt_le h2)
theorem le_or {a b : List UInt8} : le a b ∨ lt b a := by unfold le lt; have := cb_swap a b; omega
theorem not_lt {a b : List UInt8} (h : ¬ lt a b) : le b a := by unfold lt at h; unfold le; have := cb_swap a b; omega
theorem not_le {a b : List UInt8} (h : ¬ le a b) : lt b a := by unfold le at h; unfold lt; have := cb_swap a b; omega
theorem le_antisymm {a b : List UInt8} (h1 : le a b) (h2 : le b a) : a = b := by
  refine cb_eq ?_
  unfold le at *
  have := cb_swap a b; omega
theorem lt_not_le {a b : List UInt8} (h : lt a b) (h2 : le b a) : False := lt_irrefl (lt_le_trans h h2)

namespace SpV
/-- k lies before the span's end. -/
def upto (x : SpV) (k : List UInt8) : Prop := x.o = true ∨ lt k x.t
/-- The span reaches to k. -/
def to (x : SpV) (k : List UInt8) : Prop := x.o = true ∨ le k x.t
/-- k lies in the span. -/
def mem (x : SpV) (k : List UInt8) : Prop := le x.f k ∧ x.upto k
structure Ok (x : SpV) : Prop where
  open_ : x.o = true → x.t = []
  some_ : x.o = false → lt x.f x.t

theorem reach_to (x : SpV) (k : List UInt8) : reach x.o x.t k = true ↔ x.to k := by
  unfold reach to le
  have := cb_swap x.t k
  cases x.o <;> simp <;> omega

theorem not_to {x : SpV} {k : List UInt8} (h : ¬ x.to k) : x.o = false ∧ lt x.t k := by
  unfold to at h
  refine ⟨by cases ho : x.o <;> simp_all, not_le fun h2 => h (.inr h2)⟩

theorem Ok.self {x : SpV} (h : x.Ok) : x.mem x.f := by
  refine ⟨le_rfl _, ?_⟩
  cases ho : x.o
  · exact .inr (h.some_ ho)
  · exact .inl ho

theorem merge_f (x y : SpV) : (merge x y).f = if cb y.f x.f < 0 then y.f else x.f := by
  unfold merge
  split <;> (simp only []; split <;> (try split) <;> (try split) <;> rfl)
theorem merge_o (x y : SpV) : (merge x y).o = (x.o || y.o) := by
  unfold merge
  split <;> (simp only []; cases hx : x.o <;> cases hy : y.o <;> simp [hx]) <;> (try split) <;> (try simp [hx])
theorem merge_t (x y : SpV) : (merge x y).t = if x.o then x.t else if y.o then [] else if 0 < cb y.t x.t then y.t else x.t := by
  unfold merge
  split <;> (simp only []; cases hx : x.o <;> cases hy : y.o <;> simp) <;> (try split) <;> (try rfl)

theorem merge_f_le (x y : SpV) : le (merge x y).f x.f ∧ le (merge x y).f y.f ∧ ((merge x y).f = x.f ∨ (merge x y).f = y.f) := by
  rw [merge_f]
  split
  · rename_i h
    exact ⟨lt_le h, le_rfl _, .inr rfl⟩
  · rename_i h
    exact ⟨le_rfl _, not_lt h, .inl rfl⟩

theorem merge_upto (x y : SpV) (k : List UInt8) : (merge x y).upto k ↔ x.upto k ∨ y.upto k := by
  unfold upto
  rw [merge_o, merge_t]
  cases hx : x.o <;> cases hy : y.o <;> simp
  split
  · rename_i h
    have h' : lt x.t y.t := by unfold lt; have := cb_swap x.t y.t; omega
    exact ⟨fun h1 => .inr h1, fun h1 => h1.elim (fun h2 => lt_trans h2 h') id⟩
  · rename_i h
    have h' : le y.t x.t := by unfold le; omega
    exact ⟨fun h1 => .inl h1, fun h1 => h1.elim id (fun h2 => lt_le_trans h2 h')⟩

theorem merge_ok {x y : SpV} (hx : x.Ok) : (merge x y).Ok := by
  refine ⟨fun h => ?_, fun h => ?_⟩
  · rw [merge_t]
    cases ho : x.o
    · rw [merge_o, ho] at h; simp at h; simp [h]
    · simp [hx.open_ ho]
  · rw [merge_o] at h
    simp only [Bool.or_eq_false_iff] at h
    rw [merge_t, if_neg (by simp [h.1]), if_neg (by simp [h.2])]
    refine le_lt_trans (merge_f_le x y).1 ?_
    split
    · rename_i h2
      exact lt_trans (hx.some_ h.1) (by unfold lt; have := cb_swap x.t y.t; omega)
    · exact hx.some_ h.1

theorem merge_mem {x y : SpV} (h1 : x.to y.f) (h2 : y.to x.f) (k : List UInt8) : (merge x y).mem k ↔ x.mem k ∨ y.mem k := by
  unfold mem
  rw [merge_upto]
  obtain ⟨m1, m2, m3⟩ := merge_f_le x y
  constructor
  · rintro ⟨h, h3⟩
    rcases (le_or : le x.f k ∨ lt k x.f) with a | a
    · rcases (le_or : le y.f k ∨ lt k y.f) with b | b
      · exact h3.elim (fun h => .inl ⟨a, h⟩) (fun h => .inr ⟨b, h⟩)
      · left
        refine ⟨a, h1.elim .inl fun h => .inr (lt_le_trans b h)⟩
    · rcases m3 with e | e
      · rw [e] at h; exact (lt_not_le a h).elim
      · rw [e] at h
        right
        exact ⟨h, h2.elim .inl fun h => .inr (lt_le_trans a h)⟩
  · rintro (⟨h, h3⟩ | ⟨h, h3⟩)
    · exact ⟨le_trans m1 h, .inl h3⟩
    · exact ⟨le_trans m2 h, .inr h3⟩

/-- In order: each ends before the next one begins. -/
def Norm : List SpV → Prop
  | [] => True
  | y :: ys => y.Ok ∧ (∀ z ∈ ys, y.o = false ∧ lt y.t z.f) ∧ Norm ys

/-- k lies in one of them. -/
def Mem (l : List SpV) (k : List UInt8) : Prop := ∃ x ∈ l, x.mem k

theorem Mem.cons {x : SpV} {l : List SpV} {k : List UInt8} : Mem (x :: l) k ↔ x.mem k ∨ Mem l k := by simp [Mem]
theorem Mem.nil {k : List UInt8} : ¬ Mem [] k := by simp [Mem]

/-- As add, step by step. -/
def put : List SpV → SpV → List SpV
  | [], x => [x]
  | y :: ys, x => if reach x.o x.t y.f then put ys (merge x y) else x :: y :: ys
def ins : List SpV → SpV → List SpV
  | [], x => [x]
  | y :: ys, x => if reach y.o y.t x.f then put (y :: ys) x else y :: ins ys x

theorem put_mt : ∀ (l : List SpV) (x : SpV), put l x = (mt l x).2 :: l.drop (mt l x).1
  | [], x => by simp [put, mt]
  | y :: ys, x => by
    unfold put mt
    split
    · rw [put_mt ys (merge x y)]; simp
    · simp

theorem add_ins : ∀ (l : List SpV) (x : SpV), add l x = ins l x
  | [], x => by simp [add, ins, fst_, mt]
  | y :: ys, x => by
    unfold ins
    split
    · rename_i h
      have e : fst_ (y :: ys) x.f = 0 := by simp [fst_, List.findIdx?_cons, h]
      unfold add
      rw [e, put_mt]
      simp
    · rename_i h
      have e : fst_ (y :: ys) x.f = fst_ ys x.f + 1 := by
        simp only [fst_, List.findIdx?_cons]
        rw [if_neg h]
        cases ys.findIdx? (fun y => reach y.o y.t x.f) <;> simp
      rw [← add_ins ys x]
      unfold add
      rw [e, List.take_succ_cons, List.drop_succ_cons, Nat.add_right_comm, List.drop_succ_cons]
      rfl

theorem put_norm : ∀ (l : List SpV) (x : SpV), Norm l → x.Ok → (∀ y ∈ l, y.to x.f) → Norm (put l x) ∧ (∀ k, Mem (put l x) k ↔ x.mem k ∨ Mem l k) ∧ ∀ b, lt b x.f → (∀ y ∈ l, lt b y.f) → ∀ z ∈ put l x, lt b z.f
  | [], x, _, hx, _ => ⟨⟨hx, (fun _ h => nomatch h), trivial⟩, fun k => Mem.cons, fun b hb _ z hz => by cases List.mem_singleton.1 hz; exact hb⟩
  | y :: ys, x, hn, hx, ht => by
    obtain ⟨h1, h2, h3⟩ := hn
    unfold put
    split
    · rename_i hr
      rw [reach_to] at hr
      have hy := ht y (List.mem_cons_self ..)
      obtain ⟨m1, m2, m3⟩ := merge_f_le x y
      obtain ⟨a, b, c⟩ := put_norm ys (merge x y) h3 (merge_ok hx) (fun z hz => (ht z (List.mem_cons_of_mem _ hz)).elim .inl fun h => .inr (le_trans m1 h))
      refine ⟨a, fun k => ?_, fun u hu hl => c u ?_ (fun z hz => hl z (List.mem_cons_of_mem _ hz))⟩
      · rw [b, merge_mem hr hy, Mem.cons, or_assoc]
      · rcases m3 with e | e
        · rw [e]; exact hu
        · rw [e]; exact hl y (List.mem_cons_self ..)
    · rename_i hr
      rw [reach_to] at hr
      obtain ⟨ho, hlt⟩ := not_to hr
      refine ⟨⟨hx, fun z hz => ⟨ho, ?_⟩, h1, h2, h3⟩, fun k => Mem.cons, fun b hb hl z hz => ?_⟩
      · rcases List.mem_cons.1 hz with rfl | hz
        · exact hlt
        · exact lt_trans hlt (lt_trans (h1.some_ (h2 z hz).1) (h2 z hz).2)
      · rcases List.mem_cons.1 hz with rfl | hz
        · exact hb
        · exact hl z hz

theorem Norm.ok : ∀ {l : List SpV}, Norm l → ∀ z ∈ l, z.Ok
  | [], _, _, h => nomatch h
  | y :: ys, h, z, hz => by
    rcases List.mem_cons.1 hz with rfl | hz
    · exact h.1
    · exact Norm.ok h.2.2 z hz

theorem Norm.to_all {y x : SpV} {ys : List SpV} (h : Norm (y :: ys)) (hr : y.to x.f) : ∀ z ∈ y :: ys, z.to x.f := by
  intro z hz
  obtain ⟨h1, h2, h3⟩ := h
  rcases List.mem_cons.1 hz with rfl | hz
  · exact hr
  · obtain ⟨ho, hlt⟩ := h2 z hz
    have hzn : z.Ok := h3.ok z hz
    rcases hr with hr | hr
    · rw [hr] at ho; cases ho
    · cases hzo : z.o
      · exact .inr (le_trans hr (lt_le (lt_trans hlt (hzn.some_ hzo))))
      · exact .inl hzo

theorem ins_norm : ∀ (l : List SpV) (x : SpV), Norm l → x.Ok → Norm (ins l x) ∧ (∀ k, Mem (ins l x) k ↔ x.mem k ∨ Mem l k) ∧ ∀ b, lt b x.f → (∀ y ∈ l, lt b y.f) → ∀ z ∈ ins l x, lt b z.f
  | [], x, _, hx => ⟨⟨hx, (fun _ h => nomatch h), trivial⟩, fun k => Mem.cons, fun b hb _ z hz => by cases List.mem_singleton.1 hz; exact hb⟩
  | y :: ys, x, hn, hx => by
    unfold ins
    split
    · rename_i hr
      rw [reach_to] at hr
      exact put_norm (y :: ys) x hn hx (hn.to_all hr)
    · rename_i hr
      rw [reach_to] at hr
      obtain ⟨ho, hlt⟩ := not_to hr
      obtain ⟨h1, h2, h3⟩ := hn
      obtain ⟨a, b, c⟩ := ins_norm ys x h3 hx
      refine ⟨⟨h1, fun z hz => ⟨ho, c _ hlt (fun w hw => (h2 w hw).2) z hz⟩, a⟩, fun k => ?_, fun u hu hl z hz => ?_⟩
      · rw [Mem.cons, b, Mem.cons]
        exact or_left_comm
      · rcases List.mem_cons.1 hz with rfl | hz
        · exact hl _ (List.mem_cons_self ..)
        · exact c u hu (fun w hw => hl w (List.mem_cons_of_mem _ hw)) z hz

theorem add_norm {l : List SpV} {x : SpV} (hl : Norm l) (hx : x.Ok) : Norm (add l x) := by rw [add_ins]; exact (ins_norm l x hl hx).1
theorem add_mem {l : List SpV} {x : SpV} (hl : Norm l) (hx : x.Ok) (k : List UInt8) : Mem (add l x) k ↔ x.mem k ∨ Mem l k := by rw [add_ins]; exact (ins_norm l x hl hx).2.1 k

theorem Norm.ge {y : SpV} {ys : List SpV} (h : Norm (y :: ys)) {k : List UInt8} (hk : Mem (y :: ys) k) : le y.f k := by
  obtain ⟨z, hz, h1, h2⟩ := hk
  rcases List.mem_cons.1 hz with rfl | hz
  · exact h1
  · obtain ⟨ho, hlt⟩ := h.2.1 z hz
    exact le_trans (lt_le (lt_trans (h.1.some_ ho) hlt)) h1

/-- The first key behind a span lies in none. -/
theorem Norm.stop {y : SpV} {ys : List SpV} (h : Norm (y :: ys)) (ho : y.o = false) : ¬ Mem (y :: ys) y.t := by
  rintro ⟨z, hz, h1, h2⟩
  rcases List.mem_cons.1 hz with rfl | hz
  · rcases h2 with h2 | h2
    · rw [ho] at h2; cases h2
    · exact lt_irrefl h2
  · exact lt_not_le (h.2.1 z hz).2 h1

theorem Norm.tail_mem {y : SpV} {ys : List SpV} (h : Norm (y :: ys)) (k : List UInt8) : Mem ys k ↔ Mem (y :: ys) k ∧ ¬ y.mem k := by
  constructor
  · rintro ⟨z, hz, h1, h2⟩
    refine ⟨⟨z, List.mem_cons_of_mem _ hz, h1, h2⟩, fun h3 => ?_⟩
    obtain ⟨ho, hlt⟩ := h.2.1 z hz
    rcases h3.2 with h4 | h4
    · rw [ho] at h4; cases h4
    · exact lt_not_le (lt_trans h4 hlt) h1
  · rintro ⟨h1, h2⟩
    exact (Mem.cons.1 h1).resolve_left h2

/-- What is told of a span. -/
def pr (x : SpV) : List UInt8 × List UInt8 × Bool := (x.f, x.t, x.o)

theorem mem_pr {x y : SpV} (h : x.pr = y.pr) (k : List UInt8) : x.mem k ↔ y.mem k := by
  obtain ⟨F, T, f, t, o⟩ := x
  obtain ⟨F', T', f', t', o'⟩ := y
  simp only [pr, Prod.mk.injEq] at h
  obtain ⟨rfl, rfl, rfl⟩ := h
  rfl

theorem ends {x y : SpV} {xs ys : List SpV} (hx : Norm (x :: xs)) (h : ∀ k, Mem (x :: xs) k ↔ Mem (y :: ys) k) (hf : x.f = y.f) (ho : x.o = false) : y.o = false ∧ le y.t x.t := by
  have h1 := hx.stop ho
  rw [h] at h1
  have h2 := hx.1.some_ ho
  cases hyo : y.o
  · refine ⟨rfl, not_lt fun h3 => h1 ⟨y, List.mem_cons_self .., by rw [← hf]; exact lt_le h2, .inr h3⟩⟩
  · exact (h1 ⟨y, List.mem_cons_self .., by rw [← hf]; exact lt_le h2, .inl hyo⟩).elim

/-- Two lists in order that say the same keys say the same spans. -/
theorem norm_ext : ∀ (l l' : List SpV), Norm l → Norm l' → (∀ k, Mem l k ↔ Mem l' k) → l.map pr = l'.map pr
  | [], [], _, _, _ => rfl
  | [], y :: ys, _, hy, h => (Mem.nil ((h y.f).2 (Mem.cons.2 (.inl hy.1.self)))).elim
  | x :: xs, [], hx, _, h => (Mem.nil ((h x.f).1 (Mem.cons.2 (.inl hx.1.self)))).elim
  | x :: xs, y :: ys, hx, hy, h => by
    have hf : x.f = y.f := le_antisymm (hx.ge ((h y.f).2 (Mem.cons.2 (.inl hy.1.self)))) (hy.ge ((h x.f).1 (Mem.cons.2 (.inl hx.1.self))))
    have hp : x.pr = y.pr := by
      cases ho : x.o
      · obtain ⟨a, b⟩ := ends hx h hf ho
        obtain ⟨_, c⟩ := ends hy (fun k => (h k).symm) hf.symm a
        simp [pr, hf, le_antisymm c b, ho, a]
      · have hyo : y.o = true := by
          cases hyo : y.o
          · have := (ends hy (fun k => (h k).symm) hf.symm hyo).1
            rw [ho] at this; cases this
          · rfl
        simp [pr, hf, hx.1.open_ ho, hy.1.open_ hyo, ho, hyo]
    rw [List.map_cons, List.map_cons, hp, norm_ext xs ys hx.2.2 hy.2.2 (fun k => by rw [hx.tail_mem, hy.tail_mem, h, mem_pr hp])]
end SpV
end Go.Proofs.Ytdnohhlgaaihmaa
