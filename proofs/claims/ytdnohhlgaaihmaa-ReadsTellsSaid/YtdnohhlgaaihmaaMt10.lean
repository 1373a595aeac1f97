import Derived.Test.YtdnohhlgaaihmaaMt06
import Derived.Test.YtdnohhlgaaihmaaMt09

/- What a set of spans says: plain. -/
namespace Go.Proofs.Ytdnohhlgaaihmaa

theorem cb_self (l : List UInt8) : cb l l = 0 := by
  unfold cb
  induction l with
  | nil => rfl
  | cons a l ih => simp [Lib.compareBytes, ih]
theorem cb_eq {l k : List UInt8} (h : cb l k = 0) : l = k := by
  unfold cb at h
  induction l generalizing k with
  | nil => cases k <;> simp_all [Lib.compareBytes]
  | cons a l ih =>
    cases k with
    | nil => simp [Lib.compareBytes] at h
    | cons b k =>
      simp only [Lib.compareBytes] at h
      split at h
      · omega
      · split at h
        · omega
        · rename_i h1 h2
          rw [ih h, UInt8.le_antisymm (UInt8.not_lt.1 h2) (UInt8.not_lt.1 h1)]
theorem cb_swap (l k : List UInt8) : cb k l = - cb l k := by
  unfold cb
  induction l generalizing k with
  | nil => cases k <;> simp [Lib.compareBytes]
  | cons a l ih =>
    cases k with
    | nil => simp [Lib.compareBytes]
    | cons b k =>
      simp only [Lib.compareBytes]
      by_cases h1 : a < b
      · have h2 : ¬ b < a := UInt8.not_lt.2 (UInt8.le_of_lt h1)
        simp [h1, h2]
      · by_cases h2 : b < a <;> simp [h1, h2, ih]
theorem cb_trans {a b c : List UInt8} (h1 : cb a b ≤ 0) (h2 : cb b c ≤ 0) : cb a c ≤ 0 ∧ (cb a b < 0 ∨ cb b c < 0 → cb a c < 0) := by
  unfold cb at *
  induction a generalizing b c with
  | nil =>
    cases c with
    | nil => cases b with
      | nil => simp [Lib.compareBytes]
      | cons b bs => simp [Lib.compareBytes] at h2
    | cons c cs => simp [Lib.compareBytes]
  | cons a us ih =>
    cases b with
    | nil => simp [Lib.compareBytes] at h1
    | cons b bs =>
      cases c with
      | nil => simp [Lib.compareBytes] at h2
      | cons c cs =>
        simp only [Lib.compareBytes] at h1 h2 ⊢
        by_cases ab : a < b
        · by_cases bc : b < c
          · have ac := UInt8.lt_trans ab bc
            simp [ac]
          · by_cases cb' : c < b
            · simp [bc, cb'] at h2
            · have e : b = c := UInt8.le_antisymm (UInt8.not_lt.1 cb') (UInt8.not_lt.1 bc)
              subst e
              simp [ab]
        · by_cases ba : b < a
          · simp [ab, ba] at h1
          · have e : a = b := UInt8.le_antisymm (UInt8.not_lt.1 ba) (UInt8.not_lt.1 ab)
            subst e
            by_cases bc : a < c
            · simp [bc]
            · by_cases cb' : c < a
              · simp [bc, cb'] at h2
              · simp only [bc, cb', if_false, if_neg ab] at h1 h2 ⊢
                exact ih h1 h2

/-- No later than. -/
def le (a b : List UInt8) : Prop := cb a b ≤ 0
/-- Sooner than. -/
def lt (a b : List UInt8) : Prop := cb a b < 0
theorem le_rfl (a : List UInt8) : le a a := by unfold le; rw [cb_self]; omega
theorem lt_irrefl {a : List UInt8} (h : lt a a) : False := by unfold lt at h; rw [cb_self] at h; omega
theorem lt_le {a b : List UInt8} (h : lt a b) : le a b := by unfold lt at h; unfold le; omega
theorem le_trans {a b c : List UInt8} (h1 : le a b) (h2 : le b c) : le a c := (cb_trans h1 h2).1
theorem lt_le_trans {a b c : List UInt8} (h1 : lt a b) (h2 : le b c) : lt a c := (cb_trans (lt_le h1) h2).2 (.inl h1)
theorem le_lt_trans {a b c : List UInt8} (h1 : le a b) (h2 : lt b c) : lt a c := (cb_trans h1 (lt_le h2)).2 (.inr h2)
theorem lt_trans {a b c : List UInt8} (h1 : lt a b) (h2 : lt b c) : lt a c := lt_le_trans h1 (lt_le h2)
theorem le_or {a b : List UInt8} : le a b ∨ lt b a := by unfold le lt; have := cb_swap a b; omega
theorem not_lt {a b : List UInt8} (h : ¬ lt a b) : le b a := by unfold lt at h; unfold le; have := cb_swap a b; omega
theorem not_le {a b : List UInt8} (h : ¬ le a b) : lt b a := by unfold le at h; unfold lt; have := cb_swap a b; omega
theorem le_antisymm {a b : List UInt8} (h1 : le a b) (h2 : le b a) : a = b := by
  refine cb_eq ?_
  unfold le at *
  have := cb_swap a b; omega
theorem lt_not_le {a b : List UInt8} (h : lt a b) (h2 : le b a) : False := lt_irrefl (lt_le_trans h h2)

namespace SpV
/-- k lies before the span's end. -/
def upto (x : SpV) (k : List UInt8) : Prop := x.o = true ∨ lt k x.t
/-- The span reaches to k. -/
def to (x : SpV) (k : List UInt8) : Prop := x.o = true ∨ le k x.t
/-- k lies in the span. -/
def mem (x : SpV) (k : List UInt8) : Prop := le x.f k ∧ x.upto k
structure Ok (x : SpV) : Prop where
  open_ : x.o = true → x.t = []
  some_ : x.o = false → lt x.f x.t

theorem reach_to (x : SpV) (k : List UInt8) : reach x.o x.t k = true ↔ x.to k := by
  unfold reach to le
  have := cb_swap x.t k
  cases x.o <;> simp <;> omega

theorem not_to {x : SpV} {k : List UInt8} (h : ¬ x.to k) : x.o = false ∧ lt x.t k := by
  unfold to at h
  refine ⟨by cases ho : x.o <;> simp_all, not_le fun h2 => h (.inr h2)⟩

theorem Ok.self {x : SpV} (h : x.Ok) : x.mem x.f := by
  refine ⟨le_rfl _, ?_⟩
  cases ho : x.o
  · exact .inr (h.some_ ho)
  · exact .inl ho

theorem merge_f (x y : SpV) : (merge x y).f = if cb y.f x.f < 0 then y.f else x.f := by
  unfold merge
  split <;> (simp only []; split <;> (try split) <;> (try split) <;> rfl)
theorem merge_o (x y : SpV) : (merge x y).o = (x.o || y.o) := by
  unfold merge
  split <;> (simp only []; cases hx : x.o <;> cases hy : y.o <;> simp [hx]) <;> (try split) <;> (try simp [hx])
theorem merge_t (x y : SpV) : (merge x y).t = if x.o then x.t else if y.o then [] else if 0 < cb y.t x.t then y.t else x.t := by
  unfold merge
  split <;> (simp only []; cases hx : x.o <;> cases hy : y.o <;> simp) <;> (try split) <;> (try rfl)

theorem merge_f_le (x y : SpV) : le (merge x y).f x.f ∧ le (merge x y).f y.f ∧ ((merge x y).f = x.f ∨ (merge x y).f = y.f) := by
  rw [merge_f]
  split
  · rename_i h
    exact ⟨lt_le h, le_rfl _, .inr rfl⟩
  · rename_i h
    exact ⟨le_rfl _, not_lt h, .inl rfl⟩

theorem merge_upto (x y : SpV) (k : List UInt8) : (merge x y).upto k ↔ x.upto k ∨ y.upto k := by
  unfold upto
  rw [merge_o, merge_t]
  cases hx : x.o <;> cases hy : y.o <;> simp
  split
  · rename_i h
    have h' : lt x.t y.t := by unfold lt; have := cb_swap x.t y.t; omega
    exact ⟨fun h1 => .inr h1, fun h1 => h1.elim (fun h2 => lt_trans h2 h') id⟩
  · rename_i h
    have h' : le y.t x.t := by unfold le; omega
    exact ⟨fun h1 => .inl h1, fun h1 => h1.elim id (fun h2 => lt_le_trans h2 h')⟩

theorem merge_ok {x y : SpV} (hx : x.Ok) : (merge x y).Ok := by
  refine ⟨fun h => ?_, fun h => ?_⟩
  · rw [merge_t]
    cases ho : x.o
    · rw [merge_o, ho] at h; simp at h; simp [h]
    · simp [hx.open_ ho]
  · rw [merge_o] at h
    simp only [Bool.or_eq_false_iff] at h
    rw [merge_t, if_neg (by simp [h.1]), if_neg (by simp [h.2])]
    refine le_lt_trans (merge_f_le x y).1 ?_
    split
    · rename_i h2
      exact lt_trans (hx.some_ h.1) (by unfold lt; have := cb_swap x.t y.t; omega)
    · exact hx.some_ h.1

theorem merge_mem {x y : SpV} (h1 : x.to y.f) (h2 : y.to x.f) (k : List UInt8) : (merge x y).mem k ↔ x.mem k ∨ y.mem k := by
  unfold mem
  rw [merge_upto]
  obtain ⟨m1, m2, m3⟩ := merge_f_le x y
  constructor
  · rintro ⟨h, h3⟩
    rcases (le_or : le x.f k ∨ lt k x.f) with a | a
    · rcases (le_or : le y.f k ∨ lt k y.f) with b | b
      · exact h3.elim (fun h => .inl ⟨a, h⟩) (fun h => .inr ⟨b, h⟩)
      · left
        refine ⟨a, h1.elim .inl fun h => .inr (lt_le_trans b h)⟩
    · rcases m3 with e | e
      · rw [e] at h; exact (lt_not_le a h).elim
      · rw [e] at h
        right
        exact ⟨h, h2.elim .inl fun h => .inr (lt_le_trans a h)⟩
  · rintro (⟨h, h3⟩ | ⟨h, h3⟩)
    · exact ⟨le_trans m1 h, .inl h3⟩
    · exact ⟨le_trans m2 h, .inr h3⟩

/-- In order: each ends before the next one begins. -/
def Norm : List SpV → Prop
  | [] => True
  | y :: ys => y.Ok ∧ (∀ z ∈ ys, y.o = false ∧ lt y.t z.f) ∧ Norm ys

/-- k lies in one of them. -/
def Mem (l : List SpV) (k : List UInt8) : Prop := ∃ x ∈ l, x.mem k

theorem Mem.cons {x : SpV} {l : List SpV} {k : List UInt8} : Mem (x :: l) k ↔ x.mem k ∨ Mem l k := by simp [Mem]
theorem Mem.nil {k : List UInt8} : ¬ Mem [] k := by simp [Mem]

/-- As add, step by step. -/
def put : List SpV → SpV → List SpV
  | [], x => [x]
  | y :: ys, x => if reach x.o x.t y.f then put ys (merge x y) else x :: y :: ys
def ins : List SpV → SpV → List SpV
  | [], x => [x]
  | y :: ys, x => if reach y.o y.t x.f then put (y :: ys) x else y :: ins ys x

theorem put_mt : ∀ (l : List SpV) (x : SpV), put l x = (mt l x).2 :: l.drop (mt l x).1
  | [], x => by simp [put, mt]
  | y :: ys, x => by
    unfold put mt
    split
    · rw [put_mt ys (merge x y)]; simp
    · simp

theorem add_ins : ∀ (l : List SpV) (x : SpV), add l x = ins l x
  | [], x => by simp [add, ins, fst_, mt]
  | y :: ys, x => by
    unfold ins
    split
    · rename_i h
      have e : fst_ (y :: ys) x.f = 0 := by simp [fst_, List.findIdx?_cons, h]
      unfold add
      rw [e, put_mt]
      simp
    · rename_i h
      have e : fst_ (y :: ys) x.f = fst_ ys x.f + 1 := by
        simp only [fst_, List.findIdx?_cons]
        rw [if_neg h]
        cases ys.findIdx? (fun y => reach y.o y.t x.f) <;> simp
      rw [← add_ins ys x]
      unfold add
      rw [e, List.take_succ_cons, List.drop_succ_cons, Nat.add_right_comm, List.drop_succ_cons]
      rfl

theorem put_norm : ∀ (l : List SpV) (x : SpV), Norm l → x.Ok → (∀ y ∈ l, y.to x.f) → Norm (put l x) ∧ (∀ k, Mem (put l x) k ↔ x.mem k ∨ Mem l k) ∧ ∀ b, lt b x.f → (∀ y ∈ l, lt b y.f) → ∀ z ∈ put l x, lt b z.f
  | [], x, _, hx, _ => ⟨⟨hx, (fun _ h => nomatch h), trivial⟩, fun k => Mem.cons, fun b hb _ z hz => by cases List.mem_singleton.1 hz; exact hb⟩
  | y :: ys, x, hn, hx, ht => by
    obtain ⟨h1, h2, h3⟩ := hn
    unfold put
    split
    · rename_i hr
      rw [reach_to] at hr
      have hy := ht y (List.mem_cons_self ..)
      obtain ⟨m1, m2, m3⟩ := merge_f_le x y
      obtain ⟨a, b, c⟩ := put_norm ys (merge x y) h3 (merge_ok hx) (fun z hz => (ht z (List.mem_cons_of_mem _ hz)).elim .inl fun h => .inr (le_trans m1 h))
      refine ⟨a, fun k => ?_, fun u hu hl => c u ?_ (fun z hz => hl z (List.mem_cons_of_mem _ hz))⟩
      · rw [b, merge_mem hr hy, Mem.cons, or_assoc]
      · rcases m3 with e | e
        · rw [e]; exact hu
        · rw [e]; exact hl y (List.mem_cons_self ..)
    · rename_i hr
      rw [reach_to] at hr
      obtain ⟨ho, hlt⟩ := not_to hr
      refine ⟨⟨hx, fun z hz => ⟨ho, ?_⟩, h1, h2, h3⟩, fun k => Mem.cons, fun b hb hl z hz => ?_⟩
      · rcases List.mem_cons.1 hz with rfl | hz
        · exact hlt
        · exact lt_trans hlt (lt_trans (h1.some_ (h2 z hz).1) (h2 z hz).2)
      · rcases List.mem_cons.1 hz with rfl | hz
        · exact hb
        · exact hl z hz

theorem Norm.ok : ∀ {l : List SpV}, Norm l → ∀ z ∈ l, z.Ok
  | [], _, _, h => nomatch h
  | y :: ys, h, z, hz => by
    rcases List.mem_cons.1 hz with rfl | hz
    · exact h.1
    · exact Norm.ok h.2.2 z hz

theorem Norm.to_all {y x : SpV} {ys : List SpV} (h : Norm (y :: ys)) (hr : y.to x.f) : ∀ z ∈ y :: ys, z.to x.f := by
  intro z hz
  obtain ⟨h1, h2, h3⟩ := h
  rcases List.mem_cons.1 hz with rfl | hz
  · exact hr
  · obtain ⟨ho, hlt⟩ := h2 z hz
    have hzn : z.Ok := h3.ok z hz
    rcases hr with hr | hr
    · rw [hr] at ho; cases ho
    · cases hzo : z.o
      · exact .inr (le_trans hr (lt_le (lt_trans hlt (hzn.some_ hzo))))
      · exact .inl hzo

theorem ins_norm : ∀ (l : List SpV) (x : SpV), Norm l → x.Ok → Norm (ins l x) ∧ (∀ k, Mem (ins l x) k ↔ x.mem k ∨ Mem l k) ∧ ∀ b, lt b x.f → (∀ y ∈ l, lt b y.f) → ∀ z ∈ ins l x, lt b z.f
  | [], x, _, hx => ⟨⟨hx, (fun _ h => nomatch h), trivial⟩, fun k => Mem.cons, fun b hb _ z hz => by cases List.mem_singleton.1 hz; exact hb⟩
  | y :: ys, x, hn, hx => by
    unfold ins
    split
    · rename_i hr
      rw [reach_to] at hr
      exact put_norm (y :: ys) x hn hx (hn.to_all hr)
    · rename_i hr
      rw [reach_to] at hr
      obtain ⟨ho, hlt⟩ := not_to hr
      obtain ⟨h1, h2, h3⟩ := hn
      obtain ⟨a, b, c⟩ := ins_norm ys x h3 hx
      refine ⟨⟨h1, fun z hz => ⟨ho, c _ hlt (fun w hw => (h2 w hw).2) z hz⟩, a⟩, fun k => ?_, fun u hu hl z hz => ?_⟩
      · rw [Mem.cons, b, Mem.cons]
        exact or_left_comm
      · rcases List.mem_cons.1 hz with rfl | hz
        · exact hl _ (List.mem_cons_self ..)
        · exact c u hu (fun w hw => hl w (List.mem_cons_of_mem _ hw)) z hz

theorem add_norm {l : List SpV} {x : SpV} (hl : Norm l) (hx : x.Ok) : Norm (add l x) := by rw [add_ins]; exact (ins_norm l x hl hx).1
theorem add_mem {l : List SpV} {x : SpV} (hl : Norm l) (hx : x.Ok) (k : List UInt8) : Mem (add l x) k ↔ x.mem k ∨ Mem l k := by rw [add_ins]; exact (ins_norm l x hl hx).2.1 k

theorem Norm.ge {y : SpV} {ys : List SpV} (h : Norm (y :: ys)) {k : List UInt8} (hk : Mem (y :: ys) k) : le y.f k := by
  obtain ⟨z, hz, h1, h2⟩ := hk
  rcases List.mem_cons.1 hz with rfl | hz
  · exact h1
  · obtain ⟨ho, hlt⟩ := h.2.1 z hz
    exact le_trans (lt_le (lt_trans (h.1.some_ ho) hlt)) h1

/-- The first key behind a span lies in none. -/
theorem Norm.stop {y : SpV} {ys : List SpV} (h : Norm (y :: ys)) (ho : y.o = false) : ¬ Mem (y :: ys) y.t := by
  rintro ⟨z, hz, h1, h2⟩
  rcases List.mem_cons.1 hz with rfl | hz
  · rcases h2 with h2 | h2
    · rw [ho] at h2; cases h2
    · exact lt_irrefl h2
  · exact lt_not_le (h.2.1 z hz).2 h1

theorem Norm.tail_mem {y : SpV} {ys : List SpV} (h : Norm (y :: ys)) (k : List UInt8) : Mem ys k ↔ Mem (y :: ys) k ∧ ¬ y.mem k := by
  constructor
  · rintro ⟨z, hz, h1, h2⟩
    refine ⟨⟨z, List.mem_cons_of_mem _ hz, h1, h2⟩, fun h3 => ?_⟩
    obtain ⟨ho, hlt⟩ := h.2.1 z hz
    rcases h3.2 with h4 | h4
    · rw [ho] at h4; cases h4
    · exact lt_not_le (lt_trans h4 hlt) h1
  · rintro ⟨h1, h2⟩
    exact (Mem.cons.1 h1).resolve_left h2

/-- What is told of a span. -/
def pr (x : SpV) : List UInt8 × List UInt8 × Bool := (x.f, x.t, x.o)

theorem mem_pr {x y : SpV} (h : x.pr = y.pr) (k : List UInt8) : x.mem k ↔ y.mem k := by
  obtain ⟨F, T, f, t, o⟩ := x
  obtain ⟨F', T', f', t', o'⟩ := y
  simp only [pr, Prod.mk.injEq] at h
  obtain ⟨rfl, rfl, rfl⟩ := h
  rfl

theorem ends {x y : SpV} {xs ys : List SpV} (hx : Norm (x :: xs)) (h : ∀ k, Mem (x :: xs) k ↔ Mem (y :: ys) k) (hf : x.f = y.f) (ho : x.o = false) : y.o = false ∧ le y.t x.t := by
  have h1 := hx.stop ho
  rw [h] at h1
  have h2 := hx.1.some_ ho
  cases hyo : y.o
  · refine ⟨rfl, not_lt fun h3 => h1 ⟨y, List.mem_cons_self .., by rw [← hf]; exact lt_le h2, .inr h3⟩⟩
  · exact (h1 ⟨y, List.mem_cons_self .., by rw [← hf]; exact lt_le h2, .inl hyo⟩).elim

/-- Two lists in order that say the same keys say the same spans. -/
theorem norm_ext : ∀ (l l' : List SpV), Norm l → Norm l' → (∀ k, Mem l k ↔ Mem l' k) → l.map pr = l'.map pr
  | [], [], _, _, _ => rfl
  | [], y :: ys, _, hy, h => (Mem.nil ((h y.f).2 (Mem.cons.2 (.inl hy.1.self)))).elim
  | x :: xs, [], hx, _, h => (Mem.nil ((h x.f).1 (Mem.cons.2 (.inl hx.1.self)))).elim
  | x :: xs, y :: ys, hx, hy, h => by
    have hf : x.f = y.f := le_antisymm (hx.ge ((h y.f).2 (Mem.cons.2 (.inl hy.1.self)))) (hy.ge ((h x.f).1 (Mem.cons.2 (.inl hx.1.self))))
    have hp : x.pr = y.pr := by
      cases ho : x.o
      · obtain ⟨a, b⟩ := ends hx h hf ho
        obtain ⟨_, c⟩ := ends hy (fun k => (h k).symm) hf.symm a
        simp [pr, hf, le_antisymm c b, ho, a]
      · have hyo : y.o = true := by
          cases hyo : y.o
          · have := (ends hy (fun k => (h k).symm) hf.symm hyo).1
            rw [ho] at this; cases this
          · rfl
        simp [pr, hf, hx.1.open_ ho, hy.1.open_ hyo, ho, hyo]
    rw [List.map_cons, List.map_cons, hp, norm_ext xs ys hx.2.2 hy.2.2 (fun k => by rw [hx.tail_mem, hy.tail_mem, h, mem_pr hp])]
end SpV
end Go.Proofs.Ytdnohhlgaaihmaa

/- reads.Set: Has. -/
namespace Go.Proofs.Ytdnohhlgaaihmaa
open Go.RowKit

/-- What Has answers. -/
def hasV (l : List SpV) (k : List UInt8) : Bool := match l.findIdx? fun y => past y.o y.t k with
  | some i => if h : i < l.length then decide (cb l[i].f k ≤ 0) else false
  | none => false

theorem past_upto (x : SpV) (k : List UInt8) : past x.o x.t k = true ↔ x.upto k := by
  unfold past SpV.upto lt
  have := cb_swap x.t k
  cases x.o <;> simp <;> omega

theorem hasV_mem {l : List SpV} (h : SpV.Norm l) (k : List UInt8) : hasV l k = true ↔ SpV.Mem l k := by
  induction l with
  | nil => simp [hasV, SpV.Mem]
  | cons y ys ih =>
    obtain ⟨h1, h2, h3⟩ := h
    have ih := ih h3
    unfold hasV at ih ⊢
    rw [List.findIdx?_cons, SpV.Mem.cons]
    by_cases hp : past y.o y.t k = true
    · have hu := (past_upto y k).1 hp
      rw [if_pos hp]
      simp only [List.length_cons, Nat.zero_lt_succ, dite_true, List.getElem_cons_zero, decide_eq_true_eq]
      refine ⟨fun h => .inl ⟨h, hu⟩, fun h => h.elim (fun h => h.1) fun ⟨z, hz, h4, _⟩ => ?_⟩
      obtain ⟨ho, hlt⟩ := h2 z hz
      exact lt_le (lt_le_trans (lt_trans (h1.some_ ho) hlt) h4)
    · rw [if_neg hp]
      have hu : ¬ y.mem k := fun h => hp ((past_upto y k).2 h.2)
      rw [or_iff_right hu, ← ih]
      cases hf : ys.findIdx? fun y => past y.o y.t k with
      | none => simp
      | some i => simp

set_option maxRecDepth 100000 in
set_option maxHeartbeats 400000 in
theorem has_any (w : World) (p : Nat) (sv K : Value) (l : List SpV) (k : List UInt8) (hs : Se w p sv l) (hK : Sl w 1 K k.length (bvs k)) (hl : l.length ≤ 100000) :
    Calls Try.prog 48 #[.pointer (some ⟨p, 0, none⟩), K] w fun e w' => e = .returned (.bool (hasV l k)) ∧ Fr no w w' := by
  obtain ⟨KA, kc, rfl, _, _⟩ := hK.form
  obtain ⟨A, c, rfl, hnc, hcm⟩ := hs.row.form
  have hpl := (one_cells hs.at_).2.2
  have hal := (Fr.refl no w).alloc (.cells #[.slice KA k.length kc] 34)
  have hc0 : (w.alloc (.cells #[.slice KA k.length kc] 34)).heap[w.heap.size]? = some (.cells #[.slice KA k.length kc] 34 (0, 0)) := heap_alloc_new _ _
  obtain ⟨q0, q1, q2⟩ := one_cells hc0
  obtain ⟨e0, e1, e2⟩ := one_cells (hs.kept0 hal).at_
  have HS := Lib.hid hs; have HK := Lib.hid hK; have HAL := Lib.hid hal; have HC0 := Lib.hid hc0; have HQ0 := Lib.hid q0; clear hs hK hal hc0 q0 q1 q2
  have hv : hasV l k = hasV l k := rfl
  conv at hv => lhs; unfold hasV
  go_enter Try.func48, Try.ntmps48
  go_wp2_with fail
  refine (index_has1 _ w.heap.size A c l (HS.out.kept0 HAL.out).row.sl (by omega) (fun y => past y.o y.t k) (fun w' hf' y hy => has1_any w' w.heap.size y.F y.T (.slice KA k.length kc) y.t k y.o (((HS.out.kept0 HAL.out).good y hy).T.kept0 hf') ((HK.out.kept0 HAL.out).kept0 hf') (hf'.cell HQ0.out (fun h => h)))).mono ?_
  rintro e w1 ⟨rfl, hf⟩
  have hs1 := (HS.out.kept0 HAL.out).kept0 hf
  have hk1 := (HK.out.kept0 HAL.out).kept0 hf
  obtain ⟨c0, c1, c2⟩ := one_cells (hf.heap HC0.out (fun h => h))
  have HF := Lib.hid (HAL.out.trans hf (fun _ _ h => h)); clear hf e0 e1 e2
  obtain ⟨e0, e1, e2⟩ := one_cells hs1.at_
  have HS1 := Lib.hid hs1; have HK1 := Lib.hid hk1; clear hs1 hk1
  cases hfi : l.findIdx? fun y => past y.o y.t k with
  | none =>
    have hf2 : fits (fun y => past y.o y.t k) l = -1 := by unfold fits; rw [hfi]
    rw [hfi] at hv
    rw [hf2]
    have HV := Lib.hid hv; clear hv hfi hf2
    go_wp2_with fail
    refine wp_region_ord (List.range 16) (fun i => [Kd.p, Kd.p, Kd.p, Kd.p, Kd.p, Kd.p, Kd.l, Kd.p, Kd.p, Kd.p, Kd.l, Kd.l, Kd.e, Kd.p, Kd.p, Kd.p].getD i .e) (by kernel_rfl) (by kernel_rfl) ?_
    iterate 16
      first | (refine wpX_un rfl rfl ?_; go_simp) | first | refine wpX_pu rfl rfl rfl (by first | exact pu_move rfl | exact pu_assign rfl | exact pu_nilCheck rfl rfl | exact pu_binInt rfl rfl rfl | exact pu_conv rfl rfl (by kernel_rfl) | exact pu_fld rfl (by kernel_rfl) | exact pu_ix rfl rfl rfl (by kernel_rfl) | exact pu_unOp rfl | exact pu_binStr rfl rfl rfl | exact pu_len rfl rfl | exact pu_lens rfl rfl | exact pu_pick rfl | exact pu_slice rfl rfl) (fun K hK => ?_) | refine wpX_rd rfl rfl rfl (rd_load rfl) (fun K hK => ?_) | refine wpX_gr rfl rfl rfl (by first | exact gr_buildSlice rfl | exact gr_box rfl | exact gr_alloc rfl) (fun K hK => ?_) | refine wpX_ex rfl rfl rfl (fun K hK => ?_)
      try go_wp2
    refine wpX_done ?_
    go_wp2
    go_ret
    exact ⟨by rw [← HV.out]; rfl, HF.out.drew⟩
  | some i =>
    have hf2 : fits (fun y => past y.o y.t k) l = (i : Int) := by unfold fits; rw [hfi]
    have hlt := (List.findIdx?_eq_some_iff_getElem.1 hfi).1
    rw [hfi] at hv
    simp only [hlt, dite_true] at hv
    rw [hf2]
    have HV := Lib.hid hv; clear hv hfi hf2
    obtain ⟨b, o, rfl, q0, q1, q2⟩ := Spans.at HS1.out.row.sl i hlt
    obtain ⟨yA, yc, hyA, _, _⟩ := (HS1.out.good l[i] (List.getElem_mem _)).F.form
    have hq := World.block_lt_of_cell? w1 _ q0
    have HY := Lib.hid (HS1.out.good l[i] (List.getElem_mem _)).F
    rw [hyA] at q0 HY
    clear hyA q1 q2
    go_wp2_with fail
    refine wp_region_ord (List.range 16) (fun i => [Kd.p, Kd.p, Kd.p, Kd.p, Kd.p, Kd.p, Kd.l, Kd.p, Kd.p, Kd.p, Kd.l, Kd.l, Kd.e, Kd.p, Kd.p, Kd.p].getD i .e) (by kernel_rfl) (by kernel_rfl) ?_
    iterate 12
      first | (refine wpX_un rfl rfl ?_; go_simp) | first | refine wpX_pu rfl rfl rfl (by first | exact pu_move rfl | exact pu_assign rfl | exact pu_nilCheck rfl rfl | exact pu_binInt rfl rfl rfl | exact pu_conv rfl rfl (by kernel_rfl) | exact pu_fld rfl (by kernel_rfl) | exact pu_ix rfl rfl rfl (by kernel_rfl) | exact pu_unOp rfl | exact pu_binStr rfl rfl rfl | exact pu_len rfl rfl | exact pu_lens rfl rfl | exact pu_pick rfl | exact pu_slice rfl rfl) (fun K hK => ?_) | refine wpX_rd rfl rfl rfl (rd_load rfl) (fun K hK => ?_) | refine wpX_gr rfl rfl rfl (by first | exact gr_buildSlice rfl | exact gr_box rfl | exact gr_alloc rfl) (fun K hK => ?_) | refine wpX_ex rfl rfl rfl (fun K hK => ?_)
      try go_wp2
    refine wpX_ex rfl rfl rfl (fun K hK => ?_)
    go_wp2_with fail
    refine (cmp_any _ _ _ l[i].f k (HY.out.kept0 (Fr.drew (Fr.refl no w1))) (HK1.out.kept0 (Fr.drew (Fr.refl no w1)))).mono ?_
    rintro e w2 ⟨rfl, rfl⟩
    go_wp2_with fail
    iterate 3
      first | (refine wpX_un rfl rfl ?_; go_simp) | first | refine wpX_pu rfl rfl rfl (by first | exact pu_move rfl | exact pu_assign rfl | exact pu_nilCheck rfl rfl | exact pu_binInt rfl rfl rfl | exact pu_conv rfl rfl (by kernel_rfl) | exact pu_fld rfl (by kernel_rfl) | exact pu_ix rfl rfl rfl (by kernel_rfl) | exact pu_unOp rfl | exact pu_binStr rfl rfl rfl | exact pu_len rfl rfl | exact pu_lens rfl rfl | exact pu_pick rfl | exact pu_slice rfl rfl) (fun K hK => ?_) | refine wpX_rd rfl rfl rfl (rd_load rfl) (fun K hK => ?_) | refine wpX_gr rfl rfl rfl (by first | exact gr_buildSlice rfl | exact gr_box rfl | exact gr_alloc rfl) (fun K hK => ?_) | refine wpX_ex rfl rfl rfl (fun K hK => ?_)
      try go_wp2
    refine wpX_done ?_
    go_wp2
    go_ret
    exact ⟨by rw [← HV.out]; rfl, HF.out.drew⟩
end Go.Proofs.Ytdnohhlgaaihmaa

/- reads.Set: Meets; keys in a row. -/
namespace Go.Proofs.Ytdnohhlgaaihmaa
open Go.RowKit

/-- A key: its slice, its bytes. -/
structure Kv where
  V : Value
  b : List UInt8
def Kv.Good (w : World) (k : Kv) : Prop := Sl w 1 k.V k.b.length (bvs k.b) ∧ k.b.length ≤ reachBytes
/-- Keys in a row. -/
structure Keys (w : World) (x : Value) (ks : List Kv) : Prop where
  sl : Sl w 1 x ks.length (ks.map Kv.V)
  good : ∀ k ∈ ks, k.Good w
theorem Keys.kept0 {w w1 : World} {x : Value} {ks : List Kv} (h : Keys w x ks) (f : Fr no w w1) : Keys w1 x ks := ⟨h.sl.kept0 f, fun k hk => ⟨(h.good k hk).1.kept0 f, (h.good k hk).2⟩⟩
theorem Keys.below {w w1 : World} {x : Value} {ks : List Kv} (h : Keys w x ks) (b : Below w.heap.size w w1) : Keys w1 x ks := ⟨h.sl.below b, fun k hk => ⟨(h.good k hk).1.below b, (h.good k hk).2⟩⟩
theorem Keys.at {w : World} {A : Option Addr} {n c : Nat} {ks : List Kv} (h : Keys w (.slice A n c) ks) (j : Nat) (hj : j < ks.length) : ∃ b o, A = some ⟨b, o, none⟩ ∧ w.cell? ⟨b, o + j, none⟩ = some ks[j].V := by
  rcases h.sl.2 with ⟨_, h1, h2⟩ | ⟨b, o, cap, h1, _, _, h4⟩
  · omega
  · cases h1
    exact ⟨b, o, rfl, h4 j _ (by simp [hj])⟩

/-- The first key that fits; -1: none does. -/
def kfits (p : Kv → Bool) (l : List Kv) : Int := match l.findIdx? p with | some i => i | none => -1

set_option maxRecDepth 100000 in
set_option maxHeartbeats 400000 in
theorem index_keys (w : World) (p : Nat) (A : Option Addr) (c : Nat) (l : List Kv) (hl : Keys w (.slice A l.length c) l) (hn : l.length ≤ 140737488351232) (q : Kv → Bool)
    (hp : ∀ w', Fr no w w' → ∀ x ∈ l, Calls Try.prog 48 #[.pointer (some ⟨p, 0, none⟩), x.V] w' fun e w'' => e = .returned (.bool (q x)) ∧ Fr no w' w'') :
    Calls Try.prog 139 #[.slice A l.length c, .func (.func 48) #[.pointer (some ⟨p, 0, none⟩)] #[]] w fun e w' => e = .returned (.int .i64 (kfits q l)) ∧ Fr no w w' := by
  have HL := Lib.hid hl; have HP := Lib.hid hp; clear hl hp
  go_enter Try.func139, Try.ntmps139
  go_wp2
  go_loopw [8] (fun i wr => ∃ j : Nat, j ≤ l.length ∧ i = .int .i64 j ∧ Fr no w wr ∧ ∀ k (hk : k < l.length), k < j → q l[k] = false) (fun i _ => l.length - (intOf i).toNat)
  case atStart => exact ⟨0, Nat.zero_le _, rfl, Fr.refl _ _, fun k _ h => by omega⟩
  case round =>
    obtain ⟨j, hj, rfl, hf, hno⟩ := hrel
    have HF := Lib.hid hf; have HNO := Lib.hid hno; clear hf hno
    by_cases hlt : j < l.length
    · obtain ⟨b, o, hA, q0⟩ := Keys.at (HL.out.kept0 HF.out) j hlt
      subst hA
      cases hpj : q l[j] with
      | true =>
        have HPJ := Lib.hid hpj; clear hpj
        go_wp2_with fail
        refine (HP.out wr HF.out l[j] (List.getElem_mem _)).mono ?_
        rintro e w1 ⟨rfl, hf1⟩
        rw [HPJ.out]
        have HF1 := Lib.hid hf1; clear hf1
        go_wp2
        go_ret
        have e : kfits q l = j := by
          unfold kfits
          rw [List.findIdx?_eq_some_iff_getElem.2 ⟨hlt, HPJ.out, fun k hk => by rw [HNO.out k (by omega) hk]; simp⟩]
        rw [e]
        exact ⟨rfl, HF.out.trans HF1.out (fun _ _ h => h)⟩
      | false =>
        have HPJ := Lib.hid hpj; clear hpj
        go_wp2_with fail
        refine (HP.out wr HF.out l[j] (List.getElem_mem _)).mono ?_
        rintro e w1 ⟨rfl, hf1⟩
        rw [HPJ.out]
        have HF1 := Lib.hid hf1; clear hf1
        go_wp2
        go_roundw
        case rel =>
          refine ⟨j + 1, hlt, by go_num, HF.out.trans HF1.out (fun _ _ h => h), fun k hk hkj => ?_⟩
          by_cases h : k = j
          · subst h; exact HPJ.out
          · exact HNO.out k hk (by omega)
        case measure => simp [intOf]; omega
    · go_wp2
      go_ret
      have e : kfits q l = -1 := by
        unfold kfits
        rw [List.findIdx?_eq_none_iff.2 (fun x hx => by
          obtain ⟨k, hk, rfl⟩ := List.getElem_of_mem hx
          exact HNO.out k hk (by omega))]
      rw [e]
      exact ⟨rfl, HF.out⟩

theorem kfits_any (q : Kv → Bool) (l : List Kv) : decide (0 ≤ kfits q l) = l.any q := by
  unfold kfits
  cases h : l.findIdx? q with
  | none =>
    have := List.findIdx?_eq_none_iff.1 h
    symm
    simpa using this
  | some i =>
    obtain ⟨h1, h2, _⟩ := List.findIdx?_eq_some_iff_getElem.1 h
    have : l.any q = true := List.any_eq_true.2 ⟨_, List.getElem_mem h1, h2⟩
    simp [this]

set_option maxRecDepth 100000 in
set_option maxHeartbeats 400000 in
theorem meets_any (w : World) (p : Nat) (sv K : Value) (l : List SpV) (ks : List Kv) (hs : Se w p sv l) (hK : Keys w K ks) (hl : l.length ≤ 100000) (hk : ks.length ≤ 140737488351232) :
    Calls Try.prog 50 #[.pointer (some ⟨p, 0, none⟩), K] w fun e w' => e = .returned (.bool (ks.any fun k => hasV l k.b)) ∧ Fr no w w' := by
  obtain ⟨A, c, rfl, _, _⟩ := hK.sl.form
  have inner : Calls Try.prog 119 #[.slice A ks.length c, .func (.func 48) #[.pointer (some ⟨p, 0, none⟩)] #[]] w fun e w' => e = .returned (.bool (ks.any fun k => hasV l k.b)) ∧ Fr no w w' := by
    have HS := Lib.hid hs; have HK := Lib.hid hK; clear hs hK
    go_enter Try.func119, Try.ntmps119
    go_wp2_with fail
    refine (index_keys w p A c ks HK.out hk (fun k => hasV l k.b) (fun w' hf' x hx => has_any w' p sv x.V l x.b (HS.out.kept0 hf') ((HK.out.good x hx).1.kept0 hf') hl)).mono ?_
    rintro e w1 ⟨rfl, hf⟩
    have HF := Lib.hid hf; clear hf
    go_wp2
    go_ret
    exact ⟨by rw [← kfits_any]; rfl, HF.out⟩
  have HI := Lib.hid inner; clear inner hs hK
  go_enter Try.func50, Try.ntmps50
  go_wp2_with fail
  refine HI.out.mono ?_
  rintro e w1 ⟨rfl, hf⟩
  have HF := Lib.hid hf; clear hf
  go_wp2
  go_ret
  exact ⟨rfl, HF.out⟩
end Go.Proofs.Ytdnohhlgaaihmaa
