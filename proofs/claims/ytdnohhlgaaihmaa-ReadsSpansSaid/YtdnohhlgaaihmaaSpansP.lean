/- law17: spans in order, as they are told; and reading within a drawn region. -/
import Derived.Test.YtdnohhlgaaihmaaGrows
namespace Go.Proofs.Ytdnohhlgaaihmaa
open Go.RowKit

theorem wpX_lv {P : Program} {ops : Array Oper} {Q : Exit → Act → World → Prop} {I : World → Prop} {kds : Nat → Kd} {i : Nat} {rest : List Nat} {a : Act} {w : World} {o : Oper} (v : Value) (hi : ops[i]? = some o) (hg : Region.wanted o (yielded ops a.tmps) = true) (hk : kds i = .l)
    (hv : ∀ e, (execOp a.eval o).run P (w.ext e) = .ok (.value v) (w.ext e))
    (h : wpX P ops Q I kds rest (a.put o.dst v) w) : wpX P ops Q I kds (i :: rest) a w := by
  refine wpX_step hi hg fun K hK => ?_
  rw [hk]
  refine ⟨v, fun e => ?_, hK _ _ h⟩
  unfold Oper.val
  rw [hv e]
  exact ⟨rfl, rfl⟩

/-- string(b). -/
theorem str_ext {P : Program} {w : World} {src dst e : TypeId} (hs : P.underlying src = some (.slice e)) (he : P.underlying e = some (.int .u8)) (hd : P.underlying dst = some .string) {v : Value} {n : Nat} {l : List UInt8}
    (hv : Sl w 1 v n (bvs l)) (x : Array Obj × Nat) : (convert src dst v).run P (w.ext x) = .ok (.string ⟨l.toArray⟩) (w.ext x) := run_str _ hs he hd (hv.kept0 (Fr.of_ext w x))

namespace SpV
theorem norm_pr : ∀ {os l : List SpV}, os.map pr = l.map pr → Norm l → Norm os
  | [], [], _, _ => trivial
  | [], _ :: _, h, _ => by simp at h
  | _ :: _, [], h, _ => by simp at h
  | x :: xs, y :: ys, h, hn => by
    simp only [List.map_cons, List.cons.injEq] at h
    obtain ⟨h1, h2⟩ := h
    obtain ⟨a, b, c⟩ := hn
    have e := h1
    simp only [pr, Prod.mk.injEq] at e
    refine ⟨⟨fun h => by rw [e.2.1]; exact a.open_ (by rw [← e.2.2]; exact h), fun h => by rw [e.1, e.2.1]; exact a.some_ (by rw [← e.2.2]; exact h)⟩, fun z hz => ?_, norm_pr h2 c⟩
    have : z.pr ∈ ys.map pr := h2 ▸ List.mem_map_of_mem hz
    obtain ⟨z', hz', e'⟩ := List.mem_map.1 this
    simp only [pr, Prod.mk.injEq] at e'
    obtain ⟨p1, p2⟩ := b z' hz'
    exact ⟨by rw [e.2.2]; exact p1, by rw [e.2.1, ← e'.1]; exact p2⟩
theorem mem_of_pr {os l : List SpV} (h : os.map pr = l.map pr) (k : List UInt8) (hm : Mem os k) : Mem l k := by
  obtain ⟨z, hz, h1⟩ := hm
  have : z.pr ∈ l.map pr := h ▸ List.mem_map_of_mem hz
  obtain ⟨z', hz', e'⟩ := List.mem_map.1 this
  exact ⟨z', hz', (mem_pr e' k).2 h1⟩
theorem Norm.next : ∀ {l : List SpV}, Norm l → ∀ i (h : i + 1 < l.length), l[i].o = false ∧ lt l[i].t l[i + 1].f
  | [], _, i, h => by simp at h
  | y :: ys, hn, 0, h => by
    obtain ⟨_, b, _⟩ := hn
    exact b _ (List.getElem_mem _)
  | y :: ys, hn, i + 1, h => by
    obtain ⟨_, _, c⟩ := hn
    exact Norm.next c i (by simpa using h)
theorem Norm.stop_at : ∀ {l : List SpV}, Norm l → ∀ i (h : i < l.length), l[i].o = false → ¬ Mem l l[i].t
  | [], _, i, h, _ => by simp at h
  | y :: ys, hn, 0, h, ho => hn.stop ho
  | y :: ys, hn, i + 1, h, ho => by
    have hn' := hn
    obtain ⟨a, b, c⟩ := hn
    have hi : i < ys.length := by simpa using h
    have ho' : ys[i].o = false := ho
    show ¬ Mem (y :: ys) ys[i].t
    rw [Mem.cons]
    rintro (⟨_, h2⟩ | h2)
    · obtain ⟨p1, p2⟩ := b ys[i] (List.getElem_mem _)
      rcases h2 with h2 | h2
      · rw [p1] at h2; cases h2
      · exact lt_irrefl (lt_trans (lt_trans h2 p2) ((c.ok _ (List.getElem_mem hi)).some_ ho'))
    · exact Norm.stop_at c i hi ho' h2
theorem take_one (l : List SpV) (m : Nat) (hm : m < l.length) (k : List UInt8) : Mem (l.take (m + 1)) k ↔ Mem (l.take m) k ∨ l[m].mem k := (take_mem l m hm k).symm.trans Or.comm
end SpV
end Go.Proofs.Ytdnohhlgaaihmaa
