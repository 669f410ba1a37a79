/- The document's answer for runs, in plain Lean: on good lists it is the set's answer. -/
import Derived.Test.YtaphhmefkfhepaaRunYP
namespace Go.Proofs.Ytaphhmefkfhepaa.Run
open Go Go.RowKit Go.Proofs.Ytaphhmefkfhepaa.L
set_option linter.unusedVariables false
set_option linter.unusedSimpArgs false

theorem refAdd_eq {l : List Rn} (h : Good l) {r : Rn} (hr : Run64 r) : refAdd l r = putL l r := by
  obtain ⟨h1, h2⟩ := norm_spec (l := l ++ [r]) fun x hx => by
    rcases List.mem_append.1 hx with hx | hx
    · exact h.all x hx
    · simp at hx; subst hx; exact hr
  refine good_unique h1 (putL_good h hr) fun n _ => ?_
  show Mem (normL (l ++ [r])) n ↔ _
  rw [h2, putL_mem h hr, mem_append, mem_cons]
  simp only [mem_nil, or_false]
  exact Iff.rfl
theorem mx_or (a b : Int) : mx a b = a ∨ mx a b = b := by unfold mx; split <;> simp
theorem mn_or (a b : Int) : mn a b = a ∨ mn a b = b := by unfold mn; split <;> simp
theorem pieces_mem' (r x : Rn) (hr : r.f < r.t) (n : Int) : Mem (pieces r x) n ↔ (x.f ≤ n ∧ n < x.t) ∧ ¬ In r n := by
  unfold pieces In
  rw [mem_cons, mem_cons]
  simp only [mem_nil, or_false, mx_max, mn_min]
  omega
theorem cuts_mem (r : Rn) (hr : r.f < r.t) (n : Int) : ∀ l, Mem (cuts r l) n ↔ Mem l n ∧ ¬ In r n
  | [] => by simp [cuts, mem_nil]
  | x :: l => by
    have := cuts_mem r hr n l
    unfold cuts at this ⊢
    rw [List.flatMap_cons, mem_append, this, pieces_mem' r x hr, mem_cons]
    grind
theorem cuts_64 {r : Rn} (hr : Run64 r) {l : List Rn} (h : All64 l) : All64 (cuts r l) := by
  intro x hx
  obtain ⟨y, hy, hx⟩ := List.mem_flatMap.1 hx
  have hy := h y hy
  simp only [pieces, List.mem_cons, List.not_mem_nil, or_false] at hx
  rcases hx with rfl | rfl
  · refine ⟨hy.1, ?_⟩
    dsimp only
    rcases mn_or y.t r.f with e | e <;> rw [e]
    · exact hy.2
    · exact hr.1
  · refine ⟨?_, hy.2⟩
    dsimp only
    rcases mx_or y.f r.t with e | e <;> rw [e]
    · exact hy.1
    · exact hr.2
theorem refDrop_eq {l : List Rn} (h : Good l) {r : Rn} (hr : Run64 r) : refDrop l r = cutL l r := by
  unfold refDrop
  split
  · rename_i he
    obtain ⟨h1, h2⟩ := norm_spec h.all
    refine good_unique h1 (cutL_good h hr) fun n _ => ?_
    rw [h2, cutL_mem h hr]
    unfold In
    constructor
    · intro hm; exact ⟨hm, by omega⟩
    · exact fun hm => hm.1
  · rename_i he
    obtain ⟨h1, h2⟩ := norm_spec (cuts_64 hr h.all)
    refine good_unique h1 (cutL_good h hr) fun n _ => ?_
    rw [h2, cutL_mem h hr, cuts_mem r (by omega)]
theorem find_hit {l : List Rn} (h : Good l) (m : Int) : l.find? (hit m) = (l.find? (ahead m)).filter fun x => decide (x.f ≤ m) := by
  induction l with
  | nil => rfl
  | cons x l ih =>
    obtain ⟨h1, h2⟩ := h.head
    have ih := ih h.tail
    rw [List.find?_cons, List.find?_cons]
    by_cases ha : m < x.t
    · by_cases hf : x.f ≤ m
      · simp [hit, ahead, ha, hf, Option.filter]
      · have e : l.find? (hit m) = none := by
          rw [List.find?_eq_none]
          intro y hy
          have := h2 y hy
          simp [hit]; omega
        have e1 : hit m x = false := by simp [hit, hf]
        have e2 : ahead m x = true := by simp [ahead, ha]
        rw [e1, e2]
        simp only [e]
        simp [Option.filter, hf]
    · simp only [hit, ahead, ha, decide_false, Bool.and_false]
      exact ih
theorem refHas_eq {l : List Rn} (h : Good l) (m : Int) : (l.find? (hit m)).isSome = Run.hasO (findR l m) m := by
  rw [find_hit h, findR_eq h]
  show ((l.find? (ahead m)).filter _).isSome = Run.hasO (l.find? (ahead m)) m
  cases l.find? (ahead m) with
  | none => rfl
  | some x => by_cases hx : x.f ≤ m <;> simp [Option.filter, Run.hasO, hx]
theorem refGap_eq {l : List Rn} (h : Good l) (m : Int) : refGap l m = gapO (findR l m) m := by
  unfold refGap
  rw [find_hit h, findR_eq h]
  show (match (l.find? (ahead m)).filter _ with | some x => x.t | none => m) = gapO (l.find? (ahead m)) m
  cases l.find? (ahead m) with
  | none => rfl
  | some x => by_cases hx : x.f ≤ m <;> simp [Option.filter, gapO, hx]
theorem refNext_eq {l : List Rn} (h : Good l) (m : Int) : refNext l m = nextA (findR l m) m := by
  unfold refNext
  rw [findR_eq h]
  show (match l.find? (ahead m) with | some x => _ | none => _) = nextA (l.find? (ahead m)) m
  cases l.find? (ahead m) with
  | none => rfl
  | some x => simp [nextA, mx_max]
theorem put_count {l : List Rn} (h : Good l) {r : Rn} (hr : Run64 r) : 0 ≤ countL (putL l r) - countL l := by
  unfold putL
  split
  · rename_i hf
    rw [← (add_spec h (hr.bounds hf)).2.2.1]
    unfold wu
    omega
  · omega
theorem cut_count {l : List Rn} (h : Good l) {r : Rn} (hr : Run64 r) : 0 ≤ countL l - countL (cutL l r) := by
  unfold cutL
  split
  · rename_i hf
    have hd : Good (l.drop (place l r.f)) := (good_append.1 (by rw [List.take_append_drop]; exact h)).2.1
    obtain ⟨g', L', m, he, hm, hl2, f1, f2, f3, f4, f5, f6, f7⟩ := shed_spec r ⟨hr.1.u64.1, hf⟩ _ hd 0 [] (place l r.f)
    have es : dropS l r = (g', L', place l r.f + m) := he
    have el : dropL l r = l.take (place l r.f) ++ L' ++ (l.drop (place l r.f)).drop m := by unfold dropL; rw [es]; simp [List.drop_drop]
    have c1 : countL l = countL (l.take (place l r.f)) + (countL ((l.drop (place l r.f)).take m) + countL ((l.drop (place l r.f)).drop m)) := by
      rw [← countL_append ((l.drop (place l r.f)).take m), List.take_append_drop, ← countL_append, List.take_append_drop]
    rw [el, countL_append, countL_append]
    omega
  · omega
end Go.Proofs.Ytaphhmefkfhepaa.Run
