/- The document's answer for runs, in plain Lean: Norm gives the one good list with the same numbers. -/
import Derived.Test.YtaphhmefkfhepaaRunY
namespace Go.Proofs.Ytaphhmefkfhepaa.Run
open Go Go.RowKit Go.Proofs.Ytaphhmefkfhepaa.L
set_option linter.unusedVariables false
set_option linter.unusedSimpArgs false

def Sorted (l : List Rn) : Prop := l.Pairwise fun a b => a.f ≤ b.f
theorem sink_mem (x y : Rn) : ∀ ru v, y ∈ sink x ru v ↔ y = x ∨ y ∈ ru ∨ y ∈ v
  | [], v => by simp [sink]
  | z :: ru, v => by
    unfold sink
    split
    · rw [sink_mem x y ru (z :: v)]; simp; grind
    · simp; grind
theorem sink_sorted (x : Rn) : ∀ ru v, Sorted (ru.reverse ++ v) → (∀ y ∈ v, x.f < y.f) → Sorted (sink x ru v)
  | [], v, h, hv => by
    simp only [sink]
    exact List.pairwise_cons.2 ⟨fun y hy => by have := hv y hy; omega, by simpa [Sorted] using h⟩
  | z :: ru, v, h, hv => by
    unfold sink
    split
    · rename_i hlt
      refine sink_sorted x ru (z :: v) (by simpa [Sorted] using h) fun y hy => ?_
      rcases List.mem_cons.1 hy with rfl | hy
      · exact hlt
      · exact hv y hy
    · rename_i hlt
      unfold Sorted at h ⊢
      rw [List.pairwise_append] at h ⊢
      obtain ⟨h1, h2, h3⟩ := h
      refine ⟨h1, List.pairwise_cons.2 ⟨fun y hy => by have := hv y hy; omega, h2⟩, fun a ha b hb => ?_⟩
      rcases List.mem_cons.1 hb with rfl | hb
      · have hz : a.f ≤ z.f := by
          rw [List.reverse_cons, List.pairwise_append] at h1
          rw [List.reverse_cons, List.mem_append] at ha
          rcases ha with ha | ha
          · exact h1.2.2 a ha z (by simp)
          · simp at ha; subst ha; omega
        omega
      · exact h3 a ha b hb
theorem sorts_spec : ∀ (l s : List Rn), Sorted s → (∀ y ∈ s, y.f < y.t) →
    Sorted (l.foldl (fun s x => if x.t ≤ x.f then s else sink x s.reverse []) s) ∧ (∀ y, y ∈ l.foldl (fun s x => if x.t ≤ x.f then s else sink x s.reverse []) s ↔ y ∈ s ∨ (y ∈ l ∧ y.f < y.t))
  | [], s, h, _ => ⟨h, by simp⟩
  | x :: l, s, h, hf => by
    rw [List.foldl_cons]
    by_cases hx : x.t ≤ x.f
    · rw [if_pos hx]
      obtain ⟨h1, h2⟩ := sorts_spec l s h hf
      refine ⟨h1, fun y => ?_⟩
      rw [h2]
      constructor
      · rintro (h | ⟨h, h'⟩)
        · exact .inl h
        · exact .inr ⟨by simp [h], h'⟩
      · rintro (h | ⟨h, h'⟩)
        · exact .inl h
        · rcases List.mem_cons.1 h with rfl | h
          · omega
          · exact .inr ⟨h, h'⟩
    · rw [if_neg hx]
      have hs := sink_sorted x s.reverse [] (by simpa [Sorted] using h) (by simp)
      have hm : ∀ y, y ∈ sink x s.reverse [] ↔ y = x ∨ y ∈ s := fun y => by rw [sink_mem]; simp
      obtain ⟨h1, h2⟩ := sorts_spec l _ hs fun y hy => by
        rcases (hm y).1 hy with rfl | hy
        · omega
        · exact hf y hy
      refine ⟨h1, fun y => ?_⟩
      rw [h2, hm]
      constructor
      · rintro ((rfl | h) | ⟨h, h'⟩)
        · exact .inr ⟨by simp, by omega⟩
        · exact .inl h
        · exact .inr ⟨by simp [h], h'⟩
      · rintro (h | ⟨h, h'⟩)
        · exact .inl (.inr h)
        · rcases List.mem_cons.1 h with rfl | h
          · exact .inl (.inl rfl)
          · exact .inr ⟨h, h'⟩
/-- Runs that rise are laid together. -/
theorem mrgs_spec : ∀ (l o : List Rn), Good o → Sorted l → (∀ y ∈ l, 0 ≤ y.f ∧ y.f < y.t ∧ y.t ≤ 18446744073709551615) → (∀ y ∈ o, ∀ z ∈ l, y.f ≤ z.f) →
    Good (l.foldl mrg o) ∧ ∀ n, Mem (l.foldl mrg o) n ↔ Mem o n ∨ Mem l n
  | [], o, h, _, _, _ => ⟨h, fun n => by simp [mem_nil]⟩
  | x :: l, o, h, hs, hb, ho => by
    rw [List.foldl_cons]
    have hx := hb x (by simp)
    obtain ⟨hs1, hs2⟩ := List.pairwise_cons.1 hs
    have key : Good (mrg o x) ∧ (∀ n, Mem (mrg o x) n ↔ Mem o n ∨ (x.f ≤ n ∧ n < x.t)) ∧ ∀ y ∈ mrg o x, y.f ≤ x.f := by
      rcases List.eq_nil_or_concat o with rfl | ⟨o', y, rfl⟩
      · refine ⟨good_cons hx (by simp) good_nil, fun n => ?_, by simp [mrg]⟩
        show Mem [x] n ↔ _
        rw [mem_cons]; simp [mem_nil]
      · simp only [List.concat_eq_append] at h ho ⊢
        have hy := h.each y (by simp)
        obtain ⟨g1, g2, g3⟩ := good_append.1 h
        have hyx := ho y (by simp) x (by simp)
        have hlast : (o' ++ [y]).getLast? = some y := by simp
        by_cases hm : x.f ≤ y.t
        · have e : mrg (o' ++ [y]) x = o' ++ [⟨y.f, mx y.t x.t⟩] := by simp [mrg, hm]
          rw [e]
          have hmx : mx y.t x.t = if y.t ≤ x.t then x.t else y.t := by unfold mx; split <;> split <;> omega
          refine ⟨good_append.2 ⟨g1, good_cons ?_ (by simp) good_nil, fun a ha b hb => ?_⟩, fun n => ?_, fun a ha => ?_⟩
          · rw [hmx]; dsimp only; split <;> omega
          · simp at hb; subst hb; exact g3 a ha y (by simp)
          · rw [mem_append, mem_append, mem_cons, mem_cons]
            simp only [mem_nil, or_false]
            rw [hmx]
            split <;> grind
          · rcases List.mem_append.1 ha with ha | ha
            · have := ho a (by simp [ha]) x (by simp); omega
            · simp at ha; subst ha; exact hyx
        · have e : mrg (o' ++ [y]) x = o' ++ [y] ++ [x] := by simp [mrg, hm]
          rw [e]
          refine ⟨good_append.2 ⟨h, good_cons hx (by simp) good_nil, fun a ha b hb => ?_⟩, fun n => ?_, fun a ha => ?_⟩
          · simp at hb; subst hb
            rcases List.mem_append.1 ha with ha | ha
            · have := g3 a ha y (by simp); omega
            · simp at ha; subst ha; omega
          · rw [mem_append (b := [x]), mem_cons (l := [])]; simp [mem_nil]
          · rcases List.mem_append.1 ha with ha | ha
            · exact ho a ha x (by simp)
            · simp at ha; subst ha; omega
    obtain ⟨k1, k2, k3⟩ := key
    obtain ⟨i1, i2⟩ := mrgs_spec l (mrg o x) k1 hs2 (fun y hy => hb y (by simp [hy])) fun y hy z hz => by
      have := k3 y hy; have := hs1 z hz; omega
    refine ⟨i1, fun n => ?_⟩
    rw [i2, k2, mem_cons, or_assoc]
theorem norm_spec {l : List Rn} (h : All64 l) : Good (normL l) ∧ ∀ n, Mem (normL l) n ↔ Mem l n := by
  obtain ⟨h1, h2⟩ := sorts_spec l [] .nil (by simp)
  have hb : ∀ y ∈ sorts l, 0 ≤ y.f ∧ y.f < y.t ∧ y.t ≤ 18446744073709551615 := fun y hy => by
    have := (h2 y).1 hy
    simp at this
    have q := h y this.1
    exact q.bounds this.2
  obtain ⟨g1, g2⟩ := mrgs_spec (sorts l) [] good_nil h1 hb (by simp)
  refine ⟨g1, fun n => ?_⟩
  show Mem ((sorts l).foldl mrg []) n ↔ _
  rw [g2]
  simp only [mem_nil, false_or]
  constructor
  · rintro ⟨y, hy, h3⟩
    have := (h2 y).1 hy
    simp at this
    exact ⟨y, this.1, h3⟩
  · rintro ⟨y, hy, h3⟩
    exact ⟨y, (h2 y).2 (.inr ⟨hy, by omega⟩), h3⟩
end Go.Proofs.Ytaphhmefkfhepaa.Run
