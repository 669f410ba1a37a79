/- A library of no program: a law's arguments. -/
import Derived.Test.YtidgcfgkcidkiaaLibE
namespace Go.Proofs.Ytidgcfgkcidkiaa.L
open Go Go.RowKit Go.ChangeShapes Go.WideShapes Go.ChangeAt
set_option linter.unusedVariables false
set_option linter.unusedSimpArgs false
section
variable {P : Program}
theorem slice_arg {H : Type} {enc : TypeId × Value → H} {α : Type} {R : Rep α} {T e : TypeId} (ho : Opens P (slice R) T) (ht : P.underlying T = some (.slice e)) {w : World} {r : Reach} {base : Nat} {v : Value} {d : DataW H} {ps : List MemPlace}
    (hv : Value.okWide P w r base T v) (h : DataW.Trod enc P w 0 (fun _ => true) true T v d ps) : ∃ ad c xs, v = .slice ad xs.length c ∧ SliceK R anyA w v xs := by
  obtain ⟨a, n, c, rfl⟩ := okWide_slice ht hv
  obtain ⟨fuel, hf⟩ := h
  obtain ⟨xs, v', e1, hx⟩ := ho enc w fuel _ _ hf
  simp [Value.cells] at e1
  subst e1
  obtain ⟨ad, c', e2, _⟩ := hx.form
  injection e2 with e3 e4 e5
  subst e4
  exact ⟨a, c, xs, rfl, hx⟩
theorem num_arg {H : Type} {enc : TypeId × Value → H} {k : IntKind} {T : TypeId} (ht : P.underlying T = some (.int k)) {w : World} {r : Reach} {base : Nat} {v : Value} {d : DataW H} {ps : List MemPlace}
    (hv : Value.okWide P w r base T v) (h : DataW.Trod enc P w 0 (fun _ => true) true T v d ps) : ∃ x, v = .int k x ∧ InK k x := by
  obtain ⟨fuel, hf⟩ := h
  obtain ⟨x, e1, hx⟩ := opens_num ht enc w fuel _ _ hf
  simp only [Value.okWide, ht, Cell.okWide] at hv
  cases v <;> simp_all [Cell.ok, Value.cells]
end
end Go.Proofs.Ytidgcfgkcidkiaa.L
