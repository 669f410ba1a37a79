/-
  What is proved: RunsNil: on no set each method answers nothing, 0, or the number itself, and Copy answers no set.
  Conditions: none; the statement '..Said' for every input.
-/
import Derived.Test.YtaphhmefkfhepaaRows
import Derived.Test.YtaphhmefkfhepaaRunL
namespace Go.Proofs.Ytaphhmefkfhepaa.RunNil
open Go Go.RowKit Go.ChangeShapes Go.WideShapes Go.ChangeAt Go.Proofs.Ytaphhmefkfhepaa.L Go.Proofs.Ytaphhmefkfhepaa.Run
set_option linter.unusedVariables false
set_option linter.unusedSimpArgs false

theorem own : ownKnob Try.prog.godebug = none := by kernel_rfl
theorem laidOut : laidOutB Try.prog = true := by kernel_rfl

set_option maxRecDepth 100000 in
theorem lifted (os : Os) (started : os.Started) (H : Type) (enc : TypeId × Value → H) :
    ReturnsInHanded {} Try.checked os 5 .any (Rows.runsNilSpec.pre6 enc Try.prog Try.f5 Rows.runsNilRow.domain false) (Rows.runsNilSpec.post enc Try.prog Try.f5 false true false false) := by
  refine returnsInHanded_of_change (C := Try.checked) own started (by kernel_rfl) Try.func5
    (ChangeSpec.witness6 (enc := enc) (C := Try.checked) false ⟨#[], #[.agg #[.int .u64 0, .int .u64 0]], []⟩ 8 (by kernel_rfl) (by kernel_rfl) (by kernel_rfl) (by kernel_rfl)) ?_
  intro W base args ds gs before hval0 hW0 hcnd _
  have hW : DataW.Whole enc Try.prog Try.f5.params.toList Rows.runsNilSpec.vars false W args.toList ds gs before := hW0
  have hA := hW
  obtain ⟨p, q, hA, hV, _, _, _⟩ := hA
  rw [Try.params5] at hA
  obtain ⟨v0, d0, hargs, rfl, h0⟩ := trodAll_one hA
  subst hargs
  obtain ⟨fuel, hf⟩ := h0
  obtain ⟨r, hr, hk⟩ := opens_run enc W fuel _ _ hf
  obtain rfl := agg_of_cells hr (by simp [rnEnc])
  refine (nil_law r W).mono ?_
  rintro e W' ⟨rfl, hk'⟩
  exact law_post 4 Try.underlying4 rfl rfl laidOut (by kernel_rfl) hW (fun h => by subst h; rfl) hk'

theorem runsNil_holds : Rows.RunsNilSaid :=
  OpenClaim.holds_of_wide 5 Try.f5 rfl rfl rfl rfl rfl rfl rfl ⟨rfl, rfl, rfl, rfl, rfl⟩ rfl rfl rfl rfl rfl (by kernel_rfl) Try.func5 (by kernel_rfl)
    (of_decide_eq_true (by kernel_rfl)) (by unfold Func.isWrapper; first | (rw [if_pos (by decide +kernel)]; kernel_rfl) | (rw [if_neg (by decide +kernel)]; exact ⟨rfl, rfl⟩))
    (fun os started H enc _ => lifted os started H enc)
#print axioms runsNil_holds
end Go.Proofs.Ytaphhmefkfhepaa.RunNil
