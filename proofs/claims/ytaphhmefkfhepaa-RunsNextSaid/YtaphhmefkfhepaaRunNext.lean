/-
  What is proved: RunsNext: from gap to next and from next to gap a set's runs are come to one by one, and nothing else.
  Conditions: none; the statement '..Said' for every input.
-/
import Derived.Test.YtaphhmefkfhepaaRows
import Derived.Test.YtaphhmefkfhepaaRunN
import Derived.Test.YtaphhmefkfhepaaLibF
namespace Go.Proofs.Ytaphhmefkfhepaa.RunNext
open Go Go.RowKit Go.ChangeShapes Go.WideShapes Go.ChangeAt Go.Proofs.Ytaphhmefkfhepaa.L Go.Proofs.Ytaphhmefkfhepaa.Run
set_option linter.unusedVariables false
set_option linter.unusedSimpArgs false

theorem own : ownKnob Try.prog.godebug = none := by kernel_rfl
theorem laidOut : laidOutB Try.prog = true := by kernel_rfl
theorem opens_runs : Opens Try.prog (slice RnR) 22 := opens_slice Try.underlying22 (by kernel_rfl) (by decide) opens_run

set_option maxRecDepth 100000 in
theorem lifted (os : Os) (started : os.Started) (H : Type) (enc : TypeId × Value → H) :
    ReturnsInHanded {} Try.checked os 3 .any (Rows.runsNextSpec.pre6 enc Try.prog Try.f3 Rows.runsNextRow.domain false) (Rows.runsNextSpec.post enc Try.prog Try.f3 false true false false) := by
  refine returnsInHanded_of_change (C := Try.checked) own started (by kernel_rfl) Try.func3
    (ChangeSpec.witness6 (enc := enc) (C := Try.checked) false ⟨#[], #[.slice none 0 0], []⟩ 8 (by kernel_rfl) (by kernel_rfl) (by kernel_rfl) (by kernel_rfl)) ?_
  intro W base args ds gs before hval0 hW0 hcnd _
  have hW : DataW.Whole enc Try.prog Try.f3.params.toList Rows.runsNextSpec.vars false W args.toList ds gs before := hW0
  have hA := hW
  obtain ⟨p, q, hA, hV, _, _, _⟩ := hA
  have hval : ∀ (j : Nat) t v, Try.f3.params[j]? = some t → args[j]? = some v → Value.okWide Try.prog W .any base t v := hval0
  rw [Try.params3] at hA hval
  obtain ⟨v0, d0, hargs, rfl, h0⟩ := trodAll_one hA
  subst hargs
  obtain ⟨ad, c, l, rfl, hl⟩ := slice_arg opens_runs Try.underlying22 (hval 0 _ _ rfl rfl) h0
  refine (next_law W ad c l anyA hl).mono ?_
  rintro e W' ⟨rfl, hk'⟩
  exact law_post 4 Try.underlying4 rfl rfl laidOut (by kernel_rfl) hW (fun h => by subst h; rfl) hk'

theorem runsNext_holds : Rows.RunsNextSaid :=
  OpenClaim.holds_of_wide 3 Try.f3 rfl rfl rfl rfl rfl rfl rfl ⟨rfl, rfl, rfl, rfl, rfl⟩ rfl rfl rfl rfl rfl (by kernel_rfl) Try.func3 (by kernel_rfl)
    (of_decide_eq_true (by kernel_rfl)) (by unfold Func.isWrapper; first | (rw [if_pos (by decide +kernel)]; kernel_rfl) | (rw [if_neg (by decide +kernel)]; exact ⟨rfl, rfl⟩))
    (fun os started H enc _ => lifted os started H enc)
#print axioms runsNext_holds
end Go.Proofs.Ytaphhmefkfhepaa.RunNext
