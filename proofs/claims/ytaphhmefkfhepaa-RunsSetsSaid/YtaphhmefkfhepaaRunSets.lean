/-
  What is proved: RunsSets: what two sets have in common, and together, is as the document says; whether runs are a set's is as it says.
  Conditions: none; the statement '..Said' for every input.
-/
import Derived.Test.YtaphhmefkfhepaaRows
import Derived.Test.YtaphhmefkfhepaaRunSe
import Derived.Test.YtaphhmefkfhepaaGu
namespace Go.Proofs.Ytaphhmefkfhepaa.RunSets
open Go Go.RowKit Go.ChangeShapes Go.WideShapes Go.ChangeAt Go.Proofs.Ytaphhmefkfhepaa.L Go.Proofs.Ytaphhmefkfhepaa.Run Go.Proofs.Ytaphhmefkfhepaa.X
set_option linter.unusedVariables false
set_option linter.unusedSimpArgs false

theorem own : ownKnob Try.prog.godebug = none := by kernel_rfl
theorem laidOut : laidOutB Try.prog = true := by kernel_rfl
theorem opens_runs : Opens Try.prog (slice RnR) 22 := opens_slice Try.underlying22 (by kernel_rfl) (by decide) opens_run
theorem reads_run : Reads RnR enc := by
  rintro A w cs x ⟨rfl, _⟩
  refine ⟨rfl, fun j u hu => ?_⟩
  match j, hu with
  | 0, hu => cases hu; exact ⟨_, rfl, .int _ _⟩
  | 1, hu => cases hu; exact ⟨_, rfl, .int _ _⟩
  | j + 2, hu => simp [enc, AV.cells] at hu
theorem run_lst {A : Nat → Prop} {w : World} {v : Value} {l : List Rn} (h : SliceK RnR A w v l) : VR (ctx0 w) (.lst 2 (l.map enc)) v := .pure (reads_slice (R := RnR) (by decide) reads_run h)

set_option maxRecDepth 100000 in
theorem lifted (os : Os) (started : os.Started) (H : Type) (enc : TypeId × Value → H) :
    ReturnsInHanded {} Try.checked os 9 .any (Rows.runsSetsSpec.pre6 enc Try.prog Try.f9 Rows.runsSetsRow.domain false) (Rows.runsSetsSpec.post enc Try.prog Try.f9 false true false false) := by
  refine returnsInHanded_of_change (C := Try.checked) own started (by kernel_rfl) Try.func9
    (ChangeSpec.witness6 (enc := enc) (C := Try.checked) false ⟨#[], #[.slice none 0 0, .slice none 0 0], []⟩ 8 (by kernel_rfl) (by kernel_rfl) (by kernel_rfl) (by kernel_rfl)) ?_
  intro W base args ds gs before hval0 hW0 hcnd _
  have hW : DataW.Whole enc Try.prog Try.f9.params.toList Rows.runsSetsSpec.vars false W args.toList ds gs before := hW0
  have hA := hW
  obtain ⟨p, q, hA, hV, _, _, _⟩ := hA
  have hval : ∀ (j : Nat) t v, Try.f9.params[j]? = some t → args[j]? = some v → Value.okWide Try.prog W .any base t v := hval0
  rw [Try.params9] at hA hval
  obtain ⟨v0, v1, d0, d1, p0, p1, hargs, rfl, rfl, h0, h1⟩ := trodAll_two hA
  subst hargs
  obtain ⟨ad, c, l, rfl, hl⟩ := slice_arg opens_runs Try.underlying22 (hval 0 _ _ rfl rfl) h0
  obtain ⟨ad2, c2, l2, rfl, hl2⟩ := slice_arg opens_runs Try.underlying22 (hval 1 _ _ rfl rfl) h1
  have hac := se_ac l l2 (All64.of_slice hl) (All64.of_slice hl2)
  refine (law_calls hac (.cons (run_lst hl) (.cons (run_lst hl2) .nil))).mono ?_
  rintro e W' ⟨rfl, hk'⟩
  exact law_post 4 Try.underlying4 rfl rfl laidOut (by kernel_rfl) hW (fun h => by subst h; rfl) hk'

theorem runsSets_holds : Rows.RunsSetsSaid :=
  OpenClaim.holds_of_wide 9 Try.f9 rfl rfl rfl rfl rfl rfl rfl ⟨rfl, rfl, rfl, rfl, rfl⟩ rfl rfl rfl rfl rfl (by kernel_rfl) Try.func9 (by kernel_rfl)
    (of_decide_eq_true (by kernel_rfl)) (by unfold Func.isWrapper; first | (rw [if_pos (by decide +kernel)]; kernel_rfl) | (rw [if_neg (by decide +kernel)]; exact ⟨rfl, rfl⟩))
    (fun os started H enc _ => lifted os started H enc)
#print axioms runsSets_holds
end Go.Proofs.Ytaphhmefkfhepaa.RunSets
