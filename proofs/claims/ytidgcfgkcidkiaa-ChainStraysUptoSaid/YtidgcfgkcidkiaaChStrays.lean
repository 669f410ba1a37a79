/-
  What is proved: ChainStrays (bulk at most 1048576): of replies that are not to a settler none is heard, and nothing changes.
  Conditions: none beside the bulk that the statement names.
-/
import Derived.Test.YtidgcfgkcidkiaaRows
import Derived.Test.YtidgcfgkcidkiaaChU
import Derived.JoinedCond
namespace Go.Proofs.Ytidgcfgkcidkiaa.ChainStrays
open Go Go.RowKit Go.ChangeShapes Go.WideShapes Go.ChangeAt Go.Proofs.Ytidgcfgkcidkiaa.L Go.Proofs.Ytidgcfgkcidkiaa.X Go.Proofs.Ytidgcfgkcidkiaa.Ch
set_option linter.unusedVariables false
set_option linter.unusedSimpArgs false

theorem own : ownKnob Try.prog.godebug = none := by kernel_rfl
theorem laidOut : laidOutB Try.prog = true := by kernel_rfl

set_option maxRecDepth 100000 in
theorem lifted (os : Os) (started : os.Started) (H : Type) (enc : TypeId × Value → H) (F : Stop.Interp) :
    ReturnsInHanded {} Try.checked os 3 .any ((Rows.OpenSpec.upto Rows.chainStraysSpec).pre6 enc Try.prog Try.f3 Rows.chainStraysUptoRow.domain false) (((Rows.OpenSpec.upto Rows.chainStraysSpec).at F).post enc Try.prog Try.f3 false true false false) := by
  refine returnsInHanded_of_cond (C := Try.checked) (s := Rows.OpenSpec.upto Rows.chainStraysSpec) (k := Rows.uptoSmall) rfl own started (by kernel_rfl) Try.func3
    (OpenSpec.witness (enc := enc) (C := Try.checked) (s := Rows.OpenSpec.upto Rows.chainStraysSpec) (k := Rows.uptoSmall) rfl false
      ⟨#[], #[.agg #[.int .i64 0, .int .i64 0, .int .u64 0, .slice none 0 0, .int .i64 0, .int .u64 0, .int .i64 0, .slice none 0 0, .slice none 0 0],
        .agg #[.int .i64 0, .int .i64 0, .int .i64 0, .int .i64 0, .int .i64 0, .int .i64 0, .int .i64 0, .int .u64 0, .int .u64 0, .int .i64 0, .int .i64 0, .slice none 0 0, .slice none 0 0, .slice none 0 0, .slice none 0 0, .int .i64 0, .int .i64 0, .int .i64 0, .int .i64 0, .int .u64 0, .slice none 0 0, .int .i64 0],
        .int .i64 0], []⟩ 8 (by kernel_rfl) (by kernel_rfl) (by kernel_rfl)
      (x := ([.agg [.lit (.int .i64 0), .lit (.int .i64 0), .agg [.lit (.int .u64 0), .nil, .lit (.int .i64 0)], .lit (.int .u64 0), .agg [.lit (.int .i64 0), .nil, .nil]],
        .agg [.lit (.int .i64 0), .agg [.lit (.int .i64 0), .lit (.int .i64 0)], .agg [.lit (.int .i64 0), .lit (.int .i64 0)], .lit (.int .i64 0), .lit (.int .i64 0), .lit (.int .u64 0), .lit (.int .u64 0), .lit (.int .i64 0), .agg [.lit (.int .i64 0), .nil, .nil], .nil, .nil,
          .agg [.lit (.int .i64 0), .lit (.int .i64 0)], .agg [.lit (.int .i64 0), .lit (.int .i64 0)], .agg [.lit (.int .u64 0), .nil, .lit (.int .i64 0)]],
        .lit (.int .i64 0)], [], [])) (by kernel_rfl) rfl (by kernel_rfl)) ?_
  intro W base args ds gs before hval0 hW0 _ hk _
  have hW : DataW.Whole enc Try.prog Try.f3.params.toList Rows.chainStraysSpec.vars false W args.toList ds gs before := hW0
  have hA := hW
  obtain ⟨p, q, hA, hV, _, _, _⟩ := hA
  have hval : ∀ (j : Nat) t v, Try.f3.params[j]? = some t → args[j]? = some v → Value.okWide Try.prog W .any base t v := hval0
  rw [Try.params3] at hA hval
  obtain ⟨v0, v1, v2, d0, d1, d2, p0, p1, p2, hargs, rfl, rfl, h0, h1, h2⟩ := trodAll_three hA
  subst hargs
  obtain ⟨cs0, o, rfl, ho, hwo⟩ := agg_arg opens_of (by decide) h0
  obtain ⟨cs1, m, rfl, hm, _⟩ := agg_arg opens_msg (by decide) h1
  obtain ⟨e, rfl, _⟩ := num_arg Try.underlying37 (hval 2 _ _ rfl rfl) h2
  have hb : Rows.uptoBulkAll ([d0, d1, d2] ++ gs) ≤ 1048576 := of_decide_eq_true hk
  have hac := strays_ac o ho (by
    simp only [List.cons_append, List.nil_append, Rows.uptoBulkAll] at hb
    omega) m e
  refine (law_calls hac (.cons (reads_agg reads_of' ho rfl) (.cons (reads_agg reads_msg hm rfl) (.cons (.pure (.int _ _)) .nil)))).mono ?_
  rintro e W' ⟨rfl, hk'⟩
  exact law_post 4 Try.underlying4 rfl rfl laidOut (by kernel_rfl) hW (fun h => by subst h; rfl) hk'

theorem chainStrays_holds : Rows.ChainStraysUptoSaid :=
  OpenClaim.holds_of_cond 3 Try.f3 rfl rfl rfl rfl rfl rfl rfl ⟨rfl, rfl, rfl, rfl, rfl⟩ rfl rfl rfl rfl rfl (by kernel_rfl) Try.func3 (by kernel_rfl)
    (of_decide_eq_true (by kernel_rfl)) (by unfold Func.isWrapper; first | (rw [if_pos (by decide +kernel)]; kernel_rfl) | (rw [if_neg (by decide +kernel)]; exact ⟨rfl, rfl⟩))
    (fun os started H enc _ F => lifted os started H enc F)
#print axioms chainStrays_holds
end Go.Proofs.Ytidgcfgkcidkiaa.ChainStrays
