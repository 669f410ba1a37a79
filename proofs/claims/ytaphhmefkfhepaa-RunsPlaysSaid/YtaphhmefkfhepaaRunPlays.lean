/-
  What is proved: RunsPlays: any script of runs that are put in and taken out is answered as the document says.
  Conditions: none; the statement '..Said' for every input.
-/
import Derived.Test.YtaphhmefkfhepaaRows
import Derived.Test.YtaphhmefkfhepaaRunPl
import Derived.Test.YtaphhmefkfhepaaGu
namespace Go.Proofs.Ytaphhmefkfhepaa.RunPlays
open Go Go.RowKit Go.ChangeShapes Go.WideShapes Go.ChangeAt Go.Proofs.Ytaphhmefkfhepaa.L Go.Proofs.Ytaphhmefkfhepaa.Run Go.Proofs.Ytaphhmefkfhepaa.X
set_option linter.unusedVariables false
set_option linter.unusedSimpArgs false

theorem own : ownKnob Try.prog.godebug = none := by kernel_rfl
theorem laidOut : laidOutB Try.prog = true := by kernel_rfl
theorem reads_run : Reads RnR enc := by
  rintro A w cs x ⟨rfl, _⟩
  refine ⟨rfl, fun j u hu => ?_⟩
  match j, hu with
  | 0, hu => cases hu; exact ⟨_, rfl, .int _ _⟩
  | 1, hu => cases hu; exact ⟨_, rfl, .int _ _⟩
  | j + 2, hu => simp [enc, AV.cells] at hu
def ActO : Rep ActR := iso (pair boolR (pair boolR RnR)) fun a => (a.drop, a.copy, a.r)
theorem reads_act : Reads ActO encA := reads_of (reads_iso (fun a : ActR => (a.drop, a.copy, a.r)) (reads_pair reads_bool (reads_pair reads_bool reads_run))) fun a => rfl
theorem opens_act : Opens Try.prog ActO 38 := by
  intro H enc w fuel cs x h
  obtain ⟨hl, hf⟩ := open_fields Try.underlying38 h
  obtain ⟨n0, y0, h0⟩ := hf 0 _ rfl
  obtain ⟨n1, y1, h1⟩ := hf 1 _ rfl
  obtain ⟨n2, y2, h2⟩ := hf 2 _ rfl
  obtain ⟨a, ha⟩ := opens_bool Try.underlying4 enc w n0 _ _ h0
  obtain ⟨b, hb⟩ := opens_bool Try.underlying4 enc w n1 _ _ h1
  obtain ⟨c, hc⟩ := opens_run enc w n2 _ _ h2
  have c4 : Try.prog.cellsOf 38 = 4 := by kernel_rfl
  have c2 : Try.prog.cellsOf 30 = 2 := by kernel_rfl
  have c1 : Try.prog.cellsOf 4 = 1 := by kernel_rfl
  rw [c4] at hl
  have ha' : boolR.K anyA w ((cs.drop 0).take 1) a := by rw [← c1]; exact ha
  have hb' : boolR.K anyA w ((cs.drop 1).take 1) b := by rw [← c1]; exact hb
  have hc' : RnR.K anyA w ((cs.drop 2).take 2) c := by rw [← c2]; exact hc
  match cs, hl with
  | [x, y, z, u], _ =>
    exact ⟨⟨a, b, c⟩, [x], [y, z, u], rfl, ha', [y], [z, u], rfl, hb', hc'⟩
theorem opens_acts : Opens Try.prog (slice ActO) 34 := opens_slice Try.underlying34 (by kernel_rfl) (by decide) opens_act
theorem acts_lst {A : Nat → Prop} {w : World} {v : Value} {l : List ActR} (h : SliceK ActO A w v l) : VR (ctx0 w) (.lst 4 (l.map encA)) v := .pure (reads_slice (R := ActO) (by decide) reads_act h)
theorem acts64 {A : Nat → Prop} {w : World} {v : Value} {l : List ActR} (h : SliceK ActO A w v l) : ∀ a ∈ l, Run64 a.r := by
  obtain ⟨ad, c, rfl, _, _, h3⟩ := h
  rcases h3 with rfl | ⟨b, pre, live, rest, T, fz, rfl, _, hb, hc⟩
  · intro a ha; cases ha
  · intro a ha
    obtain ⟨i, hi⟩ := List.mem_iff_getElem?.1 ha
    obtain ⟨cs, hK, _⟩ := hc.get hi
    obtain ⟨c1, c2, _, _, c3, c4, _, _, hK⟩ := hK
    exact ⟨hK.2.1, hK.2.2⟩
set_option maxRecDepth 100000 in
theorem lifted (os : Os) (started : os.Started) (H : Type) (enc : TypeId × Value → H) :
    ReturnsInHanded {} Try.checked os 4 .any (Rows.runsPlaysSpec.pre6 enc Try.prog Try.f4 Rows.runsPlaysRow.domain false) (Rows.runsPlaysSpec.post enc Try.prog Try.f4 false true false false) := by
  refine returnsInHanded_of_change (C := Try.checked) own started (by kernel_rfl) Try.func4
    (ChangeSpec.witness6 (enc := enc) (C := Try.checked) false ⟨#[], #[.slice none 0 0, .int .u64 0], []⟩ 8 (by kernel_rfl) (by kernel_rfl) (by kernel_rfl) (by kernel_rfl)) ?_
  intro W base args ds gs before hval0 hW0 hcnd _
  have hW : DataW.Whole enc Try.prog Try.f4.params.toList Rows.runsPlaysSpec.vars false W args.toList ds gs before := hW0
  have hA := hW
  obtain ⟨p, q, hA, hV, _, _, _⟩ := hA
  have hval : ∀ (j : Nat) t v, Try.f4.params[j]? = some t → args[j]? = some v → Value.okWide Try.prog W .any base t v := hval0
  rw [Try.params4] at hA hval
  obtain ⟨v0, v1, d0, d1, p0, p1, hargs, rfl, rfl, h0, h1⟩ := trodAll_two hA
  subst hargs
  obtain ⟨ad, c, l, rfl, hl⟩ := slice_arg opens_acts Try.underlying34 (hval 0 _ _ rfl rfl) h0
  obtain ⟨n, rfl, hn⟩ := num_arg Try.underlying26 (hval 1 _ _ rfl rfl) h1
  have hac := plays_ac l n (acts64 hl)
  refine (law_calls hac (.cons (acts_lst hl) (.cons (.pure (.int _ _)) .nil))).mono ?_
  rintro e W' ⟨rfl, hk'⟩
  exact law_post 4 Try.underlying4 rfl rfl laidOut (by kernel_rfl) hW (fun h => by subst h; rfl) hk'

theorem runsPlays_holds : Rows.RunsPlaysSaid :=
  OpenClaim.holds_of_wide 4 Try.f4 rfl rfl rfl rfl rfl rfl rfl ⟨rfl, rfl, rfl, rfl, rfl⟩ rfl rfl rfl rfl rfl (by kernel_rfl) Try.func4 (by kernel_rfl)
    (of_decide_eq_true (by kernel_rfl)) (by unfold Func.isWrapper; first | (rw [if_pos (by decide +kernel)]; kernel_rfl) | (rw [if_neg (by decide +kernel)]; exact ⟨rfl, rfl⟩))
    (fun os started H enc _ => lifted os started H enc)
#print axioms runsPlays_holds
end Go.Proofs.Ytaphhmefkfhepaa.RunPlays
