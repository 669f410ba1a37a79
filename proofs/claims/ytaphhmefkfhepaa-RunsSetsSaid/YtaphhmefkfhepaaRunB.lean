/- The walks over package runs, second part: slices.Clone, slices.Insert, slices.Replace at runs. -/
import Derived.Test.YtaphhmefkfhepaaRunA
import Derived.Test.YtaphhmefkfhepaaLibD
namespace Go.Proofs.Ytaphhmefkfhepaa.Run
open Go Go.RowKit Go.Proofs.Ytaphhmefkfhepaa.L
set_option linter.unusedVariables false
set_option linter.unusedSimpArgs false

theorem infoRun : (Try.prog.info? 30).map (fun i => (i.zero, i.size, i.bytes)) = some (some (.agg #[(.int .u64 0), (.int .u64 0)]), 2, 16) := by kernel_rfl
theorem elemRun : Elem Try.prog 22 30 RnR.sz 16 (.agg #[(.int .u64 0), (.int .u64 0)]) := by
  obtain ⟨i, hi, h0, h1, h2⟩ := info_parts infoRun
  exact ⟨Try.underlying22, ⟨i, hi, h0, h1, h2⟩, rfl, by decide⟩

def none' : Nat → Prop := fun _ => False

set_option maxHeartbeats 400000 in
theorem clone_calls (v : Value) (l : List Rn) (A : Nat → Prop) (w : World) (hs : SliceK RnR A w v l) (hb : l.length ≤ 1099511627776) :
    Calls Try.prog 34 #[v] w fun e w' => ∃ v', e = .returned v' ∧ Own RnR 30 none' w' v' l ∧ (∀ b, rowOf v' = some b → w.heap.size ≤ b) ∧ Keeps (fun _ => False) w w' := by
  obtain ⟨ad, c, rfl, hc1, hc2⟩ := hs.form
  have h1 : ∀ ad n c w, (binOp .eql 22 (.slice ad n c) (.slice none 0 0)).run Try.prog w = .ok (.bool ad.isNone) w := fun ad n c w => Lib.run_eql_slice_nil w _ 30 _ _ _ _ _ Try.underlying22
  cases ad with
  | none =>
    obtain ⟨rfl, _⟩ := hs.nil_none
    go_enter Try.func34, Try.ntmps34
    go_wp2_with fail
    go_ret
    exact ⟨_, rfl, own_nil _ _ _ _, by simp [rowOf], Keeps.refl _ _⟩
  | some a =>
    go_enter Try.func34, Try.ntmps34
    go_wp2_with (at_builtin; refine wpList_append_any (α := Rn) (R := RnR) (A := A) (B := A) (xs := []) (ys := l) rfl _ _ rfl elemRun (.slice (some ⟨w.heap.size, 0, none⟩) 0 0) (.slice (some a) l.length c) rfl rfl (own_zero _ _ _ _ _) (hs.alloc _) (fun _ h => h) (by rw [rowOf_zero]; simp) (by simp; omega) (by simp; exact Nat.le_trans hc1 hc2) ?_; intro v' w' hown hk hr)
    go_ret
    refine ⟨v', rfl, ?_, ?_, ?_⟩
    · exact hown.flat
    · intro b hb; rcases hr b hb with h | h
      · rw [rowOf_zero] at h; cases h
      · simp at h; omega
    · exact ((Keeps.refl _ _).alloc _).trans hk (by intro b _ h; rw [rowOf_zero] at h; cases h)
end Go.Proofs.Ytaphhmefkfhepaa.Run
