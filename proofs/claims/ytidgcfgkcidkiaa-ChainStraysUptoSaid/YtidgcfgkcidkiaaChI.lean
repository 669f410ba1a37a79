/- slices.Grow at no ints: room for some. -/
import Derived.Test.YtidgcfgkcidkiaaChD
namespace Go.Proofs.Ytidgcfgkcidkiaa.Ch
open Go Go.RowKit Go.Proofs.Ytidgcfgkcidkiaa.L Go.Proofs.Ytidgcfgkcidkiaa.X
set_option linter.unusedVariables false
set_option linter.unusedSimpArgs false

set_option maxRecDepth 100000 in
set_option maxHeartbeats 1000000 in
theorem grow_calls (n : Nat) (hn : n ≤ 1099511627776) (w : World) : Calls Try.prog 75 #[.slice none 0 0, .int .i64 n] w fun e w' => ∃ v', e = .returned v' ∧ Own (numE .i64) 3 nowhere w' v' [] ∧ (∀ b, rowOf v' = some b → w.heap.size ≤ b) ∧ Keeps (fun _ => False) w w' := by
  by_cases h0 : n = 0
  · subst h0
    go_enter Try.func75, Try.ntmps75
    go_wp2
    go_ret
    exact ⟨_, rfl, own_nil _ _ _ _, by simp [rowOf], Keeps.refl _ _⟩
  · obtain ⟨i0, hi0, hz, hsz, hby⟩ := info_parts info_int
    have hap : ∀ ty, _ := fun ty => run_append_zeros_grow (P := Try.prog) w 38 3 ty 3 i0 _ .i64 Try.underlying38 Try.underlying3 hi0 hz none 0 0 n [] (by simp) (by simp) (by rw [hsz]; decide) (by omega) (by omega) (by omega) (by rw [hby]; omega)
    have hap' := hap 38
    simp only [Nat.zero_add, List.nil_append] at hap'
    obtain ⟨cap, hcap⟩ : ∃ cap, cap = grownCap w n 0 3 := ⟨_, rfl⟩
    have hc1 : n ≤ cap := by rw [hcap]; exact grownCap_ge _ _ _ _
    have hc2 : cap ≤ maxLen := by rw [hcap]; exact grownCap_le_maxLen _ _ _ _ (by unfold maxLen; omega)
    rw [← hcap] at hap'
    obtain ⟨L0, hL0⟩ : ∃ L0, L0 = (Builtin.zeroCells (Value.int .i64 0).cells n).toList ++ (Builtin.zeroCells (Value.int .i64 0).cells (cap - n)).toList := ⟨_, rfl⟩
    rw [← hL0] at hap'
    have hzl : ∀ n, (Builtin.zeroCells (Value.int .i64 0).cells n).toList.length = n := fun n => by rw [Array.length_toList, size_zeroCells]; simp [Value.cells]
    have hL0l : L0.length = cap := by rw [hL0, List.length_append, hzl, hzl]; omega
    obtain ⟨W1, hW1⟩ : ∃ W1, W1 = w.drew.alloc (.cells L0.toArray 3) := ⟨_, rfl⟩
    rw [← hW1] at hap'
    have hW1b : W1.heap[w.heap.size]? = some (.cells L0.toArray 3 (0, 0)) := by rw [hW1]; exact heap_alloc_new w.drew _
    have hW1k : Keeps (fun _ => False) w W1 := by rw [hW1]; exact ((Keeps.refl _ _).drew).alloc _
    have hn1 : 0 < n := by omega
    have hc0 : ¬ cap = 0 := by omega
    have hc3 : cap ≤ 9223372036854775807 := by unfold maxLen at hc2; omega
    have HAP := Lib.hid hap'
    clear hi0 hz hap hap' hL0 hW1 hcap hby hsz
    go_enter Try.func75, Try.ntmps75
    go_wp2_with (at_builtin; refine Lib.wpList_append_run _ rfl _ _ 38 3 rfl _ _ rfl rfl _ _ HAP.out ?_)
    go_ret
    refine ⟨_, rfl, ⟨_, cap, rfl, Nat.zero_le _, hc2, .inr ⟨w.heap.size, [], [], L0, rfl, hW1b, ?_, .nil⟩⟩, ?_, hW1k⟩
    · rw [hL0l]; show cap = (cap - 0) * 1; omega
    · intro b hb; simp [rowOf, hc0] at hb; omega
theorem grow_ac (n : Nat) (hn : n ≤ 1099511627776) : ACalls Try.prog 75 [.nils, .int .i64 n] [] (.row 0 1 0) [.row 3 1 []] :=
  FlatOf.newrow (l := ([] : List Int)) (numE_flat .i64) ⟨_, Try.func75, rfl, rfl⟩ fun K w cs hR hcs => by
    obtain ⟨v, vs, rfl, hv, hvs⟩ := hcs.cons_inv
    obtain ⟨v2, vs2, rfl, hv2, hvs2⟩ := hvs.cons_inv
    obtain rfl := hvs2.nil_inv
    have h1 : v = .slice none 0 0 := by
      cases hv with
      | pure h => cases h; rfl
    rw [h1, hv2.int_inv]
    exact grow_calls n hn w
end Go.Proofs.Ytidgcfgkcidkiaa.Ch
