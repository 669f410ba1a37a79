/- The walks over package runs, fifth part: slices.Replace at runs. -/
import Derived.Test.YtaphhmefkfhepaaRunD
namespace Go.Proofs.Ytaphhmefkfhepaa.Run
open Go Go.RowKit Go.Proofs.Ytaphhmefkfhepaa.L
set_option linter.unusedVariables false
set_option linter.unusedSimpArgs false

set_option maxRecDepth 100000 in
set_option maxHeartbeats 1000000 in
theorem replace_insert (v u : Value) (i : Nat) (l ys : List Rn) (w : World) (hown : Own RnR 30 none' w v l) (hu : Own RnR 30 none' w u ys) (hne : ∀ b, rowOf v = some b → rowOf u ≠ some b) (hi : i ≤ l.length) (hsz : l.length + ys.length ≤ 1099511627776) :
    Calls Try.prog 38 #[v, .int .i64 i, .int .i64 i, u] w (Put w v (l.take i ++ ys ++ l.drop i)) := by
  obtain ⟨ad, c, rfl, h1, h2⟩ := hown.form
  unfold maxLen at h2
  have hic : (i : Int) ≤ (c : Int) := by omega
  have HC := Lib.hid (insert_calls _ u i l ys w hown hu hne hi hsz)
  by_cases hci : c = i
  all_goals
    try subst hci
    go_enter Try.func38, Try.ntmps38
    go_wp2_with (go_at_call 42; refine (HC.out).mono ?_; rintro e w1 ⟨v', rfl, h3, h4, h5⟩)
    go_ret
    exact ⟨_, rfl, h3, h4, h5⟩

set_option maxRecDepth 100000 in
set_option maxHeartbeats 1000000 in
theorem replace_grow (ad ad2 : Option Addr) (c c2 i j : Nat) (l ys : List Rn) (w : World) (hown : Own RnR 30 none' w (.slice ad l.length c) l) (hu : Own RnR 30 none' w (.slice ad2 ys.length c2) ys)
    (hij : i < j) (hj : j < l.length) (hroom : c < i + ys.length + (l.length - j)) (hsz : l.length + ys.length ≤ 1099511627776) :
    Calls Try.prog 38 #[.slice ad l.length c, .int .i64 i, .int .i64 j, .slice ad2 ys.length c2] w (Put w (.slice ad l.length c) (l.take i ++ ys ++ l.drop j)) := by
  obtain ⟨_, h1, h2⟩ := hown.bounds
  obtain ⟨_, k1, k2⟩ := hu.bounds
  obtain ⟨b, o, rfl⟩ := hown.addr (by omega)
  obtain ⟨N, HN⟩ : ∃ N, Hid (N = i + ys.length + (l.length - j)) := ⟨_, rfl⟩
  have hNc : c < N := by have := HN.out; omega
  have hic : i ≤ c := by omega
  have hjl : j ≤ l.length := by omega
  have hci3 : ¬ c = i := by omega
  have hcj3 : ¬ c = j := by omega
  have hw2 : IntKind.i64.wrap ((i : Int) + (ys.length : Int) + ((l.length - j : Nat) : Int)) = (N : Int) := by rw [IntKind.wrap_i64]; have := HN.out; omega
  have hw0 : IntKind.i64.wrap ((i : Int) + (ys.length : Int)) = (i : Int) + (ys.length : Int) := by rw [IntKind.wrap_i64]; omega
  go_enter Try.func38, Try.ntmps38
  go_wp2_with fail
  go_quiet (fail)
  obtain ⟨w0, hw0⟩ : ∃ w0, w0 = w.drewN nq := ⟨_, rfl⟩
  have he : w0.heap = w.heap := by rw [hw0]; rfl
  rw [← hw0]
  have hk0 : Keeps (fun _ => False) w w0 := by rw [hw0]; exact (Keeps.refl _ _).drewN _
  have hown0 := hown.of_heap he
  have hu0 := hu.of_heap he
  clear hown hu hw0
  have He := Lib.hid he
  clear he
  obtain ⟨N', cap, W1, W2, W3, v1, v2, HN', hc1, hc2, hap, hcp1, hcp2, HO, HK⟩ := grow_runs' (i := i) (j := j) hown0 hu0 (by omega) hj (by omega) (by omega)
  obtain rfl : N' = N := HN'.out.trans HN.out.symm
  have hN1 : i + ys.length < N' := by have := HN.out; omega
  have hN2 : (i : Int) ≤ (N' : Int) := by omega
  have hN3 : (i : Int) + (ys.length : Int) ≤ (N' : Int) := by omega
  have hci : ¬ cap = i := by omega
  have hci2 : ¬ cap = i + ys.length := by omega
  have hw1 : (0 : Int) ≤ (i : Int) + (ys.length : Int) := by omega
  have hn1 : ((i : Int) + (ys.length : Int)).toNat = i + ys.length := by omega
  have hap' := hap 22 ((N' : Int) - (i : Int)) (by have := HN.out; omega)
  clear hap
  go_wp2_with (at_builtin; first | (refine Lib.wpList_append_run _ rfl _ _ 22 3 rfl _ _ rfl rfl _ _ hap' ?_) | (refine wpList_copy_gen rfl _ _ 22 22 rfl _ _ rfl rfl (hcp1 _) ?_))
  go_region_law (refine step_copy_gen rfl _ _ 22 22 rfl _ _ (by simp [Act.eval, Act.put]) (by simp [Act.eval, Act.put]) (hcp2 _) ?_)
  go_wp2_with fail
  go_ret
  refine ⟨_, rfl, HO.out, (hk0.step HK.out).mono fun _ _ h => h.elim, fun k hk => .inr ?_⟩
  have hc0 : ¬ cap = 0 := by omega
  have e := He.out
  simp [rowOf, hc0] at hk
  rw [← e]; omega
end Go.Proofs.Ytaphhmefkfhepaa.Run
