/- The walks over package runs, seventh part: slices.Replace at runs, walked where there is room, and whole. -/
import Derived.Test.YtaphhmefkfhepaaRunF
namespace Go.Proofs.Ytaphhmefkfhepaa.Run
open Go Go.RowKit Go.Proofs.Ytaphhmefkfhepaa.L
set_option linter.unusedVariables false
set_option linter.unusedSimpArgs false

theorem put_here {w w' : World} {b o n c N : Nat} {xs : List Rn} (h : Holds w' b o N c xs) (hn : N ≤ c) (hc : c ≤ 9223372036854775807) (h0 : c ≠ 0) (hk : Keeps (fun k => k = b) w w') :
    Put w (.slice (some ⟨b, o, none⟩) n c) xs (.returned (.slice (some ⟨b, o, none⟩) N c)) w' := by
  have hrow : ∀ m, rowOf (.slice (some ⟨b, o, none⟩) m c) = some b := fun m => by simp [rowOf, h0]
  exact ⟨_, rfl, h.own hn hc, hk.mono fun k _ e => by rw [hrow, e], fun k hk => .inl (by rw [hrow] at hk ⊢; exact hk)⟩

set_option maxRecDepth 100000 in
set_option maxHeartbeats 2000000 in
theorem replace_room (ad ad2 : Option Addr) (c c2 i j : Nat) (l ys : List Rn) (w : World) (hown : Own RnR 30 none' w (.slice ad l.length c) l) (hu : Own RnR 30 none' w (.slice ad2 ys.length c2) ys) (hne : ∀ b, rowOf (.slice ad l.length c) = some b → rowOf (.slice ad2 ys.length c2) ≠ some b)
    (hij : i < j) (hj : j < l.length) (hroom : i + ys.length + (l.length - j) ≤ c) (hfit : i + ys.length ≤ j) (hsz : l.length + ys.length ≤ 1099511627776) :
    Calls Try.prog 38 #[.slice ad l.length c, .int .i64 i, .int .i64 j, .slice ad2 ys.length c2] w (Put w (.slice ad l.length c) (l.take i ++ ys ++ l.drop j)) := by
  obtain ⟨_, h1, h2⟩ := hown.bounds
  obtain ⟨_, k1, k2⟩ := hu.bounds
  obtain ⟨b, o, rfl⟩ := hown.addr (by omega)
  have hne' := hne b (by have hc0 : ¬ c = 0 := by omega
                         simp [rowOf, hc0])
  obtain ⟨N, HN⟩ : ∃ N, Hid (N = i + ys.length + (l.length - j)) := ⟨_, rfl⟩
  have hNc : ¬ (c < N) := by have := HN.out; omega
  have hNc' : N ≤ c := by omega
  have hNl : N ≤ l.length := by have := HN.out; omega
  have hNi : i + ys.length ≤ N := by have := HN.out; omega
  have hic : i ≤ c := by omega
  have hjl : j ≤ l.length := by omega
  have hci3 : ¬ c = i := by omega
  have hcj3 : ¬ c = j := by omega
  have hci4 : ¬ c = i + ys.length := by omega
  have hw2 : IntKind.i64.wrap ((i : Int) + (ys.length : Int) + ((l.length - j : Nat) : Int)) = (N : Int) := by rw [IntKind.wrap_i64]; have := HN.out; omega
  have hw0 : IntKind.i64.wrap ((i : Int) + (ys.length : Int)) = (i : Int) + (ys.length : Int) := by rw [IntKind.wrap_i64]; omega
  have hw1 : (0 : Int) ≤ (i : Int) + (ys.length : Int) := by omega
  have hn1 : ((i : Int) + (ys.length : Int)).toNat = i + ys.length := by omega
  have hN3 : (i : Int) + (ys.length : Int) ≤ (N : Int) := by omega
  have hN2 : i ≤ N := by omega
  go_enter Try.func38, Try.ntmps38
  go_wp2_with fail
  go_quiet (fail)
  obtain ⟨w0, hw0'⟩ : ∃ w0, w0 = w.drewN nq := ⟨_, rfl⟩
  have he : w0.heap = w.heap := by rw [hw0']; rfl
  rw [← hw0']
  have hk0 : Keeps (fun _ => False) w w0 := by rw [hw0']; exact (Keeps.refl _ _).drewN _
  have hown0 := hown.of_heap he
  have hu0 := hu.of_heap he
  clear hown hu hw0' he
  obtain ⟨W1, W2, v1, v2, hcp1, hcp2, HH, HK⟩ := place_runs hown0 hu0 hne' hj hfit HN.out
  by_cases hNl' : N < l.length
  · have hcN : ¬ c = N := by omega
    obtain ⟨W3, hcl, HH3, HK3⟩ := HH.clear hNl' (by omega) (c - N)
    have HH := Lib.hid HH
    have HH3 := Lib.hid HH3
    have HK := Lib.hid HK
    have HK3 := Lib.hid HK3
    go_wp2_with (at_builtin; refine wpList_copy_gen rfl _ _ 22 22 rfl _ _ rfl rfl (hcp1 _) ?_)
    go_region_law (refine step_copy_gen rfl _ _ 22 22 rfl _ _ (by simp [Act.eval, Act.put]) (by simp [Act.eval, Act.put]) (hcp2 _) ?_)
    go_wp2_with fail
    go_ret
    exact put_here HH3.out hNc' h2 (by omega) ((hk0.mono fun _ _ h => h.elim).trans (HK.out.trans HK3.out fun _ _ h => h) fun _ _ h => h)
  · have HH := Lib.hid HH
    have HK := Lib.hid HK
    obtain rfl : N = l.length := by omega
    have hcl := clear_none
    by_cases hcl' : c = l.length
    all_goals
      try subst hcl'
      go_wp2_with (at_builtin; refine wpList_copy_gen rfl _ _ 22 22 rfl _ _ rfl rfl (hcp1 _) ?_)
      go_region_law (refine step_copy_gen rfl _ _ 22 22 rfl _ _ (by simp [Act.eval, Act.put]) (by simp [Act.eval, Act.put]) (hcp2 _) ?_)
      go_wp2_with fail
      go_ret
      exact put_here HH.out hNc' h2 (by omega) ((hk0.mono fun _ _ h => h.elim).trans HK.out fun _ _ h => h)

set_option maxRecDepth 100000 in
set_option maxHeartbeats 2000000 in
theorem replace_wide (ad ad2 : Option Addr) (c c2 i j : Nat) (l ys : List Rn) (w : World) (hown : Own RnR 30 none' w (.slice ad l.length c) l) (hu : Own RnR 30 none' w (.slice ad2 ys.length c2) ys) (hne : ∀ b, rowOf (.slice ad l.length c) = some b → rowOf (.slice ad2 ys.length c2) ≠ some b)
    (hij : i < j) (hj : j < l.length) (hroom : i + ys.length + (l.length - j) ≤ c) (hfit : j < i + ys.length) (hsz : l.length + ys.length ≤ 1099511627776) :
    Calls Try.prog 38 #[.slice ad l.length c, .int .i64 i, .int .i64 j, .slice ad2 ys.length c2] w (Put w (.slice ad l.length c) (l.take i ++ ys ++ l.drop j)) := by
  obtain ⟨_, h1, h2⟩ := hown.bounds
  obtain ⟨_, k1, k2⟩ := hu.bounds
  obtain ⟨b, o, rfl⟩ := hown.addr (by omega)
  have hne' := hne b (by have hc0 : ¬ c = 0 := by omega
                         simp [rowOf, hc0])
  obtain ⟨N, HN⟩ : ∃ N, Hid (N = i + ys.length + (l.length - j)) := ⟨_, rfl⟩
  have hNc : ¬ (c < N) := by have := HN.out; omega
  have hNc' : N ≤ c := by omega
  have hNi : i + ys.length ≤ N := by have := HN.out; omega
  have hNi' : i + ys.length < N := by have := HN.out; omega
  have hic : i ≤ c := by omega
  have hjl : j ≤ l.length := by omega
  have hci3 : ¬ c = i := by omega
  have hcj3 : ¬ c = j := by omega
  have hci4 : ¬ c = i + ys.length := by omega
  have hw2 : IntKind.i64.wrap ((i : Int) + (ys.length : Int) + ((l.length - j : Nat) : Int)) = (N : Int) := by rw [IntKind.wrap_i64]; have := HN.out; omega
  have hw0 : IntKind.i64.wrap ((i : Int) + (ys.length : Int)) = (i : Int) + (ys.length : Int) := by rw [IntKind.wrap_i64]; omega
  have hw1 : (0 : Int) ≤ (i : Int) + (ys.length : Int) := by omega
  have hn1 : ((i : Int) + (ys.length : Int)).toNat = i + ys.length := by omega
  have hN3 : (i : Int) + (ys.length : Int) ≤ (N : Int) := by omega
  have hN2 : i ≤ N := by omega
  go_enter Try.func38, Try.ntmps38
  go_wp2_with fail
  go_quiet (fail)
  obtain ⟨w0, hw0'⟩ : ∃ w0, w0 = w.drewN nq := ⟨_, rfl⟩
  have he : w0.heap = w.heap := by rw [hw0']; rfl
  rw [← hw0']
  have hk0 : Keeps (fun _ => False) w w0 := by rw [hw0']; exact (Keeps.refl _ _).drewN _
  have hown0 := hown.of_heap he
  have hu0 := hu.of_heap he
  clear hown hu hw0' he
  obtain ⟨W1, W2, v1, v2, hcp1, hcp2, HH, HK, hov⟩ := place_runs' hown0 hu0 hne' (by omega) hj hfit HN.out (by have := HN.out; omega)
  have HH := Lib.hid HH
  have HK := Lib.hid HK
  go_wp2_with (simp only [hov])
  go_region_law (refine step_copy_gen rfl _ _ 22 22 rfl _ _ (by simp [Act.eval, Act.put]) (by simp [Act.eval, Act.put]) (hcp1 _) ?_)
  go_wp2_with (at_builtin; refine wpList_copy_gen rfl _ _ 22 22 rfl _ _ rfl rfl (hcp2 _) ?_)
  go_ret
  exact put_here HH.out hNc' h2 (by omega) ((hk0.mono fun _ _ h => h.elim).trans HK.out fun _ _ h => h)
theorem rowOf_len (ad : Option Addr) (n m c : Nat) : rowOf (.slice ad n c) = rowOf (.slice ad m c) := by cases ad <;> rfl

theorem own_holds {w : World} {b o n c : Nat} {xs : List Rn} (h : Own RnR 30 none' w (.slice (some ⟨b, o, none⟩) n c) xs) (h0 : c ≠ 0) : Holds w b o n c xs := by
  obtain ⟨hn, h1, h2⟩ := h.bounds
  subst hn
  obtain ⟨b', o', pre, live, dead, ho, e, hh, hl, hd, hc⟩ := own_at h h0
  injection e with e; injection e with e1 e2; subst e1 e2
  refine ⟨_, live, hh, by simp; omega, ?_, rfl, hc⟩
  rw [ho, List.append_assoc, List.take_left, ← List.append_assoc]
  exact List.take_left' (by simp; omega)

set_option maxRecDepth 100000 in
set_option maxHeartbeats 2000000 in
theorem replace_end (ad ad2 : Option Addr) (c c2 i : Nat) (l ys : List Rn) (w : World) (hown : Own RnR 30 none' w (.slice ad l.length c) l) (hu : Own RnR 30 none' w (.slice ad2 ys.length c2) ys) (hne : ∀ b, rowOf (.slice ad l.length c) = some b → rowOf (.slice ad2 ys.length c2) ≠ some b)
    (hi : i < l.length) (hsz : l.length + ys.length ≤ 1099511627776) :
    Calls Try.prog 38 #[.slice ad l.length c, .int .i64 i, .int .i64 l.length, .slice ad2 ys.length c2] w (Put w (.slice ad l.length c) (l.take i ++ ys)) := by
  obtain ⟨_, h1, h2⟩ := hown.bounds
  obtain ⟨_, k1, k2⟩ := hu.bounds
  obtain ⟨b, o, rfl⟩ := hown.addr (by omega)
  have hlt : (l.take i).length = i := by rw [List.length_take]; omega
  have hB : SliceK RnR (fun k => rowOf (.slice ad2 ys.length c2) = some k) w (.slice ad2 ys.length c2) ys := hu.slice (fun _ h => h.elim) (fun _ h => h)
  obtain ⟨v', W1, hap, hO1, hK1, hr1, hroom⟩ := run_append_any (P := Try.prog) elemRun 22 (hown.flat.take (Nat.le_of_lt hi)) hB (fun _ h => h) (fun k hk => hne k hk) (by rw [hlt]; omega) (by rw [hlt]; unfold maxLen; omega)
  have hroom' := hroom _ _ _ rfl
  rw [hlt] at hroom'
  clear hroom
  have hc0 : c ≠ 0 := by omega
  have hic : i ≤ c := by omega
  have hin : (i : Int) ≤ (l.length : Int) := by omega
  have hni : ¬ ((i : Int) = (l.length : Int)) := by omega
  by_cases hfit : i + ys.length < l.length
  · obtain rfl := hroom' (by omega)
    clear hroom'
    have hO1' := hO1.flat (B := none')
    have hci4 : ¬ c = i + ys.length := by omega
    have hci3 : ¬ c = i := by omega
    have hcast : ((i : Int) + (ys.length : Int)) = ((i + ys.length : Nat) : Int) := by omega
    obtain ⟨W2, hcl, HH, HK⟩ := (own_holds hO1' hc0).clear hfit (by omega) (c - (i + ys.length))
    have HH := Lib.hid HH
    have HK := Lib.hid HK
    have HK1 := Lib.hid hK1
    clear hO1 hO1' hr1 hK1
    have hlt1 : (i : Int) + (ys.length : Int) < (l.length : Int) := by omega
    have hle1 : (i : Int) + (ys.length : Int) ≤ (l.length : Int) := by omega
    have hw1 : (0 : Int) ≤ (i : Int) + (ys.length : Int) := by omega
    have hn1 : ((i : Int) + (ys.length : Int)).toNat = i + ys.length := by omega
    clear hcast
    go_enter Try.func38, Try.ntmps38
    go_wp2_with (at_builtin; refine Lib.wpList_append_run _ rfl _ _ 22 22 rfl _ _ rfl rfl _ _ hap ?_)
    go_ret
    exact put_here HH.out (by omega) h2 hc0 ((HK1.out.mono fun k _ hk => by simp [rowOf, hc0] at hk; exact hk.symm).trans HK.out fun _ _ h => h)
  · clear hroom'
    obtain ⟨ad', c', rfl, q1, q2⟩ := hO1.form
    have hll : ((l.take i ++ ys).length : Int) = (i : Int) + (ys.length : Int) := by rw [List.length_append, hlt]; omega
    obtain ⟨n', hn'⟩ : ∃ n', n' = (l.take i ++ ys).length := ⟨_, rfl⟩
    rw [← hn'] at hap
    have hge : ¬ (n' < l.length) := by rw [hn', List.length_append, hlt]; omega
    have hO1' : Own RnR 30 none' W1 (.slice ad' n' c') (l.take i ++ ys) := by rw [hn']; exact hO1.flat
    rw [← hn'] at hr1
    clear hO1 hll
    have HN := Lib.hid hn'
    clear hn'
    have HK1 := Lib.hid hK1
    have HR1 := Lib.hid hr1
    have HO := Lib.hid hO1'
    clear hK1 hr1 hO1'
    have hci3 : ¬ c = i := by omega
    go_enter Try.func38, Try.ntmps38
    go_wp2_with (at_builtin; refine Lib.wpList_append_run _ rfl _ _ 22 22 rfl _ _ rfl rfl _ _ hap ?_)
    go_ret
    exact ⟨_, rfl, HO.out, HK1.out, HR1.out⟩

theorem replace_calls (v u : Value) (i j : Nat) (l ys : List Rn) (w : World) (hown : Own RnR 30 none' w v l) (hu : Own RnR 30 none' w u ys) (hne : ∀ b, rowOf v = some b → rowOf u ≠ some b) (hij : i ≤ j) (hj : j ≤ l.length) (hsz : l.length + ys.length ≤ 1099511627776) :
    Calls Try.prog 38 #[v, .int .i64 i, .int .i64 j, u] w (Put w v (l.take i ++ ys ++ l.drop j)) := by
  obtain ⟨ad, c, rfl, h1, h2⟩ := hown.form
  obtain ⟨ad2, c2, rfl, k1, k2⟩ := hu.form
  by_cases hij' : i = j
  · subst hij'
    exact replace_insert _ _ i l ys w hown hu hne hj hsz
  · by_cases hjl : j = l.length
    · subst hjl
      have := replace_end ad ad2 c c2 i l ys w hown hu hne (by omega) hsz
      simpa using this
    · by_cases hroom : i + ys.length + (l.length - j) ≤ c
      · by_cases hfit : i + ys.length ≤ j
        · exact replace_room ad ad2 c c2 i j l ys w hown hu hne (by omega) (by omega) hroom hfit hsz
        · exact replace_wide ad ad2 c c2 i j l ys w hown hu hne (by omega) (by omega) hroom (by omega) hsz
      · exact replace_grow ad ad2 c c2 i j l ys w hown hu (by omega) (by omega) (by omega) hsz
end Go.Proofs.Ytaphhmefkfhepaa.Run
