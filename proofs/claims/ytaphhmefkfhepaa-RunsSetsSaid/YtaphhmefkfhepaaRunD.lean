/- The walks over package runs, fourth part: slices.Insert and slices.Replace at runs where the row must grow. -/
import Derived.Test.YtaphhmefkfhepaaRunC
namespace Go.Proofs.Ytaphhmefkfhepaa.Run
open Go Go.RowKit Go.Proofs.Ytaphhmefkfhepaa.L
set_option linter.unusedVariables false
set_option linter.unusedSimpArgs false

theorem sizeRun : (Try.prog.info? 30).map (·.size) = some 2 := by
  obtain ⟨i0, hi0, _, h1, _⟩ := info_parts infoRun
  rw [hi0]; simp [h1]

theorem grow_runs {ad2 : Option Addr} {b o c c2 i j : Nat} {l ys : List Rn} {w : World} (hown : Own RnR 30 none' w (.slice (some ⟨b, o, none⟩) l.length c) l) (hu : Own RnR 30 none' w (.slice ad2 ys.length c2) ys)
    (hij : i ≤ j) (hj : j < l.length) (hg : c < i + ys.length + (l.length - j)) (hsz : i + ys.length + (l.length - j) ≤ 1099511627776) :
    ∃ cap W1 W2 W3 v1 v2, i + ys.length + (l.length - j) ≤ cap ∧ cap ≤ 9223372036854775807 ∧
      (∀ ty, (Builtin.append_ #[22, 3] ty #[.slice (some ⟨b, o, none⟩) i c, .int .i64 ((ys.length + (l.length - j) : Nat) : Int)]).run Try.prog w = .ok (.slice (some ⟨w.heap.size, 0, none⟩) (i + ys.length + (l.length - j)) cap) W1) ∧
      (∀ ty, (Builtin.copy_ #[22, 22] ty #[.slice (some ⟨w.heap.size, i * 2, none⟩) (i + ys.length + (l.length - j) - i) (cap - i), .slice ad2 ys.length c2]).run Try.prog W1 = .ok v1 W2) ∧
      (∀ ty, (Builtin.copy_ #[22, 22] ty #[.slice (some ⟨w.heap.size, (i + ys.length) * 2, none⟩) (i + ys.length + (l.length - j) - (i + ys.length)) (cap - (i + ys.length)), .slice (some ⟨b, o + j * 2, none⟩) (l.length - j) (c - j)]).run Try.prog W2.drew = .ok v2 W3) ∧
      Own RnR 30 none' W3 (.slice (some ⟨w.heap.size, 0, none⟩) (i + ys.length + (l.length - j)) cap) (l.take i ++ ys ++ l.drop j) ∧ Keeps (fun _ => False) w W3 := by
  obtain ⟨_, h1, h2⟩ := hown.bounds
  obtain ⟨b', o', pre, live, dead, ho, e, hh, hl, hd, hc⟩ := own_at hown (by omega)
  injection e with e; injection e with e1 e2; subst e1 e2
  obtain ⟨C, hC, hCc, hCs⟩ := (hu.slice (A' := fun k => rowOf (.slice ad2 ys.length c2) = some k) (fun _ h => h.elim) (fun _ h => h)).src
  have HCs := Lib.hid hCs
  clear hCs
  obtain ⟨i0, hi0, hz, hs2, hby⟩ := info_parts infoRun
  have hbl := lt_of_heap hh
  have htn : Try.prog.underlying 3 = some (.int .i64) := Try.underlying3
  have hlive : ∀ k u, live[k]? = some u → w.cell? ⟨b, o + k, none⟩ = some u := fun k u hk => by
    refine cellOf hh _ ?_
    have hjl := (List.getElem?_eq_some_iff.1 hk).1
    simp only [List.getElem?_toArray]
    rw [List.append_assoc, List.getElem?_append_right (by omega), List.getElem?_append_left (by omega), show o + k - pre.length = k by omega]; exact hk
  have hap : ∀ ty, _ := fun ty => run_append_zeros_grow (P := Try.prog) w 22 3 ty 30 i0 _ .i64 Try.underlying22 htn hi0 hz (some ⟨b, o, none⟩) i c (ys.length + (l.length - j)) (live.take (i * 2)) (by rw [hs2]; simp; omega)
    (fun _ => ⟨_, rfl, fun k u hk => by rw [Addr.add_lit]; exact hlive k u (by have h := (List.getElem?_eq_some_iff.1 hk).1; rw [List.length_take] at h; rwa [List.getElem?_take_of_lt (by omega)] at hk)⟩) (by rw [hs2]; omega) (by omega) (by omega) (by omega) (by rw [hby]; omega)
  have hN : i + (ys.length + (l.length - j)) = i + ys.length + (l.length - j) := by omega
  simp only [hN] at hap
  obtain ⟨cap, hcap⟩ : ∃ cap, cap = grownCap w (i + ys.length + (l.length - j)) c 30 := ⟨_, rfl⟩
  have hc1 : i + ys.length + (l.length - j) ≤ cap := by rw [hcap]; exact grownCap_ge _ _ _ _
  have hc2 : cap ≤ maxLen := by rw [hcap]; exact grownCap_le_maxLen _ _ _ _ (by unfold maxLen; omega)
  rw [← hcap] at hap
  obtain ⟨L0, hL0⟩ : ∃ L0, L0 = live.take (i * 2) ++ (Builtin.zeroCells (Value.agg #[(.int .u64 0), (.int .u64 0)]).cells (ys.length + (l.length - j))).toList ++ (Builtin.zeroCells (Value.agg #[(.int .u64 0), (.int .u64 0)]).cells (cap - (i + ys.length + (l.length - j)))).toList := ⟨_, rfl⟩
  rw [← hL0] at hap
  have hzl : ∀ n, (Builtin.zeroCells (Value.agg #[(.int .u64 0), (.int .u64 0)]).cells n).toList.length = n * 2 := fun n => by rw [Array.length_toList, size_zeroCells]; rfl
  have hL0l : L0.length = cap * 2 := by rw [hL0, List.length_append, List.length_append, hzl, hzl, List.length_take]; omega
  have hL0t : L0.take (i * 2) = live.take (i * 2) := by rw [hL0, List.append_assoc]; exact List.take_left' (by rw [List.length_take]; omega)
  obtain ⟨W1, hW1⟩ : ∃ W1, W1 = w.drew.alloc (.cells L0.toArray 30) := ⟨_, rfl⟩
  rw [← hW1] at hap
  have hW1b : W1.heap[w.heap.size]? = some (.cells L0.toArray 30 (0, 0)) := by rw [hW1]; exact heap_alloc_new w.drew _
  have hW1k : Keeps (fun _ => False) w W1 := by rw [hW1]; exact ((Keeps.refl _ _).drew).alloc _
  obtain ⟨W2, hr2, hW2b, hW2k⟩ := copy_to (P := Try.prog) (w := W1) (dT := 22) (sT := 22) Try.underlying22 sizeRun (dp := some ⟨w.heap.size, i * 2, none⟩) (sp := ad2) (dLen := i + ys.length + (l.length - j) - i) (dCap := cap - i) (sLen := ys.length) (sCap := c2) hW1b (o := i * 2) C
    (by rw [hC]; show _ * 2 = _; congr 1; simp only [Nat.min_def]; split <;> omega) (fun _ => rfl)
    (fun h0 => by
      obtain ⟨b2, o2, rfl, _, hb2, hcell⟩ := HCs.out (by rw [hC] at h0; exact Nat.pos_of_mul_pos_right h0)
      exact ⟨_, rfl, fun k u hk => by rw [Addr.add_lit, kcell hW1k _ _ hb2 (fun h => h)]; exact hcell k u hk⟩)
    (by rw [hC, hL0l]; show _ + _ * 2 ≤ _; omega) hCc.one
  have hW2k' : Keeps (fun _ => False) w W2 := hW1k.trans hW2k (by intro k hk e; omega)
  have hC2 : C.length = ys.length * 2 := hC
  have hlb : (live.drop (j * 2)).length = (l.length - j) * 2 := by rw [List.length_drop]; omega
  have hbd1 : i * 2 + C.length ≤ L0.length := by rw [hC2, hL0l]; omega
  have hbd2 : (i + ys.length) * 2 + (live.drop (j * 2)).length ≤ (lay L0 (i * 2) C).length := by rw [length_lay hbd1, hL0l, hlb]; omega
  obtain ⟨W3, hr3, hW3b, hW3k⟩ := copy_to (P := Try.prog) (w := W2.drew) (dT := 22) (sT := 22) Try.underlying22 sizeRun (dp := some ⟨w.heap.size, (i + ys.length) * 2, none⟩) (sp := some ⟨b, o + j * 2, none⟩) (dLen := i + ys.length + (l.length - j) - (i + ys.length)) (dCap := cap - (i + ys.length)) (sLen := l.length - j) (sCap := c - j) hW2b (o := (i + ys.length) * 2) (live.drop (j * 2))
    (by rw [List.length_drop, hl, ← Nat.sub_mul]; congr 1; simp only [Nat.min_def]; split <;> omega) (fun _ => rfl)
    (fun h0 => ⟨_, rfl, fun k u hk => by
      rw [Addr.add_lit, Nat.add_assoc]
      rw [List.getElem?_drop] at hk
      have := kcell hW2k' b (o + (j * 2 + k)) hbl (fun h => h)
      exact this.trans (hlive _ u hk)⟩)
    hbd2 (fun v hv => (hc w).one v (List.mem_of_mem_drop hv))
  refine ⟨cap, W1, W2, W3, _, _, hc1, by unfold maxLen at hc2; omega, hap, hr2, hr3, ?_, (hW2k'.drew).trans hW3k (by intro k hk e; omega)⟩
  refine own_of (o := 0) (body := live.take (i * 2) ++ C ++ live.drop (j * 2)) hW3b ?_ (by simp; omega) hc1 hc2 ?_ ?_
  · rw [length_lay hbd2, length_lay hbd1, hL0l]; show _ = 0 + cap * 2; omega
  · show List.take (0 + (i + ys.length + (l.length - j)) * 2) _ = _
    rw [show 0 + (i + ys.length + (l.length - j)) * 2 = (i + ys.length) * 2 + (live.drop (j * 2)).length by rw [hlb]; omega, take_lay2 (by omega) (by rw [hL0l]; omega), hL0t]
    simp
  · exact (((hc W3).take i (by omega)).append (RnR.any hCc)).append ((hc W3).drop j (by omega))
/-- The same, the new length named. -/
theorem grow_runs' {ad2 : Option Addr} {b o c c2 i j : Nat} {l ys : List Rn} {w : World} (hown : Own RnR 30 none' w (.slice (some ⟨b, o, none⟩) l.length c) l) (hu : Own RnR 30 none' w (.slice ad2 ys.length c2) ys)
    (hij : i ≤ j) (hj : j < l.length) (hg : c < i + ys.length + (l.length - j)) (hsz : i + ys.length + (l.length - j) ≤ 1099511627776) :
    ∃ N cap W1 W2 W3 v1 v2, Hid (N = i + ys.length + (l.length - j)) ∧ N ≤ cap ∧ cap ≤ 9223372036854775807 ∧
      (∀ ty k, k = (ys.length + (l.length - j) : Int) → (Builtin.append_ #[22, 3] ty #[.slice (some ⟨b, o, none⟩) i c, .int .i64 k]).run Try.prog w = .ok (.slice (some ⟨w.heap.size, 0, none⟩) N cap) W1) ∧
      (∀ ty, (Builtin.copy_ #[22, 22] ty #[.slice (some ⟨w.heap.size, i * 2, none⟩) (N - i) (cap - i), .slice ad2 ys.length c2]).run Try.prog W1 = .ok v1 W2) ∧
      (∀ ty, (Builtin.copy_ #[22, 22] ty #[.slice (some ⟨w.heap.size, (i + ys.length) * 2, none⟩) (N - (i + ys.length)) (cap - (i + ys.length)), .slice (some ⟨b, o + j * 2, none⟩) (l.length - j) (c - j)]).run Try.prog W2.drew = .ok v2 W3) ∧
      Hid (Own RnR 30 none' W3 (.slice (some ⟨w.heap.size, 0, none⟩) N cap) (l.take i ++ ys ++ l.drop j)) ∧ Hid (Keeps (fun _ => False) w W3) := by
  obtain ⟨cap, W1, W2, W3, v1, v2, a1, a2, a3, a4, a5, a6, a7⟩ := grow_runs hown hu hij hj hg hsz
  exact ⟨_, cap, W1, W2, W3, v1, v2, rfl, a1, a2, fun ty k hk => by rw [show k = ((ys.length + (l.length - j) : Nat) : Int) by omega]; exact a3 ty, a4, a5, a6, a7⟩

set_option maxRecDepth 100000 in
set_option maxHeartbeats 1000000 in
theorem insert_grow (ad ad2 : Option Addr) (c c2 i : Nat) (l ys : List Rn) (w : World) (hown : Own RnR 30 none' w (.slice ad l.length c) l) (hu : Own RnR 30 none' w (.slice ad2 ys.length c2) ys)
    (h0 : 0 < ys.length) (hi : i < l.length) (hroom : c < l.length + ys.length) (hsz : l.length + ys.length ≤ 1099511627776) :
    Calls Try.prog 42 #[.slice ad l.length c, .int .i64 i, .slice ad2 ys.length c2] w (Put w (.slice ad l.length c) (l.take i ++ ys ++ l.drop i)) := by
  obtain ⟨_, h1, h2⟩ := hown.bounds
  obtain ⟨_, k1, k2⟩ := hu.bounds
  obtain ⟨b, o, rfl⟩ := hown.addr (by omega)
  obtain ⟨N, cap, W1, W2, W3, v1, v2, HN, hc1, hc2, hap, hcp1, hcp2, HO, HK⟩ := grow_runs' (i := i) (j := i) hown hu (Nat.le_refl _) hi (by omega) (by omega)
  have hap' := hap 22 ((l.length : Int) + (ys.length : Int) - (i : Int)) (by omega)
  have hN1 : i + ys.length < N := by have := HN.out; omega
  have hN2 : (i : Int) ≤ (N : Int) := by omega
  have hN3 : (i : Int) + (ys.length : Int) ≤ (N : Int) := by omega
  have hci : ¬ cap = i := by omega
  have hci2 : ¬ cap = i + ys.length := by omega
  have hci3 : ¬ c = i := by omega
  have hy : ¬ ((ys.length : Int) = 0) := by omega
  have hil : ¬ ((i : Int) = (l.length : Int)) := by omega
  have hz : c < l.length + ys.length := hroom
  have hile : i ≤ l.length := by omega
  have hw0 : IntKind.i64.wrap ((i : Int) + (ys.length : Int)) = (i : Int) + (ys.length : Int) := by rw [IntKind.wrap_i64]; omega
  have hw1 : (0 : Int) ≤ (i : Int) + (ys.length : Int) := by omega
  have hn1 : ((i : Int) + (ys.length : Int)).toNat = i + ys.length := by omega
  clear hap
  go_enter Try.func42, Try.ntmps42
  go_wp2_with (at_builtin; first | (refine Lib.wpList_append_run _ rfl _ _ 22 3 rfl _ _ rfl rfl _ _ hap' ?_) | (refine wpList_copy_gen rfl _ _ 22 22 rfl _ _ rfl rfl (hcp1 _) ?_))
  go_region_law (refine step_copy_gen rfl _ _ 22 22 rfl _ _ (by simp [Act.eval, Act.put]) (by simp [Act.eval, Act.put]) (hcp2 _) ?_)
  go_wp2_with fail
  go_ret
  refine ⟨_, rfl, HO.out, HK.out.mono fun _ _ h => h.elim, fun k hk => .inr ?_⟩
  have hc0 : ¬ cap = 0 := by omega
  simp [rowOf, hc0] at hk
  omega

theorem insert_calls (v u : Value) (i : Nat) (l ys : List Rn) (w : World) (hown : Own RnR 30 none' w v l) (hu : Own RnR 30 none' w u ys) (hne : ∀ b, rowOf v = some b → rowOf u ≠ some b) (hi : i ≤ l.length) (hsz : l.length + ys.length ≤ 1099511627776) :
    Calls Try.prog 42 #[v, .int .i64 i, u] w (Put w v (l.take i ++ ys ++ l.drop i)) := by
  obtain ⟨ad, c, rfl, h1, h2⟩ := hown.form
  obtain ⟨ad2, c2, rfl, k1, k2⟩ := hu.form
  by_cases h0 : ys.length = 0
  · obtain rfl : ys = [] := List.eq_nil_of_length_eq_zero h0
    have := insert_none _ ad2 c2 i l w hown hi
    simpa using this
  · by_cases hil : i = l.length
    · subst hil
      have := insert_end _ _ l ys w hown hu hne (by omega) hsz
      simpa using this
    · by_cases hroom : l.length + ys.length ≤ c
      · exact insert_room ad ad2 c c2 i l ys w hown hu hne (by omega) (by omega) hroom hsz
      · exact insert_grow ad ad2 c c2 i l ys w hown hu (by omega) (by omega) (by omega) hsz
end Go.Proofs.Ytaphhmefkfhepaa.Run
