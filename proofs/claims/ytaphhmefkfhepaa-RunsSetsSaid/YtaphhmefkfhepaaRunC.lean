/- The walks over package runs, third part: slices.Insert at runs. -/
import Derived.Test.YtaphhmefkfhepaaRunB
namespace Go.Proofs.Ytaphhmefkfhepaa.Run
open Go Go.RowKit Go.Proofs.Ytaphhmefkfhepaa.L
set_option linter.unusedVariables false
set_option linter.unusedSimpArgs false

/-- What inserting or replacing leaves. -/
def Put (w : World) (v : Value) (l : List Rn) (e : Ending) (w' : World) : Prop :=
  ∃ v', e = .returned v' ∧ Own RnR 30 none' w' v' l ∧ Keeps (fun k => rowOf v = some k) w w' ∧ ∀ k, rowOf v' = some k → rowOf v = some k ∨ w.heap.size ≤ k

theorem own_at {w : World} {ad : Option Addr} {n c : Nat} {l : List Rn} (h : Own RnR 30 none' w (.slice ad n c) l) (h0 : c ≠ 0) :
    ∃ b o pre live dead, o = pre.length ∧ ad = some ⟨b, o, none⟩ ∧ w.heap[b]? = some (.cells (pre ++ live ++ dead).toArray 30 (0, 0)) ∧ live.length = l.length * 2 ∧ dead.length = (c - l.length) * 2 ∧ (∀ w', Cells RnR none' w' live l) := by
  obtain ⟨ad', c', hv, h1, h2, h3⟩ := h
  injection hv with e1 e2 e3
  subst e1 e3
  rcases h3 with h3 | ⟨b, pre, live, dead, rfl, hh, hd, hc⟩
  · exact absurd h3 h0
  · exact ⟨b, pre.length, pre, live, dead, rfl, rfl, hh, hc.length, hd, fun w' => RnR.any hc⟩

set_option maxRecDepth 100000 in
set_option maxHeartbeats 1000000 in
theorem insert_none (v : Value) (ad2 : Option Addr) (c2 i : Nat) (l : List Rn) (w : World) (hown : Own RnR 30 none' w v l) (hi : i ≤ l.length) :
    Calls Try.prog 42 #[v, .int .i64 i, .slice ad2 0 c2] w (Put w v l) := by
  obtain ⟨ad, c, rfl, h1, h2⟩ := hown.form
  unfold maxLen at h2
  by_cases hci : c = i
  all_goals
    try subst hci
    go_enter Try.func42, Try.ntmps42
    go_wp2_with fail
    go_ret
    exact ⟨_, rfl, hown, Keeps.refl _ _, fun k hk => .inl hk⟩

set_option maxRecDepth 100000 in
set_option maxHeartbeats 1000000 in
theorem insert_end (v u : Value) (l ys : List Rn) (w : World) (hown : Own RnR 30 none' w v l) (hu : Own RnR 30 none' w u ys) (hne : ∀ b, rowOf v = some b → rowOf u ≠ some b) (h0 : 0 < ys.length) (hsz : l.length + ys.length ≤ 1099511627776) :
    Calls Try.prog 42 #[v, .int .i64 l.length, u] w (Put w v (l ++ ys)) := by
  obtain ⟨ad, c, rfl, h1, h2⟩ := hown.form
  obtain ⟨ad2, c2, rfl, k1, k2⟩ := hu.form
  unfold maxLen at h2 k2
  have hB : SliceK RnR (fun b => rowOf (.slice ad2 ys.length c2) = some b) w (.slice ad2 ys.length c2) ys := hu.slice (fun _ h => h.elim) (fun _ h => h)
  have hy : ¬ ((ys.length : Int) = 0) := by omega
  by_cases hci : c = l.length
  all_goals
    try subst hci
    go_enter Try.func42, Try.ntmps42
    go_wp2_with (at_builtin; refine wpList_append_any (α := Rn) (R := RnR) (A := fun b => rowOf (.slice ad2 ys.length c2) = some b) (B := fun b => rowOf (.slice ad2 ys.length c2) = some b) (xs := l) (ys := ys) rfl _ _ rfl elemRun (.slice ad l.length _) (.slice ad2 ys.length c2) rfl rfl hown.flat hB (fun _ h => h) hne (by omega) (by unfold maxLen; omega) ?_; intro v' w' hown' hk hr)
    go_ret
    exact ⟨v', rfl, hown'.flat, hk, hr⟩

set_option maxRecDepth 100000 in
set_option maxHeartbeats 1000000 in
theorem insert_room (ad ad2 : Option Addr) (c c2 i : Nat) (l ys : List Rn) (w : World) (hown : Own RnR 30 none' w (.slice ad l.length c) l) (hu : Own RnR 30 none' w (.slice ad2 ys.length c2) ys) (hne : ∀ b, rowOf (.slice ad l.length c) = some b → rowOf (.slice ad2 ys.length c2) ≠ some b)
    (h0 : 0 < ys.length) (hi : i < l.length) (hroom : l.length + ys.length ≤ c) (hsz : l.length + ys.length ≤ 1099511627776) :
    Calls Try.prog 42 #[.slice ad l.length c, .int .i64 i, .slice ad2 ys.length c2] w (Put w (.slice ad l.length c) (l.take i ++ ys ++ l.drop i)) := by
  obtain ⟨_, h1, h2⟩ := hown.bounds
  obtain ⟨_, k1, k2⟩ := hu.bounds
  obtain ⟨b, o, pre, live, dead, Ho, rfl, hh, hl, hd, hc⟩ := own_at hown (by omega)
  obtain ⟨b2, o2, pre2, live2, dead2, Ho2, rfl, hh2, hl2, hd2, hc2⟩ := own_at hu (by omega)
  have hbb : b2 ≠ b := by
    rintro rfl
    exact hne b2 (by simp [rowOf]; omega) (by simp [rowOf]; omega)
  have HO := Lib.hid Ho
  have HO2 := Lib.hid Ho2
  clear Ho Ho2
  have hy : ¬ ((ys.length : Int) = 0) := by omega
  have hil : ¬ ((i : Int) = (l.length : Int)) := by omega
  have hov : ∀ lb cb, (callFunc 43 #[.slice (some ⟨b2, o2, none⟩) ys.length c2, .slice (some ⟨b, o + (i + ys.length) * 2, none⟩) lb cb]).run Try.prog w = .ok (.value (.bool false)) w := fun lb cb => by
    rw [run_callFunc_extern Try.func43 (by kernel_rfl) (by kernel_rfl) (by kernel_rfl) (e := Extern.SlicesOverlaps.overlaps #[22, 22] #[4]) (by kernel_rfl), overlaps_apart elemRun hh hh2 hbb (by simp only [List.size_toArray, List.length_append]; omega)]
    rfl
  have hz : ¬ (c < l.length + ys.length) := by omega
  have hw0 : IntKind.i64.wrap ((i : Int) + (ys.length : Int)) = (i : Int) + (ys.length : Int) := by rw [IntKind.wrap_i64]; omega
  have hle1 : (i : Int) + (ys.length : Int) ≤ (l.length : Int) + (ys.length : Int) := by omega
  have hw1 : (0 : Int) ≤ (i : Int) + (ys.length : Int) := by omega
  have hn1 : ((i : Int) + (ys.length : Int)).toNat = i + ys.length := by omega
  have hc1 : ¬ (c = i + ys.length) := by omega
  have hc2' : ¬ (c = i) := by omega
  have hc3 : (i : Int) ≤ (l.length : Int) + (ys.length : Int) := by omega
  have hsz2 : (Try.prog.info? 30).map (·.size) = some 2 := by
    obtain ⟨i0, hi0, _, h1, _⟩ := info_parts infoRun
    rw [hi0]; simp [h1]
  have hct := hc w
  have hB1 : (live.drop (i * 2)).length = (l.length - i) * 2 := by simp; omega
  have hcur : (pre ++ live ++ dead).length = o + c * 2 := by have := HO.out; simp; omega
  have hcp1 : ∀ ty, (Builtin.copy_ #[22, 22] ty #[.slice (some ⟨b, o + (i + ys.length) * 2, none⟩) (l.length + ys.length - (i + ys.length)) (c - (i + ys.length)), .slice (some ⟨b, o + i * 2, none⟩) (l.length + ys.length - i) (c - i)]).run Try.prog w.drew =
      .ok (goInt (Nat.min (l.length + ys.length - i) (l.length + ys.length - (i + ys.length)) : Nat)) (w.drew.setRow b (lay (pre ++ live ++ dead) (o + (i + ys.length) * 2) (live.drop (i * 2))).toArray) := fun ty =>
    run_copy_gen w.drew _ _ ty 30 2 Try.underlying22 hsz2 _ _ _ _ _ _ b (o + (i + ys.length) * 2) (pre ++ live ++ dead) 30 hh (live.drop (i * 2)) (by rw [hB1]; congr 1; simp only [Nat.min_def]; split <;> omega)
      (fun _ => ⟨rfl, _, rfl, fun j v hj => by
        rw [Addr.add_lit, Nat.add_assoc]
        refine cellOf (w := w) hh _ ?_
        rw [List.getElem?_drop] at hj
        have hjl := (List.getElem?_eq_some_iff.1 hj).1
        have := HO.out
        simp only [List.getElem?_toArray]
        rw [List.append_assoc, List.getElem?_append_right (by omega), List.getElem?_append_left (by omega)]
        rw [show o + (i * 2 + j) - pre.length = i * 2 + j by omega]; exact hj⟩) (by rw [hB1, hcur]; omega) (fun v hv => hct.one v (List.mem_of_mem_drop hv))
  obtain ⟨W1, hW1⟩ : ∃ W1, W1 = w.drew.setRow b (lay (pre ++ live ++ dead) (o + (i + ys.length) * 2) (live.drop (i * 2))).toArray := ⟨_, rfl⟩
  have hW1b : W1.heap[b]? = some (.cells (lay (pre ++ live ++ dead) (o + (i + ys.length) * 2) (live.drop (i * 2))).toArray 30 (0, 0)) := by rw [hW1]; exact setRow_heap w.drew b _ _ _ _ hh
  have hW1k : Keeps (fun k => k = b) w W1 := by rw [hW1]; exact Keeps.setRow (F := fun k => k = b) ((Keeps.refl _ _).drew) (.inl rfl) _
  have hlay1 : (lay (pre ++ live ++ dead) (o + (i + ys.length) * 2) (live.drop (i * 2))).length = o + c * 2 := by rw [length_lay (by rw [hB1, hcur]; omega), hcur]
  have hcp2 : ∀ ty, (Builtin.copy_ #[22, 22] ty #[.slice (some ⟨b, o + i * 2, none⟩) (l.length + ys.length - i) (c - i), .slice (some ⟨b2, o2, none⟩) ys.length c2]).run Try.prog W1 =
      .ok (goInt (Nat.min ys.length (l.length + ys.length - i) : Nat)) (W1.setRow b (lay (lay (pre ++ live ++ dead) (o + (i + ys.length) * 2) (live.drop (i * 2))) (o + i * 2) live2).toArray) := fun ty =>
    run_copy_gen W1 _ _ ty 30 2 Try.underlying22 hsz2 _ _ _ _ _ _ b (o + i * 2) _ 30 hW1b live2 (by rw [hl2]; congr 1; simp only [Nat.min_def]; split <;> omega)
      (fun _ => ⟨rfl, _, rfl, fun j v hj => by
        rw [Addr.add_lit]
        refine cellOf (hW1k.heap hh2 hbb) _ ?_
        have hjl := (List.getElem?_eq_some_iff.1 hj).1
        have := HO2.out
        simp only [List.getElem?_toArray]
        rw [List.append_assoc, List.getElem?_append_right (by omega), List.getElem?_append_left (by omega)]
        rw [show o2 + j - pre2.length = j by omega]; exact hj⟩) (by rw [hl2, hlay1]; omega) (hc2 w).one
  rw [← hW1] at hcp1
  have Hfin : Hid (lay (lay (pre ++ live ++ dead) (o + (i + ys.length) * 2) (live.drop (i * 2))) (o + i * 2) live2 = pre ++ (live.take (i * 2) ++ live2 ++ live.drop (i * 2)) ++ dead.drop live2.length) := by
    show _ = _
    have e := lay_gap pre (live.take (i * 2)) (live.drop (i * 2)) dead live2 (by omega)
    rw [List.take_append_drop, List.length_take, Nat.min_eq_left (by omega), hl2] at e
    rw [← hl2] at e
    have := HO.out
    rw [show o + (i + ys.length) * 2 = pre.length + (i * 2 + live2.length) by omega, show o + i * 2 = pre.length + i * 2 by omega]
    exact e
  have HL := Lib.hid hW1
  clear hW1
  go_enter Try.func42, Try.ntmps42
  go_wp2_with (simp only [hov])
  go_region_law (refine step_copy_gen rfl _ _ 22 22 rfl _ _ (by simp [Act.eval, Act.put]) (by simp [Act.eval, Act.put]) (hcp1 _) ?_)
  go_wp2_with (at_builtin; refine wpList_copy_gen rfl _ _ 22 22 rfl _ _ rfl rfl (hcp2 _) ?_)
  go_ret
  have e := Hfin.out
  rw [List.append_assoc pre live dead] at e
  rw [e]
  have hlen : (l.take i ++ ys ++ l.drop i).length = l.length + ys.length := by simp; omega
  refine ⟨.slice (some ⟨b, o, none⟩) (l.length + ys.length) c, rfl, ⟨some ⟨b, o, none⟩, c, by rw [hlen], by rw [hlen]; exact hroom, by unfold maxLen; omega, .inr ⟨b, pre, live.take (i * 2) ++ live2 ++ live.drop (i * 2), dead.drop live2.length, by rw [HO.out], setRow_heap W1 b _ _ _ _ hW1b, ?_, ?_⟩⟩, ?_, ?_⟩
  · rw [List.length_drop, hd, hl2, hlen]; show _ = _ * 2; omega
  · exact ((hc _).take i (by omega)).append (hc2 _) |>.append ((hc _).drop i (by omega))
  · have hrow : rowOf (.slice (some ⟨b, o, none⟩) l.length c) = some b := by simp [rowOf]; omega
    exact (hW1k.mono fun k _ hk => by rw [hrow, hk]).setRow (.inl hrow) _
  · intro k hk
    left
    have hc0 : ¬ c = 0 := by omega
    simpa [rowOf, hc0] using hk
end Go.Proofs.Ytaphhmefkfhepaa.Run
