/- The walks over package runs, sixth part: slices.Replace at runs where there is room. -/
import Derived.Test.YtaphhmefkfhepaaRunE
namespace Go.Proofs.Ytaphhmefkfhepaa.Run
open Go Go.RowKit Go.Proofs.Ytaphhmefkfhepaa.L
set_option linter.unusedVariables false
set_option linter.unusedSimpArgs false

/-- What a block holds whose first elements are known. -/
def Holds (w : World) (b o N c : Nat) (xs : List Rn) : Prop :=
  ∃ L body, w.heap[b]? = some (.cells (List.toArray L) 30 (0, 0)) ∧ L.length = o + c * 2 ∧ L.take (o + N * 2) = L.take o ++ body ∧ xs.length = N ∧ ∀ w', Cells RnR none' w' body xs

theorem Holds.own {w : World} {b o N c : Nat} {xs : List Rn} (h : Holds w b o N c xs) (hn : N ≤ c) (hc : c ≤ 9223372036854775807) : Own RnR 30 none' w (.slice (some ⟨b, o, none⟩) N c) xs := by
  obtain ⟨L, body, hb, hL, ht, hx, hc2⟩ := h
  exact own_of hb hL hx hn (by unfold maxLen; omega) ht (hc2 w)

theorem Holds.clear {w : World} {b o N c n : Nat} {xs : List Rn} (h : Holds w b o N c xs) (hN : N < n) (hn : n ≤ c) (c' : Nat) :
    ∃ W, (∀ ty, (Builtin.clear_ #[22] ty #[.slice (some ⟨b, o + N * 2, none⟩) (n - N) c']).run Try.prog w = .ok (.tuple #[]) W) ∧ Holds W b o N c xs ∧ Keeps (fun k => k = b) w W := by
  obtain ⟨L, body, hb, hL, ht, hx, hc2⟩ := h
  obtain ⟨W, Z, hr, hZ, hWb, hWk⟩ := clear_to (P := Try.prog) (w := w) (c := c') (n := n - N) (o := o + N * 2) (dp := some ⟨b, o + N * 2, none⟩) elemRun (by intro u hu; simp [Value.cells] at hu; rcases hu with rfl | rfl <;> rfl) hb (fun _ => rfl) (by rw [hL]; show _ + _ * 2 ≤ _; omega)
  have hZ2 : Z.length = (n - N) * 2 := hZ
  refine ⟨W, hr, ⟨_, body, hWb, by rw [length_lay (by omega), hL], ?_, hx, hc2⟩, hWk⟩
  rw [take_lay (by omega) (Nat.le_refl _), take_lay (by omega) (by omega)]; exact ht

theorem clear_none (w : World) (ty : TypeId) (dp : Option Addr) (c' : Nat) : (Builtin.clear_ #[22] ty #[.slice dp 0 c']).run Try.prog w = .ok (.tuple #[]) w := by
  cases dp <;> simp [Builtin.clear_, run_underlying Try.underlying22]

theorem src_of {w : World} {ad2 : Option Addr} {c2 : Nat} {ys : List Rn} (hu : Own RnR 30 none' w (.slice ad2 ys.length c2) ys) :
    ∃ C, C.length = ys.length * 2 ∧ (∀ w', Cells RnR none' w' C ys) ∧ (0 < C.length → ∃ b o cs, ad2 = some ⟨b, o, none⟩ ∧ w.heap[b]? = some (.cells cs 30 (0, 0)) ∧ rowOf (.slice ad2 ys.length c2) = some b ∧ cs.size ≠ 0 ∧ ∀ j u, C[j]? = some u → cs[o + j]? = some u) := by
  by_cases h0 : 0 < ys.length
  · obtain ⟨_, k1, k2⟩ := hu.bounds
    obtain ⟨b, o, pre, live, dead, ho, rfl, hh, hl, hd, hc⟩ := own_at hu (by omega)
    have hc0 : ¬ c2 = 0 := by omega
    refine ⟨live, hl, hc, fun _ => ⟨b, o, _, rfl, hh, by simp [rowOf, hc0], by simp only [List.size_toArray, List.length_append]; omega, fun j u hj => ?_⟩⟩
    have hjl := (List.getElem?_eq_some_iff.1 hj).1
    simp only [List.getElem?_toArray]
    rw [List.append_assoc, List.getElem?_append_right (by omega), List.getElem?_append_left (by omega), show o + j - pre.length = j by omega]; exact hj
  · obtain rfl : ys = [] := List.eq_nil_of_length_eq_zero (by omega)
    exact ⟨[], by simp, fun _ => .nil, fun h => by simp at h⟩

/-- Where what is put in fits into what goes out. -/
theorem place_runs {ad2 : Option Addr} {b o c c2 i j N : Nat} {l ys : List Rn} {w : World} (hown : Own RnR 30 none' w (.slice (some ⟨b, o, none⟩) l.length c) l) (hu : Own RnR 30 none' w (.slice ad2 ys.length c2) ys)
    (hne : rowOf (.slice ad2 ys.length c2) ≠ some b) (hj : j < l.length) (hfit : i + ys.length ≤ j) (hN : N = i + ys.length + (l.length - j)) :
    ∃ W1 W2 v1 v2, (∀ ty, (Builtin.copy_ #[22, 22] ty #[.slice (some ⟨b, o + i * 2, none⟩) (N - i) (c - i), .slice ad2 ys.length c2]).run Try.prog w = .ok v1 W1) ∧
      (∀ ty, (Builtin.copy_ #[22, 22] ty #[.slice (some ⟨b, o + (i + ys.length) * 2, none⟩) (N - (i + ys.length)) (c - (i + ys.length)), .slice (some ⟨b, o + j * 2, none⟩) (l.length - j) (c - j)]).run Try.prog W1.drew = .ok v2 W2) ∧
      Holds W2 b o N c (l.take i ++ ys ++ l.drop j) ∧ Keeps (fun k => k = b) w W2 := by
  obtain ⟨_, h1, h2⟩ := hown.bounds
  obtain ⟨b', o', pre, live, dead, ho, e, hh, hl, hd, hc⟩ := own_at hown (by omega)
  injection e with e; injection e with e1 e2; subst e1 e2
  obtain ⟨C, hC, hCc, hCs⟩ := src_of hu
  have HCs := Lib.hid hCs
  clear hCs
  have hcur : (pre ++ live ++ dead).length = o + c * 2 := by simp; omega
  have hlb : (live.drop (j * 2)).length = (l.length - j) * 2 := by rw [List.length_drop]; omega
  obtain ⟨W1, hr1, hW1b, hW1k⟩ := copy_to (P := Try.prog) (w := w) (dT := 22) (sT := 22) Try.underlying22 sizeRun (dp := some ⟨b, o + i * 2, none⟩) (sp := ad2) (dLen := N - i) (dCap := c - i) (sLen := ys.length) (sCap := c2) hh (o := o + i * 2) C
    (by rw [hC]; congr 1; simp only [Nat.min_def]; split <;> omega) (fun _ => rfl)
    (fun h0 => by
      obtain ⟨b2, o2, cs, rfl, hb2, _, _, hcell⟩ := HCs.out h0
      exact ⟨_, rfl, fun k u hk => by rw [Addr.add_lit]; exact cellOf hb2 _ (hcell k u hk)⟩)
    (by rw [hC, hcur]; omega) (hCc w).one
  have hb1 : o + i * 2 + C.length ≤ (pre ++ live ++ dead).length := by rw [hC, hcur]; omega
  have hL1 : (lay (pre ++ live ++ dead) (o + i * 2) C).length = o + c * 2 := by rw [length_lay hb1, hcur]
  obtain ⟨W2, hr2, hW2b, hW2k⟩ := copy_to (P := Try.prog) (w := W1.drew) (dT := 22) (sT := 22) Try.underlying22 sizeRun (dp := some ⟨b, o + (i + ys.length) * 2, none⟩) (sp := some ⟨b, o + j * 2, none⟩) (dLen := N - (i + ys.length)) (dCap := c - (i + ys.length)) (sLen := l.length - j) (sCap := c - j) hW1b (o := o + (i + ys.length) * 2) (live.drop (j * 2))
    (by rw [hlb]; congr 1; simp only [Nat.min_def]; split <;> omega) (fun _ => rfl)
    (fun h0 => ⟨_, rfl, fun k u hk => by
      rw [Addr.add_lit, Nat.add_assoc]
      refine cellOf hW1b _ ?_
      rw [List.getElem?_drop] at hk
      have hkl := (List.getElem?_eq_some_iff.1 hk).1
      simp only [List.getElem?_toArray, lay]
      rw [← List.append_assoc, List.getElem?_append_right (by simp; omega), List.getElem?_drop]
      have e : (List.take (o + i * 2) (pre ++ live ++ dead) ++ C).length = o + i * 2 + C.length := by rw [List.length_append, List.length_take]; omega
      rw [e, show o + i * 2 + C.length + (o + (j * 2 + k) - (o + i * 2 + C.length)) = pre.length + (j * 2 + k) by omega, List.append_assoc, List.getElem?_append_right (by omega), Nat.add_sub_cancel_left, List.getElem?_append_left (by omega)]
      exact hk⟩)
    (by rw [hL1, hlb]; omega) (fun v hv => (hc w).one v (List.mem_of_mem_drop hv))
  refine ⟨W1, W2, _, _, hr1, hr2, ⟨_, live.take (i * 2) ++ C ++ live.drop (j * 2), hW2b, by rw [length_lay (by rw [hL1, hlb]; omega), hL1], ?_, by simp; omega, fun w' => (((hc w').take i (by omega)).append (hCc w')).append ((hc w').drop j (by omega))⟩, (hW1k.drew).trans hW2k fun _ _ h => h⟩
  have e1 : o + N * 2 = o + (i + ys.length) * 2 + (live.drop (j * 2)).length := by rw [hlb]; omega
  rw [e1, take_lay2 (by omega) (by rw [hcur]; omega), take_lay (by rw [hL1, hlb]; omega) (by omega), take_lay hb1 (by omega)]
  have e2 : (pre ++ live ++ dead).take (o + i * 2) = pre ++ live.take (i * 2) := by
    rw [List.append_assoc, ho, List.take_append, List.take_of_length_le (by omega), Nat.add_sub_cancel_left, List.take_append_of_le_length (by omega)]
  have e3 : (pre ++ live ++ dead).take o = pre := by rw [List.append_assoc, ho]; exact List.take_left
  rw [e2, e3]; simp

/-- Where it does not fit into what goes out, and there is room behind. -/
theorem place_runs' {ad2 : Option Addr} {b o c c2 i j N : Nat} {l ys : List Rn} {w : World} (hown : Own RnR 30 none' w (.slice (some ⟨b, o, none⟩) l.length c) l) (hu : Own RnR 30 none' w (.slice ad2 ys.length c2) ys)
    (hne : rowOf (.slice ad2 ys.length c2) ≠ some b) (hij : i ≤ j) (hj : j < l.length) (hfit : j < i + ys.length) (hN : N = i + ys.length + (l.length - j)) (hroom : N ≤ c) :
    ∃ W1 W2 v1 v2, (∀ ty, (Builtin.copy_ #[22, 22] ty #[.slice (some ⟨b, o + (i + ys.length) * 2, none⟩) (N - (i + ys.length)) (c - (i + ys.length)), .slice (some ⟨b, o + j * 2, none⟩) (l.length - j) (c - j)]).run Try.prog w.drew = .ok v1 W1) ∧
      (∀ ty, (Builtin.copy_ #[22, 22] ty #[.slice (some ⟨b, o + i * 2, none⟩) (N - i) (c - i), .slice ad2 ys.length c2]).run Try.prog W1 = .ok v2 W2) ∧
      Holds W2 b o N c (l.take i ++ ys ++ l.drop j) ∧ Keeps (fun k => k = b) w W2 ∧
      (∀ lb cb, (callFunc 43 #[.slice (some ⟨b, o + (i + ys.length) * 2, none⟩) lb cb, .slice ad2 ys.length c2]).run Try.prog w = .ok (.value (.bool false)) w) := by
  obtain ⟨_, h1, h2⟩ := hown.bounds
  obtain ⟨b', o', pre, live, dead, ho, e, hh, hl, hd, hc⟩ := own_at hown (by omega)
  injection e with e; injection e with e1 e2; subst e1 e2
  obtain ⟨C, hC, hCc, hCs⟩ := src_of hu
  obtain ⟨b2, o2, cs, rfl, hb2, hrow, hcs, hcell⟩ := hCs (by omega)
  clear hCs
  have hbb : b2 ≠ b := by rintro rfl; exact hne hrow
  have hcur : (pre ++ live ++ dead).length = o + c * 2 := by simp; omega
  have hlb : (live.drop (j * 2)).length = (l.length - j) * 2 := by rw [List.length_drop]; omega
  obtain ⟨W1, hr1, hW1b, hW1k⟩ := copy_to (P := Try.prog) (w := w.drew) (dT := 22) (sT := 22) Try.underlying22 sizeRun (dp := some ⟨b, o + (i + ys.length) * 2, none⟩) (sp := some ⟨b, o + j * 2, none⟩) (dLen := N - (i + ys.length)) (dCap := c - (i + ys.length)) (sLen := l.length - j) (sCap := c - j) hh (o := o + (i + ys.length) * 2) (live.drop (j * 2))
    (by rw [hlb]; congr 1; simp only [Nat.min_def]; split <;> omega) (fun _ => rfl)
    (fun h0 => ⟨_, rfl, fun k u hk => by
      rw [Addr.add_lit, Nat.add_assoc]
      refine cellOf (w := w) hh _ ?_
      rw [List.getElem?_drop] at hk
      have hkl := (List.getElem?_eq_some_iff.1 hk).1
      simp only [List.getElem?_toArray]
      rw [List.append_assoc, List.getElem?_append_right (by omega), List.getElem?_append_left (by omega), show o + (j * 2 + k) - pre.length = j * 2 + k by omega]; exact hk⟩)
    (by rw [hcur, hlb]; omega) (fun v hv => (hc w).one v (List.mem_of_mem_drop hv))
  have hb1 : o + (i + ys.length) * 2 + (live.drop (j * 2)).length ≤ (pre ++ live ++ dead).length := by rw [hlb, hcur]; omega
  have hL1 : (lay (pre ++ live ++ dead) (o + (i + ys.length) * 2) (live.drop (j * 2))).length = o + c * 2 := by rw [length_lay hb1, hcur]
  have hW1k' : Keeps (fun k => k = b) w W1 := ((Keeps.refl (fun k => k = b) w).drew).trans hW1k fun _ _ h => h
  obtain ⟨W2, hr2, hW2b, hW2k⟩ := copy_to (P := Try.prog) (w := W1) (dT := 22) (sT := 22) Try.underlying22 sizeRun (dp := some ⟨b, o + i * 2, none⟩) (sp := some ⟨b2, o2, none⟩) (dLen := N - i) (dCap := c - i) (sLen := ys.length) (sCap := c2) hW1b (o := o + i * 2) C
    (by rw [hC]; congr 1; simp only [Nat.min_def]; split <;> omega) (fun _ => rfl)
    (fun h0 => ⟨_, rfl, fun k u hk => by rw [Addr.add_lit]; exact cellOf (hW1k'.heap hb2 hbb) _ (hcell k u hk)⟩)
    (by rw [hC, hL1]; omega) (hCc w).one
  refine ⟨W1, W2, _, _, hr1, hr2, ⟨_, live.take (i * 2) ++ C ++ live.drop (j * 2), hW2b, by rw [length_lay (by rw [hL1, hC]; omega), hL1], ?_, by simp; omega, fun w' => (((hc w').take i (by omega)).append (hCc w')).append ((hc w').drop j (by omega))⟩, hW1k'.trans hW2k fun _ _ h => h, fun lb cb => ?_⟩
  · have e1 : o + N * 2 = o + (i + ys.length) * 2 + (live.drop (j * 2)).length := by rw [hlb]; omega
    rw [e1, take_lay2' (by omega) hb1, take_lay (by rw [hL1, hC]; omega) (by omega), take_lay hb1 (by omega)]
    have e2 : (pre ++ live ++ dead).take (o + i * 2) = pre ++ live.take (i * 2) := by
      rw [List.append_assoc, ho, List.take_append, List.take_of_length_le (by omega), Nat.add_sub_cancel_left, List.take_append_of_le_length (by omega)]
    have e3 : (pre ++ live ++ dead).take o = pre := by rw [List.append_assoc, ho]; exact List.take_left
    rw [e2, e3]; simp
  · rw [run_callFunc_extern Try.func43 (by kernel_rfl) (by kernel_rfl) (by kernel_rfl) (e := Extern.SlicesOverlaps.overlaps #[22, 22] #[4]) (by kernel_rfl), overlaps_apart elemRun hb2 hh (Ne.symm hbb) hcs]
    rfl
end Go.Proofs.Ytaphhmefkfhepaa.Run
