/- A library of no program: append, copy, clear and make on rows that are owned. -/
import Derived.Test.YtidgcfgkcidkiaaLibA
namespace Go.Proofs.Ytidgcfgkcidkiaa.L
open Go Go.RowKit
set_option linter.unusedVariables false
set_option linter.unusedSimpArgs false

/-- What a law asks of an element type. -/
structure Elem (P : Program) (t e : TypeId) (sz bytes : Nat) (z : Value) : Prop where
  ht : P.underlying t = some (.slice e)
  hi : ∃ i, P.info? e = some i ∧ i.zero = some z ∧ i.size = sz ∧ i.bytes = bytes
  hz : z.cells.size = sz
  pos : 0 < sz

section
variable {P : Program} {α : Type} {R : Rep α} {A B : Nat → Prop} {w : World} {v u : Value} {xs ys : List α} {t e : TypeId} {bytes : Nat} {z : Value}

theorem toArray_take_drop (a b c d : List Value) (h : c.length ≤ d.length) : (((a ++ b ++ d).toArray.toList.take (a.length + b.length)) ++ c ++ ((a ++ b ++ d).toArray.toList.drop (a.length + b.length + c.length))) = a ++ (b ++ c) ++ d.drop c.length := by
  simp only [List.append_assoc]
  rw [← List.append_assoc a b d, show a.length + b.length = (a ++ b).length by simp, List.take_left', List.drop_append]
  · simp
  · rfl

theorem run_append_any (E : Elem P t e R.sz bytes z) (ty : TypeId) (hown : Own R e A w v xs) (hsrc : SliceK R B w u ys) (hAB : ∀ b, B b → A b) (hrow : ∀ b, rowOf v = some b → ¬ A b)
    (hb : (xs.length + ys.length) * bytes ≤ 140737488355328) (hm : xs.length + ys.length ≤ maxLen) :
    ∃ v' w', (Builtin.append_ #[t, t] ty #[v, u]).run P w = .ok v' w' ∧ Own R e A w' v' (xs ++ ys) ∧ Keeps (fun k => rowOf v = some k) w w' ∧ (∀ k, rowOf v' = some k → rowOf v = some k ∨ w.heap.size ≤ k) ∧
      (∀ ad n c, v = .slice ad n c → xs.length + ys.length ≤ c → v' = .slice ad (xs.length + ys.length) c) := by
  obtain ⟨ht, ⟨i, hi, hz0, hsz, hby⟩, hzs, hpos⟩ := E
  have hown0 := hown
  obtain ⟨ad, c, rfl, h1, h2, h3⟩ := hown
  obtain ⟨ad2, c2, rfl, k1, k2, k3⟩ := hsrc
  have h63 : ((xs.length + ys.length : Nat) : Int) ≤ 9223372036854775807 := by simp only [maxLen] at hm; omega
  rcases k3 with rfl | ⟨b2, pre2, live2, rest2, T2, f2, rfl, hB2, hh2, hc2⟩
  · refine ⟨.slice ad xs.length c, w, ?_, by simpa using hown0, Keeps.refl _ _, fun k hk => .inl hk, by rintro _ _ _ ⟨rfl, rfl, rfl⟩ _; simp⟩
    have hfit : xs.length ≤ c := h1
    cases ad <;> cases ad2 <;> simp [Builtin.append_, run_underlying ht, sizeOf, typeInfo, hi, Builtin.lenOf, hfit, Builtin.firstCells, loadCells, loadCellsFrom, storeCells]
  · have hlen2 := hc2.length
    have hnews : ∀ j q, live2[j]? = some q → w.cell? ((⟨b2, pre2.length, none⟩ : Addr).add j) = some q := fun j q hj => by
      rw [Addr.add_lit]
      refine cellOf hh2 _ ?_
      have := (List.getElem?_eq_some_iff.1 hj).1
      simp only [List.getElem?_toArray]
      rw [List.append_assoc, List.getElem?_append_right (by omega), Nat.add_sub_cancel_left, List.getElem?_append_left this]; exact hj
    have hlive2 : live2.length = ys.length * i.size := by rw [hlen2, hsz]
    by_cases hroom : xs.length + ys.length ≤ c
    · by_cases hc0 : c = 0
      · have hy : ys = [] := List.eq_nil_of_length_eq_zero (by omega)
        have hx : xs = [] := List.eq_nil_of_length_eq_zero (by omega)
        subst hy hx
        obtain rfl : live2 = [] := List.eq_nil_of_length_eq_zero (by simpa using hlive2)
        subst hc0
        refine ⟨.slice ad 0 0, w, ?_, by simpa using hown0, Keeps.refl _ _, fun k hk => .inl hk, by rintro _ _ _ ⟨rfl, rfl, rfl⟩ _; simp⟩
        cases ad <;> simp [Builtin.append_, run_underlying ht, sizeOf, typeInfo, hi, Builtin.lenOf, Builtin.firstCells, loadCells, loadCellsFrom, storeCells]
      · rcases h3 with h3 | ⟨b, pre, live, dead, rfl, hh, hd, hc⟩
        · exact absurd h3 hc0
        have hlive := hc.length
        have hf := run_firstCells_some (P := P) w i.size ys.length ⟨b2, pre2.length, none⟩ ys.length c2 live2 hlive2 hnews
        have hdl : live2.length ≤ dead.length := by
          rw [hd, hlen2]
          exact Nat.mul_le_mul_right _ (by omega)
        have hst := run_storeCells_at P b (pre.length + xs.length * i.size) e live2 0 _ w hh (by rw [hsz, ← hlive]; simp; omega) hc2.one
        simp only [Nat.add_zero] at hst
        rw [hsz, ← hlive, toArray_take_drop _ _ _ _ hdl] at hst
        refine ⟨_, w.setRow b (pre ++ (live ++ live2) ++ dead.drop live2.length).toArray, ?_, ⟨some ⟨b, pre.length, none⟩, c, rfl, by simp; omega, h2, .inr ⟨b, pre, live ++ live2, dead.drop live2.length, rfl, setRow_heap w b _ _ e _ hh, ?_, ?_⟩⟩, (Keeps.refl _ _).setRow (.inl (by simp [rowOf, hc0])) _, fun k hk => .inl (by simpa [rowOf, hc0] using hk), by rintro _ _ _ ⟨rfl, rfl, rfl⟩ _; simp⟩
        · rw [hsz] at hf
          simp [Builtin.append_, run_underlying ht, sizeOf, typeInfo, hi, Builtin.lenOf, hroom, Addr.add_lit, hsz, ← hlive, hf, hst]
        · rw [List.length_drop, hd, hlen2, List.length_append, ← Nat.sub_mul]; congr 1; omega
        · have hA : ∀ k, A k → k < w.heap.size → (w.setRow b (pre ++ (live ++ live2) ++ dead.drop live2.length).toArray).heap[k]? = w.heap[k]? := fun k hk _ => setRow_other w b k _ fun e => hrow b (by simp [rowOf, hc0]) (e ▸ hk)
          exact (hc.keep (fun _ h => h) hA).append (hc2.keep hAB fun k hk => hA k (hAB k hk))
    · have hg : c < xs.length + ys.length := by omega
      have hcap := grownCap_ge w (xs.length + ys.length) c e
      have hcapm : grownCap w (xs.length + ys.length) c e ≤ maxLen := grownCap_le_maxLen w (xs.length + ys.length) c e hm
      have hfitb := growslice_fits hg (by rw [← hby] at hb; exact hb)
      have fin : ∀ (live : List Value), Cells R A w live xs → ∀ (w' : World), w' = w.drew.alloc (.cells (live.toArray ++ live2.toArray ++ Builtin.zeroCells z.cells (grownCap w (xs.length + ys.length) c e - (xs.length + ys.length))) e) →
          Own R e A w' (.slice (some ⟨w.heap.size, 0, none⟩) (xs.length + ys.length) (grownCap w (xs.length + ys.length) c e)) (xs ++ ys) ∧ Keeps (fun k => rowOf (.slice ad xs.length c) = some k) w w' ∧
          (∀ k, rowOf (.slice (some ⟨w.heap.size, 0, none⟩) (xs.length + ys.length) (grownCap w (xs.length + ys.length) c e)) = some k → rowOf (.slice ad xs.length c) = some k ∨ w.heap.size ≤ k) := by
        intro live hc w' hw'
        have hkeep : Keeps (fun _ => False) w w' := by rw [hw']; exact ((Keeps.refl _ _).drew).alloc _
        have hA : ∀ k, A k → k < w.heap.size → w'.heap[k]? = w.heap[k]? := fun k _ hk => hkeep.block k hk fun hf => hf
        refine ⟨⟨some ⟨w.heap.size, 0, none⟩, grownCap w (xs.length + ys.length) c e, by rw [List.length_append], by rw [List.length_append]; exact hcap, hcapm, .inr ⟨w.heap.size, [], live ++ live2, (Builtin.zeroCells z.cells (grownCap w (xs.length + ys.length) c e - (xs.length + ys.length))).toList, rfl, ?_, ?_, ?_⟩⟩, hkeep.mono fun _ _ hf => hf.elim, ?_⟩
        · rw [hw']
          have hn := heap_alloc_new w.drew (.cells (live.toArray ++ live2.toArray ++ Builtin.zeroCells z.cells (grownCap w (xs.length + ys.length) c e - (xs.length + ys.length))) e)
          rw [show w.drew.heap.size = w.heap.size from rfl] at hn
          rw [hn]
          congr 2
          apply Array.ext'; simp
        · rw [Array.length_toList, size_zeroCells, hzs, List.length_append]
        · exact (hc.keep (fun _ h => h) hA).append (hc2.keep hAB fun k hk => hA k (hAB k hk))
        · intro k hk
          refine .inr ?_
          simp only [rowOf] at hk
          split at hk
          · cases hk
          · injection hk with hk; omega
      cases ad with
      | none =>
        have hc0 : c = 0 := by
          rcases h3 with h3 | ⟨b, pre, live, dead, h, _⟩
          · exact h3
          · cases h
        subst hc0
        obtain rfl : xs = [] := List.eq_nil_of_length_eq_zero (by omega)
        obtain ⟨f1, f2, f3⟩ := fin [] .nil _ rfl
        simp only [List.length_nil, Nat.zero_add, List.nil_append] at f1 f2 f3 hg h63 hb ⊢
        exact ⟨_, _, run_append_nil (P := P) w t ty e i z ht hi hz0 ⟨b2, pre2.length, none⟩ ys.length c2 live2 hlive2 hnews hg h63 (by rw [hby]; omega), by simpa using f1, by simpa using f2, f3, by rintro _ _ _ ⟨rfl, rfl, rfl⟩ h; omega⟩
      | some a =>
        have hl : ∃ live, Cells R A w live xs ∧ ∀ j q, live[j]? = some q → w.cell? (a.add j) = some q := by
          rcases h3 with h3 | ⟨b, pre, live, dead, ha, hh, hd, hc⟩
          · obtain rfl : xs = [] := List.eq_nil_of_length_eq_zero (by omega)
            exact ⟨[], .nil, by simp⟩
          · injection ha with ha; subst ha
            refine ⟨live, hc, fun j q hj => ?_⟩
            rw [Addr.add_lit]
            refine cellOf hh _ ?_
            have := (List.getElem?_eq_some_iff.1 hj).1
            simp only [List.getElem?_toArray]
            rw [List.append_assoc, List.getElem?_append_right (by omega), Nat.add_sub_cancel_left, List.getElem?_append_left this]; exact hj
        obtain ⟨live, hc, hcell⟩ := hl
        obtain ⟨f1, f2, f3⟩ := fin live hc _ rfl
        exact ⟨_, _, run_append_grow (P := P) w t ty e i z ht hi hz0 a xs.length c live (by rw [hc.length, hsz]) hcell ⟨b2, pre2.length, none⟩ ys.length c2 live2 hlive2 hnews hg h63 hfitb, f1, f2, f3, by rintro _ _ _ ⟨rfl, rfl, rfl⟩ h; omega⟩

/-- append as a step of the walk. -/
theorem wpList_append_any {ops : Array Oper} {rest : List Oper} {o : Oper} {a : Act} {Q : Exit → Act → World → Prop} (hgd : o.guard = none) (s x : Operand)
    (ho : o.op = .call { callee := .builtin .append, args := #[s, x], argTypes := #[t, t] }) (E : Elem P t e R.sz bytes z) (v u : Value) (hs : a.eval s = v) (hx : a.eval x = u) (hown : Own R e A w v xs) (hsrc : SliceK R B w u ys) (hAB : ∀ b, B b → A b) (hrow : ∀ b, rowOf v = some b → ¬ A b)
    (hb : (xs.length + ys.length) * bytes ≤ 140737488355328) (hm : xs.length + ys.length ≤ maxLen)
    (h : ∀ v' w', Own R e A w' v' (xs ++ ys) → Keeps (fun k => rowOf v = some k) w w' → (∀ k, rowOf v' = some k → rowOf v = some k ∨ w.heap.size ≤ k) → wpList P ops Q rest (a.put o.dst v') w') : wpList P ops Q (o :: rest) a w := by
  obtain ⟨v', w', hr, h1, h2, h3, _⟩ := run_append_any (P := P) E o.type hown hsrc hAB hrow hb hm
  exact Lib.wpList_append_run w hgd s x t t ho v u hs hx v' w' hr (h v' w' h1 h2 h3)
end
end Go.Proofs.Ytidgcfgkcidkiaa.L
