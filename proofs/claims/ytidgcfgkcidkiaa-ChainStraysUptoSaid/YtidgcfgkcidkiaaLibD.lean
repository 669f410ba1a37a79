/- A library of no program: copy, clear and append-of-make over elements of any size. -/
import Derived.Test.YtidgcfgkcidkiaaLibC
namespace Go.Proofs.Ytidgcfgkcidkiaa.L
open Go Go.RowKit
set_option linter.unusedVariables false
set_option linter.unusedSimpArgs false

/-- cs laid over L from place o on. -/
def lay (L : List Value) (o : Nat) (cs : List Value) : List Value := L.take o ++ (cs ++ L.drop (o + cs.length))
theorem lay_nil (L : List Value) (o : Nat) : lay L o [] = L := by simp [lay]
theorem length_lay {L : List Value} {o : Nat} {cs : List Value} (h : o + cs.length ≤ L.length) : (lay L o cs).length = L.length := by simp [lay]; omega
theorem take_lay {L : List Value} {o : Nat} {cs : List Value} (h : o + cs.length ≤ L.length) {n : Nat} (hn : n ≤ o) : (lay L o cs).take n = L.take n := by
  unfold lay; rw [List.take_append_of_le_length (by simp; omega), List.take_take, Nat.min_eq_left hn]
theorem lay_eq {L : List Value} {o : Nat} {cs : List Value} (h : o + cs.length ≤ L.length) : lay L o cs = L.take o ++ cs ++ L.drop (o + cs.length) := by simp [lay]

theorem take_lay_end {L : List Value} {o : Nat} {cs : List Value} (h : o ≤ L.length) : (lay L o cs).take (o + cs.length) = L.take o ++ cs := by
  unfold lay
  rw [← List.append_assoc]
  exact List.take_left' (by simp; omega)
/-- Two laid one behind the other. -/
theorem take_lay2 {L C B : List Value} {q p : Nat} (hp : p = q + C.length) (h : p ≤ L.length) : (lay (lay L q C) p B).take (p + B.length) = L.take q ++ C ++ B := by
  subst hp
  rw [take_lay_end (by rw [length_lay h]; exact h), take_lay_end (by omega)]
/-- The hinder one first. -/
theorem take_lay2' {L C B : List Value} {q p : Nat} (hp : p = q + C.length) (h : p + B.length ≤ L.length) : (lay (lay L p B) q C).take (p + B.length) = L.take q ++ C ++ B := by
  subst hp
  have h1 : (lay L (q + C.length) B).take (q + C.length + B.length) = L.take (q + C.length) ++ B := take_lay_end (by omega)
  have h2 : (lay L (q + C.length) B).take q = L.take q := take_lay h (by omega)
  have h3 : (lay L (q + C.length) B).length = L.length := length_lay h
  have e : lay (lay L (q + C.length) B) q C = ((lay L (q + C.length) B).take q ++ C) ++ (lay L (q + C.length) B).drop (q + C.length) := by simp [lay]
  rw [e, h2]
  have h4 : (lay L (q + C.length) B).drop (q + C.length) = B ++ L.drop (q + C.length + B.length) := by
    unfold lay
    exact List.drop_left' (by simp; omega)
  rw [h4, ← List.append_assoc]
  exact List.take_left' (by simp; omega)
theorem lay_at {X Y Z C : List Value} {o : Nat} (ho : o = X.length) (h : Y.length = C.length) : lay (X ++ (Y ++ Z)) o C = X ++ (C ++ Z) := by
  subst ho
  unfold lay
  rw [List.take_left, List.drop_append, ← h]
  have e : List.drop (X.length + Y.length) X = [] := List.drop_eq_nil_of_le (by omega)
  rw [e, List.nil_append, Nat.add_sub_cancel_left, List.drop_left]
/-- A gap is made, and filled. -/
theorem lay_gap (pre A B D C : List Value) (h : C.length ≤ D.length) :
    lay (lay (pre ++ (A ++ B) ++ D) (pre.length + (A.length + C.length)) B) (pre.length + A.length) C = pre ++ (A ++ C ++ B) ++ D.drop C.length := by
  have e1 : pre ++ (A ++ B) ++ D = (pre ++ A ++ (B ++ D.take C.length).take C.length) ++ ((B ++ D.take C.length).drop C.length ++ D.drop C.length) := by
    have key : ∀ P1 P2 D1 D2 : List Value, P1 ++ P2 = B ++ D1 → D1 ++ D2 = D → pre ++ (A ++ B) ++ D = (pre ++ A ++ P1) ++ (P2 ++ D2) := by
      intro P1 P2 D1 D2 h1 h2
      rw [← h2]
      calc pre ++ (A ++ B) ++ (D1 ++ D2) = pre ++ A ++ ((B ++ D1) ++ D2) := by simp
        _ = _ := by rw [← h1]; simp
    exact key _ _ _ _ (List.take_append_drop _ _) (List.take_append_drop _ _)
  rw [e1, lay_at (by simp; omega) (by simp; omega)]
  have e2 : pre ++ A ++ (B ++ D.take C.length).take C.length ++ (B ++ D.drop C.length) = (pre ++ A) ++ ((B ++ D.take C.length).take C.length ++ (B ++ D.drop C.length)) := by simp
  rw [e2, lay_at (by simp) (by simp; omega)]
  simp

section
variable {P : Program}
/-- copy as one step of a region that draws. -/
theorem step_copy_gen {ops : Array Oper} {o : Oper} {a : Act} {w : World} {K : Act → World → Prop} {Q : Exit → Act → World → Prop} {E : Prop}
    (hg : o.guard = none) (d x : Operand) (dT sT : TypeId) (hop : o.op = Op.call { callee := Callee.builtin Builtin.copy, args := #[d, x], argTypes := #[dT, sT] })
    (v u : Value) (hd : a.eval d = v) (hx : a.eval x = u) {v' : Value} {w' : World} (hr : (Builtin.copy_ #[dT, sT] o.type #[v, u]).run P w = .ok v' w') (hK : K (a.put o.dst v') w') :
    if Region.wanted o (yielded ops a.tmps) = true then Oper.wp P o a w K Q else E := by
  have hw : Region.wanted o (yielded ops a.tmps) = true := by simp [Region.wanted, hg]
  rw [if_pos hw]
  unfold Oper.wp
  simp [execOp, hop, resolve, invoke, builtin, hd, hx, hr, Result.andThen]
  exact hK

theorem run_copy_gen (w : World) (dT sT ty elem : TypeId) (size : Nat) (hu : P.underlying dT = some (.slice elem)) (hs : (P.info? elem).map (·.size) = some size)
    (dp sp : Option Addr) (dLen dCap sLen sCap : Nat) (b o : Nat) (cur : List Value) (T : TypeId) (hg : w.heap[b]? = some (.cells cur.toArray T (0, 0))) (cs : List Value) (hn : cs.length = Nat.min sLen dLen * size)
    (hpos : 0 < cs.length → dp = some ⟨b, o, none⟩ ∧ ∃ ad, sp = some ad ∧ ∀ j v, cs[j]? = some v → w.cell? (ad.add j) = some v) (hfit : o + cs.length ≤ cur.length) (h1 : ∀ v ∈ cs, v.oneCell' = true) :
    (Builtin.copy_ #[dT, sT] ty #[.slice dp dLen dCap, .slice sp sLen sCap]).run P w = .ok (goInt (Nat.min sLen dLen : Nat)) (w.setRow b (lay cur o cs).toArray) := by
  cases hq : P.info? elem with
  | none => simp [hq] at hs
  | some i =>
    have hi : i.size = size := by simpa [hq] using hs
    by_cases h0 : cs.length = 0
    · obtain rfl : cs = [] := List.eq_nil_of_length_eq_zero h0
      have hm0 : Nat.min sLen dLen * size = 0 := by simpa using hn.symm
      rw [lay_nil, setRow_self w b _ T (0, 0) hg]
      cases dp <;> cases sp <;> simp [Builtin.copy_, run_underlying hu, Builtin.lenOf, Builtin.firstCells, sizeOf, typeInfo, hq, hi, hm0, loadCells, loadCellsFrom, storeCells]
    · obtain ⟨rfl, ad, rfl, hsrc⟩ := hpos (by omega)
      have hl := run_loadCells_list (P := P) w ad cs hsrc
      have hst := run_storeCells_at P b o T cs 0 cur.toArray w hg (by simpa using hfit) h1
      rw [hn] at hl
      simp [Builtin.copy_, run_underlying hu, Builtin.lenOf, Builtin.firstCells, sizeOf, typeInfo, hq, hi, hl, hst, lay]

/-- copy as an equation, its world named. -/
theorem copy_to {w : World} {dT sT elem : TypeId} {size : Nat} (hu : P.underlying dT = some (.slice elem)) (hs : (P.info? elem).map (·.size) = some size)
    {dp sp : Option Addr} {dLen dCap sLen sCap : Nat} {b o : Nat} {cur : List Value} {T : TypeId} (hg : w.heap[b]? = some (.cells cur.toArray T (0, 0))) (cs : List Value) (hn : cs.length = Nat.min sLen dLen * size)
    (hd : 0 < cs.length → dp = some ⟨b, o, none⟩) (hsrc : 0 < cs.length → ∃ ad, sp = some ad ∧ ∀ j v, cs[j]? = some v → w.cell? (ad.add j) = some v) (hfit : o + cs.length ≤ cur.length) (h1 : ∀ v ∈ cs, v.oneCell' = true) :
    ∃ W, (∀ ty, (Builtin.copy_ #[dT, sT] ty #[.slice dp dLen dCap, .slice sp sLen sCap]).run P w = .ok (goInt (Nat.min sLen dLen : Nat)) W) ∧ W.heap[b]? = some (.cells (lay cur o cs).toArray T (0, 0)) ∧ Keeps (fun k => k = b) w W :=
  ⟨_, fun ty => run_copy_gen w dT sT ty elem size hu hs dp sp dLen dCap sLen sCap b o cur T hg cs hn (fun h => ⟨hd h, hsrc h⟩) hfit h1, setRow_heap w b _ _ _ _ hg, Keeps.setRow (F := fun k => k = b) (Keeps.refl _ _) (.inl rfl) _⟩

theorem wpList_copy_gen {w : World} {ops : Array Oper} {rest : List Oper} {op : Oper} {a : Act} {Q : Exit → Act → World → Prop} (hgd : op.guard = none) (d s : Operand) (dT sT : TypeId)
    (ho : op.op = .call { callee := .builtin .copy, args := #[d, s], argTypes := #[dT, sT] }) (v u : Value) (hd : a.eval d = v) (hs : a.eval s = u) {v' : Value} {w' : World}
    (hr : (Builtin.copy_ #[dT, sT] op.type #[v, u]).run P w = .ok v' w') (h : wpList P ops Q rest (a.put op.dst v') w') : wpList P ops Q (op :: rest) a w := by
  refine wpList_plain hgd fun K hK => ?_
  unfold Oper.wp execOp
  simp only [ho, resolve, invoke, builtin, Sem.run_bind, Sem.run_pure, Result.andThen_ok, List.map_toArray, List.map_cons, List.map_nil, hd, hs, hr]
  exact hK _ _ h

theorem run_clear_gen (w : World) (t e ty : TypeId) (i : TypeInfo) (z : Value) (ht : P.underlying t = some (.slice e)) (hi : P.info? e = some i) (hz : i.zero = some z) (h1 : ∀ u ∈ z.cells.toList, u.oneCell' = true) (hzp : 0 < z.cells.size)
    (b o n c : Nat) (h0 : 0 < n) (cur : List Value) (T : TypeId) (hg : w.heap[b]? = some (.cells cur.toArray T (0, 0))) (hfit : o + n * z.cells.size ≤ cur.length) :
    (Builtin.clear_ #[t] ty #[.slice (some ⟨b, o, none⟩) n c]).run P w = .ok (.tuple #[]) (w.setRow b (lay cur o (Builtin.zeroCells z.cells n).toList).toArray) := by
  have hl : (Builtin.zeroCells z.cells n).toList.length = n * z.cells.size := by rw [Array.length_toList, size_zeroCells]
  have hmem : ∀ u ∈ (Builtin.zeroCells z.cells n).toList, u.oneCell' = true := by
    intro u hu
    simp only [Builtin.zeroCells, Array.toList_map, List.mem_map] at hu
    obtain ⟨j, _, rfl⟩ := hu
    have hlt : j % z.cells.size < z.cells.size := Nat.mod_lt _ hzp
    rw [getElem!_pos z.cells _ hlt]
    exact h1 _ (by simp)
  have hst := run_storeCells_at P b o T (Builtin.zeroCells z.cells n).toList 0 cur.toArray w hg (by rw [hl]; simpa using hfit) hmem
  obtain ⟨n, rfl⟩ : ∃ m, n = m + 1 := ⟨n - 1, by omega⟩
  simp only [Nat.add_zero] at hst
  simp [Builtin.clear_, run_underlying ht, zeroValue, typeInfo, hi, hz, hst, lay]

/-- clear as an equation, its world named. -/
theorem clear_to {w : World} {t e : TypeId} {sz bytes : Nat} {z : Value} (E : Elem P t e sz bytes z) (h1 : ∀ u ∈ z.cells.toList, u.oneCell' = true)
    {dp : Option Addr} {n c b o : Nat} {cur : List Value} {T : TypeId} (hg : w.heap[b]? = some (.cells cur.toArray T (0, 0))) (hd : 0 < n → dp = some ⟨b, o, none⟩) (hfit : o + n * sz ≤ cur.length) :
    ∃ W Z, (∀ ty, (Builtin.clear_ #[t] ty #[.slice dp n c]).run P w = .ok (.tuple #[]) W) ∧ Z.length = n * sz ∧ W.heap[b]? = some (.cells (lay cur o Z).toArray T (0, 0)) ∧ Keeps (fun k => k = b) w W := by
  obtain ⟨ht, ⟨i, hi, hz, hs, hb⟩, hzs, hpos⟩ := E
  by_cases h0 : n = 0
  · subst h0
    refine ⟨w, [], fun ty => ?_, by simp, by rw [lay_nil]; exact hg, Keeps.refl _ _⟩
    cases dp <;> simp [Builtin.clear_, run_underlying ht]
  · obtain rfl := hd (by omega)
    have hl : (Builtin.zeroCells z.cells n).toList.length = n * sz := by rw [Array.length_toList, size_zeroCells, hzs]
    exact ⟨_, (Builtin.zeroCells z.cells n).toList, fun ty => run_clear_gen w t e ty i z ht hi hz h1 (by omega) b o n c (by omega) cur T hg (by rw [hzs]; exact hfit), hl, setRow_heap w b _ _ _ _ hg, Keeps.setRow (F := fun k => k = b) (Keeps.refl _ _) (.inl rfl) _⟩

/-- append(s[:i], make(S, k)...) where it must grow. -/
theorem run_append_zeros_grow (w : World) (t tn ty e : TypeId) (i : TypeInfo) (z : Value) (kn : IntKind) (ht : P.underlying t = some (.slice e)) (htn : P.underlying tn = some (.int kn)) (hi : P.info? e = some i) (hz : i.zero = some z)
    (base : Option Addr) (sLen sCap k : Nat) (olds : List Value) (hlo : olds.length = sLen * i.size) (holds : 0 < olds.length → ∃ a, base = some a ∧ ∀ j v, olds[j]? = some v → w.cell? (a.add j) = some v) (hpos : 0 < i.size) (hk : 0 < k)
    (hg : sCap < sLen + k) (h63 : ((sLen + k : Nat) : Int) ≤ 9223372036854775807) (hfit : (sLen + k) * i.bytes ≤ 140737488355328) :
    (Builtin.append_ #[t, tn] ty #[.slice base sLen sCap, .int .i64 k]).run P w =
      .ok (.slice (some ⟨w.heap.size, 0, none⟩) (sLen + k) (grownCap w (sLen + k) sCap e))
        (w.drew.alloc (.cells (olds ++ (Builtin.zeroCells z.cells k).toList ++ (Builtin.zeroCells z.cells (grownCap w (sLen + k) sCap e - (sLen + k))).toList).toArray e)) := by
  have hw : IntKind.i64.wrap (k : Int) = k := by rw [IntKind.wrap_i64]; omega
  have hneg : ¬ ((k : Int) < 0) := by omega
  have hn : ¬ (sLen + k ≤ sCap) := by omega
  have h63' : ¬ (9223372036854775807 < ((sLen : Int) + (k : Int))) := by omega
  have hgf := growslice_fits hg hfit
  have h48' : ¬ (281474976710656 < Builtin.nextslicecap (sLen + k) sCap * i.bytes) := by omega
  have hkb : k * i.bytes ≤ 140737488355328 := Nat.le_trans (Nat.mul_le_mul_right _ (Nat.le_add_left _ _)) hfit
  have h48i : ¬ (281474976710656 < (k : Int) * (i.bytes : Int)) := by rw [← Int.natCast_mul]; omega
  have hfo : (Builtin.firstCells i.size sLen (.slice base sLen sCap)).run P w.drew = .ok olds.toArray w.drew := by
    by_cases h0 : olds.length = 0
    · obtain rfl : olds = [] := List.eq_nil_of_length_eq_zero h0
      have : sLen * i.size = 0 := by simpa using hlo.symm
      cases base <;> simp [Builtin.firstCells, this, loadCells, loadCellsFrom]
    · obtain ⟨a, rfl, hc⟩ := holds (by omega)
      exact run_firstCells_some (P := P) w.drew i.size sLen a sLen sCap olds hlo (by simpa using hc)
  have hns : ¬ (k * i.size = 0) := Nat.mul_ne_zero (by omega) (by omega)
  simp [Builtin.append_, run_underlying ht, run_underlying htn, sizeOf, typeInfo, zeroValue, hi, hz, asInt, asIntOf, hw, hn, hneg, hns, h63', h48', h48i, Question.forced, hfo, newRow, grownCap]
  congr 2
  apply Array.ext'
  simp
end
end Go.Proofs.Ytidgcfgkcidkiaa.L
