/- Texts of one proof, laid together: LibA, LibB, LibC, LibD, Ga, Gb, Gc, Gd, Ge, Gf, Gg, LibE, Gh, Gi, Gj. -/
import Derived.WalkKit
import Derived.ProofKit
import Derived.Deep.Draws
import Derived.Deep.QuietTactic
import Derived.BigQuiet
import Derived.Deep.LoopGhost
import Derived.Deep.DeepCutAuto
import Derived.Deep.RegionLaw
import Derived.Deep.RegionWith
import Derived.Deep.DeepFit
import Derived.WalkSpells
import Derived.WalkLawsBesides
import Derived.OpenShut
import Derived.Lib.SliceRun
import Derived.Lib.AppendZeros
import Derived.Lib.Overlaps
import Derived.Lib.Hide
import Derived.Laws.CopyRow
import Derived.Laws.Tables
import Derived.Deep.Slices
import Derived.Carry
import Derived.Great.BuildSlice
namespace Go.Proofs.YtidgcfgkcidkiaaGreat.L
open Go Go.RowKit
set_option linter.unusedVariables false
set_option linter.unusedSimpArgs false
/-- Outside the area F the world w' is as w was. -/
structure Keeps (F : Nat → Prop) (w w' : World) : Prop where
  os : w'.os = w.os
  tape : w'.tape = w.tape
  output : w'.output = w.output
  size : w.heap.size ≤ w'.heap.size
  block : ∀ k, k < w.heap.size → ¬ F k → w'.heap[k]? = w.heap[k]?

theorem Keeps.refl (F : Nat → Prop) (w : World) : Keeps F w w := ⟨rfl, rfl, rfl, Nat.le_refl _, fun _ _ _ => rfl⟩
theorem Keeps.mono {F G : Nat → Prop} {w w' : World} (h : Keeps F w w') (hG : ∀ k, k < w.heap.size → F k → G k) : Keeps G w w' :=
  ⟨h.os, h.tape, h.output, h.size, fun k hk hn => h.block k hk fun hf => hn (hG k hk hf)⟩
theorem Keeps.trans {F G : Nat → Prop} {w w1 w2 : World} (h : Keeps F w w1) (k : Keeps G w1 w2) (hG : ∀ b, b < w.heap.size → G b → F b) : Keeps F w w2 :=
  ⟨k.os.trans h.os, k.tape.trans h.tape, k.output.trans h.output, Nat.le_trans h.size k.size,
   fun b hb hn => (k.block b (Nat.lt_of_lt_of_le hb h.size) fun hg => hn (hG b hb hg)).trans (h.block b hb hn)⟩
theorem Keeps.step {F : Nat → Prop} {w w1 w2 : World} (h : Keeps F w w1) (k : Keeps (fun _ => False) w1 w2) : Keeps F w w2 := h.trans k fun _ _ hf => hf.elim
theorem Keeps.of_below {w w' : World} (h : Below w.heap.size w w') : Keeps (fun _ => False) w w' := ⟨h.os, h.tape, h.output, h.size, fun k hk _ => h.block k hk⟩
theorem Keeps.below {w w' : World} (h : Keeps (fun _ => False) w w') : Below w.heap.size w w' := ⟨h.os, h.tape, h.output, h.size, fun k hk => h.block k hk fun hf => hf⟩
theorem Keeps.alloc {F : Nat → Prop} {w w1 : World} (h : Keeps F w w1) (o : Obj) : Keeps F w (w1.alloc o) :=
  h.step (Keeps.of_below ((Below.refl _ _).alloc (Nat.le_refl _) o))
theorem Keeps.drew {F : Nat → Prop} {w w1 : World} (h : Keeps F w w1) : Keeps F w w1.drew := ⟨h.os, h.tape, h.output, h.size, h.block⟩
theorem Keeps.setRow {F : Nat → Prop} {w w1 : World} (h : Keeps F w w1) {g : Nat} (hp : F g ∨ w.heap.size ≤ g) (cs : Array Value) : Keeps F w (w1.setRow g cs) :=
  h.trans (G := fun k => k = g) ⟨rfl, rfl, rfl, by simp [World.setRow], fun k hk hn => setRow_other _ g k cs hn⟩ (by rintro b hb rfl; rcases hp with h | h; exact h; omega)
theorem Keeps.heap {F : Nat → Prop} {w w' : World} (h : Keeps F w w') {b : Nat} {o : Obj} (hb : w.heap[b]? = some o) (hn : ¬ F b) : w'.heap[b]? = some o :=
  (h.block b (Array.getElem?_eq_some_iff.1 hb).1 hn).trans hb
theorem lt_of_heap {w : World} {b : Nat} {o : Obj} (hb : w.heap[b]? = some o) : b < w.heap.size := (Array.getElem?_eq_some_iff.1 hb).1
theorem cellOf {w : World} {b : Nat} {cs : Array Value} {T : TypeId} {f : Nat × Nat} (h : w.heap[b]? = some (.cells cs T f)) (o : Nat) {v : Value} (hv : cs[o]? = some v) : w.cell? ⟨b, o, none⟩ = some v := by
  rw [cell_of_row w b o cs T f h, hv]
theorem freeOf {w : World} {b : Nat} {cs : Array Value} {T : TypeId} (h : w.heap[b]? = some (.cells cs T (0, 0))) (o : Nat) : w.frozen? ⟨b, o, none⟩ = false := frozen_of_row w b o cs T h
/-- How values of a Lean type stand in cells. -/
structure Rep (α : Type) where
  sz : Nat
  K : (Nat → Prop) → World → List Value → α → Prop
  len : ∀ {A w cs x}, K A w cs x → cs.length = sz
  one : ∀ {A w cs x}, K A w cs x → ∀ u ∈ cs, u.oneCell' = true
  keep : ∀ {A A' w w' cs x}, (∀ b, A b → A' b) → (∀ b, A b → b < w.heap.size → w'.heap[b]? = w.heap[b]?) → K A w cs x → K A' w' cs x

/-- Consecutive elements. -/
inductive Cells {α : Type} (R : Rep α) (A : Nat → Prop) (w : World) : List Value → List α → Prop where
  | nil : Cells R A w [] []
  | cons {cs x rest xs} : R.K A w cs x → Cells R A w rest xs → Cells R A w (cs ++ rest) (x :: xs)

section
variable {α : Type} {R : Rep α} {A : Nat → Prop} {w : World}
theorem Cells.length {cs : List Value} {xs : List α} (h : Cells R A w cs xs) : cs.length = xs.length * R.sz := by
  induction h with
  | nil => simp
  | cons h _ ih => simp [R.len h, ih, Nat.succ_mul, Nat.add_comm]
theorem Cells.one {cs : List Value} {xs : List α} (h : Cells R A w cs xs) : ∀ u ∈ cs, u.oneCell' = true := by
  induction h with
  | nil => simp
  | cons h _ ih => intro u hu; rcases List.mem_append.1 hu with h1 | h1; exact R.one h u h1; exact ih u h1
theorem Cells.keep {A' : Nat → Prop} {w' : World} (hA : ∀ b, A b → A' b) (hw : ∀ b, A b → b < w.heap.size → w'.heap[b]? = w.heap[b]?) {cs : List Value} {xs : List α} (h : Cells R A w cs xs) : Cells R A' w' cs xs := by
  induction h with
  | nil => exact .nil
  | cons h _ ih => exact .cons (R.keep hA hw h) ih
theorem Cells.append {cs ds : List Value} {xs ys : List α} (h : Cells R A w cs xs) (k : Cells R A w ds ys) : Cells R A w (cs ++ ds) (xs ++ ys) := by
  induction h with
  | nil => exact k
  | cons h _ ih => rw [List.append_assoc]; exact .cons h ih
theorem Cells.single {cs : List Value} {x : α} (h : R.K A w cs x) : Cells R A w cs [x] := by have := Cells.cons h Cells.nil; rwa [List.append_nil] at this
theorem Cells.split {cs : List Value} {xs : List α} (h : Cells R A w cs xs) (n : Nat) (hn : n ≤ xs.length) : Cells R A w (cs.take (n * R.sz)) (xs.take n) ∧ Cells R A w (cs.drop (n * R.sz)) (xs.drop n) := by
  induction h generalizing n with
  | nil => simp at hn; subst hn; simp; exact Cells.nil
  | @cons c x rest xs h hr ih =>
    cases n with
    | zero => simp; exact ⟨.nil, .cons h hr⟩
    | succ n =>
      have hl := R.len h
      obtain ⟨i1, i2⟩ := ih n (by simp at hn; omega)
      have e : (n + 1) * R.sz = c.length + n * R.sz := by rw [hl, Nat.succ_mul, Nat.add_comm]
      rw [e]
      refine ⟨?_, ?_⟩
      · rw [List.take_length_add_append]; exact .cons h i1
      · rw [List.drop_length_add_append]; exact i2
theorem Cells.take {cs : List Value} {xs : List α} (h : Cells R A w cs xs) (n : Nat) (hn : n ≤ xs.length) : Cells R A w (cs.take (n * R.sz)) (xs.take n) := (h.split n hn).1
theorem Cells.drop {cs : List Value} {xs : List α} (h : Cells R A w cs xs) (n : Nat) (hn : n ≤ xs.length) : Cells R A w (cs.drop (n * R.sz)) (xs.drop n) := (h.split n hn).2
theorem Cells.get {cs : List Value} {xs : List α} (h : Cells R A w cs xs) {i : Nat} {x : α} (hi : xs[i]? = some x) : ∃ c, R.K A w c x ∧ ∀ j u, c[j]? = some u → cs[i * R.sz + j]? = some u := by
  induction h generalizing i with
  | nil => simp at hi
  | @cons c y rest xs h hr ih =>
    cases i with
    | zero =>
      simp at hi; subst hi
      refine ⟨c, h, fun j u hu => ?_⟩
      rw [Nat.zero_mul, Nat.zero_add, List.getElem?_append_left (List.getElem?_eq_some_iff.1 hu).1]; exact hu
    | succ i =>
      simp at hi
      obtain ⟨c', h', hc'⟩ := ih hi
      refine ⟨c', h', fun j u hu => ?_⟩
      have hl := R.len h
      rw [show (i + 1) * R.sz + j = c.length + (i * R.sz + j) by rw [hl, Nat.succ_mul]; omega, List.getElem?_append_right (by omega), Nat.add_sub_cancel_left]
      exact hc' j u hu
end
/-- A slice that is read. -/
def SliceK {α : Type} (R : Rep α) (A : Nat → Prop) (w : World) (v : Value) (xs : List α) : Prop :=
  ∃ ad c, v = .slice ad xs.length c ∧ xs.length ≤ c ∧ c ≤ maxLen ∧
    (xs = [] ∨ ∃ b pre live rest T f, ad = some ⟨b, pre.length, none⟩ ∧ A b ∧ w.heap[b]? = some (.cells (pre ++ live ++ rest).toArray T f) ∧ Cells R A w live xs)

/-- A slice whose row is its own. -/
def Own {α : Type} (R : Rep α) (T : TypeId) (A : Nat → Prop) (w : World) (v : Value) (xs : List α) : Prop :=
  ∃ ad c, v = .slice ad xs.length c ∧ xs.length ≤ c ∧ c ≤ maxLen ∧
    (c = 0 ∨ ∃ b pre live dead, ad = some ⟨b, pre.length, none⟩ ∧ w.heap[b]? = some (.cells (pre ++ live ++ dead).toArray T (0, 0)) ∧ dead.length = (c - xs.length) * R.sz ∧ Cells R A w live xs)

/-- The block of a slice's row. -/
def rowOf : Value → Option Nat
  | .slice (some a) _ c => if c = 0 then none else some a.block
  | _ => none

theorem SliceK.keep {α : Type} {R : Rep α} {A A' : Nat → Prop} {w w' : World} {v : Value} {xs : List α} (hA : ∀ b, A b → A' b) (hw : ∀ b, A b → b < w.heap.size → w'.heap[b]? = w.heap[b]?) (h : SliceK R A w v xs) : SliceK R A' w' v xs := by
  obtain ⟨ad, c, hv, h1, h2, h3⟩ := h
  refine ⟨ad, c, hv, h1, h2, ?_⟩
  rcases h3 with h3 | ⟨b, pre, live, rest, T, f, ha, hb, hh, hc⟩
  · exact .inl h3
  · exact .inr ⟨b, pre, live, rest, T, f, ha, hA b hb, (hw b hb (lt_of_heap hh)).trans hh, hc.keep hA hw⟩

theorem Own.keep {α : Type} {R : Rep α} {T : TypeId} {A A' : Nat → Prop} {w w' : World} {v : Value} {xs : List α} (h : Own R T A w v xs) (hA : ∀ b, A b → A' b) (hw : ∀ b, A b → b < w.heap.size → w'.heap[b]? = w.heap[b]?)
    (hr : ∀ b, rowOf v = some b → b < w.heap.size → w'.heap[b]? = w.heap[b]?) : Own R T A' w' v xs := by
  obtain ⟨ad, c, rfl, h1, h2, h3⟩ := h
  refine ⟨ad, c, rfl, h1, h2, ?_⟩
  rcases h3 with h3 | ⟨b, pre, live, dead, rfl, hh, hd, hc⟩
  · exact .inl h3
  · by_cases h0 : c = 0
    · exact .inl h0
    · exact .inr ⟨b, pre, live, dead, rfl, (hr b (by simp [rowOf, h0]) (lt_of_heap hh)).trans hh, hd, hc.keep hA hw⟩
theorem Own.lt {α : Type} {R : Rep α} {T : TypeId} {A : Nat → Prop} {w : World} {v : Value} {xs : List α} (h : Own R T A w v xs) : ∀ b, rowOf v = some b → b < w.heap.size := by
  obtain ⟨ad, c, rfl, h1, h2, h3⟩ := h
  intro k hk
  rcases h3 with rfl | ⟨b, pre, live, dead, rfl, hh, hd, hc⟩
  · cases ad <;> simp [rowOf] at hk
  · simp only [rowOf] at hk
    split at hk
    · cases hk
    · injection hk with hk; subst hk; exact lt_of_heap hh
theorem Own.type {α : Type} {R : Rep α} {T : TypeId} {A : Nat → Prop} {w : World} {v : Value} {xs : List α} (h : Own R T A w v xs) : ∀ b, rowOf v = some b → ∃ cs, w.heap[b]? = some (.cells cs T (0, 0)) := by
  obtain ⟨ad, c, rfl, h1, h2, h3⟩ := h
  intro k hk
  rcases h3 with rfl | ⟨b, pre, live, dead, rfl, hh, hd, hc⟩
  · cases ad <;> simp [rowOf] at hk
  · simp only [rowOf] at hk
    split at hk
    · cases hk
    · injection hk with hk; subst hk; exact ⟨_, hh⟩
/-- An owned row is read, if its block is in the area. -/
theorem Own.slice {α : Type} {R : Rep α} {T : TypeId} {A A' : Nat → Prop} {w : World} {v : Value} {xs : List α} (h : Own R T A w v xs) (hA : ∀ b, A b → A' b) (hr : ∀ b, rowOf v = some b → A' b) : SliceK R A' w v xs := by
  obtain ⟨ad, c, rfl, h1, h2, h3⟩ := h
  refine ⟨ad, c, rfl, h1, h2, ?_⟩
  rcases h3 with h3 | ⟨b, pre, live, dead, rfl, hh, hd, hc⟩
  · exact .inl (List.eq_nil_of_length_eq_zero (by omega))
  · by_cases h0 : c = 0
    · exact .inl (List.eq_nil_of_length_eq_zero (by omega))
    · exact .inr ⟨b, pre, live, dead, T, (0, 0), rfl, hr b (by simp [rowOf, h0]), hh, hc.keep hA fun _ _ _ => rfl⟩
theorem Own.form {α : Type} {R : Rep α} {T : TypeId} {A : Nat → Prop} {w : World} {v : Value} {xs : List α} (h : Own R T A w v xs) : ∃ ad c, v = .slice ad xs.length c ∧ xs.length ≤ c ∧ c ≤ maxLen := by
  obtain ⟨ad, c, rfl, h1, h2, _⟩ := h; exact ⟨ad, c, rfl, h1, h2⟩
theorem SliceK.form {α : Type} {R : Rep α} {A : Nat → Prop} {w : World} {v : Value} {xs : List α} (h : SliceK R A w v xs) : ∃ ad c, v = .slice ad xs.length c ∧ xs.length ≤ c ∧ c ≤ maxLen := by
  obtain ⟨ad, c, rfl, h1, h2, _⟩ := h; exact ⟨ad, c, rfl, h1, h2⟩
theorem own_nil {α : Type} (R : Rep α) (T : TypeId) (A : Nat → Prop) (w : World) : Own R T A w (.slice none 0 0) [] := ⟨none, 0, rfl, Nat.le_refl _, Nat.zero_le _, .inl rfl⟩
/-- The cells of a slice that is read. -/
theorem SliceK.cells {α : Type} {R : Rep α} {A : Nat → Prop} {w : World} {ad : Option Addr} {n c : Nat} {xs : List α} (h : SliceK R A w (.slice ad n c) xs) (h0 : 0 < xs.length) :
    ∃ b o cs, ad = some ⟨b, o, none⟩ ∧ A b ∧ b < w.heap.size ∧ Cells R A w cs xs ∧ (∀ j u, cs[j]? = some u → w.cell? ⟨b, o + j, none⟩ = some u) := by
  obtain ⟨ad', c', hv, h1, h2, h3⟩ := h
  injection hv with e1 e2 e3
  subst e1 e3
  rcases h3 with rfl | ⟨b, pre, live, rest, T, f, rfl, hb, hh, hc⟩
  · simp at h0
  · refine ⟨b, pre.length, live, rfl, hb, lt_of_heap hh, hc, fun j u hu => ?_⟩
    refine cellOf hh _ ?_
    have hj := (List.getElem?_eq_some_iff.1 hu).1
    simp only [List.getElem?_toArray]
    rw [List.append_assoc, List.getElem?_append_right (by omega), Nat.add_sub_cancel_left, List.getElem?_append_left hj]; exact hu
end Go.Proofs.YtidgcfgkcidkiaaGreat.L
namespace Go.Proofs.YtidgcfgkcidkiaaGreat.L
open Go Go.RowKit
set_option linter.unusedVariables false
set_option linter.unusedSimpArgs false
/-- What a law asks of an element type. -/
structure Elem (P : Program) (t e : TypeId) (sz bytes : Nat) (z : Value) : Prop where
  ht : P.underlying t = some (.slice e)
  hi : ∃ i, P.info? e = some i ∧ i.zero = some z ∧ i.size = sz ∧ i.bytes = bytes
  hz : z.cells.size = sz
  pos : 0 < sz

section
variable {P : Program} {α : Type} {R : Rep α} {A B : Nat → Prop} {w : World} {v u : Value} {xs ys : List α} {t e : TypeId} {bytes : Nat} {z : Value}
theorem toArray_take_drop (a b c d : List Value) (h : c.length ≤ d.length) : (((a ++ b ++ d).toArray.toList.take (a.length + b.length)) ++ c ++ ((a ++ b ++ d).toArray.toList.drop (a.length + b.length + c.length))) = a ++ (b ++ c) ++ d.drop c.length := by
  simp only [List.append_assoc]
  rw [← List.append_assoc a b d, show a.length + b.length = (a ++ b).length by simp, List.take_left', List.drop_append]
  · simp
  · rfl

theorem run_append_any (E : Elem P t e R.sz bytes z) (ty : TypeId) (hown : Own R e A w v xs) (hsrc : SliceK R B w u ys) (hAB : ∀ b, B b → A b) (hrow : ∀ b, rowOf v = some b → ¬ A b)
    (hb : (xs.length + ys.length) * bytes ≤ 140737488355328) (hm : xs.length + ys.length ≤ maxLen) :
    ∃ v' w', (Builtin.append_ #[t, t] ty #[v, u]).run P w = .ok v' w' ∧ Own R e A w' v' (xs ++ ys) ∧ Keeps (fun k => rowOf v = some k) w w' ∧ (∀ k, rowOf v' = some k → rowOf v = some k ∨ w.heap.size ≤ k) ∧
      (∀ ad n c, v = .slice ad n c → xs.length + ys.length ≤ c → v' = .slice ad (xs.length + ys.length) c) := by
  obtain ⟨ht, ⟨i, hi, hz0, hsz, hby⟩, hzs, hpos⟩ := E
  have hown0 := hown
  obtain ⟨ad, c, rfl, h1, h2, h3⟩ := hown
  obtain ⟨ad2, c2, rfl, k1, k2, k3⟩ := hsrc
  have h63 : ((xs.length + ys.length : Nat) : Int) ≤ 9223372036854775807 := by simp only [maxLen] at hm; omega
  rcases k3 with rfl | ⟨b2, pre2, live2, rest2, T2, f2, rfl, hB2, hh2, hc2⟩
  · refine ⟨.slice ad xs.length c, w, ?_, by simpa using hown0, Keeps.refl _ _, fun k hk => .inl hk, by rintro _ _ _ ⟨rfl, rfl, rfl⟩ _; simp⟩
    have hfit : xs.length ≤ c := h1
    cases ad <;> cases ad2 <;> simp [Builtin.append_, run_underlying ht, sizeOf, typeInfo, hi, Builtin.lenOf, hfit, Builtin.firstCells, loadCells, loadCellsFrom, storeCells]
  · have hlen2 := hc2.length
    have hnews : ∀ j q, live2[j]? = some q → w.cell? ((⟨b2, pre2.length, none⟩ : Addr).add j) = some q := fun j q hj => by
      rw [Addr.add_lit]
      refine cellOf hh2 _ ?_
      have := (List.getElem?_eq_some_iff.1 hj).1
      simp only [List.getElem?_toArray]
      rw [List.append_assoc, List.getElem?_append_right (by omega), Nat.add_sub_cancel_left, List.getElem?_append_left this]; exact hj
    have hlive2 : live2.length = ys.length * i.size := by rw [hlen2, hsz]
    by_cases hroom : xs.length + ys.length ≤ c
    · by_cases hc0 : c = 0
      · have hy : ys = [] := List.eq_nil_of_length_eq_zero (by omega)
        have hx : xs = [] := List.eq_nil_of_length_eq_zero (by omega)
        subst hy hx
        obtain rfl : live2 = [] := List.eq_nil_of_length_eq_zero (by simpa using hlive2)
        subst hc0
        refine ⟨.slice ad 0 0, w, ?_, by simpa using hown0, Keeps.refl _ _, fun k hk => .inl hk, by rintro _ _ _ ⟨rfl, rfl, rfl⟩ _; simp⟩
        cases ad <;> simp [Builtin.append_, run_underlying ht, sizeOf, typeInfo, hi, Builtin.lenOf, Builtin.firstCells, loadCells, loadCellsFrom, storeCells]
      · rcases h3 with h3 | ⟨b, pre, live, dead, rfl, hh, hd, hc⟩
        · exact absurd h3 hc0
        have hlive := hc.length
        have hf := run_firstCells_some (P := P) w i.size ys.length ⟨b2, pre2.length, none⟩ ys.length c2 live2 hlive2 hnews
        have hdl : live2.length ≤ dead.length := by
          rw [hd, hlen2]
          exact Nat.mul_le_mul_right _ (by omega)
        have hst := run_storeCells_at P b (pre.length + xs.length * i.size) e live2 0 _ w hh (by rw [hsz, ← hlive]; simp; omega) hc2.one
        simp only [Nat.add_zero] at hst
        rw [hsz, ← hlive, toArray_take_drop _ _ _ _ hdl] at hst
        refine ⟨_, w.setRow b (pre ++ (live ++ live2) ++ dead.drop live2.length).toArray, ?_, ⟨some ⟨b, pre.length, none⟩, c, rfl, by simp; omega, h2, .inr ⟨b, pre, live ++ live2, dead.drop live2.length, rfl, setRow_heap w b _ _ e _ hh, ?_, ?_⟩⟩, (Keeps.refl _ _).setRow (.inl (by simp [rowOf, hc0])) _, fun k hk => .inl (by simpa [rowOf, hc0] using hk), by rintro _ _ _ ⟨rfl, rfl, rfl⟩ _; simp⟩
        · rw [hsz] at hf
          simp [Builtin.append_, run_underlying ht, sizeOf, typeInfo, hi, Builtin.lenOf, hroom, Addr.add_lit, hsz, ← hlive, hf, hst]
        · rw [List.length_drop, hd, hlen2, List.length_append, ← Nat.sub_mul]; congr 1; omega
        · have hA : ∀ k, A k → k < w.heap.size → (w.setRow b (pre ++ (live ++ live2) ++ dead.drop live2.length).toArray).heap[k]? = w.heap[k]? := fun k hk _ => setRow_other w b k _ fun e => hrow b (by simp [rowOf, hc0]) (e ▸ hk)
          exact (hc.keep (fun _ h => h) hA).append (hc2.keep hAB fun k hk => hA k (hAB k hk))
    · have hg : c < xs.length + ys.length := by omega
      have hcap := grownCap_ge w (xs.length + ys.length) c e
      have hcapm : grownCap w (xs.length + ys.length) c e ≤ maxLen := grownCap_le_maxLen w (xs.length + ys.length) c e hm
      have hfitb := growslice_fits hg (by rw [← hby] at hb; exact hb)
      have fin : ∀ (live : List Value), Cells R A w live xs → ∀ (w' : World), w' = w.drew.alloc (.cells (live.toArray ++ live2.toArray ++ Builtin.zeroCells z.cells (grownCap w (xs.length + ys.length) c e - (xs.length + ys.length))) e) →
          Own R e A w' (.slice (some ⟨w.heap.size, 0, none⟩) (xs.length + ys.length) (grownCap w (xs.length + ys.length) c e)) (xs ++ ys) ∧ Keeps (fun k => rowOf (.slice ad xs.length c) = some k) w w' ∧
          (∀ k, rowOf (.slice (some ⟨w.heap.size, 0, none⟩) (xs.length + ys.length) (grownCap w (xs.length + ys.length) c e)) = some k → rowOf (.slice ad xs.length c) = some k ∨ w.heap.size ≤ k) := by
        intro live hc w' hw'
        have hkeep : Keeps (fun _ => False) w w' := by rw [hw']; exact ((Keeps.refl _ _).drew).alloc _
        have hA : ∀ k, A k → k < w.heap.size → w'.heap[k]? = w.heap[k]? := fun k _ hk => hkeep.block k hk fun hf => hf
        refine ⟨⟨some ⟨w.heap.size, 0, none⟩, grownCap w (xs.length + ys.length) c e, by rw [List.length_append], by rw [List.length_append]; exact hcap, hcapm, .inr ⟨w.heap.size, [], live ++ live2, (Builtin.zeroCells z.cells (grownCap w (xs.length + ys.length) c e - (xs.length + ys.length))).toList, rfl, ?_, ?_, ?_⟩⟩, hkeep.mono fun _ _ hf => hf.elim, ?_⟩
        · rw [hw']
          have hn := heap_alloc_new w.drew (.cells (live.toArray ++ live2.toArray ++ Builtin.zeroCells z.cells (grownCap w (xs.length + ys.length) c e - (xs.length + ys.length))) e)
          rw [show w.drew.heap.size = w.heap.size from rfl] at hn
          rw [hn]
          congr 2
          apply Array.ext'; simp
        · rw [Array.length_toList, size_zeroCells, hzs, List.length_append]
        · exact (hc.keep (fun _ h => h) hA).append (hc2.keep hAB fun k hk => hA k (hAB k hk))
        · intro k hk
          refine .inr ?_
          simp only [rowOf] at hk
          split at hk
          · cases hk
          · injection hk with hk; omega
      cases ad with
      | none =>
        have hc0 : c = 0 := by
          rcases h3 with h3 | ⟨b, pre, live, dead, h, _⟩
          · exact h3
          · cases h
        subst hc0
        obtain rfl : xs = [] := List.eq_nil_of_length_eq_zero (by omega)
        obtain ⟨f1, f2, f3⟩ := fin [] .nil _ rfl
        simp only [List.length_nil, Nat.zero_add, List.nil_append] at f1 f2 f3 hg h63 hb ⊢
        exact ⟨_, _, run_append_nil (P := P) w t ty e i z ht hi hz0 ⟨b2, pre2.length, none⟩ ys.length c2 live2 hlive2 hnews hg h63 (by rw [hby]; omega), by simpa using f1, by simpa using f2, f3, by rintro _ _ _ ⟨rfl, rfl, rfl⟩ h; omega⟩
      | some a =>
        have hl : ∃ live, Cells R A w live xs ∧ ∀ j q, live[j]? = some q → w.cell? (a.add j) = some q := by
          rcases h3 with h3 | ⟨b, pre, live, dead, ha, hh, hd, hc⟩
          · obtain rfl : xs = [] := List.eq_nil_of_length_eq_zero (by omega)
            exact ⟨[], .nil, by simp⟩
          · injection ha with ha; subst ha
            refine ⟨live, hc, fun j q hj => ?_⟩
            rw [Addr.add_lit]
            refine cellOf hh _ ?_
            have := (List.getElem?_eq_some_iff.1 hj).1
            simp only [List.getElem?_toArray]
            rw [List.append_assoc, List.getElem?_append_right (by omega), Nat.add_sub_cancel_left, List.getElem?_append_left this]; exact hj
        obtain ⟨live, hc, hcell⟩ := hl
        obtain ⟨f1, f2, f3⟩ := fin live hc _ rfl
        exact ⟨_, _, run_append_grow (P := P) w t ty e i z ht hi hz0 a xs.length c live (by rw [hc.length, hsz]) hcell ⟨b2, pre2.length, none⟩ ys.length c2 live2 hlive2 hnews hg h63 hfitb, f1, f2, f3, by rintro _ _ _ ⟨rfl, rfl, rfl⟩ h; omega⟩

/-- append as a step of the walk. -/
theorem wpList_append_any {ops : Array Oper} {rest : List Oper} {o : Oper} {a : Act} {Q : Exit → Act → World → Prop} (hgd : o.guard = none) (s x : Operand)
    (ho : o.op = .call { callee := .builtin .append, args := #[s, x], argTypes := #[t, t] }) (E : Elem P t e R.sz bytes z) (v u : Value) (hs : a.eval s = v) (hx : a.eval x = u) (hown : Own R e A w v xs) (hsrc : SliceK R B w u ys) (hAB : ∀ b, B b → A b) (hrow : ∀ b, rowOf v = some b → ¬ A b)
    (hb : (xs.length + ys.length) * bytes ≤ 140737488355328) (hm : xs.length + ys.length ≤ maxLen)
    (h : ∀ v' w', Own R e A w' v' (xs ++ ys) → Keeps (fun k => rowOf v = some k) w w' → (∀ k, rowOf v' = some k → rowOf v = some k ∨ w.heap.size ≤ k) → wpList P ops Q rest (a.put o.dst v') w') : wpList P ops Q (o :: rest) a w := by
  obtain ⟨v', w', hr, h1, h2, h3, _⟩ := run_append_any (P := P) E o.type hown hsrc hAB hrow hb hm
  exact Lib.wpList_append_run w hgd s x t t ho v u hs hx v' w' hr (h v' w' h1 h2 h3)
end
end Go.Proofs.YtidgcfgkcidkiaaGreat.L
namespace Go.Proofs.YtidgcfgkcidkiaaGreat.L
open Go Go.RowKit
set_option linter.unusedVariables false
set_option linter.unusedSimpArgs false
/-- A number of a kind, in its range. -/
structure InK (k : IntKind) (x : Int) : Prop where
  wf : (Lit.int k x).wf = true
theorem InK.u64 {x : Int} (h : InK .u64 x) : 0 ≤ x ∧ x ≤ 18446744073709551615 := by simpa [Lit.wf, IntKind.min, IntKind.max, IntKind.signed, IntKind.bits] using h.wf
theorem InK.u8 {x : Int} (h : InK .u8 x) : 0 ≤ x ∧ x ≤ 255 := by simpa [Lit.wf, IntKind.min, IntKind.max, IntKind.signed, IntKind.bits] using h.wf
theorem InK.i64 {x : Int} (h : InK .i64 x) : -9223372036854775808 ≤ x ∧ x ≤ 9223372036854775807 := by simpa [Lit.wf, IntKind.min, IntKind.max, IntKind.signed, IntKind.bits] using h.wf
/-- A flat reading: the cells are a function of the value. -/
def flat {α : Type} (n : Nat) (enc : α → List Value) (ok : α → Prop) (hl : ∀ x, (enc x).length = n) (h1 : ∀ x, ∀ u ∈ enc x, u.oneCell' = true) : Rep α where
  sz := n
  K := fun _ _ cs x => cs = enc x ∧ ok x
  len := by rintro A w cs x ⟨rfl, _⟩; exact hl x
  one := by rintro A w cs x ⟨rfl, _⟩; exact h1 x
  keep := fun _ _ h => h
def num (k : IntKind) : Rep Int := flat 1 (fun x => [.int k x]) (InK k) (fun _ => rfl) (by intro x u hu; simp at hu; subst hu; rfl)
def boolR : Rep Bool := flat 1 (fun x => [.bool x]) (fun _ => True) (fun _ => rfl) (by intro x u hu; simp at hu; subst hu; rfl)
/-- One reading behind the other. -/
def pair {α β : Type} (a : Rep α) (b : Rep β) : Rep (α × β) where
  sz := a.sz + b.sz
  K := fun A w cs x => ∃ c1 c2, cs = c1 ++ c2 ∧ a.K A w c1 x.1 ∧ b.K A w c2 x.2
  len := by rintro A w cs x ⟨c1, c2, rfl, h1, h2⟩; simp [a.len h1, b.len h2]
  one := by rintro A w cs x ⟨c1, c2, rfl, h1, h2⟩ u hu; rcases List.mem_append.1 hu with h | h; exact a.one h1 u h; exact b.one h2 u h
  keep := by rintro A A' w w' cs x hA hw ⟨c1, c2, rfl, h1, h2⟩; exact ⟨c1, c2, rfl, a.keep hA hw h1, b.keep hA hw h2⟩
def iso {α β : Type} (a : Rep α) (f : β → α) : Rep β where
  sz := a.sz
  K := fun A w cs x => a.K A w cs (f x)
  len := a.len
  one := a.one
  keep := a.keep
def slice {α : Type} (R : Rep α) : Rep (List α) where
  sz := 1
  K := fun A w cs x => ∃ v, cs = [v] ∧ SliceK R A w v x
  len := by rintro A w cs x ⟨v, rfl, h⟩; rfl
  one := by rintro A w cs x ⟨v, rfl, h⟩ u hu; obtain ⟨ad, c, rfl, _⟩ := h; simp at hu; subst hu; rfl
  keep := by rintro A A' w w' cs x hA hw ⟨v, rfl, h⟩; exact ⟨v, rfl, h.keep hA hw⟩
theorem own_zero {α : Type} (R : Rep α) (T : TypeId) (A : Nat → Prop) (w : World) (ad : Option Addr) : Own R T A w (.slice ad 0 0) [] := ⟨ad, 0, rfl, Nat.le_refl _, Nat.zero_le _, .inl rfl⟩
theorem SliceK.alloc {α : Type} {R : Rep α} {A : Nat → Prop} {w : World} {v : Value} {xs : List α} (h : SliceK R A w v xs) (o : Obj) : SliceK R A (w.alloc o) v xs := h.keep (fun _ h => h) fun b _ hb => heap_alloc_old w o hb
theorem Own.alloc {α : Type} {R : Rep α} {T : TypeId} {A : Nat → Prop} {w : World} {v : Value} {xs : List α} (h : Own R T A w v xs) (o : Obj) : Own R T A (w.alloc o) v xs := h.keep (fun _ h => h) (fun b _ hb => heap_alloc_old w o hb) fun b _ hb => heap_alloc_old w o hb
theorem SliceK.kept {α : Type} {R : Rep α} {A F : Nat → Prop} {w w' : World} {v : Value} {xs : List α} (h : SliceK R A w v xs) (hk : Keeps F w w') (hd : ∀ b, A b → b < w.heap.size → ¬ F b) : SliceK R A w' v xs := h.keep (fun _ h => h) fun b hb hl => hk.block b hl (hd b hb hl)
theorem Own.kept {α : Type} {R : Rep α} {T : TypeId} {A F : Nat → Prop} {w w' : World} {v : Value} {xs : List α} (h : Own R T A w v xs) (hk : Keeps F w w') (hd : ∀ b, A b → b < w.heap.size → ¬ F b) (hr : ∀ b, rowOf v = some b → b < w.heap.size → ¬ F b) : Own R T A w' v xs :=
  h.keep (fun _ h => h) (fun b hb hl => hk.block b hl (hd b hb hl)) fun b hb hl => hk.block b hl (hr b hb hl)
theorem SliceK.nil_none {α : Type} {R : Rep α} {A : Nat → Prop} {w : World} {n c : Nat} {xs : List α} (h : SliceK R A w (.slice none n c) xs) : xs = [] ∧ n = 0 := by
  obtain ⟨ad, c', hv, h1, h2, h3⟩ := h
  injection hv with e1 e2 e3
  subst e1
  rcases h3 with rfl | ⟨b, pre, live, rest, T, f, ha, _⟩
  · exact ⟨rfl, by simpa using e2⟩
  · cases ha
theorem rowOf_zero (ad : Option Addr) (n : Nat) : rowOf (.slice ad n 0) = none := by cases ad <;> simp [rowOf]
theorem Own.bounds {α : Type} {R : Rep α} {T : TypeId} {A : Nat → Prop} {w : World} {ad : Option Addr} {n c : Nat} {xs : List α} (h : Own R T A w (.slice ad n c) xs) : n = xs.length ∧ n ≤ c ∧ c ≤ 9223372036854775807 := by
  obtain ⟨ad', c', hv, h1, h2, _⟩ := h
  injection hv with e1 e2 e3
  subst e2 e3
  unfold maxLen at h2
  exact ⟨rfl, h1, by omega⟩
theorem SliceK.bounds {α : Type} {R : Rep α} {A : Nat → Prop} {w : World} {ad : Option Addr} {n c : Nat} {xs : List α} (h : SliceK R A w (.slice ad n c) xs) : n = xs.length ∧ n ≤ c ∧ c ≤ 9223372036854775807 := by
  obtain ⟨ad', c', hv, h1, h2, _⟩ := h
  injection hv with e1 e2 e3
  subst e2 e3
  unfold maxLen at h2
  exact ⟨rfl, h1, by omega⟩
theorem Own.addr {α : Type} {R : Rep α} {T : TypeId} {A : Nat → Prop} {w : World} {ad : Option Addr} {n c : Nat} {xs : List α} (h : Own R T A w (.slice ad n c) xs) (h0 : c ≠ 0) : ∃ b o, ad = some ⟨b, o, none⟩ := by
  obtain ⟨ad', c', hv, h1, h2, h3⟩ := h
  injection hv with e1 e2 e3
  subst e1 e3
  rcases h3 with h3 | ⟨b, pre, live, dead, rfl, _⟩
  · exact absurd h3 h0
  · exact ⟨b, pre.length, rfl⟩
theorem Own.take {α : Type} {R : Rep α} {T : TypeId} {A : Nat → Prop} {w : World} {ad : Option Addr} {n c : Nat} {xs : List α} (h : Own R T A w (.slice ad n c) xs) {i : Nat} (hi : i ≤ xs.length) : Own R T A w (.slice ad i c) (xs.take i) := by
  obtain ⟨ad', c', hv, h1, h2, h3⟩ := h
  injection hv with e1 e2 e3
  subst e1 e3
  have hl : (xs.take i).length = i := by rw [List.length_take]; omega
  refine ⟨ad, c, by rw [hl], by rw [hl]; omega, h2, ?_⟩
  rcases h3 with h3 | ⟨b, pre, live, dead, rfl, hh, hd, hc⟩
  · exact .inl h3
  · have hlen := hc.length
    have hle : i * R.sz ≤ xs.length * R.sz := Nat.mul_le_mul_right _ hi
    refine .inr ⟨b, pre, live.take (i * R.sz), live.drop (i * R.sz) ++ dead, rfl, ?_, ?_, hc.take i hi⟩
    · rw [hh]; congr 3; rw [List.append_assoc, List.append_assoc, ← List.append_assoc (live.take _), List.take_append_drop]
    · rw [List.length_append, List.length_drop, hd, hlen, hl, Nat.sub_mul, Nat.sub_mul]
      have : xs.length * R.sz ≤ c * R.sz := Nat.mul_le_mul_right _ h1
      omega
def mx (a b : Int) : Int := if a < b then b else a
def mn (a b : Int) : Int := if b < a then b else a
theorem max_go (ats : Array TypeId) (ty : TypeId) (k k' : IntKind) (x y : Int) : Builtin.max_ ats ty #[.int k x, .int k' y] = pure (.int k (mx x y)) := by simp [Builtin.max_, Builtin.max2, mx]
theorem min_go (ats : Array TypeId) (ty : TypeId) (k k' : IntKind) (x y : Int) : Builtin.min_ ats ty #[.int k x, .int k' y] = pure (.int k (mn x y)) := by simp [Builtin.min_, Builtin.min2, mn]
theorem mx_max (a b : Int) : mx a b = max a b := by unfold mx; split <;> omega
theorem mn_min (a b : Int) : mn a b = min a b := by unfold mn; split <;> omega
end Go.Proofs.YtidgcfgkcidkiaaGreat.L
namespace Go.Proofs.YtidgcfgkcidkiaaGreat.L
open Go Go.RowKit
set_option linter.unusedVariables false
set_option linter.unusedSimpArgs false
/-- cs laid over L from place o on. -/
def lay (L : List Value) (o : Nat) (cs : List Value) : List Value := L.take o ++ (cs ++ L.drop (o + cs.length))
section
variable {P : Program}
/-- append(s[:i], make(S, k)...) where it must grow. -/
theorem run_append_zeros_grow (w : World) (t tn ty e : TypeId) (i : TypeInfo) (z : Value) (kn : IntKind) (ht : P.underlying t = some (.slice e)) (htn : P.underlying tn = some (.int kn)) (hi : P.info? e = some i) (hz : i.zero = some z)
    (base : Option Addr) (sLen sCap k : Nat) (olds : List Value) (hlo : olds.length = sLen * i.size) (holds : 0 < olds.length → ∃ a, base = some a ∧ ∀ j v, olds[j]? = some v → w.cell? (a.add j) = some v) (hpos : 0 < i.size) (hk : 0 < k)
    (hg : sCap < sLen + k) (h63 : ((sLen + k : Nat) : Int) ≤ 9223372036854775807) (hfit : (sLen + k) * i.bytes ≤ 140737488355328) :
    (Builtin.append_ #[t, tn] ty #[.slice base sLen sCap, .int .i64 k]).run P w =
      .ok (.slice (some ⟨w.heap.size, 0, none⟩) (sLen + k) (grownCap w (sLen + k) sCap e))
        (w.drew.alloc (.cells (olds ++ (Builtin.zeroCells z.cells k).toList ++ (Builtin.zeroCells z.cells (grownCap w (sLen + k) sCap e - (sLen + k))).toList).toArray e)) := by
  have hw : IntKind.i64.wrap (k : Int) = k := by rw [IntKind.wrap_i64]; omega
  have hneg : ¬ ((k : Int) < 0) := by omega
  have hn : ¬ (sLen + k ≤ sCap) := by omega
  have h63' : ¬ (9223372036854775807 < ((sLen : Int) + (k : Int))) := by omega
  have hgf := growslice_fits hg hfit
  have h48' : ¬ (281474976710656 < Builtin.nextslicecap (sLen + k) sCap * i.bytes) := by omega
  have hkb : k * i.bytes ≤ 140737488355328 := Nat.le_trans (Nat.mul_le_mul_right _ (Nat.le_add_left _ _)) hfit
  have h48i : ¬ (281474976710656 < (k : Int) * (i.bytes : Int)) := by rw [← Int.natCast_mul]; omega
  have hfo : (Builtin.firstCells i.size sLen (.slice base sLen sCap)).run P w.drew = .ok olds.toArray w.drew := by
    by_cases h0 : olds.length = 0
    · obtain rfl : olds = [] := List.eq_nil_of_length_eq_zero h0
      have : sLen * i.size = 0 := by simpa using hlo.symm
      cases base <;> simp [Builtin.firstCells, this, loadCells, loadCellsFrom]
    · obtain ⟨a, rfl, hc⟩ := holds (by omega)
      exact run_firstCells_some (P := P) w.drew i.size sLen a sLen sCap olds hlo (by simpa using hc)
  have hns : ¬ (k * i.size = 0) := Nat.mul_ne_zero (by omega) (by omega)
  simp [Builtin.append_, run_underlying ht, run_underlying htn, sizeOf, typeInfo, zeroValue, hi, hz, asInt, asIntOf, hw, hn, hneg, hns, h63', h48', h48i, Question.forced, hfo, newRow, grownCap]
  congr 2
  apply Array.ext'
  simp
end
end Go.Proofs.YtidgcfgkcidkiaaGreat.L
namespace Go.Proofs.YtidgcfgkcidkiaaGreat.X
open Go
set_option linter.unusedVariables false
/-- Abstract values. -/
inductive AV where
  | bool (b : Bool)
  | int (k : IntKind) (n : Int)
  | str (s : ByteArray)
  | nilp
  | ptr (id off : Nat)
  | ept (id sz i off : Nat)
  | lpt (sz : Nat) (xs : List AV) (i off : Nat)
  | nils
  | lst (sz : Nat) (xs : List AV)
  | row (id sz len : Nat)
  | rws (id sz off len : Nat)
  | mapn
  | map (id : Nat)
  | nilf
  | fn (f : FuncId) (caps : List AV)
  | agg (cs : List AV)
  | tup (vs : List AV)
  | dead

/-- What stands in memory. -/
inductive Obj where
  | hole
  | gone
  | vars (T : TypeId) (cs : List AV)
  | row (T sz : Nat) (xs : List AV)
  | frz (T sz : Nat) (xs : List AV)

abbrev Env := List (Nat × AV)
structure St where
  env : Env
  objs : List Obj
inductive Ex where
  | normal | ret
  | exit (id : Nat)

/-- Answers at the open points: t, f, k (keep), n: a bool, an int; ix: an index; el: an element; ls: a list; call: the things handed on, are the new rows frozen, are rows lent, the result, the things behind; fz: rows are frozen; lp: the slots and things that are kept, and what comes of a loop; go: a loop's round. -/
inductive Gd where
  | t | f | k
  | n (x : Int)
  | ix (i : Nat)
  | el (x : AV)
  | ls (xs : List AV)
  | call (p : List Nat) (fz bor : Bool) (v : AV) (objs : List Obj)
  | rd (p : List Nat) (v : AV)
  | tu (id : Nat) (xs : List AV) (v : AV)
  | fz (ids : List Nat)
  | fo (d : Nat) (ids : List Nat)
  | st (s : ByteArray)
  | mk (t : Nat) (T : TypeId) (sz : Nat)
  | mkc (id k : Nat) (T : TypeId) (sz : Nat)
  | lp (keep p : List Nat) (x : Ex) (S : St)
  | go

def AV.cells : AV → List AV
  | .agg cs => cs
  | v => [v]
def AV.isAgg : AV → Bool
  | .agg _ => true
  | _ => false
/-- One cell that may be stored. -/
def AV.cell : AV → Bool
  | .agg _ | .tup _ | .dead | .ept .. | .lpt .. => false
  | _ => true
/-- One cell that may be a row's. -/
def AV.shar : AV → Bool
  | .bool _ | .int .. | .str _ | .nilp | .nils | .lst .. | .mapn | .nilf => true
  | _ => false
def allB {α : Type} (f : α → Bool) : List α → Bool
  | [] => true
  | x :: xs => match f x with | true => allB f xs | false => false

def look : Env → Nat → Option AV
  | [], _ => none
  | (k, v) :: r, t => match Nat.beq k t with | true => some v | false => look r t
def nth {α : Type} : List α → Nat → Option α
  | [], _ => none
  | x :: _, 0 => some x
  | _ :: xs, n + 1 => nth xs n
def getO : List Obj → Nat → Obj
  | [], _ => .hole
  | x :: _, 0 => x
  | _ :: xs, n + 1 => getO xs n

def cst1 : Value → Option AV
  | .bool b => some (.bool b)
  | .int k n => some (.int k n)
  | .string s => some (.str s)
  | .pointer none => some .nilp
  | .slice none 0 0 => some .nils
  | .map none => some .mapn
  | .nilFunc => some .nilf
  | _ => none
def cstL : List Value → Option (List AV)
  | [] => some []
  | v :: vs => match cst1 v with | some u => (match cstL vs with | some us => some (u :: us) | none => none) | none => none
def cst : Value → Option AV
  | .agg cs => match cstL cs.toList with | some us => some (.agg us) | none => none
  | v => cst1 v
def opv (e : Nat → Option AV) : Operand → Option AV
  | .tmp t => e t
  | .const v => cst v
  | .func f => some (.fn f [])
  | .global _ => none
def opvL (e : Nat → Option AV) : List Operand → Option (List AV)
  | [] => some []
  | x :: xs => match opv e x with | some v => (match opvL e xs with | some vs => some (v :: vs) | none => none) | none => none

/-- What comes of an answer. -/
abbrev Res (α : Type) := Option (α × List Prop × List Gd)

def num (k : IntKind) (raw : Int) : List Gd → Res AV
  | .n x :: g => some (.int k x, [raw = x], g)
  | .k :: g => some (.int k raw, [], g)
  | _ => none
def boo (raw : Bool) : List Gd → Res AV
  | .t :: g => some (.bool true, [raw = true], g)
  | .f :: g => some (.bool false, [raw = false], g)
  | .k :: g => some (.bool raw, [], g)
  | _ => none

def binInt (op : BinOp) (k : IntKind) (a b : Int) (g : List Gd) : Res AV :=
  match op with
  | .add => num k (k.wrap (a + b)) g
  | .sub => num k (k.wrap (a - b)) g
  | .mul => num k (k.wrap (a * b)) g
  | .quo => match num k (k.wrap (a.tdiv b)) g with | some (v, o, g) => some (v, (b ≠ 0) :: o, g) | none => none
  | .rem => match num k (a.tmod b) g with | some (v, o, g) => some (v, (b ≠ 0) :: o, g) | none => none
  | .and => num k (k.wrap (BitVec.ofInt k.bits a &&& BitVec.ofInt k.bits b).toNat) g
  | .or => num k (k.wrap (BitVec.ofInt k.bits a ||| BitVec.ofInt k.bits b).toNat) g
  | .xor => num k (k.wrap (BitVec.ofInt k.bits a ^^^ BitVec.ofInt k.bits b).toNat) g
  | .andNot => num k (k.wrap (BitVec.ofInt k.bits a &&& ~~~ BitVec.ofInt k.bits b).toNat) g
  | .eql => boo (a == b) g
  | .neq => boo (a != b) g
  | .lss => boo (decide (a < b)) g
  | .leq => boo (decide (a ≤ b)) g
  | .gtr => boo (decide (a > b)) g
  | .geq => boo (decide (a ≥ b)) g
  | _ => none

def eqKind (a b : IntKind) : Bool :=
  match a, b with
  | .i8, .i8 | .i16, .i16 | .i32, .i32 | .i64, .i64 | .u8, .u8 | .u16, .u16 | .u32, .u32 | .u64, .u64 => true
  | _, _ => false

def takeN {α : Type} : Nat → List α → Option (List α)
  | 0, _ => some []
  | n + 1, x :: xs => match takeN n xs with | some r => some (x :: r) | none => none
  | _ + 1, [] => none
def dropN {α : Type} : Nat → List α → List α
  | 0, l => l
  | _ + 1, [] => []
  | n + 1, _ :: l => dropN n l
def layN {α : Type} : List α → List α → Option (List α)
  | l, [] => some l
  | _ :: l, y :: ys => match layN l ys with | some r => some (y :: r) | none => none
  | [], _ :: _ => none
def setN {α : Type} : List α → Nat → List α → Option (List α)   -- laid over, all within
  | l, 0, ys => layN l ys
  | x :: l, n + 1, ys => match setN l n ys with | some r => some (x :: r) | none => none
  | [], _ + 1, _ => none
def lenB {α : Type} : List α → Nat → Bool
  | [], 0 => true
  | _ :: xs, n + 1 => lenB xs n
  | _, _ => false
def aggT (P : Program) (T : TypeId) : Option Bool :=
  match P.underlying T with
  | some (.struct _) | some (.array _ _) => some true
  | some _ => some false
  | none => none
/-- The value of type T at off of cells. -/
def partA (P : Program) (T : TypeId) (off : Nat) (cs : List AV) : Option AV :=
  match P.info? T, takeN (P.cellsOf T) (dropN off cs), aggT P T with
  | some _, some l, some true => some (.agg l)
  | some _, some [c], some false => some c
  | _, _, _ => none

def eqS (a b : String) : Bool := a == b
/-- Are two values one? -/
def eqF (rec : TypeId → AV → AV → Option Bool) (part : TypeId → Nat → Option (AV × AV)) : List Field → Option Bool
  | [] => some true
  | f :: r =>
    match eqS f.name "_", part f.type f.offset with
    | false, some (a, b) =>
      match rec f.type a b, eqF rec part r with
      | some p, some q => some (p && q)
      | _, _ => none
    | _, _ => none
def eqE (rec : TypeId → AV → AV → Option Bool) (part : TypeId → Nat → Option (AV × AV)) (el : TypeId) (n : Nat) : Nat → Nat → Option Bool
  | _, 0 => some true
  | i, k + 1 =>
    match part el (i * n) with
    | some (a, b) =>
      match rec el a b, eqE rec part el n (i + 1) k with
      | some p, some q => some (p && q)
      | _, _ => none
    | none => none
def part2 (P : Program) (xs ys : List AV) (T : TypeId) (off : Nat) : Option (AV × AV) :=
  match partA P T off xs, partA P T off ys with
  | some a, some b => some (a, b)
  | _, _ => none
def eqA (P : Program) : Nat → TypeId → AV → AV → Option Bool
  | 0, _, _, _ => none
  | d + 1, T, x, y =>
    match P.underlying T, x, y with
    | some .bool, .bool a, .bool b => some (a == b)
    | some (.int _), .int k a, .int k' b => match eqKind k k' with | true => some (a == b) | false => none
    | some (.struct fs), .agg xs, .agg ys => match P.stoodInHeld T with | false => eqF (eqA P d) (part2 P xs ys) fs.toList | true => none
    | some (.array len el), .agg xs, .agg ys => match P.info? el with | some _ => eqE (eqA P d) (part2 P xs ys) el (P.cellsOf el) 0 len | none => none
    | _, _, _ => none
def binA (P : Program) (op : BinOp) (T : TypeId) (x y : AV) (g : List Gd) : Res AV :=
  match x, y with
  | .int k a, .int k' b =>
    match op with
    | .shl => match num k (k.wrap (a * 2 ^ (min b.toNat k.bits))) g with | some (v, o, g) => some (v, (0 ≤ b) :: o, g) | none => none
    | .shr => match num k (a.fdiv (2 ^ (min b.toNat k.bits))) g with | some (v, o, g) => some (v, (0 ≤ b) :: o, g) | none => none
    | _ => match eqKind k k' with | true => binInt op k a b g | false => none
  | .bool a, .bool b =>
    match P.underlying T, op with
    | some .bool, .eql => boo (a == b) g
    | some .bool, .neq => boo (!(a == b)) g
    | _, _ => none
  | .str a, .str b =>
    match op with
    | .eql => boo (a.toList == b.toList) g
    | .neq => boo (!(a.toList == b.toList)) g
    | _ => none
  | .nilp, .nilp =>
    match P.underlying T, op with
    | some (.pointer _), .eql => some (.bool true, [], g)
    | some (.pointer _), .neq => some (.bool false, [], g)
    | _, _ => none
  | .ptr _ _, .nilp | .nilp, .ptr _ _ =>
    match P.underlying T, op with
    | some (.pointer _), .eql => some (.bool false, [], g)
    | some (.pointer _), .neq => some (.bool true, [], g)
    | _, _ => none
  | .agg xs, .agg ys =>
    match P.eqGuardType P.depth T, eqA P 10 T (.agg xs) (.agg ys), op with
    | false, some r, .eql => boo r g
    | false, some r, .neq => boo (!r) g
    | _, _, _ => none
  | _, _ => none

def fieldOf (P : Program) (T : TypeId) (i : Nat) : Option Field :=
  match P.underlying T with
  | some (.struct fs) => fs[i]?
  | _ => none
def movA (x : AV) (o : Nat) : Option AV :=
  match x with
  | .ptr id off => some (.ptr id (off + o))
  | .ept id sz i off => some (.ept id sz i (off + o))
  | .lpt sz xs i off => some (.lpt sz xs i (off + o))
  | _ => none

/-- An index: as a natural number. -/
def ixA (x : AV) : List Gd → Res Nat
  | .ix i :: g => match x with | .int _ n => some (i, [n = (i : Int)], g) | _ => none
  | _ => none

def indexA (P : Program) (T : TypeId) (x i : AV) (g : List Gd) : Res AV :=
  match ixA i g with
  | none => none
  | some (j, o, g) =>
    match P.underlying T, x with
    | some (.array len e), .ptr id off => match P.info? e with | some _ => some (.ptr id (off + j * P.cellsOf e), (j < len) :: o, g) | none => none
    | some (.array len e), .ept id sz i off => match P.info? e with | some _ => some (.ept id sz i (off + j * P.cellsOf e), (j < len) :: o, g) | none => none
    | some (.slice e), .row id sz len => match P.info? e, Nat.beq (P.cellsOf e) sz with | some _, true => some (.ept id sz j 0, (j < len) :: o, g) | _, _ => none
    | some (.slice e), .rws id sz off len => match P.info? e, Nat.beq (P.cellsOf e) sz with | some _, true => some (.ept id sz (off + j) 0, (j < len) :: o, g) | _, _ => none
    | some (.slice e), .lst sz xs => match P.info? e, Nat.beq (P.cellsOf e) sz with | some _, true => some (.lpt sz xs j 0, (j < xs.length) :: o, g) | _, _ => none
    | _, _ => none

def zerosA (P : Program) (T : TypeId) : Option (List AV) :=
  match P.info? T with
  | some i => match i.zero with | some v => cstL v.cells.toList | none => none
  | none => none
def zeroA (P : Program) (T : TypeId) : Option AV :=
  match P.info? T with
  | some i =>
    match i.zero with
    | some v => (match cst v with | some z => (match lenB z.cells i.size with | true => some z | false => none) | none => none)
    | none => none
  | none => none

def fillA (e : Nat → Option AV) (place : Nat → Option (Nat × Nat)) (cells : List AV) : List (Nat × Operand) → Option (List AV)
  | [] => some cells
  | (i, x) :: r =>
    match place i, opv e x with
    | some (off, size), some v =>
      match lenB v.cells size, allB AV.cell v.cells with
      | true, true => (match setN cells off v.cells with | some c => fillA e place c r | none => none)
      | _, _ => none
    | _, _ => none
def buildA (P : Program) (e : Nat → Option AV) (T : TypeId) (parts : List (Nat × Operand)) : Option (List AV) :=
  match P.info? T, P.underlying T with
  | some it, some (.array _ el) =>
    match it.zero, P.info? el with
    | some z, some ie => (match cstL z.cells.toList with | some zs => fillA e (fun i => some (i * ie.size, ie.size)) zs parts | none => none)
    | _, _ => none
  | some it, some (.struct fields) =>
    match it.zero, fields.toList.mapM (fun f => (P.info? f.type).map fun i => (f.offset, i.size)) with
    | some z, some places => (match cstL z.cells.toList with | some zs => fillA e (nth places) zs parts | none => none)
    | _, _ => none
  | _, _ => none

def boundA (e : Nat → Option AV) (d : Nat) : Option Operand → List Gd → Res Nat
  | none, g => some (d, [], g)
  | some x, g => match opv e x with | some v => ixA v g | none => none
def lsA (raw : List AV) : List Gd → Res (List AV)
  | .ls xs :: g => some (xs, [raw = xs], g)
  | .k :: g => some (raw, [], g)
  | _ => none
def sliceA (P : Program) (e : Nat → Option AV) (T : TypeId) (x : AV) (lo hi : Option Operand) (g : List Gd) : Res AV :=
  match P.underlying T with
  | some (.slice el) =>
    match P.info? el with
    | none => none
    | some _ =>
    match x with
    | .lst sz xs =>
      match boundA e xs.length hi g with
      | none => none
      | some (h, o1, g) =>
        match boundA e 0 lo g with
        | none => none
        | some (l, o2, g) =>
          match lsA ((xs.drop l).take (h - l)) g, Nat.beq (P.cellsOf el) sz with
          | some (ys, o3, g), true => some (.lst sz ys, (l ≤ h) :: (h ≤ xs.length) :: (o1 ++ o2 ++ o3), g)
          | _, _ => none
    | .row id sz n =>
      match boundA e n hi g with
      | none => none
      | some (h, o1, g) =>
        match boundA e 0 lo g, Nat.beq (P.cellsOf el) sz with
        | some (l, o2, g), true => some (.rws id sz l (h - l), (l ≤ h) :: (h ≤ n) :: (o1 ++ o2), g)
        | _, _ => none
    | .rws id sz off n =>
      match boundA e n hi g with
      | none => none
      | some (h, o1, g) =>
        match boundA e 0 lo g, Nat.beq (P.cellsOf el) sz with
        | some (l, o2, g), true => some (.rws id sz (off + l) (h - l), (l ≤ h) :: (h ≤ n) :: (o1 ++ o2), g)
        | _, _ => none
    | _ => none
  | _ => none

def lenA (P : Program) (T : TypeId) (x : AV) (g : List Gd) : Res AV :=
  match P.underlying T, x with
  | some (.slice _), .nils => some (.int .i64 0, [], g)
  | some (.slice _), .lst _ xs => num .i64 xs.length g
  | some (.slice _), .row _ _ n => num .i64 n g
  | some (.slice _), .rws _ _ _ n => num .i64 n g
  | some .string, .str s => num .i64 s.size g
  | some (.array n _), _ => some (.int .i64 n, [], g)
  | _, _ => none

/-- An operation that leaves memory alone. -/
def pureA (P : Program) (e : Nat → Option AV) (o : Oper) (g : List Gd) : Res AV :=
  match o.op with
  | .move x | .assign x => match opv e x with | some v => some (v, [], g) | none => none
  | .pick c a b =>
    match opv e c with
    | some (.bool true) => (match opv e a with | some v => some (v, [], g) | none => none)
    | some (.bool false) => (match opv e b with | some v => some (v, [], g) | none => none)
    | _ => none
  | .nilCheck x =>
    match opv e x with
    | some (.ptr id off) => some (.ptr id off, [], g)
    | some (.ept id sz i off) => some (.ept id sz i off, [], g)
    | some (.lpt sz xs i off) => some (.lpt sz xs i off, [], g)
    | some (.fn f c) => some (.fn f c, [], g)
    | _ => none
  | .binOp op T x y _ => match opv e x, opv e y with | some a, some b => binA P op T a b g | _, _ => none
  | .unOp .not _ x => match opv e x with | some (.bool b) => some (.bool (!b), [], g) | _ => none
  | .unOp .neg _ x => match opv e x with | some (.int k n) => num k (k.wrap (0 - n)) g | _ => none
  | .convert s d x =>
    match P.underlying s, P.underlying d, opv e x with
    | some _, some (.int k), some (.int _ n) => num k (k.wrap n) g
    | some _, some .string, some (.str s) => some (.str s, [], g)
    | _, _, _ => none
  | .fieldAddr T x i =>
    match fieldOf P T i, opv e x with
    | some f, some v =>
      match P.info? f.type, P.cellsOf f.type with
      | some _, _ + 1 => (match movA v f.offset with | some u => some (u, [], g) | none => none)
      | _, _ => none
    | _, _ => none
  | .field T x i =>
    match fieldOf P T i, opv e x with
    | some f, some (.agg cs) => (match partA P f.type f.offset cs with | some u => some (u, [], g) | none => none)
    | _, _ => none
  | .indexAddr T x i => match opv e x, opv e i with | some a, some b => indexA P T a b g | _, _ => none
  | .index T x i =>
    match opv e x, opv e i, P.underlying T with
    | some (.agg cs), some b, some (.array len el) =>
      match ixA b g with
      | some (j, ob, g) => (match partA P el (j * P.cellsOf el) cs with | some u => some (u, (j < len) :: ob, g) | none => none)
      | none => none
    | _, _, _ => none
  | .extract x i => match opv e x with | some (.tup vs) => (match nth vs i with | some v => some (v, [], g) | none => none) | _ => none
  | .slice T x lo hi none => match opv e x with | some v => sliceA P e T v lo hi g | none => none
  | .build T parts =>
    match buildA P e T parts.toList with
    | some cs => some (.agg cs, [], g)
    | none => none
  | .makeFunc (.func f) first caps =>
    match first.toList, opvL e caps.toList with
    | [], some vs => some (.fn f vs, [], g)
    | _, _ => none
  | .call { callee := .builtin .len, args, argTypes } =>
    match args.toList, argTypes.toList with
    | [x], T :: _ => (match opv e x with | some v => lenA P T v g | none => none)
    | _, _ => none
  | .call { callee := .builtin .min, args, argTypes } =>
    match opvL e args.toList with
    | some [.int k a, .int k' b] => num k (L.mn a b) g
    | _ => none
  | .call { callee := .builtin .max, args, argTypes } =>
    match opvL e args.toList with
    | some [.int k a, .int k' b] => num k (L.mx a b) g
    | _ => none
  | _ => none
end Go.Proofs.YtidgcfgkcidkiaaGreat.X
namespace Go.Proofs.YtidgcfgkcidkiaaGreat.X
open Go Go.Proofs.YtidgcfgkcidkiaaGreat.L
set_option linter.unusedVariables false
inductive Kind where
  | hole | gone | var
  | row (sz len : Nat)
  | frz (sz len : Nat)

def Obj.kind : Obj → Kind
  | .hole => .hole
  | .gone => .gone
  | .vars _ _ => .var
  | .row _ sz xs => .row sz xs.length
  | .frz _ sz xs => .frz sz xs.length

/-- Where things stand: cells that stay, blocks, capacities, kinds. -/
structure Ctx where
  M : Nat → Nat → Option Value
  blk : Nat → Nat
  cap : Nat → Nat
  off : Nat → Nat
  kind : Nat → Kind

/-- A value that leads to cells that stay alone. -/
inductive PR (M : Nat → Nat → Option Value) : AV → Value → Prop where
  | bool (b) : PR M (.bool b) (.bool b)
  | int (k n) : PR M (.int k n) (.int k n)
  | str (s) : PR M (.str s) (.string s)
  | nilp : PR M .nilp (.pointer none)
  | nils : PR M .nils (.slice none 0 0)
  | mapn : PR M .mapn (.map none)
  | nilf : PR M .nilf .nilFunc
  | lst (sz : Nat) (xs : List AV) (ad : Option Addr) (c b o : Nat) (f : Nat → Nat → Value) (hsz : 0 < sz) (hc : xs.length ≤ c) (hm : c ≤ maxLen)
      (had : xs = [] ∨ ad = some ⟨b, o, none⟩)
      (hl : ∀ (i : Nat) (x : AV), xs[i]? = some x → x.cells.length = sz)
      (hM : ∀ (i : Nat) (x : AV) (j : Nat) (u : AV), xs[i]? = some x → x.cells[j]? = some u → M b (o + i * sz + j) = some (f i j))
      (h : ∀ (i : Nat) (x : AV) (j : Nat) (u : AV), xs[i]? = some x → x.cells[j]? = some u → PR M u (f i j)) : PR M (.lst sz xs) (.slice ad xs.length c)

/-- A value. -/
inductive VR (K : Ctx) : AV → Value → Prop where
  | pure {u c} (h : PR K.M u c) : VR K u c
  | ptr (id off : Nat) (c : Value) (hk : K.kind id ≠ .hole) (h : K.kind id = .gone ∨ c = .pointer (some ⟨K.blk id, off, none⟩)) (hp : ∃ a, c = .pointer (some a)) : VR K (.ptr id off) c
  | ept (id sz i off : Nat) (c : Value) (hk : K.kind id ≠ .hole) (h : K.kind id = .gone ∨ ∃ n, (K.kind id = .row sz n ∨ K.kind id = .frz sz n) ∧ i < n ∧ c = .pointer (some ⟨K.blk id, K.off id + i * sz + off, none⟩)) (hp : ∃ a, c = .pointer (some a)) : VR K (.ept id sz i off) c
  | lpt (sz : Nat) (xs : List AV) (i off : Nat) (ad : Addr) (n c : Nat) (hx : PR K.M (.lst sz xs) (.slice (some ad) n c)) (hi : i < xs.length) : VR K (.lpt sz xs i off) (.pointer (some ⟨ad.block, ad.off + i * sz + off, none⟩))
  | row (id sz len : Nat) (c : Value) (hk : K.kind id ≠ .hole) (h : K.kind id = .gone ∨ ((K.kind id = .row sz len ∨ K.kind id = .frz sz len) ∧ ∃ ad, c = .slice ad len (K.cap id) ∧ (K.cap id ≠ 0 → ad = some ⟨K.blk id, K.off id, none⟩))) (hp : ∃ ad m, c = .slice ad len m ∧ len ≤ m ∧ m ≤ maxLen ∧ (m ≠ 0 → ∃ a, ad = some a)) : VR K (.row id sz len) c
  | rws (id sz off len : Nat) (c : Value) (hk : K.kind id ≠ .hole) (h : K.kind id = .gone ∨ ∃ n ad m, (K.kind id = .row sz n ∨ K.kind id = .frz sz n) ∧ off + len ≤ n ∧ c = .slice ad len m ∧ (len ≠ 0 → ad = some ⟨K.blk id, K.off id + off * sz, none⟩)) (hp : ∃ ad m, c = .slice ad len m ∧ len ≤ m ∧ m ≤ maxLen ∧ (len ≠ 0 → ∃ a, ad = some a)) : VR K (.rws id sz off len) c
  | fn (f : FuncId) (caps : List AV) (ds : Array Value) (hl : caps.length = ds.size) (h : ∀ (i : Nat) u d, caps[i]? = some u → ds[i]? = some d → VR K u d) : VR K (.fn f caps) (.func (.func f) #[] ds)
  | agg (cs : List AV) (ds : Array Value) (hl : cs.length = ds.size) (h : ∀ (i : Nat) u d, cs[i]? = some u → ds[i]? = some d → VR K u d) : VR K (.agg cs) (.agg ds)
  | tup (cs : List AV) (ds : Array Value) (hl : cs.length = ds.size) (h : ∀ (i : Nat) u d, cs[i]? = some u → ds[i]? = some d → VR K u d) : VR K (.tup cs) (.tuple ds)
  | dead (c : Value) : VR K .dead c

def VRs (K : Ctx) (cs : List AV) (ds : List Value) : Prop := cs.length = ds.length ∧ ∀ (i : Nat) u d, cs[i]? = some u → ds[i]? = some d → VR K u d

/-- The elements of a row, in cells. -/
def PRows (M : Nat → Nat → Option Value) (sz : Nat) (xs : List AV) (ds : List Value) : Prop :=
  ∀ (i : Nat) (x : AV), xs[i]? = some x → x.cells.length = sz ∧ ∀ (j : Nat) (u : AV), x.cells[j]? = some u → ∃ d, ds[i * sz + j]? = some d ∧ PR M u d

def OR (K : Ctx) (w : World) (id : Nat) : Obj → Prop
  | .hole | .gone => True
  | .vars T cs => ∃ ds, w.heap[K.blk id]? = some (.cells ds T (0, 0)) ∧ VRs K cs ds.toList ∧ ∀ u ∈ ds.toList, u.oneCell' = true
  | .row T sz xs => 0 < sz ∧ xs.length ≤ K.cap id ∧ K.cap id ≤ maxLen ∧ (K.cap id ≠ 0 → ∃ ds, w.heap[K.blk id]? = some (.cells ds T (0, 0)) ∧ ds.size = K.off id + K.cap id * sz ∧ PRows K.M sz xs (ds.toList.drop (K.off id)))
  | .frz T sz xs => 0 < sz ∧ xs.length ≤ K.cap id ∧ K.cap id ≤ maxLen ∧ ∀ (i : Nat) (x : AV), xs[i]? = some x → x.cells.length = sz ∧ ∀ (j : Nat) (u : AV), x.cells[j]? = some u → ∃ d, K.M (K.blk id) (K.off id + i * sz + j) = some d ∧ PR K.M u d

/-- What owns its block. -/
def Ctx.own (K : Ctx) (id : Nat) : Prop :=
  match K.kind id with
  | .var => True
  | .row _ _ => K.cap id ≠ 0
  | _ => False
def Ctx.foot (K : Ctx) (b : Nat) : Prop := ∃ id, K.own id ∧ K.blk id = b

structure Rel (K : Ctx) (get : Nat → Obj) (w : World) : Prop where
  kinds : ∀ id, K.kind id = (get id).kind
  mem : ∀ b o v, K.M b o = some v → w.cell? ⟨b, o, none⟩ = some v ∧ v.oneCell' = true
  obj : ∀ id, OR K w id (get id)
  inj : ∀ i j, K.own i → K.own j → K.blk i = K.blk j → i = j
  sep : ∀ id o, K.own id → K.M (K.blk id) o = none

/-- How far memory has gone, behind a call. -/
structure GrowC (m0 : Nat) (K : Ctx) (w : World) (K' : Ctx) (w' : World) : Prop where
  mem : ∀ b o v, K.M b o = some v → K'.M b o = some v
  new : ∀ b o v, K'.M b o = some v → K.M b o = some v ∨ K.foot b ∨ w.heap.size ≤ b
  var : ∀ id, id < m0 → K.kind id = .var → K'.kind id = .var ∧ K'.blk id = K.blk id
  foot : ∀ b, K'.foot b → K.foot b ∨ w.heap.size ≤ b
  keeps : Keeps K.foot w w'
/-- How far memory has gone. -/
structure Grow (m0 : Nat) (K : Ctx) (w : World) (K' : Ctx) (w' : World) : Prop where
  mem : ∀ b o v, K.M b o = some v → K'.M b o = some v
  new : ∀ b o v, K'.M b o = some v → K.M b o = some v ∨ K.foot b ∨ w.heap.size ≤ b
  var : ∀ id, id < m0 → K.kind id = .var → K'.kind id = .var ∧ K'.blk id = K.blk id
  foot : ∀ b, K'.foot b → K.foot b ∨ w.heap.size ≤ b
  keeps : Keeps K.foot w w'
  stay : ∀ id, id < m0 → K.kind id ≠ .hole → K'.kind id = .gone ∨ (K'.blk id = K.blk id ∧ K'.cap id = K.cap id ∧ K'.off id = K.off id ∧ (K'.kind id = K.kind id ∨ ∃ sz n, K.kind id = .row sz n ∧ K'.kind id = .frz sz n))

/-- A function with a body of its own. -/
def Enters (P : Program) (f : FuncId) : Prop := ∃ fn, P.funcs[f]? = some fn ∧ fn.body.isNone = false ∧ (fn.name == "runtime.NumGoroutine") = false
/-- What a call does. -/
def ACalls (P : Program) (f : FuncId) (args : List AV) (objs : List Obj) (v : AV) (objs' : List Obj) : Prop :=
  Enters P f ∧ ∀ K w (cs : List Value), Rel K (getO objs) w → VRs K args cs →
    Calls P f cs.toArray w fun e w' => ∃ K' c, e = .returned c ∧ Rel K' (getO objs') w' ∧ VR K' v c ∧ GrowC objs.length K w K' w'

/-- What a call tells that leaves all as it is. -/
def AReads (P : Program) (f : FuncId) (args : List AV) (objs : List Obj) (v : AV) : Prop :=
  Enters P f ∧ ∀ K w (cs : List Value), Rel K (getO objs) w → VRs K args cs →
    Calls P f cs.toArray w fun e w' => ∃ c, e = .returned c ∧ Keeps (fun _ => False) w w' ∧ ∀ K', VR K' v c

/-- What a call does that turns a row in its place. -/
def ATurn (P : Program) (f : FuncId) (args : List AV) (T : TypeId) (sz : Nat) (ys xs : List AV) (v : AV) : Prop :=
  Enters P f ∧ ∀ K w (cs : List Value), Rel K (getO [.row T sz ys]) w → VRs K args cs →
    Calls P f cs.toArray w fun e w' => ∃ c, e = .returned c ∧ Rel K (getO [.row T sz xs]) w' ∧ Keeps K.foot w w' ∧ ∀ K', VR K' v c

structure RelS (K : Ctx) (e : Nat → Option AV) (get : Nat → Obj) (a : Act) (w : World) : Prop where
  rel : Rel K get w
  env : ∀ t v, e t = some v → ∃ c, a.tmps[t]? = some c ∧ VR K v c

def Ex.toExit : Ex → Exit
  | .normal => .normal
  | .ret => .ret
  | .exit id => .exit id

/-- What a piece of code does; the first m0 things stay where they are; nt slots. -/
def ACode (P : Program) (m0 nt : Nat) (c : Code) (S : St) (x : Ex) (S' : St) : Prop :=
  ∀ K a w (Q : Exit → Act → World → Prop), RelS K (look S.env) (getO S.objs) a w → a.tmps.size = nt →
    (∀ K' a' w', RelS K' (look S'.env) (getO S'.objs) a' w' → a'.tmps.size = nt → Grow m0 K w K' w' → a'.defers = a.defers → Q x.toExit a' w') → c.wp P Q a w
/-- A loop that is about to go round. -/
def LoopFrom (P : Program) (c : Code) (Q : Exit → Act → World → Prop) (a : Act) (w : World) : Prop :=
  ∀ (b : Frame) (k : List Item) (cs : List Frame), ∃ e a' w', Q e a' w' ∧ Arrives P (lone (b.at a (.code c :: .inLoop c :: k)) cs w) b k cs e a' w'
/-- What a loop does. -/
def ALoop (P : Program) (m0 nt : Nat) (c : Code) (S : St) (x : Ex) (S' : St) : Prop :=
  ∀ K a w (Q : Exit → Act → World → Prop), RelS K (look S.env) (getO S.objs) a w → a.tmps.size = nt →
    (∀ K' a' w', RelS K' (look S'.env) (getO S'.objs) a' w' → a'.tmps.size = nt → Grow m0 K w K' w' → a'.defers = a.defers → Q x.toExit a' w') → LoopFrom P c Q a w
end Go.Proofs.YtidgcfgkcidkiaaGreat.X
namespace Go.Proofs.YtidgcfgkcidkiaaGreat.X
open Go
set_option linter.unusedVariables false
/-- What an operation does: its result (none: it is left out), the things looked at, the things written, how many are new. -/
structure Eff where
  v : Option AV
  rd : List Nat
  wr : List (Nat × Obj)
  nf : Nat

def booV (v : AV) (g : List Gd) : Res AV := match v with | .bool b => boo b g | v => some (v, [], g)
def elA (xs : List AV) (i : Nat) : List Gd → Res AV
  | .el x :: g => some (x, [xs[i]? = some x], g)
  | _ => none
def loadA (P : Program) (e : Nat → Option AV) (get : Nat → Obj) (T : TypeId) (a : AV) (g : List Gd) : Res Eff :=
  match a with
  | .ptr id off =>
    match get id with
    | .vars _ cs =>
      match partA P T off cs with
      | some v => (match booV v g with | some (v, o, g) => some (⟨some v, [id], [], 0⟩, o, g) | none => none)
      | none => none
    | _ => none
  | .ept id sz i off =>
    match get id with
    | .row _ s xs | .frz _ s xs =>
      match elA xs i g, Nat.beq s sz with
      | some (x, o, g), true =>
        match partA P T off x.cells with
        | some v => (match booV v g with | some (v, o', g) => some (⟨some v, [id], [], 0⟩, o ++ o', g) | none => none)
        | none => none
      | _, _ => none
    | _ => none
  | .lpt sz xs i off =>
    match elA xs i g with
    | some (x, o, g) =>
      match partA P T off x.cells with
      | some v => (match booV v g with | some (v, o', g) => some (⟨some v, [], [], 0⟩, o ++ o', g) | none => none)
      | none => none
    | none => none
  | _ => none
def mkEl (x : AV) (cs : List AV) : Option AV :=
  match x, cs with
  | .agg _, cs => some (.agg cs)
  | _, [c] => match c.isAgg with | true => none | false => some c
  | _, _ => none
def storeA (P : Program) (get : Nat → Obj) (T : TypeId) (a v : AV) (g : List Gd) : Res Eff :=
  match P.info? T, lenB v.cells (P.cellsOf T) with
  | some _, true =>
    match a with
    | .ptr id off =>
      match get id, allB AV.cell v.cells with
      | .vars T' cs, true => (match setN cs off v.cells with | some cs' => some (⟨none, [id], [(id, .vars T' cs')], 0⟩, [], g) | none => none)
      | _, _ => none
    | .ept id s i off =>
      match get id, allB AV.shar v.cells with
      | .row T' sz xs, true =>
        match elA xs i g, Nat.beq s sz with
        | some (x, o, g), true =>
          match setN x.cells off v.cells with
          | some cs => (match mkEl x cs with | some x' => some (⟨none, [id], [(id, .row T' sz (xs.set i x'))], 0⟩, o, g) | none => none)
          | none => none
        | _, _ => none
      | _, _ => none
    | _ => none
  | _, _ => none
def elsA (P : Program) (e : Nat → Option AV) (sz : Nat) (xs : List AV) : List (Nat × Operand) → Option (List AV)
  | [] => some xs
  | (i, x) :: r =>
    match opv e x with
    | some v =>
      match lenB v.cells sz, allB AV.shar v.cells with
      | true, true => (match setN xs i [v] with | some c => elsA P e sz c r | none => none)
      | _, _ => none
    | none => none
/-- What is appended. -/
def srcA (get : Nat → Obj) (sz : Nat) : AV → Option (List AV × List Nat)
  | .nils => some ([], [])
  | .lst s ys => match Nat.beq s sz with | true => some (ys, []) | false => none
  | .row id _ n => match get id with | .row _ s ys | .frz _ s ys => (match Nat.beq s sz with | true => some (ys, [id]) | false => none) | _ => none
  | .rws id _ off n => match get id with | .row _ s ys | .frz _ s ys => (match Nat.beq s sz with | true => some ((ys.drop off).take n, [id]) | false => none) | _ => none
  | _ => none
def appendA (P : Program) (get : Nat → Obj) (base : Nat) (tS tX : TypeId) (s x : AV) (g : List Gd) : Res Eff :=
  match P.underlying tS, Nat.beq tS tX with
  | some (.slice el), true =>
    match P.info? el with
    | some i =>
      match srcA get i.size x, zeroA P el with
      | some (ys, rd), some _ =>
        match s with
        | .nils =>
          match i.size, lsA ys g with
          | _ + 1, some (zs, o, g) => some (⟨some (.row base i.size zs.length), rd, [(base, .row el i.size zs)], 1⟩, (ys.length * i.bytes ≤ 140737488355328) :: o, g)
          | _, _ => none
        | .row id _ n =>
          match get id with
          | .row T' sz xs =>
            match Nat.beq T' el, Nat.beq sz i.size, allB (fun r => !(Nat.beq r id)) rd, Nat.ble 1 i.bytes, lsA (xs ++ ys) g with
            | true, true, true, true, some (zs, o, g) => some (⟨some (.row base i.size zs.length), id :: rd, [(id, .gone), (base, .row el i.size zs)], 1⟩, ((xs.length + ys.length) * i.bytes ≤ 140737488355328) :: o, g)
            | _, _, _, _, _ => none
          | _ => none
        | _ => none
      | _, _ => none
    | none => none
  | _, _ => none

def idx : List Nat → Nat → Option Nat
  | [], _ => none
  | p :: ps, i => match Nat.beq p i with | true => some 0 | false => (match idx ps i with | some n => some (n + 1) | none => none)
/-- Seen with other numbers; what has none is a list, if it is frozen, or dead. -/
def ren0 (r : Nat → Option Nat) (get : Nat → Obj) : AV → AV
  | .ptr id off => match r id with | some j => .ptr j off | none => .dead
  | .row id s n => match r id with | some j => .row j s n | none => (match get id with | .frz _ sz xs => .lst sz xs | _ => .dead)
  | .rws id s off n => match r id with | some j => .rws j s off n | none => (match get id with | .frz _ sz xs => .lst sz ((xs.drop off).take n) | _ => .dead)
  | .agg _ | .tup _ | .fn _ _ | .ept .. | .lpt .. | .map _ => .dead
  | v => v
def ren (r : Nat → Option Nat) (get : Nat → Obj) : AV → AV
  | .agg cs => .agg (cs.map (ren0 r get))
  | .fn f cs => .fn f (cs.map (ren0 r get))
  | v => ren0 r get v
def renO (r : Nat → Option Nat) (get : Nat → Obj) : Obj → Obj
  | .vars T cs => .vars T (cs.map (ren0 r get))
  | o => o
/-- Rows that are lent. -/
def lent0 (p : List Nat) (get : Nat → Obj) : AV → List Nat
  | .row id _ _ | .rws id _ _ _ => match idx p id, get id with | none, .row .. => [id] | _, _ => []
  | _ => []
def lentL (p : List Nat) (get : Nat → Obj) : List AV → List Nat
  | [] => []
  | v :: vs => lent0 p get v ++ lentL p get vs
def lents (p : List Nat) (get : Nat → Obj) : List AV → List Nat
  | [] => []
  | .agg cs :: vs | .fn _ cs :: vs => lentL p get cs ++ lents p get vs
  | v :: vs => lent0 p get v ++ lents p get vs
/-- Rows that are named. -/
def hid0 : AV → List Nat
  | .row id _ _ | .rws id _ _ _ => [id]
  | _ => []
def hidL : List AV → List Nat
  | [] => []
  | v :: vs => hid0 v ++ hidL vs
def hids : List AV → List Nat
  | [] => []
  | .agg cs :: vs | .fn _ cs :: vs => hidL cs ++ hids vs
  | v :: vs => hid0 v ++ hids vs
def hidO (get : Nat → Obj) : List Nat → List Nat
  | [] => []
  | id :: ps => (match get id with | .vars _ cs => hidL cs | _ => []) ++ hidO get ps
def hasN (l : List Nat) (n : Nat) : Bool :=
  match l with
  | [] => false
  | x :: xs => match Nat.beq x n with | true => true | false => hasN xs n
/-- With some rows frozen. -/
def frzG (ids : List Nat) (get : Nat → Obj) (i : Nat) : Obj :=
  match get i, hasN ids i with
  | .row T sz xs, true => .frz T sz xs
  | o, _ => o
def flat0 : AV → Bool
  | .bool _ | .int .. | .str _ | .nilp | .nils | .mapn | .nilf => true
  | _ => false
def flatB : AV → Bool
  | .agg cs => allB flat0 cs
  | .tup vs => allB flat0 vs
  | v => flat0 v
/-- The number here of a callee's thing. -/
def outN (p : List Nat) (get : Nat → Obj) (base j : Nat) : Nat :=
  match nth p j with
  | some id => (match get id with | .vars .. => id | _ => base + j)
  | none => base + j
def outO (fz : Bool) (m j : Nat) (o : Obj) : Obj :=
  match o, fz, Nat.ble m j with
  | .row T sz xs, true, true => .frz T sz xs
  | o, _, _ => o
def mapO (r : AV → AV) : Obj → Obj
  | .vars T cs => .vars T (cs.map r)
  | o => o
/-- What a callee's things become. -/
def outW (p : List Nat) (get : Nat → Obj) (fz : Bool) (base m : Nat) (r : AV → AV) : Nat → List Obj → List (Nat × Obj)
  | _, [] => []
  | j, o :: os => (outN p get base j, mapO r (outO fz m j o)) :: outW p get fz base m r (j + 1) os
def fits (get : Nat → Obj) : List Nat → List Obj → Bool
  | [], _ => true
  | id :: ps, o :: os =>
    match get id, o with
    | .vars .., .vars .. => fits get ps os
    | .row .., _ => fits get ps os
    | _, _ => false
  | _ :: _, [] => false
def goneW (get : Nat → Obj) : List Nat → List (Nat × Obj)
  | [] => []
  | id :: ps => match get id with | .row .. => (id, .gone) :: goneW get ps | _ => goneW get ps
def nodupB : List Nat → Bool
  | [] => true
  | x :: xs => match hasN xs x with | true => false | false => nodupB xs
def callA (P : Program) (get : Nat → Obj) (base : Nat) (f : FuncId) (args : List AV) : List Gd → Res Eff
  | .call p fz bor v objs :: g =>
    let br := lents p get args
    let rd := p ++ hids args ++ hidO get p
    let get' := frzG br get
    let args' := args.map (ren (idx p) get')
    let sub := p.map fun id => renO (idx p) get' (get' id)
    match bor with
    | true =>
      match p, flatB v with
      | [], true => some (⟨some v, rd, [], 0⟩, [ACalls P f args' [] v objs], g)
      | _, _ => none
    | false =>
      match fits get p objs, nodupB p with
      | true, true =>
        let r := fun j => some (outN p get base j)
        let m := p.length
        let getC := fun j => match outO fz m j (getO objs j) with | .frz T sz xs => .frz T sz xs | _ => .hole
        let rr := fun j => match getC j with | .frz .. => none | _ => r j
        some (⟨some (match v with | .tup vs => .tup (vs.map (ren rr getC)) | v => ren rr getC v), rd,
          (br.map fun id => (id, get' id)) ++ goneW get p ++ outW p get fz base m (ren0 rr getC) 0 objs, objs.length⟩, [ACalls P f args' sub v objs], g)
      | _, _ => none
  | .rd p v :: g =>
    match lents p get args, nodupB p with
    | [], true => some (⟨some v, p ++ hids args ++ hidO get p, [], 0⟩, [AReads P f (args.map (ren (idx p) get)) (p.map fun id => renO (idx p) get (get id)) v], g)
    | _, _ => none
  | .tu id xs v :: g =>
    match lents [id] get args, get id with
    | [], .row T sz ys => some (⟨some v, id :: hids args, [(id, .row T sz xs)], 0⟩, [xs.length = ys.length, ATurn P f (args.map (ren (idx [id]) get)) T sz ys xs v], g)
    | _, _ => none
  | _ => none

/-- A slice of bytes as a string. -/
def convA (P : Program) (get : Nat → Obj) (s d : TypeId) (v : AV) (g : List Gd) : Res Eff :=
  match P.underlying s, P.underlying d with
  | some (.slice el), some .string =>
    match P.underlying el, srcA get 1 v, g with
    | some (.int .u8), some (ys, rd), .st bs :: g => some (⟨some (.str bs), rd, [], 0⟩, [ys = bs.data.toList.map fun b => .int .u8 (b.toNat : Int)], g)
    | _, _, _ => none
  | some (.slice _), some (.slice el) =>
    match Nat.beq s d, P.underlying el, v with
    | true, some (.int .u8), .row id sz n =>
      match get id with
      | .row T sz' xs => some (⟨some (.row id sz n), [id], [(id, .frz T sz' xs)], 0⟩, [xs ≠ []], g)
      | _ => none
    | _, _, _ => none
  | _, _ => none
def memA (P : Program) (e : Nat → Option AV) (get : Nat → Obj) (base : Nat) (o : Oper) (g : List Gd) : Res Eff :=
  match o.op with
  | .load T x => match opv e x with | some a => loadA P e get T a g | none => none
  | .store T x y => match opv e x, opv e y with | some a, some v => storeA P get T a v g | _, _ => none
  | .alloc T => match zerosA P T with | some cs => some (⟨some (.ptr base 0), [], [(base, .vars T cs)], 1⟩, [], g) | none => none
  | .box T x =>
    match opv e x with
    | some v => (match allB AV.cell v.cells with | true => some (⟨some (.ptr base 0), [], [(base, .vars T v.cells)], 1⟩, [], g) | false => none)
    | none => none
  | .buildSlice T len parts =>
    match P.underlying T with
    | some (.slice el) =>
      match P.info? el, zeroA P el with
      | some i, some z =>
        match i.size, Nat.ble (len * i.size) 16777216, elsA P e i.size (List.replicate len z) parts.toList with
        | _ + 1, true, some xs => some (⟨some (.row base i.size len), [], [(base, .row el i.size xs)], 1⟩, [], g)
        | _, _, _ => none
      | _, _ => none
    | _ => none
  | .makeSlice T l c =>
    match P.underlying T, opv e l, opv e c with
    | some (.slice el), some lv, some cv =>
      match P.info? el, zeroA P el, ixA lv g with
      | some i, some z, some (n, o1, g) =>
        match i.size, ixA cv g with
        | _ + 1, some (m, o2, g) => some (⟨some (.row base i.size n), [], [(base, .row el i.size (List.replicate n z))], 1⟩, (n ≤ m) :: (m ≤ 140737488355328) :: (m * i.bytes ≤ 140737488355328) :: (o1 ++ o2), g)
        | _, _ => none
      | _, _, _ => none
    | _, _, _ => none
  | .convert s d x => match opv e x with | some v => convA P get s d v g | none => none
  | .call { callee := .builtin .append, args, argTypes } =>
    match opvL e args.toList, argTypes.toList with
    | some [s, x], [tS, tX] => appendA P get base tS tX s x g
    | _, _ => none
  | .call { callee := .value f, args, argTypes } =>
    match opv e f, opvL e args.toList with
    | some (.fn f caps), some vs => callA P get base f (vs ++ caps) g
    | _, _ => none
  | _ => none

/-- One operation. -/
def opA (P : Program) (e : Nat → Option AV) (get : Nat → Obj) (base : Nat) (o : Oper) (g : List Gd) : Res Eff :=
  match pureA P e o g with
  | some (v, ob, g) => some (⟨some v, [], [], 0⟩, ob, g)
  | none => memA P e get base o g
/-- A frozen row is a list. -/
def conv0 (get : Nat → Obj) : AV → AV
  | .row id s n => match get id with | .frz _ sz xs => .lst sz xs | _ => .row id s n
  | .rws id s off n => match get id with | .frz _ sz xs => .lst sz ((xs.drop off).take n) | _ => .rws id s off n
  | v => v
def conv (get : Nat → Obj) : AV → AV
  | .agg cs => .agg (cs.map (conv0 get))
  | v => conv0 get v
def onlyG (ids : List Nat) (get : Nat → Obj) (i : Nat) : Obj := match hasN ids i with | true => get i | false => .hole
def convE (h : Nat → Obj) (e : Nat → Option AV) (t : Nat) : Option AV := match e t with | some v => some (conv h v) | none => none
/-- Rows are frozen ahead of an operation. -/
def opFo (P : Program) (e : Nat → Option AV) (get : Nat → Obj) (base : Nat) (o : Oper) (ids : List Nat) (g : List Gd) : Res Eff :=
  match opA P (convE (onlyG ids (frzG ids get)) e) (frzG ids get) base o g with
  | some (E, ob, g) => some (⟨E.v, ids ++ E.rd, (ids.map fun id => (id, frzG ids get id)) ++ E.wr, E.nf⟩, ob, g)
  | none => none
def eqDst : Option Nat → Nat → Bool
  | some d, k => Nat.beq d k
  | none, _ => false
/-- Rows may be frozen ahead of an operation: of the one whose slot is named. -/
def opF (P : Program) (e : Nat → Option AV) (get : Nat → Obj) (base : Nat) (o : Oper) (g : List Gd) : Res Eff :=
  match g with
  | .fo d ids :: g' =>
    match eqDst o.dst d with
    | true => opFo P e get base o ids g'
    | false => opA P e get base o g
  | _ => opA P e get base o g
/-- One operation of a region: is it wanted? -/
def stepA (P : Program) (ds : List (Option Nat)) (e : Nat → Option AV) (get : Nat → Obj) (base : Nat) (o : Oper) (g : List Gd) : Res Eff :=
  match o.guard with
  | none => opF P e get base o g
  | some (j, want) =>
    match nth ds j with
    | some (some t) =>
      match e t, want with
      | some (.bool true), true | some (.bool false), false => opF P e get base o g
      | some (.bool _), _ | some (.tup []), _ => some (⟨some (.tup []), [], [], 0⟩, [], g)
      | _, _ => none
    | _ => none

def killE : Env → Nat → Env
  | [], _ => []
  | (k, v) :: r, t => match Nat.beq k t with | true => killE r t | false => (k, v) :: killE r t
def putE (e : Env) : Option Nat → Option AV → Env
  | none, _ => e
  | some t, some v => (t, v) :: e
  | some t, none => killE e t
def setO : List Obj → Nat → Obj → List Obj
  | [], 0, o => [o]
  | [], n + 1, o => .hole :: setO [] n o
  | _ :: l, 0, o => o :: l
  | x :: l, n + 1, o => x :: setO l n o
def setsO (l : List Obj) : List (Nat × Obj) → List Obj
  | [] => l
  | (n, o) :: r => setsO (setO l n o) r

structure Rc where
  dst : Option Nat
  ss : List Nat
  rd : List Nat
  ws : List Nat
def slotsOf (ds : List (Option Nat)) (o : Oper) : List Nat :=
  o.op.operands.toList.filterMap (fun | .tmp t => some t | _ => none) ++
  match o.guard with
  | some (j, _) => (match nth ds j with | some (some t) => [t] | _ => [])
  | none => []
def rangeN (b : Nat) : Nat → List Nat
  | 0 => []
  | n + 1 => b :: rangeN (b + 1) n
def dstB (nt : Nat) : Option Nat → Bool
  | some d => Nat.blt d nt
  | none => true
def runOps (P : Program) (nt : Nat) (ds : List (Option Nat)) : List Oper → Env → List Obj → List Gd → Option (Env × List Obj × List Rc × List Prop × List Gd)
  | [], e, os, g => some (e, os, [], [], g)
  | o :: r, e, os, g =>
    match stepA P ds (look e) (getO os) os.length o g, dstB nt o.dst with
    | some (f, ob, g), true =>
      match runOps P nt ds r (putE e o.dst f.v) (setsO os f.wr) g with
      | some (e', os', rs, ob', g') => some (e', os', ⟨o.dst, slotsOf ds o, f.rd, rangeN os.length f.nf ++ f.wr.map (·.1)⟩ :: rs, ob ++ ob', g')
      | none => none
    | _, _ => none

def meets (a b : List Nat) : Bool :=
  match a with
  | [] => false
  | x :: xs => match hasN b x with | true => true | false => meets xs b
def hasO (l : List Nat) : Option Nat → Bool
  | some t => hasN l t
  | none => false
def eqO : Option Nat → Option Nat → Bool
  | some a, some b => Nat.beq a b
  | _, _ => false
def conf (r s : Rc) : Bool :=
  hasO s.ss r.dst || hasO r.ss s.dst || eqO r.dst s.dst || meets r.ws (s.rd ++ s.ws) || meets s.ws r.rd
def bindsB (e : Edge) : Bool := Region.binds .any e
/-- Of each operation, which ones come ahead of it: one bit each. -/
def maskOf (acc : List Nat) : List Edge → Nat
  | [] => 0
  | e :: es => match bindsB e, nth acc e.on with
    | true, some m => (2 ^ e.on ||| m) ||| maskOf acc es
    | _, _ => maskOf acc es
def masks : List Nat → List Oper → List Nat
  | acc, [] => acc
  | acc, o :: os => masks (acc ++ [maskOf acc o.after.toList]) os
/-- Whoever is in the way of operation i, ahead of it in the text, comes ahead of it in any order. -/
def okOne (r : Rc) (m : Nat) : Nat → List Rc → Bool
  | _, [] => true
  | j, s :: rs => match conf s r, m.testBit j with | true, false => false | _, _ => okOne r m (j + 1) rs
def edgesB (i : Nat) : List Edge → Bool
  | [] => true
  | e :: es => match bindsB e, Nat.blt e.on i with | true, false => false | _, _ => edgesB i es
def edgesAll : Nat → List Oper → Bool
  | _, [] => true
  | i, o :: os => match edgesB i o.after.toList with | true => edgesAll (i + 1) os | false => false
def okAll : List Rc → List Rc → List Nat → Bool
  | _, [], _ => true
  | ahead, r :: rs, m :: ms => match okOne r m 0 ahead with | true => okAll (ahead ++ [r]) rs ms | false => false
  | _, _ :: _, [] => false

def keepE (cr : List Nat) : Env → Env
  | [] => []
  | (k, v) :: r => match hasN cr k with | true => (k, v) :: keepE cr r | false => keepE cr r
def frzO (ids : List Nat) : Nat → List Obj → List Obj
  | _, [] => []
  | i, o :: os => (match o, hasN ids i with | .row T sz xs, true => .frz T sz xs | o, _ => o) :: frzO ids (i + 1) os
def convO (get : Nat → Obj) : Obj → Obj
  | .vars T cs => .vars T (cs.map (conv0 get))
  | o => o
def admS (ids : List Nat) (S : St) : St :=
  let os := frzO ids 0 S.objs
  ⟨S.env.map fun kv => (kv.1, conv (getO os) kv.2), os.map (convO (getO os))⟩
def runRegion (P : Program) (cr : List Nat) (nt : Nat) (ops : Array Oper) (draw : Bool) (S : St) (g : List Gd) : Res St :=
  match runOps P nt (ops.toList.map (·.dst)) ops.toList S.env S.objs g with
  | some (e, os, rs, ob, g) =>
    match draw with
    | false => some (⟨keepE cr e, os⟩, ob, g)
    | true => (match edgesAll 0 ops.toList, okAll [] rs (masks [] ops.toList) with | true, true => some (⟨keepE cr e, os⟩, ob, g) | _, _ => none)
  | none => none

/-- The first m things stay where they are. -/
def startsB : Nat → Nat → List Nat → Bool
  | _, 0, _ => true
  | i, m + 1, p :: ps => match Nat.beq p i with | true => startsB (i + 1) m ps | false => false
  | _, _ + 1, [] => false
def keepS (keep : List Nat) (f : AV → AV) (e : Env) : Env :=
  match keep with
  | [] => []
  | t :: ts => match look e t with | some v => (t, f v) :: keepS ts f e | none => keepS ts f e
def reS (keep p : List Nat) (S : St) : St :=
  ⟨keepS keep (ren (idx p) (getO S.objs)) S.env, p.map fun id => renO (idx p) (getO S.objs) (getO S.objs id)⟩

/-- A nil slice is seen as an empty row of one's own. -/
def mkS (t : Nat) (T : TypeId) (sz : Nat) (S : St) : Option St :=
  match look S.env t, sz with
  | some .nils, _ + 1 => some ⟨(t, .row S.objs.length sz 0) :: S.env, S.objs ++ [.row T sz []]⟩
  | _, _ => none
def mkcS (id k : Nat) (T : TypeId) (sz : Nat) (S : St) : Option St :=
  match getO S.objs id, sz with
  | .vars T' cs, _ + 1 =>
    match nth cs k, setN cs k [.row S.objs.length sz 0] with
    | some .nils, some cs' => some ⟨S.env, setO (S.objs ++ [.row T sz []]) id (.vars T' cs')⟩
    | _, _ => none
  | _, _ => none
def runC (P : Program) (cr : List Nat) (m0 nt : Nat) : Nat → Code → St → List Gd → Option (Ex × St × List Prop × List Gd)
  | 0, _, _, _ => none
  | n + 1, c, S, .fz ids :: g => runC P cr m0 nt n c (admS ids S) g
  | n + 1, .loop c, S, .mk t T sz :: g => match mkS t T sz S with | some S' => runC P cr m0 nt n (.loop c) S' g | none => none
  | n + 1, .loop c, S, .mkc id k T sz :: g => match mkcS id k T sz S with | some S' => runC P cr m0 nt n (.loop c) S' g | none => none
  | n + 1, .ret, S, .mk t T sz :: g => match mkS t T sz S with | some S' => runC P cr m0 nt n (.ret) S' g | none => none
  | n + 1, .ret, S, .mkc id k T sz :: g => match mkcS id k T sz S with | some S' => runC P cr m0 nt n (.ret) S' g | none => none
  | n + 1, .skip, S, g => some (.normal, S, [], g)
  | n + 1, .ret, S, g => some (.ret, S, [], g)
  | n + 1, .exit id, S, g => some (.exit id, S, [], g)
  | n + 1, .seq a b, S, g =>
    match runC P cr m0 nt n a S g with
    | some (.normal, S', ob, g) => (match runC P cr m0 nt n b S' g with | some (x, S', ob', g) => some (x, S', ob ++ ob', g) | none => none)
    | r => r
  | n + 1, .block id c, S, g =>
    match runC P cr m0 nt n c S g with
    | some (.exit i, S', ob, g) => (match Nat.beq i id with | true => some (.normal, S', ob, g) | false => some (.exit i, S', ob, g))
    | r => r
  | n + 1, .cond c a b, S, g =>
    match opv (look S.env) c with
    | some (.bool true) => runC P cr m0 nt n a S g
    | some (.bool false) => runC P cr m0 nt n b S g
    | _ => none
  | n + 1, .region _ ops draw, S, g => match runRegion P cr nt ops draw S g with | some (S', ob, g) => some (.normal, S', ob, g) | none => none
  | n + 1, .loop c, S, .lp keep p x S' :: g =>
    match startsB 0 m0 p, nodupB p with
    | true, true => some (x, S', [ALoop P m0 nt c (reS keep p S) x S'], g)
    | _, _ => none
  | n + 1, .loop c, S, .go :: g =>
    match runC P cr m0 nt n c S g with
    | some (.normal, S', ob, g) => (match runC P cr m0 nt n (.loop c) S' g with | some (x, S', ob', g) => some (x, S', ob ++ ob', g) | none => none)
    | r => r
  | _, _, _, _ => none
end Go.Proofs.YtidgcfgkcidkiaaGreat.X
namespace Go.Proofs.YtidgcfgkcidkiaaGreat.X
open Go Go.Proofs.YtidgcfgkcidkiaaGreat.L
set_option linter.unusedVariables false
set_option linter.unusedSimpArgs false
theorem PR.mono {M M' : Nat → Nat → Option Value} (hM : ∀ b o v, M b o = some v → M' b o = some v) {u : AV} {c : Value} (h : PR M u c) : PR M' u c := by
  induction h with
  | lst sz xs ad c b o f hsz hc hm had hl hMM h ih => exact .lst sz xs ad c b o f hsz hc hm had hl (fun i x j u h1 h2 => hM _ _ _ (hMM i x j u h1 h2)) ih
  | _ => constructor

/-- Things go on. -/
structure Ctx.le (K K' : Ctx) : Prop where
  mem : ∀ b o v, K.M b o = some v → K'.M b o = some v
  at_ : ∀ id, K.kind id ≠ .hole → K'.kind id = .gone ∨ (K'.blk id = K.blk id ∧ K'.cap id = K.cap id ∧ K'.off id = K.off id ∧ (K'.kind id = K.kind id ∨ ∃ sz n, K.kind id = .row sz n ∧ K'.kind id = .frz sz n))

theorem kind_go {k k' : Kind} {sz n : Nat} (h : k = .row sz n ∨ k = .frz sz n) (h3 : k' = k ∨ ∃ sz n, k = .row sz n ∧ k' = .frz sz n) : k' = .row sz n ∨ k' = .frz sz n := by
  rcases h3 with h3 | ⟨sz', n', h3, h4⟩
  · rw [h3]; exact h
  · rcases h with h | h <;> rw [h] at h3
    · injection h3 with e1 e2; subst e1 e2; exact .inr h4
    · cases h3
theorem VR.mono {K K' : Ctx} (hK : K.le K') {u : AV} {c : Value} (h : VR K u c) : VR K' u c := by
  induction h with
  | pure h => exact .pure (h.mono hK.mem)
  | ptr id off c hk h hp =>
    rcases hK.at_ id hk with h1 | ⟨h1, h2, h0, h3⟩
    · exact .ptr id off c (by rw [h1]; simp) (.inl h1) hp
    · refine .ptr id off c ?_ ?_ hp
      · rcases h3 with h3 | ⟨sz, n, _, h3⟩ <;> rw [h3]
        · exact hk
        · simp
      · rcases h with h | h
        · rcases h3 with h3 | ⟨sz, n, h3, _⟩
          · exact .inl (h3.trans h)
          · rw [h] at h3; cases h3
        · rw [h1]; exact .inr h
  | ept id sz i off c hk h hp =>
    rcases hK.at_ id hk with h1 | ⟨h1, h2, h0, h3⟩
    · exact .ept id sz i off c (by rw [h1]; simp) (.inl h1) hp
    · refine .ept id sz i off c ?_ ?_ hp
      · rcases h3 with h3 | ⟨sz, n, _, h3⟩ <;> rw [h3]
        · exact hk
        · simp
      · rcases h with h | ⟨n, h, hi, hc⟩
        · rcases h3 with h3 | ⟨sz, n, h3, _⟩
          · exact .inl (h3.trans h)
          · rw [h] at h3; cases h3
        · rw [h1, h0]
          exact .inr ⟨n, kind_go h h3, hi, hc⟩
  | lpt sz xs i off ad n c hx hi => exact .lpt sz xs i off ad n c (hx.mono hK.mem) hi
  | row id sz len c hk h hp =>
    rcases hK.at_ id hk with h1 | ⟨h1, h2, h0, h3⟩
    · exact .row id sz len c (by rw [h1]; simp) (.inl h1) hp
    · refine .row id sz len c ?_ ?_ hp
      · rcases h3 with h3 | ⟨sz, n, _, h3⟩ <;> rw [h3]
        · exact hk
        · simp
      · rcases h with h | ⟨h, ad, hc, ha⟩
        · rcases h3 with h3 | ⟨sz, n, h3, _⟩
          · exact .inl (h3.trans h)
          · rw [h] at h3; cases h3
        · rw [h1, h2, h0]
          exact .inr ⟨kind_go h h3, ad, hc, ha⟩
  | rws id sz off len c hk h hp =>
    rcases hK.at_ id hk with h1 | ⟨h1, h2, h0, h3⟩
    · exact .rws id sz off len c (by rw [h1]; simp) (.inl h1) hp
    · refine .rws id sz off len c ?_ ?_ hp
      · rcases h3 with h3 | ⟨sz, n, _, h3⟩ <;> rw [h3]
        · exact hk
        · simp
      · rcases h with h | ⟨n, ad, m, h, hn, hc, ha⟩
        · rcases h3 with h3 | ⟨sz, n, h3, _⟩
          · exact .inl (h3.trans h)
          · rw [h] at h3; cases h3
        · rw [h1, h0]
          exact .inr ⟨n, ad, m, kind_go h h3, hn, hc, ha⟩
  | fn f caps ds hl h ih => exact .fn f caps ds hl ih
  | agg cs ds hl h ih => exact .agg cs ds hl ih
  | tup cs ds hl h ih => exact .tup cs ds hl ih
  | dead c => exact .dead c

section
variable {K : Ctx} {c : Value}
theorem VR.int_inv {k : IntKind} {n : Int} (h : VR K (.int k n) c) : c = .int k n := by cases h with | pure h => cases h; rfl
theorem VR.bool_inv {b : Bool} (h : VR K (.bool b) c) : c = .bool b := by cases h with | pure h => cases h; rfl
theorem VR.str_inv {s : ByteArray} (h : VR K (.str s) c) : c = .string s := by cases h with | pure h => cases h; rfl
theorem VR.nilp_inv (h : VR K .nilp c) : c = .pointer none := by cases h with | pure h => cases h; rfl
theorem VR.nils_inv (h : VR K .nils c) : c = .slice none 0 0 := by cases h with | pure h => cases h; rfl
theorem VR.agg_inv {cs : List AV} (h : VR K (.agg cs) c) : ∃ ds, c = .agg ds ∧ VRs K cs ds.toList := by
  cases h with
  | pure h => cases h
  | agg cs ds hl h => exact ⟨ds, rfl, by simpa using hl, fun i u d h1 h2 => h i u d h1 (by simpa using h2)⟩
theorem VR.tup_inv {cs : List AV} (h : VR K (.tup cs) c) : ∃ ds, c = .tuple ds ∧ VRs K cs ds.toList := by
  cases h with
  | pure h => cases h
  | tup cs ds hl h => exact ⟨ds, rfl, by simpa using hl, fun i u d h1 h2 => h i u d h1 (by simpa using h2)⟩
theorem VR.fn_inv {f : FuncId} {cs : List AV} (h : VR K (.fn f cs) c) : ∃ ds, c = .func (.func f) #[] ds ∧ VRs K cs ds.toList := by
  cases h with
  | pure h => cases h
  | fn f cs ds hl h => exact ⟨ds, rfl, by simpa using hl, fun i u d h1 h2 => h i u d h1 (by simpa using h2)⟩
theorem VR.mkAgg {cs : List AV} {ds : List Value} (h : VRs K cs ds) : VR K (.agg cs) (.agg ds.toArray) := .agg cs _ (by simpa using h.1) fun i u d h1 h2 => h.2 i u d h1 (by simpa using h2)
theorem VR.mkTup {cs : List AV} {ds : List Value} (h : VRs K cs ds) : VR K (.tup cs) (.tuple ds.toArray) := .tup cs _ (by simpa using h.1) fun i u d h1 h2 => h.2 i u d h1 (by simpa using h2)
theorem VR.mkFn {f : FuncId} {cs : List AV} {ds : List Value} (h : VRs K cs ds) : VR K (.fn f cs) (.func (.func f) #[] ds.toArray) := .fn f cs _ (by simpa using h.1) fun i u d h1 h2 => h.2 i u d h1 (by simpa using h2)
theorem VRs.nil : VRs K [] [] := ⟨rfl, by simp⟩
theorem VRs.cons {u : AV} {us : List AV} {ds : List Value} (h : VR K u c) (hs : VRs K us ds) : VRs K (u :: us) (c :: ds) := by
  refine ⟨by simp [hs.1], fun i v d h1 h2 => ?_⟩
  cases i with
  | zero => simp at h1 h2; subst h1 h2; exact h
  | succ i => exact hs.2 i v d (by simpa using h1) (by simpa using h2)
theorem VRs.cons_inv {u : AV} {us : List AV} {ds : List Value} (h : VRs K (u :: us) ds) : ∃ c cs, ds = c :: cs ∧ VR K u c ∧ VRs K us cs := by
  cases ds with
  | nil => have := h.1; simp at this
  | cons c cs => exact ⟨c, cs, rfl, h.2 0 u c rfl rfl, by have := h.1; simpa using this, fun i v d h1 h2 => h.2 (i + 1) v d (by simpa using h1) (by simpa using h2)⟩
theorem VRs.nil_inv {ds : List Value} (h : VRs K [] ds) : ds = [] := List.eq_nil_of_length_eq_zero h.1.symm
theorem VRs.append {us vs : List AV} {ds es : List Value} (h : VRs K us ds) (k : VRs K vs es) : VRs K (us ++ vs) (ds ++ es) := by
  induction us generalizing ds with
  | nil => rw [h.nil_inv]; exact k
  | cons u us ih => obtain ⟨c, cs, rfl, h1, h2⟩ := h.cons_inv; exact .cons h1 (ih h2)
theorem VRs.mono {K' : Ctx} (hK : K.le K') {us : List AV} {ds : List Value} (h : VRs K us ds) : VRs K' us ds := ⟨h.1, fun i u d h1 h2 => (h.2 i u d h1 h2).mono hK⟩
theorem VRs.at_ {us : List AV} {ds : List Value} (h : VRs K us ds) {i : Nat} {u : AV} (hu : us[i]? = some u) : ∃ d, ds[i]? = some d ∧ VR K u d := by
  have hi : i < ds.length := by rw [← h.1]; exact (List.getElem?_eq_some_iff.1 hu).1
  exact ⟨ds[i], List.getElem?_eq_getElem hi, h.2 i u _ hu (List.getElem?_eq_getElem hi)⟩
theorem nth_eq {α : Type} (l : List α) (n : Nat) : nth l n = l[n]? := by induction l generalizing n with | nil => simp [nth] | cons x xs ih => cases n <;> simp [nth, ih]
/-- One cell's value is one cell. -/
theorem VR.one {u : AV} (h : VR K u c) (hu : u.cell = true) : c.oneCell' = true := by
  cases h with
  | pure h => cases h <;> rfl
  | ptr id off c hk h hp => obtain ⟨a, rfl⟩ := hp; rfl
  | row id sz len c hk h hp => obtain ⟨a, m, rfl, _⟩ := hp; rfl
  | rws id sz off len c hk h hp => obtain ⟨a, m, rfl, _⟩ := hp; rfl
  | fn => rfl
  | _ => simp [AV.cell] at hu
theorem allB_iff {α : Type} {f : α → Bool} {l : List α} : allB f l = true ↔ ∀ x ∈ l, f x = true := by
  induction l with
  | nil => simp [allB]
  | cons x xs ih => simp only [allB]; cases h : f x <;> simp [h, ih]
theorem lenB_iff {α : Type} {l : List α} {n : Nat} : lenB l n = true ↔ l.length = n := by
  induction l generalizing n with
  | nil => cases n <;> simp [lenB]
  | cons x xs ih => cases n <;> simp [lenB, ih]
/-- The cells of a value. -/
theorem VR.cells {u : AV} (h : VR K u c) (hu : allB AV.cell u.cells = true) : VRs K u.cells c.cells.toList ∧ ∀ d ∈ c.cells.toList, d.oneCell' = true := by
  by_cases ha : ∃ cs, u = .agg cs
  · obtain ⟨cs, rfl⟩ := ha
    obtain ⟨ds, rfl, hds⟩ := h.agg_inv
    refine ⟨hds, fun d hd => ?_⟩
    obtain ⟨i, hi⟩ := List.getElem?_of_mem hd
    have hl : i < cs.length := by rw [hds.1]; exact (List.getElem?_eq_some_iff.1 hi).1
    exact (hds.2 i cs[i] d (List.getElem?_eq_getElem hl) hi).one (allB_iff.1 hu _ (List.getElem_mem hl))
  · have e : u.cells = [u] := by cases u <;> first | rfl | exact absurd ⟨_, rfl⟩ ha
    rw [e] at hu ⊢
    have hu1 : u.cell = true := allB_iff.1 hu u (by simp)
    have h1 := h.one hu1
    have e2 : c.cells.toList = [c] := by cases c <;> first | rfl | simp [Value.oneCell'] at h1
    rw [e2]
    exact ⟨.cons h .nil, by simpa using h1⟩

theorem cst1_sound {v : Value} {u : AV} (h : cst1 v = some u) : VR K u v := by
  unfold cst1 at h
  split at h <;> cases h <;> exact .pure (by constructor)
theorem cstL_sound : ∀ (vs : List Value) (us : List AV), cstL vs = some us → VRs K us vs
  | [], us, h => by cases h; exact .nil
  | v :: vs, us, h => by
    simp only [cstL] at h
    split at h
    · rename_i u hu
      split at h
      · rename_i ws hws
        cases h
        exact .cons (cst1_sound hu) (cstL_sound vs ws hws)
      · cases h
    · cases h
theorem cst_sound {v : Value} {u : AV} (h : cst v = some u) : VR K u v := by
  unfold cst at h
  split at h
  · rename_i cs
    split at h
    · rename_i us hus
      cases h
      have := VR.mkAgg (cstL_sound (K := K) _ _ hus)
      simpa using this
    · cases h
  · exact cst1_sound h

variable {e : Nat → Option AV} {get : Nat → Obj} {a : Act} {w : World} {P : Program}
theorem opv_sound (hS : RelS K e get a w) {x : Operand} {u : AV} (h : opv e x = some u) : VR K u (a.eval x) := by
  cases x with
  | tmp t =>
    obtain ⟨c, hc, hv⟩ := hS.env t u h
    simpa [Act.eval, Array.getD_eq_getD_getElem?, hc] using hv
  | const v => exact cst_sound h
  | func f => cases h; exact .fn f [] #[] rfl (by simp)
  | global g => cases h
theorem opvL_sound (hS : RelS K e get a w) : ∀ (xs : List Operand) (us : List AV), opvL e xs = some us → VRs K us (xs.map a.eval)
  | [], us, h => by cases h; exact .nil
  | x :: xs, us, h => by
    simp only [opvL] at h
    split at h
    · rename_i u hu
      split at h
      · rename_i ws hws
        cases h
        exact .cons (opv_sound hS hu) (opvL_sound hS xs ws hws)
      · cases h
    · cases h
end
/-- All of these hold. -/
def AllP : List Prop → Prop
  | [] => True
  | p :: ps => p ∧ AllP ps
theorem AllP.append_iff {l m : List Prop} : AllP (l ++ m) ↔ AllP l ∧ AllP m := by
  induction l with
  | nil => simp [AllP]
  | cons p l ih => simp [AllP, ih, and_assoc]
end Go.Proofs.YtidgcfgkcidkiaaGreat.X
namespace Go.Proofs.YtidgcfgkcidkiaaGreat.X
open Go Go.Proofs.YtidgcfgkcidkiaaGreat.L
set_option linter.unusedVariables false
set_option linter.unusedSimpArgs false
section
variable {P : Program} {K : Ctx} {e : Nat → Option AV} {get : Nat → Obj} {a : Act} {w : World}
theorem num_sound {k : IntKind} {raw : Int} {g g' : List Gd} {v : AV} {ob : List Prop} (h : num k raw g = some (v, ob, g')) (ho : AllP ob) : v = .int k raw := by
  unfold num at h
  split at h
  · cases h; rw [ho.1]
  · cases h; rfl
  · cases h
theorem boo_sound {raw : Bool} {g g' : List Gd} {v : AV} {ob : List Prop} (h : boo raw g = some (v, ob, g')) (ho : AllP ob) : v = .bool raw := by
  unfold boo at h
  split at h
  · cases h; rw [ho.1]
  · cases h; rw [ho.1]
  · cases h; rfl
  · cases h
theorem ixA_sound {x : AV} {c : Value} {g g' : List Gd} {i : Nat} {ob : List Prop} (hx : VR K x c) (h : ixA x g = some (i, ob, g')) (ho : AllP ob) : ∃ k, c = .int k (i : Int) := by
  unfold ixA at h
  split at h
  · split at h
    · cases h
      have := hx.int_inv
      rw [ho.1] at this
      exact ⟨_, this⟩
    · cases h
  · cases h
theorem lsA_sound {raw xs : List AV} {g g' : List Gd} {ob : List Prop} (h : lsA raw g = some (xs, ob, g')) (ho : AllP ob) : xs = raw := by
  unfold lsA at h
  split at h
  · cases h; exact ho.1.symm
  · cases h; rfl
  · cases h
theorem elA_sound {xs : List AV} {i : Nat} {x : AV} {g g' : List Gd} {ob : List Prop} (h : elA xs i g = some (x, ob, g')) (ho : AllP ob) : xs[i]? = some x := by
  unfold elA at h
  split at h
  · cases h; exact ho.1
  · cases h
theorem eqKind_eq {a b : IntKind} (h : eqKind a b = true) : a = b := by cases a <;> cases b <;> first | rfl | cases h

/-- The operation yields a value; memory stays. -/
def Yes (P : Program) (K : Ctx) (a : Act) (w : World) (o : Oper) (v : AV) : Prop := ∃ c, (execOp a.eval o).run P w = .ok (.value c) w ∧ VR K v c

theorem binInt_sound {op : BinOp} {k : IntKind} {x y : Int} {g g' : List Gd} {v : AV} {ob : List Prop} (T : TypeId) (h : binInt op k x y g = some (v, ob, g')) (ho : AllP ob) :
    ∃ c, (binOp op T (.int k x) (.int k y)).run P w = .ok c w ∧ VR K v c := by
  cases op <;> simp only [binInt] at h <;> try (cases h; done)
  all_goals first
    | (have := num_sound h ho; subst this; exact ⟨_, by simp [binOp, Op.intArith, Op.intBits], .pure (.int _ _)⟩)
    | (have := boo_sound h ho; subst this; exact ⟨_, by simp [binOp, Op.intCmp], .pure (.bool _)⟩)
    | (split at h
       · rename_i v' o' g'' hn
         cases h
         have := num_sound hn ho.2; subst this
         exact ⟨_, by simp [binOp, Op.intDiv, ho.1], .pure (.int _ _)⟩
       · cases h)
theorem equal_bool {T : TypeId} (hu : P.underlying T = some .bool) (x y : Bool) : (Op.equal T (.bool x) (.bool y)).run P w = .ok (x == y) w := by
  show (Op.equalIn (9999 + 1) T (.bool x) (.bool y)).run P w = _
  unfold Op.equalIn
  rw [Sem.run_bind, run_underlying hu]; rfl
theorem equal_nn {T E : TypeId} (hu : P.underlying T = some (.pointer E)) : (Op.equal T (.pointer none) (.pointer none)).run P w = .ok true w := by
  show (Op.equalIn (9999 + 1) T _ _).run P w = _
  unfold Op.equalIn
  rw [Sem.run_bind, run_underlying hu]; rfl
theorem equal_pn {T E : TypeId} (hu : P.underlying T = some (.pointer E)) (p : Addr) : (Op.equal T (.pointer (some p)) (.pointer none)).run P w = .ok false w := by
  show (Op.equalIn (9999 + 1) T _ _).run P w = _
  unfold Op.equalIn
  rw [Sem.run_bind, run_underlying hu]; rfl
theorem equal_np {T E : TypeId} (hu : P.underlying T = some (.pointer E)) (p : Addr) : (Op.equal T (.pointer none) (.pointer (some p))).run P w = .ok false w := by
  show (Op.equalIn (9999 + 1) T _ _).run P w = _
  unfold Op.equalIn
  rw [Sem.run_bind, run_underlying hu]; rfl
theorem takeN_eq {α : Type} : ∀ (n : Nat) (l r : List α), takeN n l = some r → l.take n = r ∧ r.length = n
  | 0, l, r, h => by cases h; simp
  | n + 1, [], r, h => by cases h
  | n + 1, x :: xs, r, h => by
    simp only [takeN] at h
    split at h
    · rename_i s hs
      cases h
      obtain ⟨h1, h2⟩ := takeN_eq n xs s hs
      simp [h1, h2]
    · cases h
theorem dropN_eq {α : Type} : ∀ (n : Nat) (l : List α), dropN n l = l.drop n
  | 0, l => rfl
  | n + 1, [] => rfl
  | n + 1, x :: xs => by simp [dropN, dropN_eq n xs]
theorem VRs.take_drop {us : List AV} {ds : List Value} (h : VRs K us ds) (n k : Nat) : VRs K ((us.drop n).take k) ((ds.drop n).take k) := by
  refine ⟨by simp [h.1], fun i u d h1 h2 => ?_⟩
  rw [List.getElem?_take] at h1 h2
  split at h1
  · rename_i hi
    rw [if_pos hi] at h2
    rw [List.getElem?_drop] at h1 h2
    exact h.2 _ u d h1 h2
  · cases h1
theorem isAgg_run {T : TypeId} {b : Bool} (h : aggT P T = some b) : (isAgg T).run P w = .ok b w := by
  unfold aggT at h
  split at h
  · rename_i hu; cases h; simp [isAgg, run_underlying hu]
  · rename_i hu; cases h; simp [isAgg, run_underlying hu]
  · rename_i d hn1 hn2 hu
    cases h
    unfold isAgg
    rw [Sem.run_bind, run_underlying hu]
    simp only [Result.andThen_ok]
    cases d <;> first | rfl | exact absurd hu (hn1 _) | exact absurd hu (hn2 _ _)
  · cases h
theorem size_run {T : TypeId} {i : TypeInfo} (h : P.info? T = some i) : (sizeOf T).run P w = .ok (P.cellsOf T) w := by simp [sizeOf, typeInfo, h, Program.cellsOf]
/-- A part of cells is the value of a type there. -/
theorem partA_sound {T : TypeId} {off : Nat} {cs : List AV} {ds : List Value} {v : AV} (h : partA P T off cs = some v) (hd : VRs K cs ds) :
    ∃ c l, VR K v c ∧ (ds.drop off).take (P.cellsOf T) = l ∧ l.length = P.cellsOf T ∧ ((aggT P T = some true ∧ c = .agg l.toArray) ∨ (aggT P T = some false ∧ l = [c])) ∧ (∃ i, P.info? T = some i) := by
  unfold partA at h
  split at h
  · rename_i i l hi hl ht
    cases h
    obtain ⟨h1, h2⟩ := takeN_eq _ _ _ hl
    rw [dropN_eq] at h1
    have := hd.take_drop off (P.cellsOf T)
    rw [h1] at this
    exact ⟨_, _, .mkAgg this, rfl, by rw [← this.1]; exact h2, .inl ⟨ht, rfl⟩, i, hi⟩
  · rename_i i u hi hl ht
    cases h
    obtain ⟨h1, h2⟩ := takeN_eq _ _ _ hl
    rw [dropN_eq] at h1
    have := hd.take_drop off (P.cellsOf T)
    rw [h1] at this
    obtain ⟨c, cs', e, hv, hn⟩ := this.cons_inv
    obtain rfl := hn.nil_inv
    exact ⟨c, _, hv, e, by simpa using h2, .inr ⟨ht, rfl⟩, i, hi⟩
  · cases h
theorem part_run {T : TypeId} {off : Nat} {cs : List AV} {ds : Array Value} {v : AV} (h : partA P T off cs = some v) (hd : VRs K cs ds.toList) :
    ∃ c, (part T ds off).run P w = .ok c w ∧ VR K v c := by
  obtain ⟨c, l, hv, hl, hn, ht, i, hi⟩ := partA_sound h hd
  refine ⟨c, ?_, hv⟩
  unfold part
  rcases ht with ⟨ht, rfl⟩ | ⟨ht, rfl⟩
  · simp only [Sem.run_bind, isAgg_run ht, Result.andThen_ok, size_run hi, if_true, Sem.run_pure]
    congr 2
    apply Array.ext'
    rw [Array.toList_extract, ← hl]
    simp [List.extract_eq_take_drop]
  · simp only [Sem.run_bind, isAgg_run ht, Result.andThen_ok, Bool.false_eq_true, if_false]
    have h0 : ((ds.toList.drop off).take (P.cellsOf T))[0]? = some c := by rw [hl]; rfl
    rw [List.getElem?_take] at h0
    split at h0
    · rw [List.getElem?_drop] at h0
      simp only [Nat.add_zero, Array.getElem?_toList] at h0
      rw [h0]; rfl
    · cases h0
theorem run_all {α : Type} (body : α → Option Bool × Unit → Sem (ForInStep (Option Bool × Unit))) : ∀ (l : List α) (bs : List Bool), l.length = bs.length → (∀ (i : Nat) x b, l[i]? = some x → bs[i]? = some b → (body x (none, ())).run P w = .ok (if b = true then .yield (none, ()) else .done (some false, ())) w) →
    (forIn l (none, ()) body).run P w = .ok (if bs.all (fun b => b) = true then (none, ()) else (some false, ())) w
  | [], [], _, _ => by simp
  | [], b :: bs, h, _ => by simp at h
  | x :: l, [], h, _ => by simp at h
  | x :: l, b :: bs, h, hb => by
    have h0 := hb 0 x b rfl rfl
    have ih := run_all body l bs (by simpa using h) fun i y c hy hc => hb (i + 1) y c (by simpa using hy) (by simpa using hc)
    rw [List.forIn_cons, Sem.run_bind, h0]
    cases b with
    | true => simp only [if_true, Result.andThen_ok, ih, List.all_cons, Bool.true_and]
    | false => simp [List.all_cons]
theorem eqF_spec {rec : TypeId → AV → AV → Option Bool} {pt : TypeId → Nat → Option (AV × AV)} : ∀ {fs : List Field} {r : Bool}, eqF rec pt fs = some r → ∃ bs : List Bool, fs.length = bs.length ∧ r = bs.all (fun b => b) ∧ ∀ (i : Nat) f b, fs[i]? = some f → bs[i]? = some b → eqS f.name "_" = false ∧ ∃ x y, pt f.type f.offset = some (x, y) ∧ rec f.type x y = some b
  | [], r, h => by cases h; exact ⟨[], rfl, rfl, fun i f b hf => by simp at hf⟩
  | f :: fs, r, h => by
    simp only [eqF] at h
    split at h
    · rename_i x y hn hp
      split at h
      · rename_i p q h1 h2
        cases h
        obtain ⟨bs, b1, b2, b3⟩ := eqF_spec h2
        refine ⟨p :: bs, by simp [b1], by simp [b2], fun i g b hg hb => ?_⟩
        cases i with
        | zero => simp at hg hb; subst hg hb; exact ⟨hn, x, y, hp, h1⟩
        | succ i => exact b3 i g b (by simpa using hg) (by simpa using hb)
      · cases h
    · cases h
theorem eqE_spec {rec : TypeId → AV → AV → Option Bool} {pt : TypeId → Nat → Option (AV × AV)} {el n : Nat} : ∀ {k i : Nat} {r : Bool}, eqE rec pt el n i k = some r → ∃ bs : List Bool, k = bs.length ∧ r = bs.all (fun b => b) ∧ ∀ (j : Nat) b, bs[j]? = some b → ∃ x y, pt el ((i + j) * n) = some (x, y) ∧ rec el x y = some b
  | 0, i, r, h => by cases h; exact ⟨[], rfl, rfl, fun j b hb => by simp at hb⟩
  | k + 1, i, r, h => by
    simp only [eqE] at h
    split at h
    · rename_i x y hp
      split at h
      · rename_i p q h1 h2
        cases h
        obtain ⟨bs, b1, b2, b3⟩ := eqE_spec h2
        refine ⟨p :: bs, by simp [b1], by simp [b2], fun j b hb => ?_⟩
        cases j with
        | zero => simp at hb; subst hb; exact ⟨x, y, by simpa using hp, h1⟩
        | succ j =>
          have := b3 j b (by simpa using hb)
          rwa [show i + 1 + j = i + (j + 1) by omega] at this
      · cases h
    · cases h
theorem eqA_sound : ∀ {d : Nat} {T : TypeId} {x y : AV} {r : Bool} {c e : Value} {n : Nat}, eqA P d T x y = some r → VR K x c → VR K y e → d ≤ n → (Op.equalIn n T c e).run P w = .ok r w
  | 0, T, x, y, r, c, e, n, h, _, _, _ => by simp [eqA] at h
  | d + 1, T, x, y, r, c, e, 0, h, _, _, hn => by omega
  | d + 1, T, x, y, r, c, e, n + 1, h, hx, hy, hn => by
    simp only [eqA] at h
    split at h
    · rename_i a b hu
      cases h
      obtain rfl := hx.bool_inv
      obtain rfl := hy.bool_inv
      unfold Op.equalIn
      rw [Sem.run_bind, run_underlying hu]; rfl
    · rename_i k0 k a k' b hu
      split at h
      · rename_i hk
        cases h
        have := eqKind_eq hk; subst this
        obtain rfl := hx.int_inv
        obtain rfl := hy.int_inv
        unfold Op.equalIn
        rw [Sem.run_bind, run_underlying hu]
        simp
      · cases h
    · rename_i fs xs ys hu
      split at h
      · rename_i hst
        obtain ⟨cs, rfl, hcs⟩ := hx.agg_inv
        obtain ⟨es, rfl, hes⟩ := hy.agg_inv
        obtain ⟨bs, b1, b2, b3⟩ := eqF_spec h
        unfold Op.equalIn
        rw [Sem.run_bind, run_underlying hu]
        simp only [Result.andThen_ok, Sem.run_bind, run_program, hst, Bool.false_eq_true, if_false]
        rw [← Array.forIn_toList]
        rw [run_all (P := P) (w := w) _ fs.toList bs b1 fun i f b hf hb => ?_]
        · rw [b2]
          cases bs.all (fun b => b) <;> rfl
        · obtain ⟨hnm, u, v, hp, hr⟩ := b3 i f b hf hb
          have hnm' : f.name ≠ "_" := by simpa [eqS] using hnm
          unfold part2 at hp
          split at hp
          · rename_i u' v' p1 p2
            cases hp
            obtain ⟨c1, q1, q2⟩ := part_run (w := w) p1 hcs
            obtain ⟨c2, q3, q4⟩ := part_run (w := w) p2 hes
            rw [if_pos hnm', Sem.run_bind, q1, Result.andThen_ok, Sem.run_bind, q3, Result.andThen_ok, Sem.run_bind, eqA_sound hr q2 q4 (by omega), Result.andThen_ok]
            cases b <;> rfl
          · cases hp
      · cases h
    · rename_i len el xs ys hu
      split at h
      · rename_i ie hie
        obtain ⟨cs, rfl, hcs⟩ := hx.agg_inv
        obtain ⟨es, rfl, hes⟩ := hy.agg_inv
        obtain ⟨bs, b1, b2, b3⟩ := eqE_spec h
        unfold Op.equalIn
        rw [Sem.run_bind, run_underlying hu]
        simp only [Result.andThen_ok, Sem.run_bind, size_run hie]
        simp only [Std.Legacy.Range.forIn_eq_forIn_range', Std.Legacy.Range.size]
        rw [run_all (P := P) (w := w) _ _ bs (by simp [b1]) fun i k b hk hb => ?_]
        · rw [Result.andThen_ok, b2]
          cases bs.all (fun b => b) <;> rfl
        · have hk' : k = i := by
            have hi : i < len := by rw [b1]; exact (List.getElem?_eq_some_iff.1 hb).1
            rw [List.getElem?_range' (by simpa using hi)] at hk
            injection hk with hk; omega
          subst hk'
          obtain ⟨u, v, hp, hr⟩ := b3 k b hb
          rw [Nat.zero_add] at hp
          unfold part2 at hp
          split at hp
          · rename_i u' v' p1 p2
            cases hp
            obtain ⟨c1, q1, q2⟩ := part_run (w := w) p1 hcs
            obtain ⟨c2, q3, q4⟩ := part_run (w := w) p2 hes
            rw [Sem.run_bind, q1, Result.andThen_ok, Sem.run_bind, q3, Result.andThen_ok, Sem.run_bind, eqA_sound hr q2 q4 (by omega), Result.andThen_ok]
            cases b <;> rfl
          · cases hp
      · cases h
    · cases h
theorem binA_sound {op : BinOp} {T : TypeId} {x y : AV} {c d : Value} {g g' : List Gd} {v : AV} {ob : List Prop} (hx : VR K x c) (hy : VR K y d) (h : binA P op T x y g = some (v, ob, g')) (ho : AllP ob) (X Y : Operand) :
    ∃ r, (do eqGuard op T X Y c d; binOp op T c d : Sem Value).run P w = .ok r w ∧ VR K v r := by
  unfold binA at h
  split at h
  · rename_i k a k' b
    obtain rfl := hx.int_inv
    obtain rfl := hy.int_inv
    have hg : (eqGuard op T X Y (.int k a) (.int k' b)).run P w = .ok () w := by cases op <;> rfl
    simp only [Sem.run_bind, hg, Result.andThen_ok]
    split at h
    · split at h
      · rename_i hn
        cases h
        have := num_sound hn ho.2; subst this
        exact ⟨_, by simp [binOp, Op.shift, Int.not_lt.2 ho.1], .pure (.int _ _)⟩
      · cases h
    · split at h
      · rename_i hn
        cases h
        have := num_sound hn ho.2; subst this
        exact ⟨_, by simp [binOp, Op.shift, Int.not_lt.2 ho.1], .pure (.int _ _)⟩
      · cases h
    · split at h
      · rename_i he
        obtain rfl := eqKind_eq he
        exact binInt_sound T h ho
      · cases h
  · rename_i a b
    obtain rfl := hx.bool_inv
    obtain rfl := hy.bool_inv
    have hg : (eqGuard op T X Y (.bool a) (.bool b)).run P w = .ok () w := by cases op <;> rfl
    simp only [Sem.run_bind, hg, Result.andThen_ok]
    split at h
    · rename_i hu
      have := boo_sound h ho; subst this
      exact ⟨_, by simp [binOp, equal_bool hu], .pure (.bool _)⟩
    · rename_i hu
      have := boo_sound h ho; subst this
      exact ⟨_, by simp [binOp, equal_bool hu], .pure (.bool _)⟩
    · cases h
  · rename_i a b
    obtain rfl := hx.str_inv
    obtain rfl := hy.str_inv
    have hg : (eqGuard op T X Y (.string a) (.string b)).run P w = .ok () w := by cases op <;> rfl
    simp only [Sem.run_bind, hg, Result.andThen_ok]
    split at h
    · have := boo_sound h ho; subst this
      exact ⟨_, by simp [binOp, Op.stringOp], .pure (.bool _)⟩
    · have := boo_sound h ho; subst this
      exact ⟨_, by simp [binOp, Op.stringOp], .pure (.bool _)⟩
    · cases h
  · obtain rfl := hx.nilp_inv
    obtain rfl := hy.nilp_inv
    have hg : (eqGuard op T X Y (.pointer none) (.pointer none)).run P w = .ok () w := by cases op <;> rfl
    simp only [Sem.run_bind, hg, Result.andThen_ok]
    split at h
    · rename_i hu
      cases h
      exact ⟨_, by simp [binOp, equal_nn hu, equal_pn hu, equal_np hu], .pure (.bool _)⟩
    · rename_i hu
      cases h
      exact ⟨_, by simp [binOp, equal_nn hu, equal_pn hu, equal_np hu], .pure (.bool _)⟩
    · cases h
  · rename_i id off
    obtain rfl := hy.nilp_inv
    obtain ⟨p, rfl⟩ : ∃ p, c = .pointer (some p) := by cases hx with | pure h => cases h | ptr id off c hk h hp => exact hp
    have hg : (eqGuard op T X Y (.pointer (some p)) (.pointer none)).run P w = .ok () w := by cases op <;> rfl
    simp only [Sem.run_bind, hg, Result.andThen_ok]
    split at h
    · rename_i hu
      cases h
      exact ⟨_, by simp [binOp, equal_nn hu, equal_pn hu, equal_np hu], .pure (.bool _)⟩
    · rename_i hu
      cases h
      exact ⟨_, by simp [binOp, equal_nn hu, equal_pn hu, equal_np hu], .pure (.bool _)⟩
    · cases h
  · rename_i id off
    obtain rfl := hx.nilp_inv
    obtain ⟨p, rfl⟩ : ∃ p, d = .pointer (some p) := by cases hy with | pure h => cases h | ptr id off c hk h hp => exact hp
    have hg : (eqGuard op T X Y (.pointer none) (.pointer (some p))).run P w = .ok () w := by cases op <;> rfl
    simp only [Sem.run_bind, hg, Result.andThen_ok]
    split at h
    · rename_i hu
      cases h
      exact ⟨_, by simp [binOp, equal_nn hu, equal_pn hu, equal_np hu], .pure (.bool _)⟩
    · rename_i hu
      cases h
      exact ⟨_, by simp [binOp, equal_nn hu, equal_pn hu, equal_np hu], .pure (.bool _)⟩
    · cases h
  · rename_i xs ys
    have hx' := hx
    have hy' := hy
    obtain ⟨cs, rfl, hcs⟩ := hx.agg_inv
    obtain ⟨es, rfl, hes⟩ := hy.agg_inv
    split at h
    · rename_i r hg he
      have := boo_sound h ho; subst this
      have hgr : (eqGuard .eql T X Y (.agg cs) (.agg es)).run P w = .ok () w := by
        simp [eqGuard, hg]
      rw [Sem.run_bind, hgr, Result.andThen_ok]
      have heq := eqA_sound (w := w) (n := 10000) he hx' hy' (by omega)
      refine ⟨.bool r, ?_, .pure (.bool _)⟩
      show (do pure (.bool (← Op.equalIn 10000 T (.agg cs) (.agg es))) : Sem Value).run P w = _
      rw [Sem.run_bind, heq]; rfl
    · rename_i r hg he
      have := boo_sound h ho; subst this
      have hgr : (eqGuard .neq T X Y (.agg cs) (.agg es)).run P w = .ok () w := by
        simp [eqGuard, hg]
      rw [Sem.run_bind, hgr, Result.andThen_ok]
      have heq := eqA_sound (w := w) (n := 10000) he hx' hy' (by omega)
      refine ⟨.bool (!r), ?_, .pure (.bool _)⟩
      show (do pure (.bool (!(← Op.equalIn 10000 T (.agg cs) (.agg es)))) : Sem Value).run P w = _
      rw [Sem.run_bind, heq]; rfl
    · cases h
  · cases h

end
end Go.Proofs.YtidgcfgkcidkiaaGreat.X
namespace Go.Proofs.YtidgcfgkcidkiaaGreat.X
open Go Go.Proofs.YtidgcfgkcidkiaaGreat.L
set_option linter.unusedVariables false
set_option linter.unusedSimpArgs false
section
variable {P : Program} {K : Ctx} {e : Nat → Option AV} {get : Nat → Obj} {a : Act} {w : World}
theorem setN_lay {α : Type} : ∀ (l ys r : List α), layN l ys = some r → r = ys ++ l.drop ys.length ∧ ys.length ≤ l.length
  | l, [], r, h => by cases l <;> (simp [layN] at h; subst h; simp)
  | [], y :: ys, r, h => by simp [layN] at h
  | x :: l, y :: ys, r, h => by
    simp only [layN] at h
    split at h
    · rename_i s hs
      cases h
      obtain ⟨h1, h2⟩ := setN_lay l ys s hs
      simp [h1, h2]
    · cases h
theorem setN_eq {α : Type} : ∀ (l : List α) (n : Nat) (ys r : List α), setN l n ys = some r → r = l.take n ++ ys ++ l.drop (n + ys.length) ∧ n + ys.length ≤ l.length
  | l, 0, ys, r, h => by
    have := setN_lay l ys r (by cases l <;> exact h)
    simpa using this
  | [], n + 1, ys, r, h => by simp [setN] at h
  | x :: l, n + 1, ys, r, h => by
    simp only [setN] at h
    split at h
    · rename_i s hs
      cases h
      obtain ⟨h1, h2⟩ := setN_eq l n ys s hs
      refine ⟨?_, by simp; omega⟩
      rw [h1, show n + 1 + ys.length = (n + ys.length) + 1 by omega]
      simp
    · cases h
theorem VRs.take {us : List AV} {ds : List Value} (h : VRs K us ds) (n : Nat) : VRs K (us.take n) (ds.take n) := by simpa using h.take_drop 0 n
theorem VRs.drop {us : List AV} {ds : List Value} (h : VRs K us ds) (n : Nat) : VRs K (us.drop n) (ds.drop n) := by
  refine ⟨by simp [h.1], fun i u d h1 h2 => ?_⟩
  rw [List.getElem?_drop] at h1 h2
  exact h.2 _ u d h1 h2
theorem VRs.setN {us ys r : List AV} {ds es : List Value} {n : Nat} (h : VRs K us ds) (k : VRs K ys es) (hr : setN us n ys = some r) : VRs K r (ds.take n ++ es ++ ds.drop (n + es.length)) := by
  obtain ⟨rfl, _⟩ := setN_eq _ _ _ _ hr
  rw [k.1]
  exact ((h.take n).append k).append (h.drop _)
theorem fold_seg : ∀ (vs : List Value) (off i : Nat) (cells : Array Value), off + i + vs.length ≤ cells.size →
    ((vs.zipIdx i).foldl (fun cs x => cs.setIfInBounds (off + x.2) x.1) cells).toList = cells.toList.take (off + i) ++ vs ++ cells.toList.drop (off + i + vs.length)
  | [], off, i, cells, h => by simp
  | v :: vs, off, i, cells, h => by
    simp only [List.zipIdx_cons, List.foldl_cons]
    rw [fold_seg vs off (i + 1) _ (by simp at h ⊢; omega)]
    have e := list_seg_step cells.toList (off + i) v vs (by simp at h ⊢; omega)
    simpa [Array.toList_setIfInBounds, Nat.add_assoc] using e
theorem fillA_sound (hS : RelS K e get a w) {place : Nat → Option (Nat × Nat)} : ∀ (parts : List (Nat × Operand)) (cs r : List AV) (ds : Array Value), fillA e place cs parts = some r → VRs K cs ds.toList →
    ∃ ds', Instr.fill place ds (parts.map fun x => (x.1, a.eval x.2)) = some ds' ∧ VRs K r ds'.toList
  | [], cs, r, ds, h, hd => by cases h; exact ⟨ds, rfl, hd⟩
  | (i, x) :: ps, cs, r, ds, h, hd => by
    simp only [fillA] at h
    split at h
    · rename_i off size v hp hv
      split at h
      · rename_i hl hc
        split at h
        · rename_i c hs
          have hv' := opv_sound hS hv
          obtain ⟨h1, _⟩ := hv'.cells hc
          obtain ⟨_, h2⟩ := setN_eq _ _ _ _ hs
          have h3 := lenB_iff.1 hl
          have h4 : (a.eval x).cells.size = size := by have := h1.1; simp at this; omega
          have h5 : off + (a.eval x).cells.size ≤ ds.size := by have := hd.1; simp at this; omega
          have e1 : ((a.eval x).cells.zipIdx.foldl (fun cs (c, j) => cs.setIfInBounds (off + j) c) ds).toList = ds.toList.take off ++ (a.eval x).cells.toList ++ ds.toList.drop (off + (a.eval x).cells.toList.length) := by
            rw [← Array.foldl_toList, Array.toList_zipIdx]
            simpa using fold_seg (a.eval x).cells.toList off 0 ds (by simpa using h5)
          obtain ⟨ds', hf, hr⟩ := fillA_sound hS ps c r _ h (by rw [e1]; exact hd.setN h1 hs)
          refine ⟨ds', ?_, hr⟩
          simp only [List.map_cons, Instr.fill, hp]
          rw [if_neg (by simp [h4]; omega)]
          exact hf
        · cases h
      · cases h
    · cases h
theorem nth_arr {α : Type} (l : List α) : nth l = fun i => l.toArray[i]? := by funext i; rw [nth_eq]; simp
theorem buildA_sound (hS : RelS K e get a w) {T : TypeId} {parts : Array (Nat × Operand)} {r : List AV} (h : buildA P e T parts.toList = some r) :
    ∃ ds : Array Value, (Instr.build T (parts.map fun (i, x) => (i, a.eval x))).run P w = .ok (.agg ds) w ∧ VRs K r ds.toList := by
  unfold buildA at h
  split at h
  · rename_i it n el hi hu
    split at h
    · rename_i z ie hz hie
      split at h
      · rename_i zs hzs
        obtain ⟨ds, h1, h2⟩ := fillA_sound hS parts.toList zs r z.cells h (cstL_sound _ _ hzs)
        refine ⟨ds, run_build w T _ ds ?_, h2⟩
        simp only [Program.built, hi, hu, hz, hie]
        rw [Array.toList_map]
        exact h1
      · cases h
    · cases h
  · rename_i it fs hi hu
    split at h
    · rename_i z places hz hp
      split at h
      · rename_i zs hzs
        obtain ⟨ds, h1, h2⟩ := fillA_sound hS parts.toList zs r z.cells h (cstL_sound _ _ hzs)
        refine ⟨ds, run_build w T _ ds ?_, h2⟩
        simp only [Program.built, hi, hu, hz, hp]
        rw [Array.toList_map, ← nth_arr]
        exact h1
      · cases h
    · cases h
  · cases h

theorem beq_eq' {m n : Nat} (h : Nat.beq m n = true) : m = n := Nat.eq_of_beq_eq_true h
theorem addr_mid (b o j : Nat) : (⟨b, o, none⟩ : Addr).add j = ⟨b, o + j, none⟩ := by unfold Addr.add; split <;> simp_all
theorem movA_sound {x y : AV} {o : Nat} {c : Value} (h : movA x o = some y) (hx : VR K x c) : ∃ ad, c = .pointer (some ad) ∧ VR K y (.pointer (some (ad.add o))) := by
  unfold movA at h
  split at h
  · rename_i id off
    cases h
    cases hx with
    | pure h => cases h
    | ptr id off c hk h hp =>
      obtain ⟨ad, rfl⟩ := hp
      refine ⟨ad, rfl, .ptr _ _ _ hk ?_ ⟨_, rfl⟩⟩
      rcases h with h | h
      · exact .inl h
      · injection h with h; injection h with h; subst h; rw [addr_mid]; exact .inr rfl
  · rename_i id sz i off
    cases h
    cases hx with
    | pure h => cases h
    | ept id sz i off c hk h hp =>
      obtain ⟨ad, rfl⟩ := hp
      refine ⟨ad, rfl, .ept _ _ _ _ _ hk ?_ ⟨_, rfl⟩⟩
      rcases h with h | ⟨n, h1, h2, h⟩
      · exact .inl h
      · injection h with h; injection h with h; subst h; rw [addr_mid]; exact .inr ⟨n, h1, h2, by rw [Nat.add_assoc]⟩
  · rename_i sz xs i off
    cases h
    cases hx with
    | pure h => cases h
    | lpt sz xs i off ad n c hx hi =>
      refine ⟨_, rfl, ?_⟩
      rw [addr_mid, Nat.add_assoc]
      exact .lpt sz xs i (off + o) ad n c hx hi
  · cases h
theorem indexA_sound {T : TypeId} {x y v : AV} {c d : Value} {g g' : List Gd} {ob : List Prop} (hx : VR K x c) (hy : VR K y d) (h : indexA P T x y g = some (v, ob, g')) (ho : AllP ob) :
    ∃ r, (Instr.indexAt T c d).run P w = .ok r w ∧ VR K v r := by
  unfold indexA at h
  split at h
  · cases h
  · rename_i j o1 g1 hj
    split at h
    · rename_i len el id off hu
      split at h
      · rename_i i hi
        cases h
        obtain ⟨k, rfl⟩ := ixA_sound hy hj ho.2
        have hjl := ho.1
        obtain ⟨ad, rfl, hv⟩ := movA_sound (x := .ptr id off) (o := j * P.cellsOf el) rfl hx
        exact ⟨_, by simp [Instr.indexAt, asIntOf, run_underlying hu, Instr.sureAddr, hjl, size_run hi], hv⟩
      · cases h
    · rename_i len el id sz i off hu
      split at h
      · rename_i i' hi
        cases h
        obtain ⟨k, rfl⟩ := ixA_sound hy hj ho.2
        have hjl := ho.1
        obtain ⟨ad, rfl, hv⟩ := movA_sound (x := .ept id sz i off) (o := j * P.cellsOf el) rfl hx
        exact ⟨_, by simp [Instr.indexAt, asIntOf, run_underlying hu, Instr.sureAddr, hjl, size_run hi], hv⟩
      · cases h
    · rename_i el id sz len hu
      split at h
      · rename_i i' hi hsz
        cases h
        obtain ⟨k, rfl⟩ := ixA_sound hy hj ho.2
        have hjl := ho.1
        cases hx with
        | pure h => cases h
        | row id sz len c hk h hp =>
          obtain ⟨ad, m, rfl, hm1, hm2, ha⟩ := hp
          obtain ⟨p, rfl⟩ := ha (by omega)
          refine ⟨.pointer (some (p.add (j * P.cellsOf el))), by simp [Instr.indexAt, asIntOf, run_underlying hu, hjl, size_run hi], .ept _ _ _ _ _ hk ?_ ⟨_, rfl⟩⟩
          rcases h with h | ⟨h1, ad, hc, h2⟩
          · exact .inl h
          · injection hc with e1 e2 e3
            have := h2 (by omega)
            rw [this] at e1; injection e1 with e1; subst e1
            rw [addr_mid, beq_eq' hsz]
            exact .inr ⟨len, h1, hjl, by simp⟩
      · cases h
    · rename_i el id sz off len hu
      split at h
      · rename_i i' hi hsz
        cases h
        obtain ⟨k, rfl⟩ := ixA_sound hy hj ho.2
        have hjl := ho.1
        cases hx with
        | pure h => cases h
        | rws id sz off len c hk h hp =>
          obtain ⟨ad, m, rfl, hm1, hm2, ha⟩ := hp
          obtain ⟨p, rfl⟩ := ha (by omega)
          refine ⟨.pointer (some (p.add (j * P.cellsOf el))), by simp [Instr.indexAt, asIntOf, run_underlying hu, hjl, size_run hi], .ept _ _ _ _ _ hk ?_ ⟨_, rfl⟩⟩
          rcases h with h | ⟨n, ad, m', h1, hn, hc, h2⟩
          · exact .inl h
          · injection hc with e1 e2 e3
            have := h2 (by omega)
            rw [this] at e1; injection e1 with e1; subst e1
            rw [addr_mid, beq_eq' hsz]
            exact .inr ⟨n, h1, by omega, by rw [Nat.add_mul, Nat.add_zero, Nat.add_assoc]⟩
      · cases h
    · rename_i el sz xs hu
      split at h
      · rename_i i' hi hsz
        cases h
        obtain ⟨k, rfl⟩ := ixA_sound hy hj ho.2
        have hjl := ho.1
        cases hx with
        | pure h =>
          have h0 := h
          cases h with
          | lst sz xs ad c b o f hsz' hc hm had hl hM h =>
            have hne : xs ≠ [] := by rintro rfl; simp at hjl
            obtain rfl := had.resolve_left hne
            refine ⟨.pointer (some (Addr.add ⟨b, o, none⟩ (j * P.cellsOf el))), by simp [Instr.indexAt, asIntOf, run_underlying hu, hjl, size_run hi], ?_⟩
            rw [addr_mid, beq_eq' hsz]
            exact .lpt sz xs j 0 ⟨b, o, none⟩ _ _ h0 hjl
      · cases h
    · cases h
end
end Go.Proofs.YtidgcfgkcidkiaaGreat.X
namespace Go.Proofs.YtidgcfgkcidkiaaGreat.X
open Go Go.Proofs.YtidgcfgkcidkiaaGreat.L
set_option linter.unusedVariables false
set_option linter.unusedSimpArgs false
section
variable {P : Program} {K : Ctx} {e : Nat → Option AV} {get : Nat → Obj} {a : Act} {w : World}
theorem bound_run {x : Value} {k : IntKind} {i y : Nat} (hx : x = .int k (i : Int)) (h : i ≤ y) (code : BoundsCode) : (Instr.sliceBound x y code).run P w = .ok i w := by
  subst hx
  have h1 : (i : Int) ≤ (y : Int) := by omega
  simp [Instr.sliceBound, asIntOf, h]
theorem boundA_sound (hS : RelS K e get a w) {d i : Nat} {x : Option Operand} {g g' : List Gd} {ob : List Prop} (h : boundA e d x g = some (i, ob, g')) (ho : AllP ob) :
    (x = none ∧ i = d) ∨ ∃ o k, x = some o ∧ a.eval o = .int k (i : Int) := by
  unfold boundA at h
  split at h
  · cases h; exact .inl ⟨rfl, rfl⟩
  · split at h
    · rename_i v hv
      obtain ⟨k, hk⟩ := ixA_sound (opv_sound hS hv) h ho
      exact .inr ⟨_, k, rfl, hk⟩
    · cases h
/-- The bounds of a slice of a slice. -/
theorem bounds_run (hS : RelS K e get a w) {n l h cap : Nat} {lo hi : Option Operand} {g1 g2 g3 g4 : List Gd} {o1 o2 : List Prop} (hh : boundA e n hi g1 = some (h, o1, g2)) (hl : boundA e 0 lo g3 = some (l, o2, g4)) (ho1 : AllP o1) (ho2 : AllP o2) (h1 : l ≤ h) (h2 : h ≤ n) (h3 : n ≤ cap) :
    (Instr.sliceBounds true n cap (lo.map a.eval) (hi.map a.eval) none).run P w = .ok (l, h, cap) w := by
  have hb := boundA_sound hS hh ho1
  have lb := boundA_sound hS hl ho2
  unfold Instr.sliceBounds
  rcases hb with ⟨rfl, rfl⟩ | ⟨oh, kh, rfl, eh⟩ <;> rcases lb with ⟨rfl, rfl⟩ | ⟨ol, kl, rfl, el⟩
  · simp
  · simp [bound_run (P := P) (w := w) el h1]
  · simp [bound_run (P := P) (w := w) eh (Nat.le_trans h2 h3)]
  · simp [bound_run (P := P) (w := w) eh (Nat.le_trans h2 h3), bound_run (P := P) (w := w) el h1]
theorem slice_run (hS : RelS K e get a w) {T el : TypeId} {i : TypeInfo} (hu : P.underlying T = some (.slice el)) (hi : P.info? el = some i) {ad : Option Addr} {n l h cap : Nat} {lo hi' : Option Operand} {g1 g2 g3 g4 : List Gd} {o1 o2 : List Prop} (hh : boundA e n hi' g1 = some (h, o1, g2)) (hl : boundA e 0 lo g3 = some (l, o2, g4)) (ho1 : AllP o1) (ho2 : AllP o2) (h1 : l ≤ h) (h2 : h ≤ n) (h3 : n ≤ cap) :
    (Instr.sliceAt T (.slice ad n cap) (lo.map a.eval) (hi'.map a.eval) none).run P w = .ok (.slice (if cap = l then ad else ad.map (·.add (l * P.cellsOf el))) (h - l) (cap - l)) w := by
  simp only [Instr.sliceAt, Instr.slice, Sem.run_bind, run_underlying hu, Result.andThen_ok, bounds_run (P := P) hS hh hl ho1 ho2 h1 h2 h3, size_run hi, Sem.run_pure]
theorem sliceA_sound (hS : RelS K e get a w) {T : TypeId} {x v : AV} {c : Value} {lo hi : Option Operand} {g g' : List Gd} {ob : List Prop} (hx : VR K x c) (h : sliceA P e T x lo hi g = some (v, ob, g')) (ho : AllP ob) :
    ∃ r, (Instr.sliceAt T c (lo.map a.eval) (hi.map a.eval) none).run P w = .ok r w ∧ VR K v r := by
  unfold sliceA at h
  split at h
  · rename_i el hu
    split at h
    · cases h
    · rename_i ie hie
      split at h
      · rename_i sz xs
        split at h
        · cases h
        · rename_i hh o1 g1 hb
          split at h
          · cases h
          · rename_i l o2 g2 lb
            split at h
            · rename_i ys o3 g3 hls hsz
              cases h
              simp only [AllP, AllP.append_iff] at ho
              obtain ⟨h1, h2, ⟨p1, p2⟩, p3⟩ := ho
              have hy := lsA_sound hls p3
              cases hx with
              | pure hx =>
                cases hx with
                | lst sz xs ad c b o f hsz' hc hm had hl hM h =>
                  refine ⟨_, slice_run hS hu hie hb lb p1 p2 h1 h2 hc, ?_⟩
                  have hlen : ys.length = hh - l := by rw [hy, List.length_take, List.length_drop]; omega
                  rw [← hlen]
                  have key : ∀ (i : Nat) (x : AV), ys[i]? = some x → xs[l + i]? = some x := by
                    intro i x hx
                    rw [hy, List.getElem?_take] at hx
                    split at hx
                    · rwa [List.getElem?_drop] at hx
                    · cases hx
                  refine .pure (.lst sz ys _ _ b (o + l * sz) (fun i j => f (l + i) j) hsz' (by omega) (by omega) ?_ (fun i x hx => hl _ x (key i x hx)) (fun i x j u hx hu => ?_) fun i x j u hx hu => h _ x j u (key i x hx) hu)
                  · by_cases h0 : ys = []
                    · exact .inl h0
                    · refine .inr ?_
                      have hpos : 0 < ys.length := List.length_pos_iff.2 h0
                      have hne : xs ≠ [] := by rintro rfl; simp at h2; omega
                      rw [if_neg (by omega), had.resolve_left hne, Option.map_some, addr_mid, beq_eq' hsz]
                  · have := hM _ x j u (key i x hx) hu
                    rw [← this]; congr 1
                    rw [Nat.add_mul]; omega
            · cases h
      · rename_i id sz n
        split at h
        · cases h
        · rename_i hh o1 g1 hb
          split at h
          · rename_i l o2 g2 lb hsz
            cases h
            simp only [AllP, AllP.append_iff] at ho
            obtain ⟨h1, h2, p1, p2⟩ := ho
            cases hx with
            | pure hx => cases hx
            | row id sz n c hk h hp =>
              obtain ⟨ad, m, rfl, hm1, hm2, ha⟩ := hp
              refine ⟨_, slice_run hS hu hie hb lb p1 p2 h1 h2 hm1, .rws _ _ _ _ _ hk ?_ ⟨_, _, rfl, by omega, by omega, fun h0 => ?_⟩⟩
              · rcases h with h | ⟨h, ad', hc, had⟩
                · exact .inl h
                · injection hc with e1 e2 e3
                  subst e1
                  refine .inr ⟨n, _, _, h, by omega, rfl, fun h0 => ?_⟩
                  rw [if_neg (by omega), had (by omega), Option.map_some, addr_mid, beq_eq' hsz]
              · obtain ⟨p, rfl⟩ := ha (by omega)
                rw [if_neg (by omega)]; exact ⟨_, rfl⟩
          · cases h
      · rename_i id sz off n
        split at h
        · cases h
        · rename_i hh o1 g1 hb
          split at h
          · rename_i l o2 g2 lb hsz
            cases h
            simp only [AllP, AllP.append_iff] at ho
            obtain ⟨h1, h2, p1, p2⟩ := ho
            cases hx with
            | pure hx => cases hx
            | rws id sz off n c hk h hp =>
              obtain ⟨ad, m, rfl, hm1, hm2, ha⟩ := hp
              refine ⟨_, slice_run hS hu hie hb lb p1 p2 h1 h2 hm1, .rws _ _ _ _ _ hk ?_ ⟨_, _, rfl, by omega, by omega, fun h0 => ?_⟩⟩
              · rcases h with h | ⟨n', ad', m', h, hn, hc, had⟩
                · exact .inl h
                · injection hc with e1 e2 e3
                  subst e1 e3
                  refine .inr ⟨n', _, _, h, by omega, rfl, fun h0 => ?_⟩
                  rw [if_neg (by omega), had (by omega), Option.map_some, addr_mid, beq_eq' hsz, Nat.add_mul, Nat.add_assoc]
              · obtain ⟨p, rfl⟩ := ha (by omega)
                rw [if_neg (by omega)]; exact ⟨_, rfl⟩
          · cases h
      · cases h
  · cases h

theorem lenA_sound {T : TypeId} {x v : AV} {c : Value} {g g' : List Gd} {ob : List Prop} (ats : Array TypeId) (ty : TypeId) (hT : ats[0]? = some T) (hx : VR K x c) (h : lenA P T x g = some (v, ob, g')) (ho : AllP ob) :
    ∃ r, (Builtin.len_ ats ty #[c]).run P w = .ok r w ∧ VR K v r := by
  unfold lenA at h
  split at h
  · rename_i el hu
    cases h
    obtain rfl := hx.nils_inv
    exact ⟨.int .i64 0, by simp [Builtin.len_, hT, run_underlying hu, goInt], .pure (.int _ _)⟩
  · rename_i el sz xs hu
    have := num_sound h ho; subst this
    cases hx with
    | pure hx => cases hx with
      | lst sz xs ad c b o f => exact ⟨_, by simp [Builtin.len_, hT, run_underlying hu, goInt], .pure (.int _ _)⟩
  · rename_i el id sz n hu
    have := num_sound h ho; subst this
    cases hx with
    | pure hx => cases hx
    | row id sz n c hk h hp =>
      obtain ⟨ad, m, rfl, _⟩ := hp
      exact ⟨_, by simp [Builtin.len_, hT, run_underlying hu, goInt], .pure (.int _ _)⟩
  · rename_i el id sz off n hu
    have := num_sound h ho; subst this
    cases hx with
    | pure hx => cases hx
    | rws id sz off n c hk h hp =>
      obtain ⟨ad, m, rfl, _⟩ := hp
      exact ⟨_, by simp [Builtin.len_, hT, run_underlying hu, goInt], .pure (.int _ _)⟩
  · rename_i s hu
    have := num_sound h ho; subst this
    obtain rfl := hx.str_inv
    exact ⟨_, by simp [Builtin.len_, hT, run_underlying hu, goInt], .pure (.int _ _)⟩
  · rename_i n el hu
    cases h
    exact ⟨.int .i64 n, by simp [Builtin.len_, hT, run_underlying hu, goInt], .pure (.int _ _)⟩
  · cases h

theorem list1 {α : Type} {a : Array α} {x : α} (h : a.toList = [x]) : a = #[x] := by cases a; simp at h; subst h; rfl
theorem list2 {α : Type} {a : Array α} {x y : α} (h : a.toList = [x, y]) : a = #[x, y] := by cases a; simp at h; subst h; rfl
theorem pureA_sound (hS : RelS K e get a w) {o : Oper} {v : AV} {g g' : List Gd} {ob : List Prop} (h : pureA P e o g = some (v, ob, g')) (ho : AllP ob) : Yes P K a w o v := by
  unfold pureA at h
  split at h
  · rename_i x hop
    split at h
    · rename_i u hu
      cases h
      exact ⟨_, by simp [execOp, hop], opv_sound hS hu⟩
    · cases h
  · rename_i x hop
    split at h
    · rename_i u hu
      cases h
      exact ⟨_, by simp [execOp, hop], opv_sound hS hu⟩
    · cases h
  · rename_i c x y hop
    split at h
    · rename_i hc
      split at h
      · rename_i u hu
        cases h
        exact ⟨_, by simp [execOp, hop, (opv_sound hS hc).bool_inv, asBool], opv_sound hS hu⟩
      · cases h
    · rename_i hc
      split at h
      · rename_i u hu
        cases h
        exact ⟨_, by simp [execOp, hop, (opv_sound hS hc).bool_inv, asBool], opv_sound hS hu⟩
      · cases h
    · cases h
  · rename_i x hop
    split at h
    · rename_i id off hx
      cases h
      have hv := opv_sound hS hx
      refine ⟨_, ?_, hv⟩
      have : ∃ p, a.eval x = .pointer (some p) := by cases hv with | pure h => cases h | ptr _ _ _ _ _ hp => exact hp
      obtain ⟨p, hp⟩ := this
      simp [execOp, hop, hp]
    · rename_i id sz i off hx
      cases h
      have hv := opv_sound hS hx
      refine ⟨_, ?_, hv⟩
      have : ∃ p, a.eval x = .pointer (some p) := by cases hv with | pure h => cases h | ept _ _ _ _ _ _ _ hp => exact hp
      obtain ⟨p, hp⟩ := this
      simp [execOp, hop, hp]
    · rename_i sz xs i off hx
      cases h
      have hv := opv_sound hS hx
      refine ⟨_, ?_, hv⟩
      have : ∃ p, a.eval x = .pointer (some p) := by
        generalize a.eval x = c at hv
        cases hv with
        | pure h => cases h
        | lpt _ _ _ _ ad => exact ⟨_, rfl⟩
      obtain ⟨p, hp⟩ := this
      simp [execOp, hop, hp]
    · rename_i f cs hx
      cases h
      have hv := opv_sound hS hx
      refine ⟨_, ?_, hv⟩
      obtain ⟨ds, hp, _⟩ := hv.fn_inv
      simp [execOp, hop, hp]
    · cases h
  · rename_i op T x y ty hop
    split at h
    · rename_i u v' hu hv
      obtain ⟨r, h1, h2⟩ := binA_sound (w := w) (opv_sound hS hu) (opv_sound hS hv) h ho x y
      exact ⟨r, by simp only [execOp, hop]; rw [Sem.run_bind, h1]; rfl, h2⟩
    · cases h
  · rename_i T x hop
    split at h
    · rename_i b hb
      cases h
      exact ⟨.bool (!b), by simp [execOp, hop, Op.unary, (opv_sound hS hb).bool_inv], .pure (.bool _)⟩
    · cases h
  · rename_i T x hop
    split at h
    · rename_i k n hn
      have := num_sound h ho; subst this
      exact ⟨_, by simp [execOp, hop, Op.unary, Op.intArith, (opv_sound hS hn).int_inv], .pure (.int _ _)⟩
    · cases h
  · rename_i s d x hop
    split at h
    · rename_i ds k k' n hs hd hn
      have := num_sound h ho; subst this
      exact ⟨_, by simp [execOp, hop, convert, run_underlying hs, run_underlying hd, (opv_sound hS hn).int_inv, Conv.intToInt], .pure (.int _ _)⟩
    · rename_i ds s' hs hd hn
      cases h
      refine ⟨.string s', ?_, .pure (.str _)⟩
      simp only [execOp, hop, convert, Sem.run_bind, run_underlying hs, run_underlying hd, Result.andThen_ok, (opv_sound hS hn).str_inv]
      cases ds <;> rfl
    · cases h
  · rename_i T x i hop
    split at h
    · rename_i f u hf hu
      split at h
      · rename_i ie n hi hn
        split at h
        · rename_i u' hm
          cases h
          obtain ⟨ad, h1, h2⟩ := movA_sound hm (opv_sound hS hu)
          refine ⟨_, ?_, h2⟩
          unfold fieldOf at hf
          split at hf
          · rename_i fs hfs
            have hz : ¬ P.cellsOf f.type = 0 := by rw [hn]; omega
            simp [execOp, hop, Instr.fieldAt, run_underlying hfs, hf, h1, Instr.sureAddr, fieldPlace, size_run hi, hz]
          · cases hf
        · cases h
      · cases h
    · cases h
  · rename_i T x i hop
    split at h
    · rename_i f cs hf hu
      split at h
      · rename_i u hp
        cases h
        obtain ⟨ds, h1, h2⟩ := (opv_sound hS hu).agg_inv
        obtain ⟨c, h3, h4⟩ := part_run (w := w) hp h2
        refine ⟨c, ?_, h4⟩
        unfold fieldOf at hf
        split at hf
        · rename_i fs hfs
          simp [execOp, hop, Instr.field, run_underlying hfs, hf, h1, asAgg, h3]
        · cases hf
      · cases h
    · cases h
  · rename_i T x i hop
    split at h
    · rename_i u v' hu hv
      obtain ⟨r, h1, h2⟩ := indexA_sound (w := w) (opv_sound hS hu) (opv_sound hS hv) h ho
      exact ⟨r, by simp [execOp, hop, h1], h2⟩
    · cases h
  · rename_i T x i hop
    split at h
    · rename_i cs u len el hc hu hT
      split at h
      · rename_i j o1 g1 hj
        split at h
        · rename_i u' hp
          cases h
          obtain ⟨ds, h1, h2⟩ := (opv_sound hS hc).agg_inv
          obtain ⟨c, h3, h4⟩ := part_run (w := w) hp h2
          obtain ⟨k, h5⟩ := ixA_sound (opv_sound hS hu) hj ho.2
          have hjl := ho.1
          obtain ⟨ie, hie⟩ := (partA_sound hp h2).choose_spec.choose_spec.2.2.2.2
          exact ⟨c, by simp [execOp, hop, Instr.index, run_underlying hT, h1, h5, asIntOf, hjl, size_run hie, h3], h4⟩
        · cases h
      · cases h
    · cases h
  · rename_i x i hop
    split at h
    · rename_i vs hv
      split at h
      · rename_i u hu
        cases h
        obtain ⟨ds, h1, h2⟩ := (opv_sound hS hv).tup_inv
        rw [nth_eq] at hu
        obtain ⟨d, h3, h4⟩ := h2.at_ hu
        exact ⟨d, by simp [execOp, hop, Instr.extract, h1, (by simpa using h3 : ds[i]? = some d)], h4⟩
      · cases h
    · cases h
  · rename_i T x lo hi hop
    split at h
    · rename_i u hu
      obtain ⟨r, h1, h2⟩ := sliceA_sound hS (opv_sound hS hu) h ho
      exact ⟨r, by simp only [execOp, hop, Option.map_none, Sem.run_bind, h1, Result.andThen_ok, Sem.run_pure], h2⟩
    · cases h
  · rename_i T parts hop
    split at h
    · rename_i cs hc
      cases h
      obtain ⟨ds, h1, h2⟩ := buildA_sound (w := w) hS hc
      exact ⟨.agg ds, by simp only [execOp, hop, Sem.run_bind, h1, Result.andThen_ok, Sem.run_pure], by simpa using VR.mkAgg h2⟩
    · cases h
  · rename_i f first caps hop
    split at h
    · rename_i vs hf hv
      cases h
      have h1 := opvL_sound hS _ _ hv
      have h2 : first = #[] := by cases first; simp at hf; subst hf; rfl
      refine ⟨.func (.func f) #[] (caps.map a.eval), by simp [execOp, hop, Instr.makeFunc, h2], ?_⟩
      have e : caps.map a.eval = (caps.toList.map a.eval).toArray := by apply Array.ext'; simp
      rw [e]
      exact VR.mkFn (f := f) h1
    · cases h
  · rename_i args ats hop
    split at h
    · rename_i x T rest hargs hats
      split at h
      · rename_i u hu
        have e1 := list1 hargs
        have hT : ats[0]? = some T := by rw [← Array.getElem?_toList, hats]; rfl
        obtain ⟨r, h1, h2⟩ := lenA_sound (w := w) ats o.type hT (opv_sound hS hu) h ho
        exact ⟨r, by simp [execOp, hop, resolve, invoke, builtin, e1, h1], h2⟩
      · cases h
    · cases h
  · rename_i args ats hop
    split at h
    · rename_i k x k' y hargs
      have := num_sound h ho; subst this
      have h1 := opvL_sound hS _ _ hargs
      obtain ⟨c1, r1, e1, v1, h2⟩ := h1.cons_inv
      obtain ⟨c2, r2, e2, v2, h3⟩ := h2.cons_inv
      obtain rfl := h3.nil_inv
      obtain rfl := v1.int_inv
      obtain rfl := v2.int_inv
      subst e2
      rw [← Array.toList_map] at e1
      have e3 := list2 e1
      exact ⟨_, by simp [execOp, hop, resolve, invoke, builtin, e3, min_go], .pure (.int _ _)⟩
    · cases h
  · rename_i args ats hop
    split at h
    · rename_i k x k' y hargs
      have := num_sound h ho; subst this
      have h1 := opvL_sound hS _ _ hargs
      obtain ⟨c1, r1, e1, v1, h2⟩ := h1.cons_inv
      obtain ⟨c2, r2, e2, v2, h3⟩ := h2.cons_inv
      obtain rfl := h3.nil_inv
      obtain rfl := v1.int_inv
      obtain rfl := v2.int_inv
      subst e2
      rw [← Array.toList_map] at e1
      have e3 := list2 e1
      exact ⟨_, by simp [execOp, hop, resolve, invoke, builtin, e3, max_go], .pure (.int _ _)⟩
    · cases h
  · cases h
end
end Go.Proofs.YtidgcfgkcidkiaaGreat.X
namespace Go.Proofs.YtidgcfgkcidkiaaGreat.L
open Go Go.RowKit Go.ChangeShapes Go.WideShapes Go.ChangeAt
set_option linter.unusedVariables false
set_option linter.unusedSimpArgs false
def anyA : Nat → Prop := fun _ => True

/-- What reads at a type stands as a reading says. -/
def Opens (P : Program) {α : Type} (R : Rep α) (T : TypeId) : Prop :=
  ∀ {H : Type} (enc : TypeId × Value → H) (w : World) (fuel : Nat) (cs : List Value) (x : DataW H × List MemPlace), DataW.trod enc P w 0 (fun _ => true) true fuel T cs = some x → ∃ y, R.K anyA w cs y

section
variable {P : Program}
theorem opens_num {T : TypeId} {k : IntKind} (ht : P.underlying T = some (.int k)) : Opens P (num k) T := by
  intro H enc w fuel cs x h
  cases fuel with
  | zero => simp [DataW.trod] at h
  | succ n =>
    unfold DataW.trod at h
    rw [ht] at h
    match cs, h with
    | [.int k' m], h =>
      simp only at h
      split at h
      · rename_i hh
        obtain ⟨rfl, hw⟩ := hh
        exact ⟨m, rfl, ⟨hw⟩⟩
      · cases h
theorem opens_bool {T : TypeId} (ht : P.underlying T = some .bool) : Opens P boolR T := by
  intro H enc w fuel cs x h
  cases fuel with
  | zero => simp [DataW.trod] at h
  | succ n =>
    unfold DataW.trod at h
    rw [ht] at h
    match cs, h with
    | [.bool b], h => exact ⟨b, rfl, trivial⟩

theorem addr_add_eq (a : Addr) (n : Nat) (h : a.spot = none) : a.add n = ⟨a.block, a.off + n, none⟩ := by
  unfold Addr.add
  split
  · rename_i h0; subst h0; cases a; simp at h; subst h; rfl
  · rfl
theorem cell_spot {w : World} {a : Addr} {v : Value} (h : w.cell? a = some v) : a.spot = none := by
  unfold World.cell? at h
  split at h
  · split at h
    · cases h
    · rename_i hs; simpa using hs
  · cases h
theorem cell_block {w : World} {b o : Nat} {v : Value} (h : w.cell? ⟨b, o, none⟩ = some v) : ∃ c T f, w.heap[b]? = some (.cells c T f) ∧ c[o]? = some v := by
  unfold World.cell? at h
  split at h
  · rename_i c T f hb
    exact ⟨c, T, f, hb, by simpa using h⟩
  · cases h

theorem cells_of_list {α : Type} {R : Rep α} {A : Nat → Prop} {w : World} (n : Nat) (L : List Value) (f : Nat → α) (h : ∀ i, i < n → ∃ cs, R.K A w cs (f i) ∧ ∀ j, j < R.sz → L[i * R.sz + j]? = cs[j]?) : Cells R A w (L.take (n * R.sz)) ((List.range n).map f) := by
  induction n with
  | zero => simp; exact .nil
  | succ n ih =>
    obtain ⟨cs, hK, hc⟩ := h n (by omega)
    rw [List.range_succ, List.map_append]
    have e : L.take ((n + 1) * R.sz) = L.take (n * R.sz) ++ cs := by
      rw [Nat.succ_mul, List.take_add]
      congr 1
      apply List.ext_getElem?
      intro j
      rw [List.getElem?_take]
      have hl := R.len hK
      split
      · rename_i hj; rw [List.getElem?_drop, hc j hj]
      · rw [List.getElem?_eq_none (by omega)]
    rw [e]
    exact (ih fun i hi => h i (by omega)).append (Cells.single hK)

theorem agg_of_cells {v : Value} {cs : List Value} (h : v.cells.toList = cs) (hn : cs.length ≠ 1) : v = .agg cs.toArray := by
  cases v <;> first | (simp [Value.cells] at h; subst h; rfl) | (simp [Value.cells] at h; subst h; simp at hn)
theorem trodAll_below {H : Type} {enc : TypeId × Value → H} (hl : laidOutB P = true) {W W' : World} (hb : Below W.heap.size W W') : ∀ (ts : List TypeId) (vs : List Value) (ds : List (DataW H)) (ps : List MemPlace), (∀ t ∈ ts, P.readableRec t = true ∧ t < P.types.size) →
    DataW.TrodAll enc P W 0 (fun _ => true) true ts vs ds ps → (∀ x ∈ ps, x.block < W.heap.size) → DataW.TrodAll enc P W' 0 (fun b => decide (b < W.heap.size)) true ts vs ds ps
  | [], [], [], ps, _, h, _ => h
  | t :: ts, v :: vs, d :: ds, ps, hr, h, hlt => by
    obtain ⟨p, q, h1, h2, rfl⟩ := h
    exact ⟨p, q, Below.trod hl (hr t (by simp)).1 (hr t (by simp)).2 h1 hb fun x hx => hlt x (by simp [hx]), trodAll_below hl hb ts vs ds q (fun t ht => hr t (by simp [ht])) h2 fun x hx => hlt x (by simp [hx]), rfl⟩

/-- The end of a law's row: it returns true, and old memory is as it was. -/
theorem law_post {H : Type} {enc : TypeId × Value → H} {f : Func} {s : ChangeSpec} (tb : TypeId) (hbool : P.underlying tb = some .bool) (hres : f.resultTypes = #[tb]) (hvars : s.vars = []) (hl : laidOutB P = true) (hr0 : (f.params.toList.all fun t => P.readableRec t && decide (t < P.types.size)) = true)
    {W W' : World} {args : Array Value} {ds gs : List (DataW H)} {before : List MemPlace} (hW : DataW.Whole enc P f.params.toList s.vars false W args.toList ds gs before) (hspec : gs = [] → s.fn H (ds ++ gs) = { results := [.lit (.bool true)], args := ds }) (hk : Keeps (fun _ => False) W W') :
    ∃ v, (Ending.returned (.bool true) = .returned v) ∧ s.post enc P f false true false false W args v W' := by
  have hr : ∀ t ∈ f.params.toList, P.readableRec t = true ∧ t < P.types.size := fun t ht => by have := List.all_eq_true.1 hr0 t ht; simpa using this
  have hb := hk.below
  have hlt := hW.lt
  have hW' := hW
  obtain ⟨p, q, hA, hV, rfl, hfz, hnd⟩ := hW
  rw [hvars] at hV
  obtain ⟨rfl, rfl⟩ := trodVars_none hV
  refine ⟨_, rfl, ds, [], _, [], p, [], hW', ?_, ?_, ?_, hb.frame _, fun h => by cases h⟩
  · rw [hspec rfl, hres]
    exact trodAll_mk1 (shut_bool hbool true)
  · rw [hspec rfl]
    exact trodAll_below hl hb _ _ _ _ hr hA fun x hx => hlt x (by simp [hx])
  · rw [hspec rfl, hvars]
    rfl
end
end Go.Proofs.YtidgcfgkcidkiaaGreat.L
namespace Go.Proofs.YtidgcfgkcidkiaaGreat.X
open Go Go.Proofs.YtidgcfgkcidkiaaGreat.L
set_option linter.unusedVariables false
set_option linter.unusedSimpArgs false
section
variable {K K' : Ctx} {get get' : Nat → Obj} {w w' : World} {P : Program}
theorem PRows.mono {M M' : Nat → Nat → Option Value} (hM : ∀ b o v, M b o = some v → M' b o = some v) {sz : Nat} {xs : List AV} {ds : List Value} (h : PRows M sz xs ds) : PRows M' sz xs ds :=
  fun i x hx => ⟨(h i x hx).1, fun j u hu => let ⟨d, h1, h2⟩ := (h i x hx).2 j u hu; ⟨d, h1, h2.mono hM⟩⟩
theorem own_kind {id : Nat} (hk : K'.kind id = K.kind id) (hc : K'.cap id = K.cap id) : K'.own id ↔ K.own id := by unfold Ctx.own; rw [hk, hc]
theorem OR.mono {id : Nat} {o : Obj} (hK : K.kind id = o.kind) (hle : K.le K') (hb : K'.blk id = K.blk id) (hc : K'.cap id = K.cap id) (hof : K'.off id = K.off id) (hw : K.own id → w'.heap[K.blk id]? = w.heap[K.blk id]?) (h : OR K w id o) : OR K' w' id o := by
  cases o with
  | hole => trivial
  | gone => trivial
  | vars T cs =>
    obtain ⟨ds, h1, h2, h3⟩ := h
    exact ⟨ds, by rw [hb, hw (by unfold Ctx.own; rw [hK]; trivial)]; exact h1, h2.mono hle, h3⟩
  | row T sz xs =>
    obtain ⟨h0, h1, h2, h3⟩ := h
    refine ⟨h0, by rw [hc]; exact h1, by rw [hc]; exact h2, fun hne => ?_⟩
    rw [hc] at hne
    obtain ⟨ds, h4, h5, h6⟩ := h3 hne
    exact ⟨ds, by rw [hb, hw (by unfold Ctx.own; rw [hK]; exact hne)]; exact h4, by rw [hc, hof]; exact h5, by rw [hof]; exact h6.mono hle.mem⟩
  | frz T sz xs =>
    obtain ⟨h0, h1, h2, h3⟩ := h
    refine ⟨h0, by rw [hc]; exact h1, by rw [hc]; exact h2, fun i x hx => ⟨(h3 i x hx).1, fun j u hu => ?_⟩⟩
    obtain ⟨d, h4, h5⟩ := (h3 i x hx).2 j u hu
    exact ⟨d, by rw [hb, hof]; exact hle.mem _ _ _ h4, h5.mono hle.mem⟩
theorem Rel.own_lt (h : Rel K get w) {id : Nat} (ho : K.own id) : K.blk id < w.heap.size := by
  have hk := h.kinds id
  have hobj := h.obj id
  unfold Ctx.own at ho
  rw [hk] at ho
  cases hg : get id with
  | vars T cs => rw [hg] at hobj; obtain ⟨ds, h1, _⟩ := hobj; exact lt_of_heap h1
  | row T sz xs =>
    rw [hg] at hobj ho
    obtain ⟨_, _, _, h3⟩ := hobj
    obtain ⟨ds, h1, _⟩ := h3 ho
    exact lt_of_heap h1
  | _ => rw [hg] at ho; exact ho.elim
theorem Rel.mem_lt (h : Rel K get w) {b o : Nat} {v : Value} (hv : K.M b o = some v) : b < w.heap.size := by
  obtain ⟨c, T, f, hb, _⟩ := cell_block (h.mem b o v hv).1
  exact lt_of_heap hb

theorem Rel.change (h : Rel K get w) (F : Nat → Prop) (hle : K.le K')
    (hsame : ∀ i, ¬ F i → K'.kind i = K.kind i ∧ K'.blk i = K.blk i ∧ K'.cap i = K.cap i ∧ K'.off i = K.off i ∧ get' i = get i)
    (hkeep : Keeps (fun b => ∃ j, F j ∧ K.own j ∧ K.blk j = b) w w')
    (hkind : ∀ i, F i → K'.kind i = (get' i).kind)
    (hvar : ∀ i, F i → K.kind i = .var → K'.kind i = .var)
    (hobj : ∀ i, F i → OR K' w' i (get' i))
    (hown : ∀ i, F i → K'.own i → (∃ j, F j ∧ K.own j ∧ K.blk j = K'.blk i) ∨ w.heap.size ≤ K'.blk i)
    (hinj : ∀ i j, F i → F j → K'.own i → K'.own j → K'.blk i = K'.blk j → i = j)
    (hM : ∀ b o v, K'.M b o = some v → K.M b o = some v ∨ (((∃ j, F j ∧ K.own j ∧ K.blk j = b) ∨ w.heap.size ≤ b) ∧ w'.cell? ⟨b, o, none⟩ = some v ∧ v.oneCell' = true ∧ ∀ i, F i → K'.own i → K'.blk i ≠ b)) :
    Rel K' get' w' ∧ ∀ m, Grow m K w K' w' := by
  classical
  have hso : ∀ i, ¬ F i → (K'.own i ↔ K.own i) := fun i hi => own_kind (hsame i hi).1 (hsame i hi).2.2.1
  refine ⟨⟨fun i => ?_, fun b o v hv => ?_, fun i => ?_, fun i j hi hj hb => ?_, fun i o hi => ?_⟩, fun m => ⟨hle.mem, fun b o v hv => ?_, fun i _ hi => ?_, fun b hb => ?_, hkeep.mono ?_, fun i _ hi => hle.at_ i hi⟩⟩
  · by_cases hi : F i
    · exact hkind i hi
    · rw [(hsame i hi).1, (hsame i hi).2.2.2.2]; exact h.kinds i
  · rcases hM b o v hv with h1 | ⟨_, h2, h3, _⟩
    · obtain ⟨h2, h3⟩ := h.mem b o v h1
      refine ⟨?_, h3⟩
      rw [← h2]
      refine World.cell?_of_block (w := w) (hkeep.block b (h.mem_lt h1) ?_)
      rintro ⟨j, _, hj, rfl⟩
      rw [h.sep j o hj] at h1; cases h1
    · exact ⟨h2, h3⟩
  · by_cases hi : F i
    · exact hobj i hi
    · obtain ⟨h1, h2, h3, h3', h4⟩ := hsame i hi
      rw [h4]
      refine (h.obj i).mono (h.kinds i) hle h2 h3 h3' fun ho => hkeep.block _ (h.own_lt ho) ?_
      rintro ⟨j, hj, hoj, hb⟩
      exact hi (h.inj j i hoj ho hb ▸ hj)
  · by_cases hFi : F i <;> by_cases hFj : F j
    · exact hinj i j hFi hFj hi hj hb
    · have hj' := (hso j hFj).1 hj
      rw [(hsame j hFj).2.1] at hb
      rcases hown i hFi hi with ⟨k, hk, hok, hkb⟩ | hf
      · exact absurd (h.inj k j hok hj' (hkb.trans hb) ▸ hk) hFj
      · have := h.own_lt hj'; omega
    · have hi' := (hso i hFi).1 hi
      rw [(hsame i hFi).2.1] at hb
      rcases hown j hFj hj with ⟨k, hk, hok, hkb⟩ | hf
      · exact absurd (h.inj k i hok hi' (hkb.trans hb.symm) ▸ hk) hFi
      · have := h.own_lt hi'; omega
    · rw [(hsame i hFi).2.1, (hsame j hFj).2.1] at hb
      exact h.inj i j ((hso i hFi).1 hi) ((hso j hFj).1 hj) hb
  · cases hv : K'.M (K'.blk i) o with
    | none => rfl
    | some v =>
      exfalso
      by_cases hFi : F i
      · rcases hM _ _ _ hv with h1 | ⟨_, _, _, h4⟩
        · rcases hown i hFi hi with ⟨k, hk, hok, hkb⟩ | hf
          · rw [← hkb, h.sep k o hok] at h1; cases h1
          · have := h.mem_lt h1; omega
        · exact h4 i hFi hi rfl
      · have hi' := (hso i hFi).1 hi
        rw [(hsame i hFi).2.1] at hv
        rcases hM _ _ _ hv with h1 | ⟨h1, _, _, _⟩
        · rw [h.sep i o hi'] at h1; cases h1
        · rcases h1 with ⟨j, hj, hoj, hb⟩ | hf
          · exact hFi (h.inj j i hoj hi' hb ▸ hj)
          · have := h.own_lt hi'; omega
  · rcases hM b o v hv with h1 | ⟨h1, _⟩
    · exact .inl h1
    · rcases h1 with ⟨j, _, hoj, hb⟩ | h1
      · exact .inr (.inl ⟨j, hoj, hb⟩)
      · exact .inr (.inr h1)
  · by_cases hF : F i
    · refine ⟨hvar i hF hi, ?_⟩
      rcases hle.at_ i (by rw [hi]; simp) with h1 | h1
      · rw [hvar i hF hi] at h1; cases h1
      · exact h1.1
    · exact ⟨(hsame i hF).1.trans hi, (hsame i hF).2.1⟩
  · obtain ⟨i, hi, rfl⟩ := hb
    by_cases hF : F i
    · rcases hown i hF hi with ⟨j, _, hoj, hb⟩ | h1
      · exact .inl ⟨j, hoj, hb⟩
      · exact .inr h1
    · exact .inl ⟨i, (hso i hF).1 hi, (hsame i hF).2.1.symm⟩
  · rintro b _ ⟨j, _, hoj, hb⟩
    exact ⟨j, hoj, hb⟩

theorem Grow.trans {m : Nat} {K'' : Ctx} {w'' : World} (h : Grow m K w K' w') (k : Grow m K' w' K'' w'') : Grow m K w K'' w'' := by
  refine ⟨fun b o v hv => k.mem b o v (h.mem b o v hv), fun b o v hv => ?_, fun id hid hk => ?_, fun b hb => ?_, h.keeps.trans k.keeps fun b hb hf => ?_, fun i hm hi => ?_⟩
  · rcases k.new b o v hv with h1 | h1 | h1
    · exact h.new b o v h1
    · exact .inr (h.foot b h1)
    · exact .inr (.inr (Nat.le_trans h.keeps.size h1))
  · obtain ⟨h1, h2⟩ := h.var id hid hk
    obtain ⟨h3, h4⟩ := k.var id hid h1
    exact ⟨h3, h4.trans h2⟩
  · rcases k.foot b hb with h1 | h1
    · exact h.foot b h1
    · exact .inr (Nat.le_trans h.keeps.size h1)
  · exact (h.foot b hf).resolve_right (by omega)
  · rcases h.stay i hm hi with h1 | ⟨h1, h2, h2', h3⟩
    · rcases k.stay i hm (by rw [h1]; simp) with k1 | ⟨_, _, _, k3⟩
      · exact .inl k1
      · rcases k3 with k3 | ⟨sz, n, k3, _⟩
        · exact .inl (k3.trans h1)
        · rw [h1] at k3; cases k3
    · have hi' : K'.kind i ≠ .hole := by rcases h3 with h3 | ⟨sz, n, _, h3⟩ <;> rw [h3]; exact hi; simp
      rcases k.stay i hm hi' with k1 | ⟨k1, k2, k2', k3⟩
      · exact .inl k1
      · refine .inr ⟨k1.trans h1, k2.trans h2, k2'.trans h2', ?_⟩
        rcases h3 with h3 | ⟨sz, n, h3, h4⟩
        · rw [h3] at k3; exact k3
        · rcases k3 with k3 | ⟨sz', n', k3, _⟩
          · exact .inr ⟨sz, n, h3, k3.trans h4⟩
          · rw [h4] at k3; cases k3
theorem Grow.toC {m : Nat} (h : Grow m K w K' w') : GrowC m K w K' w' := ⟨h.mem, h.new, h.var, h.foot, h.keeps⟩
theorem GrowC.trans {m : Nat} {K'' : Ctx} {w'' : World} (h : GrowC m K w K' w') (k : GrowC m K' w' K'' w'') : GrowC m K w K'' w'' := by
  refine ⟨fun b o v hv => k.mem b o v (h.mem b o v hv), fun b o v hv => ?_, fun id hid hk => ?_, fun b hb => ?_, h.keeps.trans k.keeps fun b hb hf => ?_⟩
  · rcases k.new b o v hv with h1 | h1 | h1
    · exact h.new b o v h1
    · exact .inr (h.foot b h1)
    · exact .inr (.inr (Nat.le_trans h.keeps.size h1))
  · obtain ⟨h1, h2⟩ := h.var id hid hk
    obtain ⟨h3, h4⟩ := k.var id hid h1
    exact ⟨h3, h4.trans h2⟩
  · rcases k.foot b hb with h1 | h1
    · exact h.foot b h1
    · exact .inr (Nat.le_trans h.keeps.size h1)
  · exact (h.foot b hf).resolve_right (by omega)
theorem Grow.refl (m : Nat) (K : Ctx) (w : World) : Grow m K w K w := ⟨fun _ _ _ h => h, fun _ _ _ h => .inl h, fun _ _ h => ⟨h, rfl⟩, fun _ h => .inl h, Keeps.refl _ _, fun _ _ _ => .inr ⟨rfl, rfl, rfl, .inl rfl⟩⟩
theorem Ctx.le_refl (K : Ctx) : K.le K := ⟨fun _ _ _ h => h, fun _ _ => .inr ⟨rfl, rfl, rfl, .inl rfl⟩⟩
theorem Ctx.le_trans {K K' K'' : Ctx} (h : K.le K') (h' : K'.le K'') : K.le K'' := by
  refine ⟨fun b o v hv => h'.mem b o v (h.mem b o v hv), fun i hi => ?_⟩
  rcases h.at_ i hi with h1 | ⟨h1, h2, h2', h3⟩
  · rcases h'.at_ i (by rw [h1]; simp) with k1 | ⟨_, _, _, k3⟩
    · exact .inl k1
    · rcases k3 with k3 | ⟨sz, n, k3, _⟩
      · exact .inl (k3.trans h1)
      · rw [h1] at k3; cases k3
  · have hi' : K'.kind i ≠ .hole := by rcases h3 with h3 | ⟨sz, n, _, h3⟩ <;> rw [h3]; exact hi; simp
    rcases h'.at_ i hi' with k1 | ⟨k1, k2, k2', k3⟩
    · exact .inl k1
    · refine .inr ⟨k1.trans h1, k2.trans h2, k2'.trans h2', ?_⟩
      rcases h3 with h3 | ⟨sz, n, h3, h4⟩
      · rw [h3] at k3; exact k3
      · rcases k3 with k3 | ⟨sz', n', k3, _⟩
        · exact .inr ⟨sz, n, h3, k3.trans h4⟩
        · rw [h4] at k3; cases k3

/-- One thing anew. -/
def Ctx.put (K : Ctx) (id : Nat) (k : Kind) (b c f : Nat) : Ctx :=
  { K with blk := fun i => if i = id then b else K.blk i, cap := fun i => if i = id then c else K.cap i, off := fun i => if i = id then f else K.off i, kind := fun i => if i = id then k else K.kind i }
def putG (get : Nat → Obj) (id : Nat) (o : Obj) : Nat → Obj := fun i => if i = id then o else get i
def updG (get : Nat → Obj) : List (Nat × Obj) → Nat → Obj
  | [] => get
  | (n, o) :: r => updG (putG get n o) r
section
variable {id b c f : Nat} {k : Kind} {o : Obj}
theorem put_off : (K.put id k b c f).off id = f := by simp [Ctx.put]
theorem put_kind : (K.put id k b c f).kind id = k := by simp [Ctx.put]
theorem put_blk : (K.put id k b c f).blk id = b := by simp [Ctx.put]
theorem put_cap : (K.put id k b c f).cap id = c := by simp [Ctx.put]
theorem putG_same : putG get id o id = o := by simp [putG]
/-- One thing is made, or changed in its place. -/
theorem Rel.put (h : Rel K get w) (hw : Keeps (fun x => K.own id ∧ K.blk id = x) w w')
    (hk : K.kind id = .hole ∨ o = .gone ∧ K.kind id ≠ .var ∨ (o.kind = K.kind id ∧ b = K.blk id ∧ c = K.cap id ∧ f = K.off id))
    (hn : K.kind id = .hole → w.heap.size ≤ b)
    (hobj : OR (K.put id o.kind b c f) w' id o) : Rel (K.put id o.kind b c f) (putG get id o) w' ∧ K.le (K.put id o.kind b c f) ∧ ∀ m, Grow m K w (K.put id o.kind b c f) w' := by
  have hle : K.le (K.put id o.kind b c f) := by
    refine ⟨fun _ _ _ h => h, fun i hi => ?_⟩
    by_cases he : i = id
    · subst he
      rw [put_kind, put_blk, put_cap, put_off]
      rcases hk with h1 | ⟨rfl, _⟩ | ⟨h1, h2, h3, h4⟩
      · exact absurd h1 hi
      · exact .inl rfl
      · exact .inr ⟨h2, h3, h4, .inl h1⟩
    · exact .inr (by simp [Ctx.put, he])
  have := h.change (K' := K.put id o.kind b c f) (get' := putG get id o) (w' := w') (fun i => i = id) hle (fun i hi => by simp [Ctx.put, putG, hi]) (hw.mono fun x _ ⟨h1, h2⟩ => ⟨id, rfl, h1, h2⟩) (by rintro i rfl; rw [put_kind, putG_same])
    (by
      rintro i rfl hv
      rw [put_kind]
      rcases hk with h1 | ⟨_, h2⟩ | ⟨h1, _⟩
      · rw [hv] at h1; cases h1
      · exact absurd hv h2
      · exact h1.trans hv)
    (by rintro i rfl; rw [putG_same]; exact hobj)
    (by
      rintro i rfl ho
      rw [put_blk]
      rcases hk with h1 | ⟨rfl, _⟩ | ⟨h1, h2, h3, _⟩
      · exact .inr (hn h1)
      · unfold Ctx.own at ho; rw [put_kind] at ho; exact ho.elim
      · refine .inl ⟨i, rfl, ?_, h2.symm⟩
        unfold Ctx.own at ho ⊢
        rw [put_kind, put_cap, h1, h3] at ho
        exact ho)
    (by rintro i j rfl rfl; intros; rfl)
    (fun b o v hv => .inl hv)
  exact ⟨this.1, hle, this.2⟩
end
end
end Go.Proofs.YtidgcfgkcidkiaaGreat.X
namespace Go.Proofs.YtidgcfgkcidkiaaGreat.X
open Go Go.Proofs.YtidgcfgkcidkiaaGreat.L Go.RowKit
set_option linter.unusedVariables false
set_option linter.unusedSimpArgs false
section
variable {P : Program} {K : Ctx} {e : Nat → Option AV} {get : Nat → Obj} {a : Act} {w : World}
theorem PR.one {M : Nat → Nat → Option Value} {u : AV} {c : Value} (h : PR M u c) : c.oneCell' = true := by cases h <;> rfl
theorem VR.pure_of {u : AV} {c : Value} (h : VR K u c) (hs : u.shar = true) : PR K.M u c := by
  cases h with
  | pure h => exact h
  | _ => simp [AV.shar] at hs
theorem booV_sound {v v' : AV} {g g' : List Gd} {ob : List Prop} (h : booV v g = some (v', ob, g')) (ho : AllP ob) : v' = v := by
  unfold booV at h
  split at h
  · exact boo_sound h ho
  · cases h; rfl

/-- A load out of cells. -/
theorem load_at {T : TypeId} {off b o : Nat} {cs : List AV} {L : List Value} {v : AV} (hL : VRs K cs L) (hc : ∀ j d, L[j]? = some d → w.cell? ⟨b, o + j, none⟩ = some d) (hp : partA P T off cs = some v) :
    ∃ c, (Instr.loadAt T (.pointer (some ⟨b, o + off, none⟩))).run P w = .ok c w ∧ VR K v c := by
  obtain ⟨c, l, hv, hl, hn, ht, i, hi⟩ := partA_sound hp hL
  refine ⟨c, ?_, hv⟩
  have hcell : ∀ j d, l[j]? = some d → w.cell? ((⟨b, o + off, none⟩ : Addr).add j) = some d := by
    intro j d hd
    rw [← hl, List.getElem?_take] at hd
    split at hd
    · rw [List.getElem?_drop] at hd
      rw [addr_mid, Nat.add_assoc]
      exact hc _ d hd
    · cases hd
  rcases ht with ⟨ht, rfl⟩ | ⟨ht, rfl⟩
  · have := run_loadCells_list (P := P) w ⟨b, o + off, none⟩ l hcell
    rw [hn] at this
    simp [Instr.loadAt, Instr.sureAddr, loadVar, isAgg_run ht, size_run hi, this]
  · have := hcell 0 c rfl
    rw [addr_mid, Nat.add_zero] at this
    simp [Instr.loadAt, Instr.sureAddr, loadVar, isAgg_run ht, this]

theorem RelS.kind (hS : RelS K e get a w) (id : Nat) : K.kind id = (get id).kind := hS.rel.kinds id
/-- The cells of one element of a row. -/
theorem row_el {M : Nat → Nat → Option Value} {sz : Nat} {xs : List AV} {ds : List Value} (h : PRows M sz xs ds) {i : Nat} {x : AV} (hx : xs[i]? = some x) (hM : ∀ b o v, M b o = some v → K.M b o = some v) :
    ∃ L, VRs K x.cells L ∧ L.length = sz ∧ ∀ j d, L[j]? = some d → ds[i * sz + j]? = some d := by
  obtain ⟨hl, hc⟩ := h i x hx
  refine ⟨(ds.drop (i * sz)).take sz, ⟨?_, fun j u d hu hd => ?_⟩, ?_, fun j d hd => ?_⟩
  · rw [hl]
    by_cases h0 : sz = 0
    · subst h0; simp
    · obtain ⟨d, h1, _⟩ := hc (sz - 1) _ (List.getElem?_eq_getElem (by omega))
      have := (List.getElem?_eq_some_iff.1 h1).1
      rw [List.length_take, List.length_drop]; omega
  · obtain ⟨d', h1, h2⟩ := hc j u hu
    rw [List.getElem?_take] at hd
    split at hd
    · rw [List.getElem?_drop, h1] at hd
      injection hd with hd; subst hd
      exact .pure (h2.mono hM)
    · cases hd
  · by_cases h0 : sz = 0
    · subst h0; simp
    · obtain ⟨d, h1, _⟩ := hc (sz - 1) _ (List.getElem?_eq_getElem (by omega))
      have := (List.getElem?_eq_some_iff.1 h1).1
      rw [List.length_take, List.length_drop]; omega
  · rw [List.getElem?_take] at hd
    split at hd
    · rwa [List.getElem?_drop] at hd
    · cases hd
theorem loadA_sound (hS : RelS K e get a w) {T : TypeId} {x : AV} {c : Value} {g g' : List Gd} {E : Eff} {ob : List Prop} (hx : VR K x c) (h : loadA P e get T x g = some (E, ob, g')) (ho : AllP ob) :
    ∃ v r, E.v = some v ∧ E.wr = [] ∧ (Instr.loadAt T c).run P w = .ok r w ∧ VR K v r := by
  unfold loadA at h
  split at h
  · rename_i id off
    split at h
    · rename_i T' cs hg
      split at h
      · rename_i v hp
        split at h
        · rename_i v' o g1 hb
          cases h
          obtain rfl := booV_sound hb ho
          have hk : K.kind id = .var := by rw [hS.kind, hg]; rfl
          obtain ⟨ds, h1, h2, h3⟩ := by have := hS.rel.obj id; rw [hg] at this; exact this
          cases hx with
          | pure h => cases h
          | ptr id off c hk' hc hp' =>
            rw [hk] at hc
            obtain rfl := hc.resolve_left (by simp)
            obtain ⟨r, h4, h5⟩ := load_at (w := w) (b := K.blk id) (o := 0) h2 (fun j d hd => by rw [Nat.zero_add]; exact cellOf h1 j (by simpa using hd)) hp
            rw [Nat.zero_add] at h4
            exact ⟨_, r, rfl, rfl, h4, h5⟩
        · cases h
      · cases h
    · cases h
  · rename_i id sz i off
    have key : ∀ (s : Nat) (xs : List AV), (match elA xs i g, Nat.beq s sz with
      | some (x, o, g), true => match partA P T off x.cells with
        | some v => (match booV v g with | some (v, o', g) => some ((⟨some v, [id], [], 0⟩ : Eff), o ++ o', g) | none => none)
        | none => none
      | _, _ => none) = some (E, ob, g') → (∀ x, xs[i]? = some x → ∃ L, VRs K x.cells L ∧ ∀ j d, L[j]? = some d → w.cell? ⟨K.blk id, K.off id + i * s + j, none⟩ = some d) → (K.kind id ≠ .gone) →
      ∃ v r, E.v = some v ∧ E.wr = [] ∧ (Instr.loadAt T c).run P w = .ok r w ∧ VR K v r := by
      intro s xs h hcell hng
      split at h
      · rename_i x o g1 he hs
        split at h
        · rename_i v hp
          split at h
          · rename_i v' o' g2 hb
            cases h
            rw [AllP.append_iff] at ho
            obtain rfl := booV_sound hb ho.2
            have hxs := elA_sound he ho.1
            obtain rfl := beq_eq' hs
            obtain ⟨L, h1, h2⟩ := hcell x hxs
            cases hx with
            | pure h => cases h
            | ept id sz i off c hk' hc hp' =>
              obtain ⟨n, _, _, rfl⟩ := hc.resolve_left hng
              obtain ⟨r, h4, h5⟩ := load_at (w := w) (b := K.blk id) (o := K.off id + i * s) h1 h2 hp
              exact ⟨_, r, rfl, rfl, h4, h5⟩
          · cases h
        · cases h
      · cases h
    split at h
    · rename_i T' s xs hg
      have hob := hS.rel.obj id
      rw [hg] at hob
      obtain ⟨h0, h1, h2, h3⟩ := hob
      refine key s xs h (fun x hxs => ?_) (by rw [hS.kind, hg]; simp [Obj.kind])
      have hne : K.cap id ≠ 0 := by have := (List.getElem?_eq_some_iff.1 hxs).1; omega
      obtain ⟨ds, h4, h5, h6⟩ := h3 hne
      obtain ⟨L, l1, l2, l3⟩ := row_el (K := K) h6 hxs fun _ _ _ h => h
      exact ⟨L, l1, fun j d hd => cellOf h4 _ (by have := l3 j d hd; rw [List.getElem?_drop, ← Nat.add_assoc] at this; simpa using this)⟩
    · rename_i T' s xs hg
      have hob := hS.rel.obj id
      rw [hg] at hob
      obtain ⟨h0, h1, h2, h3⟩ := hob
      refine key s xs h (fun x hxs => ?_) (by rw [hS.kind, hg]; simp [Obj.kind])
      obtain ⟨l1, l2⟩ := h3 i x hxs
      have hd : ∀ (j : Nat) (u : AV), x.cells[j]? = some u → ∃ d, ((List.range x.cells.length).map fun j => (K.M (K.blk id) (K.off id + i * s + j)).getD undef)[j]? = some d ∧ K.M (K.blk id) (K.off id + i * s + j) = some d ∧ PR K.M u d := by
        intro j u hu
        obtain ⟨d, m1, m2⟩ := l2 j u hu
        refine ⟨d, ?_, m1, m2⟩
        have hj := (List.getElem?_eq_some_iff.1 hu).1
        rw [List.getElem?_map, List.getElem?_range hj]
        simp [m1]
      refine ⟨(List.range x.cells.length).map fun j => (K.M (K.blk id) (K.off id + i * s + j)).getD undef, ⟨by simp, fun j u d hu hd' => ?_⟩, fun j d hd' => ?_⟩
      · obtain ⟨d2, n1, n2, n3⟩ := hd j u hu
        rw [n1] at hd'; injection hd' with hd'; subst hd'
        exact .pure n3
      · have hj := (List.getElem?_eq_some_iff.1 hd').1
        simp at hj
        obtain ⟨d2, n1, n2, n3⟩ := hd j _ (List.getElem?_eq_getElem hj)
        rw [n1] at hd'; injection hd' with hd'; subst hd'
        exact (hS.rel.mem _ _ _ n2).1
    · cases h
  · rename_i sz xs i off
    split at h
    · rename_i x o g1 he
      split at h
      · rename_i v hp
        split at h
        · rename_i v' o' g2 hb
          cases h
          rw [AllP.append_iff] at ho
          obtain rfl := booV_sound hb ho.2
          have hxs := elA_sound he ho.1
          cases hx with
          | pure h => cases h
          | lpt sz xs i off ad n c hx hi =>
            cases hx with
            | lst sz xs ad' c b o f hsz hc hm had hl hM h =>
              have hne : xs ≠ [] := by rintro rfl; simp at hi
              obtain h9 := had.resolve_left hne
              injection h9 with h9; subst h9
              have hlx := hl i x hxs
              refine ⟨v', ?_⟩
              have h1 : VRs K x.cells ((List.range x.cells.length).map fun j => f i j) := by
                refine ⟨by simp, fun j u d hu hd => ?_⟩
                have hj := (List.getElem?_eq_some_iff.1 hu).1
                rw [List.getElem?_map, List.getElem?_range hj] at hd
                injection hd with hd; subst hd
                exact .pure (h i x j u hxs hu)
              obtain ⟨r, h4, h5⟩ := load_at (w := w) (b := b) (o := o + i * sz) h1 (fun j d hd => by
                have hj := (List.getElem?_eq_some_iff.1 hd).1
                simp at hj
                rw [List.getElem?_map, List.getElem?_range hj] at hd
                injection hd with hd; subst hd
                exact (hS.rel.mem _ _ _ (hM i x j _ hxs (List.getElem?_eq_getElem hj))).1) hp
              exact ⟨r, rfl, rfl, h4, h5⟩
        · cases h
      · cases h
    · cases h
  · cases h

/-- What holds behind an operation. -/
def Then (P : Program) (K : Ctx) (get : Nat → Obj) (a : Act) (w : World) (o : Oper) (E : Eff) (next : Act → World → Prop) : Prop :=
  ∀ K' w' c, Rel K' (updG get E.wr) w' → K.le K' → (∀ m, Grow m K w K' w') → (∀ v, E.v = some v → VR K' v c) → next (a.put o.dst c) w'

theorem then_value {o : Oper} {E : Eff} {next : Act → World → Prop} {Q : Exit → Act → World → Prop} (hn : Then P K get a w o E next) {K' : Ctx} {w' : World} {c : Value} (hr : (execOp a.eval o).run P w = .ok (.value c) w') (h1 : Rel K' (updG get E.wr) w') (h2 : K.le K') (h3 : ∀ m, Grow m K w K' w') (h4 : ∀ v, E.v = some v → VR K' v c) : o.wp P a w next Q := by
  unfold Oper.wp; rw [hr]; exact hn K' w' c h1 h2 h3 h4
theorem then_skip {o : Oper} {E : Eff} {next : Act → World → Prop} {Q : Exit → Act → World → Prop} (hn : Then P K get a w o E next) {K' : Ctx} {w' : World} (hr : (execOp a.eval o).run P w = .ok .skip w') (h1 : Rel K' (updG get E.wr) w') (h2 : K.le K') (h3 : ∀ m, Grow m K w K' w') (h4 : E.v = none) : o.wp P a w next Q := by
  unfold Oper.wp; rw [hr]; exact hn K' w' undef h1 h2 h3 (fun v hv => by rw [h4] at hv; cases hv)

theorem drop_lay {α : Type} (L vs : List α) (o q : Nat) (h : o + q + vs.length ≤ L.length) : (L.take (o + q) ++ vs ++ L.drop (o + q + vs.length)).drop o = (L.drop o).take q ++ vs ++ (L.drop o).drop (q + vs.length) := by
  rw [List.append_assoc, List.drop_append_of_le_length (by simp; omega), List.drop_take, Nat.add_sub_cancel_left, List.drop_drop, List.append_assoc, Nat.add_assoc]
theorem mkEl_cells {x x' : AV} {cs : List AV} (h : mkEl x cs = some x') : x'.cells = cs := by
  unfold mkEl at h
  split at h
  · cases h; rfl
  · split at h
    · cases h
    · rename_i hc
      cases h
      cases x' <;> first | rfl | simp [AV.isAgg] at hc
  · cases h
theorem storeA_sound (hS : RelS K e get a w) {o : Oper} {next : Act → World → Prop} {Q : Exit → Act → World → Prop} {T : TypeId} {xo yo : Operand} (hop : o.op = .store T xo yo) {x y : AV} {g g' : List Gd} {E : Eff} {ob : List Prop} (hx : VR K x (a.eval xo)) (hy : VR K y (a.eval yo)) (h : storeA P get T x y g = some (E, ob, g')) (ho : AllP ob)
    (hn : Then P K get a w o E next) : o.wp P a w next Q := by
  unfold storeA at h
  split at h
  · rename_i ie hi hl
    have hlen := lenB_iff.1 hl
    split at h
    · rename_i id off
      split at h
      · rename_i T' cs hg hcell
        split at h
        · rename_i cs' hs
          cases h
          obtain ⟨hc1, hc2⟩ := hy.cells hcell
          have hk : K.kind id = .var := by rw [hS.kind, hg]; rfl
          obtain ⟨ds, h1, h2, h3⟩ := by have := hS.rel.obj id; rw [hg] at this; exact this
          obtain ⟨hs1, hs2⟩ := setN_eq _ _ _ _ hs
          have hsz : (a.eval yo).cells.size = P.cellsOf T := by have := hc1.1; simp at this; omega
          have haddr : a.eval xo = .pointer (some ⟨K.blk id, off, none⟩) := by
            generalize a.eval xo = c at hx
            cases hx with
            | pure h => cases h
            | ptr id off c hk' hc hp' => rw [hk] at hc; exact hc.resolve_left (by simp)
          have hst := run_storeCells_at P (K.blk id) off T' (a.eval yo).cells.toList 0 ds w h1 (by have := h2.1; simp at this ⊢; have := hc1.1; simp at this; omega) hc2
          simp only [Nat.add_zero] at hst
          have hrun : (execOp a.eval o).run P w = .ok .skip (w.setRow (K.blk id) (ds.toList.take off ++ (a.eval yo).cells.toList ++ ds.toList.drop (off + (a.eval yo).cells.toList.length)).toArray) := by
            simp [execOp, hop, Instr.storeAt, haddr, Instr.sureAddr, storeVar, size_run hi, hsz, hst]
          obtain ⟨r1, r2, r3⟩ := hS.rel.put (id := id) (o := .vars T' cs') (b := K.blk id) (c := K.cap id) (f := K.off id) (w' := w.setRow (K.blk id) (ds.toList.take off ++ (a.eval yo).cells.toList ++ ds.toList.drop (off + (a.eval yo).cells.toList.length)).toArray)
            ((Keeps.refl _ _).setRow (.inl ⟨by unfold Ctx.own; rw [hk]; trivial, rfl⟩) _) (.inr (.inr ⟨hk.symm, rfl, rfl, rfl⟩)) (fun h => by rw [hk] at h; cases h) (by
              refine ⟨(ds.toList.take off ++ (a.eval yo).cells.toList ++ ds.toList.drop (off + (a.eval yo).cells.toList.length)).toArray, ?_, ?_, ?_⟩
              · rw [put_blk]; exact setRow_heap w _ _ _ _ _ h1
              · show VRs _ _ (ds.toList.take off ++ (a.eval yo).cells.toList ++ ds.toList.drop (off + (a.eval yo).cells.toList.length))
                refine VRs.mono (K := K) (K' := K.put id (Obj.vars T' cs').kind (K.blk id) (K.cap id) (K.off id)) ⟨fun _ _ _ h => h, fun i hi => ?_⟩ (h2.setN hc1 hs)
                by_cases he : i = id
                · subst he; rw [put_kind, put_blk, put_cap, put_off]; exact .inr ⟨rfl, rfl, rfl, .inl hk.symm⟩
                · exact .inr (by simp [Ctx.put, he])
              · intro u hu
                simp only [List.mem_append] at hu
                rcases hu with (hu | hu) | hu
                · exact h3 u (List.mem_of_mem_take hu)
                · exact hc2 u hu
                · exact h3 u (List.mem_of_mem_drop hu))
          exact then_skip hn hrun r1 r2 r3 rfl
        · cases h
      · cases h
    · rename_i id s i off
      split at h
      · rename_i T' sz xs hg hshar
        split at h
        · rename_i x0 o1 g1 he hs0
          split at h
          · rename_i cs' hs
            split at h
            · rename_i x' hm
              cases h
              obtain rfl := beq_eq' hs0
              have hcell : allB AV.cell y.cells = true := allB_iff.2 fun u hu => by
                have := allB_iff.1 hshar u hu
                cases u <;> first | rfl | simp [AV.shar] at this
              obtain ⟨hc1, hc2⟩ := hy.cells hcell
              have hxs := elA_sound he ho
              have hilt := (List.getElem?_eq_some_iff.1 hxs).1
              have hk : K.kind id = .row s xs.length := by rw [hS.kind, hg]; rfl
              have hob := hS.rel.obj id
              rw [hg] at hob
              obtain ⟨p0, p1, p2, p3⟩ := hob
              have hne : K.cap id ≠ 0 := by omega
              obtain ⟨ds, h1, h2, h3⟩ := p3 hne
              obtain ⟨hs1, hs2⟩ := setN_eq _ _ _ _ hs
              obtain ⟨hx0, hx1⟩ := h3 i x0 hxs
              have hcx := mkEl_cells hm
              have hsz : (a.eval yo).cells.size = P.cellsOf T := by have := hc1.1; simp at this; omega
              have haddr : a.eval xo = .pointer (some ⟨K.blk id, K.off id + i * s + off, none⟩) := by
                generalize a.eval xo = c at hx
                cases hx with
                | pure h => cases h
                | ept id sz i off c hk' hc hp' => rw [hk] at hc; obtain ⟨n, _, _, hc⟩ := hc.resolve_left (by simp); exact hc
              have hylen : y.cells.length = (a.eval yo).cells.toList.length := hc1.1
              have hpos : (i + 1) * s ≤ K.cap id * s := Nat.mul_le_mul_right _ (by omega)
              rw [Nat.succ_mul] at hpos
              have hst := run_storeCells_at P (K.blk id) (K.off id + i * s + off) T' (a.eval yo).cells.toList 0 ds w h1 (by rw [h2, Nat.add_zero, ← hylen]; omega) hc2
              simp only [Nat.add_zero] at hst
              have hrun : (execOp a.eval o).run P w = .ok .skip (w.setRow (K.blk id) (ds.toList.take (K.off id + i * s + off) ++ (a.eval yo).cells.toList ++ ds.toList.drop (K.off id + i * s + off + (a.eval yo).cells.toList.length)).toArray) := by
                simp [execOp, hop, Instr.storeAt, haddr, Instr.sureAddr, storeVar, size_run hi, hsz, hst]
              obtain ⟨r1, r2, r3⟩ := hS.rel.put (id := id) (o := .row T' s (xs.set i x')) (b := K.blk id) (c := K.cap id) (f := K.off id) (w' := w.setRow (K.blk id) (ds.toList.take (K.off id + i * s + off) ++ (a.eval yo).cells.toList ++ ds.toList.drop (K.off id + i * s + off + (a.eval yo).cells.toList.length)).toArray)
                ((Keeps.refl _ _).setRow (.inl ⟨by unfold Ctx.own; rw [hk]; exact hne, rfl⟩) _) (.inr (.inr ⟨by rw [hk]; simp [Obj.kind], rfl, rfl, rfl⟩)) (fun h => by rw [hk] at h; cases h) (by
                  refine ⟨p0, by rw [put_cap]; simpa using p1, by rw [put_cap]; exact p2, fun _ => ⟨(ds.toList.take (K.off id + i * s + off) ++ (a.eval yo).cells.toList ++ ds.toList.drop (K.off id + i * s + off + (a.eval yo).cells.toList.length)).toArray, ?_, ?_, ?_⟩⟩
                  · rw [put_blk]; exact setRow_heap w _ _ _ _ _ h1
                  · rw [put_cap, put_off]; simp; omega
                  · rw [put_off, Nat.add_assoc (K.off id)]
                    show PRows _ _ _ (List.drop _ (ds.toList.take (K.off id + (i * s + off)) ++ (a.eval yo).cells.toList ++ ds.toList.drop (K.off id + (i * s + off) + (a.eval yo).cells.toList.length)))
                    rw [drop_lay _ _ _ _ (by simp; omega)]
                    have hD : (ds.toList.drop (K.off id)).length = K.cap id * s := by simp; omega
                    generalize hDD : ds.toList.drop (K.off id) = D at h3 hx1 hD
                    have hne' : ∀ (k : Nat) (d : Value), k < i * s + off ∨ i * s + off + (a.eval yo).cells.toList.length ≤ k → D[k]? = some d → (D.take (i * s + off) ++ (a.eval yo).cells.toList ++ D.drop (i * s + off + (a.eval yo).cells.toList.length))[k]? = some d := by
                      intro k d hk hd
                      rcases hk with hk | hk
                      · rw [List.append_assoc, List.getElem?_append_left (by simp; omega), List.getElem?_take, if_pos hk]; exact hd
                      · rw [List.getElem?_append_right (by simp; omega), List.getElem?_drop]
                        have : (D.take (i * s + off) ++ (a.eval yo).cells.toList).length = i * s + off + (a.eval yo).cells.toList.length := by simp; omega
                        rw [this, show i * s + off + (a.eval yo).cells.toList.length + (k - (i * s + off + (a.eval yo).cells.toList.length)) = k by omega]; exact hd
                    intro k x1 hx1'
                    rw [List.getElem?_set] at hx1'
                    by_cases hki : i = k
                    · subst hki
                      rw [if_pos rfl, if_pos hilt] at hx1'
                      injection hx1' with hx1'; subst hx1'
                      rw [hcx]
                      refine ⟨by rw [hs1]; simp; omega, fun j u hu => ?_⟩
                      rw [hs1] at hu
                      by_cases hj1 : j < off
                      · rw [List.append_assoc, List.getElem?_append_left (by simp; omega), List.getElem?_take, if_pos hj1] at hu
                        obtain ⟨d, d1, d2⟩ := hx1 j u hu
                        exact ⟨d, hne' _ d (.inl (by omega)) d1, d2⟩
                      · by_cases hj2 : j < off + y.cells.length
                        · rw [List.getElem?_append_left (by simp; omega), List.getElem?_append_right (by simp; omega)] at hu
                          have e1 : (x0.cells.take off).length = off := by simp; omega
                          rw [e1] at hu
                          obtain ⟨d, d1, d2⟩ := hc1.at_ hu
                          refine ⟨d, ?_, d2.pure_of (allB_iff.1 hshar u (List.mem_of_getElem? hu))⟩
                          rw [List.append_assoc, List.getElem?_append_right (by simp; omega), List.getElem?_append_left (by simp; omega)]
                          have e2 : (D.take (i * s + off)).length = i * s + off := by simp; omega
                          rw [e2, show i * s + j - (i * s + off) = j - off by omega]
                          simpa using d1
                        · rw [List.getElem?_append_right (by simp; omega)] at hu
                          have e1 : (x0.cells.take off ++ y.cells).length = off + y.cells.length := by simp; omega
                          rw [e1, List.getElem?_drop, show off + y.cells.length + (j - (off + y.cells.length)) = j by omega] at hu
                          obtain ⟨d, d1, d2⟩ := hx1 j u hu
                          exact ⟨d, hne' _ d (.inr (by omega)) d1, d2⟩
                    · rw [if_neg hki] at hx1'
                      obtain ⟨q1, q2⟩ := h3 k x1 hx1'
                      refine ⟨q1, fun j u hu => ?_⟩
                      obtain ⟨d, d1, d2⟩ := q2 j u hu
                      have hjs : j < s := by rw [← q1]; exact (List.getElem?_eq_some_iff.1 hu).1
                      refine ⟨d, hne' _ d ?_ d1, d2⟩
                      rcases Nat.lt_or_gt_of_ne hki with hki | hki
                      · have := Nat.mul_le_mul_right s hki
                        rw [Nat.succ_mul] at this
                        exact .inr (by omega)
                      · have := Nat.mul_le_mul_right s hki
                        rw [Nat.succ_mul] at this
                        exact .inl (by omega))
              exact then_skip hn hrun r1 r2 r3 rfl
            · cases h
          · cases h
        · cases h
      · cases h
    · cases h
  · cases h
end
end Go.Proofs.YtidgcfgkcidkiaaGreat.X
namespace Go.Proofs.YtidgcfgkcidkiaaGreat.X
open Go Go.Proofs.YtidgcfgkcidkiaaGreat.L Go.RowKit
set_option linter.unusedVariables false
set_option linter.unusedSimpArgs false
section
variable {P : Program} {K : Ctx} {e : Nat → Option AV} {get : Nat → Obj} {a : Act} {w : World}
/-- A variable is made. -/
theorem new_vars (hS : RelS K e get a w) {o : Oper} {next : Act → World → Prop} {Q : Exit → Act → World → Prop} {base : Nat} {T : TypeId} {cs : List AV} {ds : Array Value} (hb : get base = .hole) (hc : VRs K cs ds.toList) (h1 : ∀ u ∈ ds.toList, u.oneCell' = true)
    (hr : (execOp a.eval o).run P w = .ok (.value (.pointer (some ⟨w.heap.size, 0, none⟩))) (w.alloc (.cells ds T)))
    (hn : Then P K get a w o ⟨some (.ptr base 0), [], [(base, .vars T cs)], 1⟩ next) : o.wp P a w next Q := by
  have hk : K.kind base = .hole := by rw [hS.kind, hb]; rfl
  have hle : K.le (K.put base (Obj.vars T cs).kind w.heap.size 0 0) := ⟨fun _ _ _ h => h, fun i hi => by
    by_cases he : i = base
    · subst he; exact absurd hk hi
    · exact .inr (by simp [Ctx.put, he])⟩
  obtain ⟨r1, r2, r3⟩ := hS.rel.put (id := base) (o := .vars T cs) (b := w.heap.size) (c := 0) (f := 0) (w' := w.alloc (.cells ds T)) ((Keeps.refl _ _).alloc _) (.inl hk) (fun _ => Nat.le_refl _)
    ⟨ds, by rw [put_blk]; exact heap_alloc_new w _, hc.mono hle, h1⟩
  exact then_value hn hr r1 r2 r3 (by rintro v ⟨rfl⟩; exact .ptr _ _ _ (by rw [put_kind]; simp [Obj.kind]) (.inr (by rw [put_blk])) ⟨_, rfl⟩)
theorem cst1_cell {v : Value} {u : AV} (h : cst1 v = some u) : u.cell = true ∧ u.shar = true ∧ v.oneCell' = true := by
  unfold cst1 at h
  split at h <;> cases h <;> exact ⟨rfl, rfl, rfl⟩
theorem cstL_cell : ∀ (vs : List Value) (us : List AV), cstL vs = some us → (∀ u ∈ us, u.cell = true ∧ u.shar = true) ∧ ∀ v ∈ vs, v.oneCell' = true
  | [], us, h => by cases h; simp
  | v :: vs, us, h => by
    simp only [cstL] at h
    split at h
    · rename_i u hu
      split at h
      · rename_i ws hws
        cases h
        obtain ⟨h1, h2⟩ := cstL_cell vs ws hws
        obtain ⟨k1, k2, k3⟩ := cst1_cell hu
        exact ⟨by simp only [List.mem_cons, forall_eq_or_imp]; exact ⟨⟨k1, k2⟩, h1⟩, by simp only [List.mem_cons, forall_eq_or_imp]; exact ⟨k3, h2⟩⟩
      · cases h
    · cases h
theorem cst_cells {v : Value} {u : AV} (h : cst v = some u) : VRs K u.cells v.cells.toList ∧ (∀ x ∈ u.cells, x.shar = true) := by
  unfold cst at h
  split at h
  · rename_i cs
    split at h
    · rename_i us hus
      cases h
      exact ⟨cstL_sound _ _ hus, fun x hx => ((cstL_cell _ _ hus).1 x hx).2⟩
    · cases h
  · rename_i hna
    obtain ⟨k1, k2, k3⟩ := cst1_cell h
    have e1 : u.cells = [u] := by cases u <;> first | rfl | simp [AV.cell] at k1
    have e2 : v.cells.toList = [v] := by cases v <;> first | rfl | simp [Value.oneCell'] at k3
    rw [e1, e2]
    exact ⟨.cons (cst1_sound h) .nil, by simpa using k2⟩
theorem alloc_sound (hS : RelS K e get a w) {o : Oper} {next : Act → World → Prop} {Q : Exit → Act → World → Prop} {base : Nat} {T : TypeId} {cs : List AV} (hop : o.op = .alloc T) (hb : get base = .hole) (hz : zerosA P T = some cs)
    (hn : Then P K get a w o ⟨some (.ptr base 0), [], [(base, .vars T cs)], 1⟩ next) : o.wp P a w next Q := by
  unfold zerosA at hz
  split at hz
  · rename_i i hi
    split at hz
    · rename_i v hv
      refine new_vars hS hb (cstL_sound _ _ hz) (cstL_cell _ _ hz).2 ?_ hn
      simp [execOp, hop, Instr.alloc, zeroValue, typeInfo, hi, hv, newVar, newRow]
    · cases hz
  · cases hz
theorem box_sound (hS : RelS K e get a w) {o : Oper} {next : Act → World → Prop} {Q : Exit → Act → World → Prop} {base : Nat} {T : TypeId} {x : Operand} {v : AV} (hop : o.op = .box T x) (hb : get base = .hole) (hv : opv e x = some v) (hc : allB AV.cell v.cells = true)
    (hn : Then P K get a w o ⟨some (.ptr base 0), [], [(base, .vars T v.cells)], 1⟩ next) : o.wp P a w next Q := by
  obtain ⟨h1, h2⟩ := (opv_sound hS hv).cells hc
  refine new_vars hS hb h1 h2 ?_ hn
  simp [execOp, hop, Instr.box, newVar, newRow]

/-- A row is made. -/
theorem new_row (hS : RelS K e get a w) {o : Oper} {next : Act → World → Prop} {Q : Exit → Act → World → Prop} {base n m sz : Nat} {T : TypeId} {xs : List AV} {ds : Array Value} (hb : get base = .hole) (hx : PRows K.M sz xs ds.toList) (h0 : 0 < sz) (hl : xs.length = n) (hnm : n ≤ m) (hm : m ≤ maxLen) (hd : ds.size = m * sz)
    (hr : (execOp a.eval o).run P w = .ok (.value (.slice (some ⟨w.heap.size, 0, none⟩) n m)) (w.alloc (.cells ds T)))
    (hn : Then P K get a w o ⟨some (.row base sz n), [], [(base, .row T sz xs)], 1⟩ next) : o.wp P a w next Q := by
  have hk : K.kind base = .hole := by rw [hS.kind, hb]; rfl
  obtain ⟨r1, r2, r3⟩ := hS.rel.put (id := base) (o := .row T sz xs) (b := w.heap.size) (c := m) (f := 0) (w' := w.alloc (.cells ds T)) ((Keeps.refl _ _).alloc _) (.inl hk) (fun _ => Nat.le_refl _)
    ⟨h0, by rw [put_cap]; omega, by rw [put_cap]; exact hm, fun _ => ⟨ds, by rw [put_blk]; exact heap_alloc_new w _, by rw [put_cap, put_off, Nat.zero_add]; exact hd, by rw [put_off]; exact hx⟩⟩
  exact then_value hn hr r1 r2 r3 (by
    rintro v ⟨rfl⟩
    refine .row _ _ _ _ (by rw [put_kind]; simp [Obj.kind]) (.inr ⟨.inl (by rw [put_kind, Obj.kind, hl]), _, by rw [put_cap], fun _ => by rw [put_blk, put_off]⟩) ⟨_, _, rfl, hnm, hm, fun _ => ⟨_, rfl⟩⟩)

/-- An element is set. -/
theorem PRows.setE {M : Nat → Nat → Option Value} {sz i : Nat} {xs : List AV} {ds vs : List Value} {y : AV} (h : PRows M sz xs ds) (hi : i < xs.length) (hd : xs.length * sz ≤ ds.length) (hy : y.cells.length = sz) (hv : vs.length = sz) (hp : ∀ (j : Nat) (u : AV) (d : Value), y.cells[j]? = some u → vs[j]? = some d → PR M u d) :
    PRows M sz (xs.set i y) (ds.take (i * sz) ++ vs ++ ds.drop (i * sz + vs.length)) := by
  have hpos : (i + 1) * sz ≤ xs.length * sz := Nat.mul_le_mul_right _ (by omega)
  rw [Nat.succ_mul] at hpos
  have hne' : ∀ (k : Nat) (d : Value), k < i * sz ∨ i * sz + vs.length ≤ k → ds[k]? = some d → (ds.take (i * sz) ++ vs ++ ds.drop (i * sz + vs.length))[k]? = some d := by
    intro k d hk hd
    rcases hk with hk | hk
    · rw [List.append_assoc, List.getElem?_append_left (by simp; omega), List.getElem?_take, if_pos hk]; exact hd
    · rw [List.getElem?_append_right (by simp; omega), List.getElem?_drop]
      have : (ds.take (i * sz) ++ vs).length = i * sz + vs.length := by simp; omega
      rw [this, show i * sz + vs.length + (k - (i * sz + vs.length)) = k by omega]; exact hd
  intro k x1 hx1
  rw [List.getElem?_set] at hx1
  by_cases hki : i = k
  · subst hki
    rw [if_pos rfl, if_pos hi] at hx1
    injection hx1 with hx1; subst hx1
    refine ⟨hy, fun j u hu => ?_⟩
    have hj := (List.getElem?_eq_some_iff.1 hu).1
    have hd' : vs[j]? = some (vs[j]'(by omega)) := List.getElem?_eq_getElem (by omega)
    refine ⟨_, ?_, hp j u _ hu hd'⟩
    rw [List.append_assoc, List.getElem?_append_right (by simp; omega), List.getElem?_append_left (by simp; omega)]
    have e2 : (ds.take (i * sz)).length = i * sz := by simp; omega
    rw [e2, Nat.add_sub_cancel_left]; exact hd'
  · rw [if_neg hki] at hx1
    obtain ⟨q1, q2⟩ := h k x1 hx1
    refine ⟨q1, fun j u hu => ?_⟩
    obtain ⟨d, d1, d2⟩ := q2 j u hu
    have hjs : j < sz := by rw [← q1]; exact (List.getElem?_eq_some_iff.1 hu).1
    refine ⟨d, hne' _ d ?_ d1, d2⟩
    rcases Nat.lt_or_gt_of_ne hki with hki | hki
    · have := Nat.mul_le_mul_right sz hki
      rw [Nat.succ_mul] at this
      exact .inr (by omega)
    · have := Nat.mul_le_mul_right sz hki
      rw [Nat.succ_mul] at this
      exact .inl (by omega)
theorem setN_one {α : Type} {l r : List α} {i : Nat} {y : α} (h : setN l i [y] = some r) : r = l.set i y ∧ i < l.length := by
  obtain ⟨h1, h2⟩ := setN_eq _ _ _ _ h
  simp at h2
  refine ⟨?_, by omega⟩
  rw [h1, List.set_eq_take_append_cons_drop, if_pos (by omega)]
  simp
theorem elsA_sound (hS : RelS K e get a w) {sz : Nat} : ∀ (parts : List (Nat × Operand)) (xs r : List AV) (ds : Array Value), elsA P e sz xs parts = some r → PRows K.M sz xs ds.toList → ds.size = xs.length * sz →
    ∃ ds', Instr.fill (fun i => some (i * sz, sz)) ds (parts.map fun x => (x.1, a.eval x.2)) = some ds' ∧ PRows K.M sz r ds'.toList ∧ ds'.size = ds.size ∧ r.length = xs.length
  | [], xs, r, ds, h, hd, hl => by cases h; exact ⟨ds, rfl, hd, rfl, rfl⟩
  | (i, x) :: ps, xs, r, ds, h, hd, hl => by
    simp only [elsA] at h
    split at h
    · rename_i v hv
      split at h
      · rename_i hlen hsh
        split at h
        · rename_i c hs
          have hv' := opv_sound hS hv
          have hcell : allB AV.cell v.cells = true := allB_iff.2 fun u hu => by
            have := allB_iff.1 hsh u hu
            cases u <;> first | rfl | simp [AV.shar] at this
          obtain ⟨h1, _⟩ := hv'.cells hcell
          obtain ⟨rfl, hi⟩ := setN_one hs
          have h3 := lenB_iff.1 hlen
          have h4 : (a.eval x).cells.toList.length = sz := by rw [← h1.1]; exact h3
          have h4' : (a.eval x).cells.size = sz := by simpa using h4
          have hpos : (i + 1) * sz ≤ xs.length * sz := Nat.mul_le_mul_right _ (by omega)
          rw [Nat.succ_mul] at hpos
          have e1 : ((a.eval x).cells.zipIdx.foldl (fun cs (c, j) => cs.setIfInBounds (i * sz + j) c) ds).toList = ds.toList.take (i * sz) ++ (a.eval x).cells.toList ++ ds.toList.drop (i * sz + (a.eval x).cells.toList.length) := by
            rw [← Array.foldl_toList, Array.toList_zipIdx]
            simpa using fold_seg (a.eval x).cells.toList (i * sz) 0 ds (by rw [h4]; omega)
          have e2 : ((a.eval x).cells.zipIdx.foldl (fun cs (c, j) => cs.setIfInBounds (i * sz + j) c) ds).size = ds.size := by
            rw [← Array.length_toList, e1]; simp; omega
          obtain ⟨ds', hf, hr, hsz, hrl⟩ := elsA_sound hS ps _ r _ h (by
            rw [e1]
            exact PRows.setE hd hi (by simp; omega) h3 h4 fun j u d hu hd => (h1.2 j u d hu hd).pure_of (allB_iff.1 hsh u (List.mem_of_getElem? hu))) (by rw [e2, hl]; simp)
          refine ⟨ds', ?_, hr, hsz.trans e2, by rw [hrl]; simp⟩
          simp only [List.map_cons, Instr.fill]
          rw [if_neg (by simp [h4']; omega)]
          exact hf
        · cases h
      · cases h
    · cases h
/-- Zeros. -/
theorem zeros_rows {n m sz : Nat} {z : AV} {zv : Value} (h : cst zv = some z) (hz : z.cells.length = sz) (hnm : n ≤ m) (h0 : 0 < sz) : PRows K.M sz (List.replicate n z) ((Array.range (m * sz)).map (zv.cells[· % zv.cells.size]!)).toList := by
  obtain ⟨h1, h2⟩ := cst_cells (K := K) h
  have hs : zv.cells.size = sz := by have := h1.1; simp at this; omega
  intro i x hx
  rw [List.getElem?_replicate] at hx
  split at hx
  · rename_i hi
    injection hx with hx; subst hx
    refine ⟨hz, fun j u hu => ?_⟩
    have hj := (List.getElem?_eq_some_iff.1 hu).1
    obtain ⟨d, d1, d2⟩ := h1.at_ hu
    refine ⟨d, ?_, d2.pure_of (h2 u (List.mem_of_getElem? hu))⟩
    have hpos : (i + 1) * sz ≤ m * sz := Nat.mul_le_mul_right _ (by omega)
    rw [Nat.succ_mul] at hpos
    have hlt : i * sz + j < m * sz := by omega
    simp only [Array.toList_map, Array.toList_range, List.getElem?_map, List.getElem?_range hlt, Option.map_some]
    have e : (i * sz + j) % zv.cells.size = j := by rw [hs, Nat.mul_comm, Nat.mul_add_mod]; exact Nat.mod_eq_of_lt (by omega)
    rw [e]
    have hd : zv.cells[j]? = some d := by simpa using d1
    rw [getElem!_pos zv.cells j (by omega)]
    rw [Array.getElem?_eq_getElem (by omega)] at hd
    exact hd
  · cases hx
theorem zeroA_inv {T : TypeId} {z : AV} (h : zeroA P T = some z) : ∃ i v, P.info? T = some i ∧ i.zero = some v ∧ cst v = some z ∧ z.cells.length = i.size := by
  unfold zeroA at h
  split at h
  · rename_i i hi
    split at h
    · rename_i v hv
      split at h
      · rename_i z' hz
        split at h
        · rename_i hl
          cases h
          exact ⟨i, v, hi, hv, hz, lenB_iff.1 hl⟩
        · cases h
      · cases h
    · cases h
  · cases h
theorem buildSlice_sound (hS : RelS K e get a w) {o : Oper} {next : Act → World → Prop} {Q : Exit → Act → World → Prop} {base len : Nat} {T el : TypeId} {parts : Array (Nat × Operand)} {i : TypeInfo} {z : AV} {xs : List AV} (hop : o.op = .buildSlice T len parts) (hb : get base = .hole)
    (hu : P.underlying T = some (.slice el)) (hi : P.info? el = some i) (hz : zeroA P el = some z) (h0 : 0 < i.size) (hsm : len * i.size ≤ 16777216) (hx : elsA P e i.size (List.replicate len z) parts.toList = some xs)
    (hn : Then P K get a w o ⟨some (.row base i.size len), [], [(base, .row el i.size xs)], 1⟩ next) : o.wp P a w next Q := by
  obtain ⟨i', v, hi', hv, hc, hzl⟩ := zeroA_inv hz
  rw [hi] at hi'; injection hi' with hi'; subst hi'
  by_cases hl0 : len = 0
  · subst hl0
    have hxs : xs = [] ∧ parts.toList = [] := by
      cases hp : parts.toList with
      | nil => rw [hp] at hx; cases hx; exact ⟨rfl, rfl⟩
      | cons p ps =>
        rw [hp] at hx
        simp only [elsA] at hx
        split at hx
        · split at hx
          · split at hx
            · rename_i c hs
              have := (setN_one hs).2
              simp at this
            · cases hx
          · cases hx
        · cases hx
    obtain ⟨rfl, hp⟩ := hxs
    have hp' : parts = #[] := by cases parts; simp at hp; subst hp; rfl
    subst hp'
    refine new_row (m := 0) (ds := #[]) hS hb (fun i x hx => by simp at hx) h0 rfl (Nat.le_refl _) (Nat.zero_le _) (by simp) ?_ hn
    simp [execOp, hop, Instr.buildSlice, run_underlying hu, sizeOf, typeInfo, hi, Instr.fill, newRow]
    congr 2; apply Array.ext'; simp
  · obtain ⟨ds', hf, hr, hsz, hrl⟩ := elsA_sound hS parts.toList _ xs ((Array.range (len * i.size)).map (v.cells[· % v.cells.size]!)) hx (zeros_rows hc hzl (Nat.le_refl _) h0) (by simp)
    have hpos : ¬ len * i.size = 0 := by
      have := Nat.mul_pos (Nat.pos_of_ne_zero hl0) h0; omega
    have hrun := run_buildSlice (P := P) w T el len (parts.map fun (i, x) => (i, a.eval x)) ds' i v hu hi hv (by omega) hpos (by rw [Array.toList_map]; exact hf)
    refine new_row (m := len) (ds := ds') hS hb hr h0 (by rw [hrl]; simp) (Nat.le_refl _) ?_ (by rw [hsz]; simp) ?_ hn
    · have := Nat.le_mul_of_pos_right len h0
      simp only [maxLen]; omega
    · simp only [execOp, hop, Sem.run_bind, hrun, Result.andThen_ok, Sem.run_pure]
theorem makeSlice_sound (hS : RelS K e get a w) {o : Oper} {next : Act → World → Prop} {Q : Exit → Act → World → Prop} {base n m : Nat} {T el : TypeId} {l c : Operand} {i : TypeInfo} {z : AV} {k k' : IntKind} (hop : o.op = .makeSlice T l c) (hb : get base = .hole)
    (hu : P.underlying T = some (.slice el)) (hi : P.info? el = some i) (hz : zeroA P el = some z) (h0 : 0 < i.size) (hl : a.eval l = .int k (n : Int)) (hc' : a.eval c = .int k' (m : Int)) (hnm : n ≤ m) (hm : m ≤ 140737488355328) (hm2 : m * i.bytes ≤ 140737488355328)
    (hn : Then P K get a w o ⟨some (.row base i.size n), [], [(base, .row el i.size (List.replicate n z))], 1⟩ next) : o.wp P a w next Q := by
  obtain ⟨i', v, hi', hv, hc, hzl⟩ := zeroA_inv hz
  rw [hi] at hi'; injection hi' with hi'; subst hi'
  have e1 : IntKind.i64.wrap (n : Int) = n := by simp [IntKind.wrap, IntKind.bits, IntKind.signed]; omega
  have e2 : IntKind.i64.wrap (m : Int) = m := by simp [IntKind.wrap, IntKind.bits, IntKind.signed]; omega
  have e3 : ((i.bytes : Int) * (m : Int)) = ((m * i.bytes : Nat) : Int) := by rw [Nat.mul_comm]; simp
  have e4 : ¬ ((m : Int) < 0) := by omega
  have e5 : ¬ ((i.bytes : Int) * (m : Int) > 281474976710656) := by rw [e3]; omega
  have e6 : ¬ ((n : Int) < 0) := by omega
  have e7 : ¬ ((n : Int) > (m : Int)) := by omega
  refine new_row (m := m) (ds := (Array.range (m * i.size)).map (v.cells[· % v.cells.size]!)) hS hb (zeros_rows hc hzl hnm h0) h0 (by simp) hnm (by simp only [maxLen]; omega) (by simp) ?_ hn
  by_cases hm0 : m = 0
  · subst hm0
    obtain rfl : n = 0 := by omega
    simp [execOp, hop, Instr.makeSlice, run_underlying hu, hl, hc', asInt, asIntOf, typeInfo, hi, sizeOf, newRow, IntKind.wrap, IntKind.bits, IntKind.signed]
    congr 2; apply Array.ext'; simp
  · have hp : ¬ m * i.size = 0 := by have := Nat.mul_pos (Nat.pos_of_ne_zero hm0) h0; omega
    simp [execOp, hop, Instr.makeSlice, run_underlying hu, hl, hc', asInt, asIntOf, typeInfo, hi, sizeOf, newRow, e1, e2, e4, e5, e6, e7, hp, zeroValue, hv]
end
end Go.Proofs.YtidgcfgkcidkiaaGreat.X
