/- A library of no program: memory that is kept but for an area, readings of cells, rows that are owned. -/
import Derived.WalkKit
import Derived.ProofKit
import Derived.Deep.Draws
import Derived.Deep.QuietTactic
import Derived.BigQuiet
import Derived.Deep.LoopGhost
import Derived.Deep.DeepCutAuto
import Derived.Deep.RegionLaw
import Derived.Deep.RegionWith
import Derived.Deep.DeepFit
import Derived.WalkSpells
import Derived.WalkLawsBesides
import Derived.OpenShut
import Derived.Lib.SliceRun
import Derived.Lib.AppendZeros
import Derived.Lib.Overlaps
import Derived.Lib.Hide
namespace Go.Proofs.Ytidgcfgkcidkiaa.L
open Go Go.RowKit
set_option linter.unusedVariables false
set_option linter.unusedSimpArgs false

/-- Outside the area F the world w' is as w was. -/
structure Keeps (F : Nat → Prop) (w w' : World) : Prop where
  os : w'.os = w.os
  tape : w'.tape = w.tape
  output : w'.output = w.output
  size : w.heap.size ≤ w'.heap.size
  block : ∀ k, k < w.heap.size → ¬ F k → w'.heap[k]? = w.heap[k]?

theorem Keeps.refl (F : Nat → Prop) (w : World) : Keeps F w w := ⟨rfl, rfl, rfl, Nat.le_refl _, fun _ _ _ => rfl⟩
theorem Keeps.mono {F G : Nat → Prop} {w w' : World} (h : Keeps F w w') (hG : ∀ k, k < w.heap.size → F k → G k) : Keeps G w w' :=
  ⟨h.os, h.tape, h.output, h.size, fun k hk hn => h.block k hk fun hf => hn (hG k hk hf)⟩
theorem Keeps.trans {F G : Nat → Prop} {w w1 w2 : World} (h : Keeps F w w1) (k : Keeps G w1 w2) (hG : ∀ b, b < w.heap.size → G b → F b) : Keeps F w w2 :=
  ⟨k.os.trans h.os, k.tape.trans h.tape, k.output.trans h.output, Nat.le_trans h.size k.size,
   fun b hb hn => (k.block b (Nat.lt_of_lt_of_le hb h.size) fun hg => hn (hG b hb hg)).trans (h.block b hb hn)⟩
theorem Keeps.step {F : Nat → Prop} {w w1 w2 : World} (h : Keeps F w w1) (k : Keeps (fun _ => False) w1 w2) : Keeps F w w2 := h.trans k fun _ _ hf => hf.elim
theorem Keeps.of_below {w w' : World} (h : Below w.heap.size w w') : Keeps (fun _ => False) w w' := ⟨h.os, h.tape, h.output, h.size, fun k hk _ => h.block k hk⟩
theorem Keeps.below {w w' : World} (h : Keeps (fun _ => False) w w') : Below w.heap.size w w' := ⟨h.os, h.tape, h.output, h.size, fun k hk => h.block k hk fun hf => hf⟩
theorem Keeps.alloc {F : Nat → Prop} {w w1 : World} (h : Keeps F w w1) (o : Obj) : Keeps F w (w1.alloc o) :=
  h.step (Keeps.of_below ((Below.refl _ _).alloc (Nat.le_refl _) o))
theorem Keeps.drew {F : Nat → Prop} {w w1 : World} (h : Keeps F w w1) : Keeps F w w1.drew := ⟨h.os, h.tape, h.output, h.size, h.block⟩
theorem Keeps.drewN {F : Nat → Prop} {w w1 : World} (h : Keeps F w w1) (n : Nat) : Keeps F w (w1.drewN n) := ⟨h.os, h.tape, h.output, h.size, h.block⟩
theorem Keeps.setCell {F : Nat → Prop} {w w1 : World} (h : Keeps F w w1) {p : Addr} (hp : F p.block ∨ w.heap.size ≤ p.block) (u : Value) : Keeps F w (w1.setCell p u) :=
  h.trans (G := fun k => k = p.block) ⟨rfl, rfl, rfl, by simp [World.setCell], fun k hk hn => Below.heap_setCell _ _ _ _ hn⟩ (by rintro b hb rfl; rcases hp with h | h; exact h; omega)
theorem Keeps.setRow {F : Nat → Prop} {w w1 : World} (h : Keeps F w w1) {g : Nat} (hp : F g ∨ w.heap.size ≤ g) (cs : Array Value) : Keeps F w (w1.setRow g cs) :=
  h.trans (G := fun k => k = g) ⟨rfl, rfl, rfl, by simp [World.setRow], fun k hk hn => setRow_other _ g k cs hn⟩ (by rintro b hb rfl; rcases hp with h | h; exact h; omega)
theorem Keeps.grown {F : Nat → Prop} {w w1 w2 : World} (h : Keeps F w w1) {row : Option Nat} (hg : w1.grownBy w2 row) (hr : ∀ k, row = some k → F k ∨ w.heap.size ≤ k) : Keeps F w w2 :=
  h.trans (G := fun k => row = some k) ⟨hg.os, hg.tape, hg.output, hg.size, fun k hk hn => hg.block k hk fun e => hn e.symm⟩ (by intro b hb e; rcases hr b e with h | h; exact h; omega)
theorem Keeps.heap {F : Nat → Prop} {w w' : World} (h : Keeps F w w') {b : Nat} {o : Obj} (hb : w.heap[b]? = some o) (hn : ¬ F b) : w'.heap[b]? = some o :=
  (h.block b (Array.getElem?_eq_some_iff.1 hb).1 hn).trans hb
theorem Keeps.heap0 {w w' : World} (h : Keeps (fun _ => False) w w') {b : Nat} {o : Obj} (hb : w.heap[b]? = some o) : w'.heap[b]? = some o := h.heap hb fun hf => hf
theorem lt_of_heap {w : World} {b : Nat} {o : Obj} (hb : w.heap[b]? = some o) : b < w.heap.size := (Array.getElem?_eq_some_iff.1 hb).1
theorem ne_of_heap {w : World} {b c : Nat} {x y : Array Value} {s t : TypeId} {f g : Nat × Nat} (hb : w.heap[b]? = some (.cells x s f)) (hc : w.heap[c]? = some (.cells y t g)) (h : s ≠ t) : b ≠ c := by
  rintro rfl; rw [hb] at hc; injection hc with hc; injection hc with _ h2; exact h h2
theorem cellOf {w : World} {b : Nat} {cs : Array Value} {T : TypeId} {f : Nat × Nat} (h : w.heap[b]? = some (.cells cs T f)) (o : Nat) {v : Value} (hv : cs[o]? = some v) : w.cell? ⟨b, o, none⟩ = some v := by
  rw [cell_of_row w b o cs T f h, hv]
theorem freeOf {w : World} {b : Nat} {cs : Array Value} {T : TypeId} (h : w.heap[b]? = some (.cells cs T (0, 0))) (o : Nat) : w.frozen? ⟨b, o, none⟩ = false := frozen_of_row w b o cs T h
/-- The walk's two rules: old cells and old marks read as before. -/
theorem kcell {F : Nat → Prop} {W w1 : World} (hb : Keeps F W w1) : ∀ b o, b < W.heap.size → ¬ F b → w1.cell? ⟨b, o, none⟩ = W.cell? ⟨b, o, none⟩ :=
  fun b o h hn => World.cell?_of_block (w := W) (hb.block b h hn)
theorem kcell0 {W w1 : World} (hb : Keeps (fun _ => False) W w1) : (∀ b o, b < W.heap.size → w1.cell? ⟨b, o, none⟩ = W.cell? ⟨b, o, none⟩) ∧ (∀ b o, b < W.heap.size → w1.frozen? ⟨b, o, none⟩ = W.frozen? ⟨b, o, none⟩) :=
  ⟨fun b o h => World.cell?_of_block (w := W) (hb.block b h fun hf => hf), fun b o h => World.frozen?_of_block (w := W) (hb.block b h fun hf => hf)⟩

/-- How values of a Lean type stand in cells. -/
structure Rep (α : Type) where
  sz : Nat
  K : (Nat → Prop) → World → List Value → α → Prop
  len : ∀ {A w cs x}, K A w cs x → cs.length = sz
  one : ∀ {A w cs x}, K A w cs x → ∀ u ∈ cs, u.oneCell' = true
  keep : ∀ {A A' w w' cs x}, (∀ b, A b → A' b) → (∀ b, A b → b < w.heap.size → w'.heap[b]? = w.heap[b]?) → K A w cs x → K A' w' cs x

/-- Consecutive elements. -/
inductive Cells {α : Type} (R : Rep α) (A : Nat → Prop) (w : World) : List Value → List α → Prop where
  | nil : Cells R A w [] []
  | cons {cs x rest xs} : R.K A w cs x → Cells R A w rest xs → Cells R A w (cs ++ rest) (x :: xs)

section
variable {α : Type} {R : Rep α} {A : Nat → Prop} {w : World}
theorem Cells.length {cs : List Value} {xs : List α} (h : Cells R A w cs xs) : cs.length = xs.length * R.sz := by
  induction h with
  | nil => simp
  | cons h _ ih => simp [R.len h, ih, Nat.succ_mul, Nat.add_comm]
theorem Cells.one {cs : List Value} {xs : List α} (h : Cells R A w cs xs) : ∀ u ∈ cs, u.oneCell' = true := by
  induction h with
  | nil => simp
  | cons h _ ih => intro u hu; rcases List.mem_append.1 hu with h1 | h1; exact R.one h u h1; exact ih u h1
theorem Cells.keep {A' : Nat → Prop} {w' : World} (hA : ∀ b, A b → A' b) (hw : ∀ b, A b → b < w.heap.size → w'.heap[b]? = w.heap[b]?) {cs : List Value} {xs : List α} (h : Cells R A w cs xs) : Cells R A' w' cs xs := by
  induction h with
  | nil => exact .nil
  | cons h _ ih => exact .cons (R.keep hA hw h) ih
theorem Cells.append {cs ds : List Value} {xs ys : List α} (h : Cells R A w cs xs) (k : Cells R A w ds ys) : Cells R A w (cs ++ ds) (xs ++ ys) := by
  induction h with
  | nil => exact k
  | cons h _ ih => rw [List.append_assoc]; exact .cons h ih
theorem Cells.single {cs : List Value} {x : α} (h : R.K A w cs x) : Cells R A w cs [x] := by have := Cells.cons h Cells.nil; rwa [List.append_nil] at this
theorem Cells.split {cs : List Value} {xs : List α} (h : Cells R A w cs xs) (n : Nat) (hn : n ≤ xs.length) : Cells R A w (cs.take (n * R.sz)) (xs.take n) ∧ Cells R A w (cs.drop (n * R.sz)) (xs.drop n) := by
  induction h generalizing n with
  | nil => simp at hn; subst hn; simp; exact Cells.nil
  | @cons c x rest xs h hr ih =>
    cases n with
    | zero => simp; exact ⟨.nil, .cons h hr⟩
    | succ n =>
      have hl := R.len h
      obtain ⟨i1, i2⟩ := ih n (by simp at hn; omega)
      have e : (n + 1) * R.sz = c.length + n * R.sz := by rw [hl, Nat.succ_mul, Nat.add_comm]
      rw [e]
      refine ⟨?_, ?_⟩
      · rw [List.take_length_add_append]; exact .cons h i1
      · rw [List.drop_length_add_append]; exact i2
theorem Cells.take {cs : List Value} {xs : List α} (h : Cells R A w cs xs) (n : Nat) (hn : n ≤ xs.length) : Cells R A w (cs.take (n * R.sz)) (xs.take n) := (h.split n hn).1
theorem Cells.drop {cs : List Value} {xs : List α} (h : Cells R A w cs xs) (n : Nat) (hn : n ≤ xs.length) : Cells R A w (cs.drop (n * R.sz)) (xs.drop n) := (h.split n hn).2
theorem Cells.get {cs : List Value} {xs : List α} (h : Cells R A w cs xs) {i : Nat} {x : α} (hi : xs[i]? = some x) : ∃ c, R.K A w c x ∧ ∀ j u, c[j]? = some u → cs[i * R.sz + j]? = some u := by
  induction h generalizing i with
  | nil => simp at hi
  | @cons c y rest xs h hr ih =>
    cases i with
    | zero =>
      simp at hi; subst hi
      refine ⟨c, h, fun j u hu => ?_⟩
      rw [Nat.zero_mul, Nat.zero_add, List.getElem?_append_left (List.getElem?_eq_some_iff.1 hu).1]; exact hu
    | succ i =>
      simp at hi
      obtain ⟨c', h', hc'⟩ := ih hi
      refine ⟨c', h', fun j u hu => ?_⟩
      have hl := R.len h
      rw [show (i + 1) * R.sz + j = c.length + (i * R.sz + j) by rw [hl, Nat.succ_mul]; omega, List.getElem?_append_right (by omega), Nat.add_sub_cancel_left]
      exact hc' j u hu
theorem Cells.len_eq {cs : List Value} {xs : List α} (h : Cells R A w cs xs) (hs : 0 < R.sz) {n : Nat} (hn : cs.length = n * R.sz) : xs.length = n := by
  have := h.length; rw [hn] at this; exact (Nat.eq_of_mul_eq_mul_right hs this).symm
end

/-- A slice that is read. -/
def SliceK {α : Type} (R : Rep α) (A : Nat → Prop) (w : World) (v : Value) (xs : List α) : Prop :=
  ∃ ad c, v = .slice ad xs.length c ∧ xs.length ≤ c ∧ c ≤ maxLen ∧
    (xs = [] ∨ ∃ b pre live rest T f, ad = some ⟨b, pre.length, none⟩ ∧ A b ∧ w.heap[b]? = some (.cells (pre ++ live ++ rest).toArray T f) ∧ Cells R A w live xs)

/-- A slice whose row is its own. -/
def Own {α : Type} (R : Rep α) (T : TypeId) (A : Nat → Prop) (w : World) (v : Value) (xs : List α) : Prop :=
  ∃ ad c, v = .slice ad xs.length c ∧ xs.length ≤ c ∧ c ≤ maxLen ∧
    (c = 0 ∨ ∃ b pre live dead, ad = some ⟨b, pre.length, none⟩ ∧ w.heap[b]? = some (.cells (pre ++ live ++ dead).toArray T (0, 0)) ∧ dead.length = (c - xs.length) * R.sz ∧ Cells R A w live xs)

/-- The block of a slice's row. -/
def rowOf : Value → Option Nat
  | .slice (some a) _ c => if c = 0 then none else some a.block
  | _ => none

theorem SliceK.keep {α : Type} {R : Rep α} {A A' : Nat → Prop} {w w' : World} {v : Value} {xs : List α} (hA : ∀ b, A b → A' b) (hw : ∀ b, A b → b < w.heap.size → w'.heap[b]? = w.heap[b]?) (h : SliceK R A w v xs) : SliceK R A' w' v xs := by
  obtain ⟨ad, c, hv, h1, h2, h3⟩ := h
  refine ⟨ad, c, hv, h1, h2, ?_⟩
  rcases h3 with h3 | ⟨b, pre, live, rest, T, f, ha, hb, hh, hc⟩
  · exact .inl h3
  · exact .inr ⟨b, pre, live, rest, T, f, ha, hA b hb, (hw b hb (lt_of_heap hh)).trans hh, hc.keep hA hw⟩

theorem Own.keep {α : Type} {R : Rep α} {T : TypeId} {A A' : Nat → Prop} {w w' : World} {v : Value} {xs : List α} (h : Own R T A w v xs) (hA : ∀ b, A b → A' b) (hw : ∀ b, A b → b < w.heap.size → w'.heap[b]? = w.heap[b]?)
    (hr : ∀ b, rowOf v = some b → b < w.heap.size → w'.heap[b]? = w.heap[b]?) : Own R T A' w' v xs := by
  obtain ⟨ad, c, rfl, h1, h2, h3⟩ := h
  refine ⟨ad, c, rfl, h1, h2, ?_⟩
  rcases h3 with h3 | ⟨b, pre, live, dead, rfl, hh, hd, hc⟩
  · exact .inl h3
  · by_cases h0 : c = 0
    · exact .inl h0
    · exact .inr ⟨b, pre, live, dead, rfl, (hr b (by simp [rowOf, h0]) (lt_of_heap hh)).trans hh, hd, hc.keep hA hw⟩
theorem Own.lt {α : Type} {R : Rep α} {T : TypeId} {A : Nat → Prop} {w : World} {v : Value} {xs : List α} (h : Own R T A w v xs) : ∀ b, rowOf v = some b → b < w.heap.size := by
  obtain ⟨ad, c, rfl, h1, h2, h3⟩ := h
  intro k hk
  rcases h3 with rfl | ⟨b, pre, live, dead, rfl, hh, hd, hc⟩
  · cases ad <;> simp [rowOf] at hk
  · simp only [rowOf] at hk
    split at hk
    · cases hk
    · injection hk with hk; subst hk; exact lt_of_heap hh
theorem Own.type {α : Type} {R : Rep α} {T : TypeId} {A : Nat → Prop} {w : World} {v : Value} {xs : List α} (h : Own R T A w v xs) : ∀ b, rowOf v = some b → ∃ cs, w.heap[b]? = some (.cells cs T (0, 0)) := by
  obtain ⟨ad, c, rfl, h1, h2, h3⟩ := h
  intro k hk
  rcases h3 with rfl | ⟨b, pre, live, dead, rfl, hh, hd, hc⟩
  · cases ad <;> simp [rowOf] at hk
  · simp only [rowOf] at hk
    split at hk
    · cases hk
    · injection hk with hk; subst hk; exact ⟨_, hh⟩
/-- An owned row is read, if its block is in the area. -/
theorem Own.slice {α : Type} {R : Rep α} {T : TypeId} {A A' : Nat → Prop} {w : World} {v : Value} {xs : List α} (h : Own R T A w v xs) (hA : ∀ b, A b → A' b) (hr : ∀ b, rowOf v = some b → A' b) : SliceK R A' w v xs := by
  obtain ⟨ad, c, rfl, h1, h2, h3⟩ := h
  refine ⟨ad, c, rfl, h1, h2, ?_⟩
  rcases h3 with h3 | ⟨b, pre, live, dead, rfl, hh, hd, hc⟩
  · exact .inl (List.eq_nil_of_length_eq_zero (by omega))
  · by_cases h0 : c = 0
    · exact .inl (List.eq_nil_of_length_eq_zero (by omega))
    · exact .inr ⟨b, pre, live, dead, T, (0, 0), rfl, hr b (by simp [rowOf, h0]), hh, hc.keep hA fun _ _ _ => rfl⟩
theorem Own.form {α : Type} {R : Rep α} {T : TypeId} {A : Nat → Prop} {w : World} {v : Value} {xs : List α} (h : Own R T A w v xs) : ∃ ad c, v = .slice ad xs.length c ∧ xs.length ≤ c ∧ c ≤ maxLen := by
  obtain ⟨ad, c, rfl, h1, h2, _⟩ := h; exact ⟨ad, c, rfl, h1, h2⟩
theorem SliceK.form {α : Type} {R : Rep α} {A : Nat → Prop} {w : World} {v : Value} {xs : List α} (h : SliceK R A w v xs) : ∃ ad c, v = .slice ad xs.length c ∧ xs.length ≤ c ∧ c ≤ maxLen := by
  obtain ⟨ad, c, rfl, h1, h2, _⟩ := h; exact ⟨ad, c, rfl, h1, h2⟩
theorem own_nil {α : Type} (R : Rep α) (T : TypeId) (A : Nat → Prop) (w : World) : Own R T A w (.slice none 0 0) [] := ⟨none, 0, rfl, Nat.le_refl _, Nat.zero_le _, .inl rfl⟩
theorem sliceK_nil {α : Type} (R : Rep α) (A : Nat → Prop) (w : World) (ad : Option Addr) (c : Nat) (hc : c ≤ maxLen) : SliceK R A w (.slice ad 0 c) [] := ⟨ad, c, rfl, Nat.zero_le _, hc, .inl rfl⟩
/-- The cells of a slice that is read. -/
theorem SliceK.cells {α : Type} {R : Rep α} {A : Nat → Prop} {w : World} {ad : Option Addr} {n c : Nat} {xs : List α} (h : SliceK R A w (.slice ad n c) xs) (h0 : 0 < xs.length) :
    ∃ b o cs, ad = some ⟨b, o, none⟩ ∧ A b ∧ b < w.heap.size ∧ Cells R A w cs xs ∧ (∀ j u, cs[j]? = some u → w.cell? ⟨b, o + j, none⟩ = some u) := by
  obtain ⟨ad', c', hv, h1, h2, h3⟩ := h
  injection hv with e1 e2 e3
  subst e1 e3
  rcases h3 with rfl | ⟨b, pre, live, rest, T, f, rfl, hb, hh, hc⟩
  · simp at h0
  · refine ⟨b, pre.length, live, rfl, hb, lt_of_heap hh, hc, fun j u hu => ?_⟩
    refine cellOf hh _ ?_
    have hj := (List.getElem?_eq_some_iff.1 hu).1
    simp only [List.getElem?_toArray]
    rw [List.append_assoc, List.getElem?_append_right (by omega), Nat.add_sub_cancel_left, List.getElem?_append_left hj]; exact hu
end Go.Proofs.Ytidgcfgkcidkiaa.L
