/- What a round keeps while a set of one's own grows: shared by Meet and Join. -/
import Derived.Test.YtaphhmefkfhepaaRunMp
import Derived.RangeFuncOwn
namespace Go.Proofs.Ytaphhmefkfhepaa.Run
open Go Go.RowKit Go.Proofs.Ytaphhmefkfhepaa.L
set_option linter.unusedVariables false
set_option linter.unusedSimpArgs false

/-- What runs are told of a set, or of none. -/
def SrcAt (w : World) (v : Value) (l : List Rn) : Prop := (v = .pointer none ∧ l = []) ∨ ∃ bs fp, v = .pointer (some ⟨bs, 0, none⟩) ∧ SetAt w bs fp l
theorem SrcAt.kept0 {w w' : World} {v : Value} {l : List Rn} (h : SrcAt w v l) (hk : Keeps (fun _ => False) w w') : SrcAt w' v l := by
  rcases h with h | ⟨bs, fp, h1, h2⟩
  · exact .inl h
  · exact .inr ⟨bs, fp, h1, h2.kept0 hk⟩
theorem SrcAt.runs {w : World} {v : Value} {l : List Rn} (h : SrcAt w v l) (hb : l.length ≤ 1099511627776) : Calls Try.prog 11 #[v] w (Told w l) := by
  rcases h with ⟨rfl, rfl⟩ | ⟨bs, fp, rfl, h2⟩
  · exact runs_nil w
  · exact runs_calls w bs fp l h2 hb

def lenOf : Value → Nat | .slice _ n _ => n | _ => 0
theorem tail_slice {A : Nat → Prop} {w : World} {b o c : Nat} {x : Rn} {l : List Rn} (h : SliceK RnR A w (.slice (some ⟨b, o, none⟩) (l.length + 1) c) (x :: l)) :
    SliceK RnR A w (.slice (if c = 1 then some ⟨b, o, none⟩ else some ⟨b, o + 2, none⟩) l.length (c - 1)) l := by
  obtain ⟨ad, c', hv, h1, h2, h3⟩ := h
  injection hv with e1 e2 e3
  subst e3
  simp only [List.length_cons] at h1
  refine ⟨_, _, rfl, by omega, by unfold maxLen at *; omega, ?_⟩
  rcases h3 with h3 | ⟨b', pre, live, rest, T, f, rfl, hb, hh, hc⟩
  · cases h3
  · injection e1 with e1; injection e1 with e1 e2'; subst e1 e2'
    cases l with
    | nil => exact .inl rfl
    | cons y l =>
      have hc1 : ¬ c = 1 := by simp only [List.length_cons] at h1; omega
      cases hc with
      | @cons cx x rest' xs hk hr =>
        have hl : cx.length = 2 := RnR.len hk
        refine .inr ⟨b, pre ++ cx, rest', rest, T, f, by rw [if_neg hc1, List.length_append, hl], hb, ?_, hr⟩
        rw [hh]
        simp only [List.append_assoc]
/-- A box's row. -/
def rowAt (w : World) (bs : Nat) : Option Nat := match w.cell? ⟨bs, 0, none⟩ with | some v => rowOf v | none => none
/-- What a round leaves. -/
structure KpB (bs : Nat) (W W' : World) : Prop where
  size : W.heap.size ≤ W'.heap.size
  same : ∀ k o, W.heap[k]? = some o → o.isCells = true → k ≠ bs → rowAt W bs ≠ some k → W'.heap[k]? = some o
  row : ∀ k, rowAt W' bs = some k → rowAt W bs = some k ∨ W.heap.size ≤ k

theorem _root_.Go.Proofs.Ytaphhmefkfhepaa.L.Keeps.grows {w w' : World} (h : Keeps (fun _ => False) w w') : w.grownBy w' none := ⟨h.os, h.tape, h.output, h.size, fun k hk _ => h.block k hk fun h => h⟩
theorem rowAt_kept {w w' : World} (h : Keeps (fun _ => False) w w') {bs : Nat} (hb : bs < w.heap.size) : rowAt w' bs = rowAt w bs := by unfold rowAt; rw [kcell h bs 0 hb fun h => h]
theorem KpB.of_kept {w w' : World} {bs : Nat} (h : Keeps (fun _ => False) w w') (hb : bs < w.heap.size) : KpB bs w w' :=
  ⟨h.size, fun k o hk _ _ _ => h.heap0 hk, fun k hk => by rw [rowAt_kept h hb] at hk; exact .inl hk⟩
theorem KpB.trans {A B C : World} {bs : Nat} (h : KpB bs A B) (k : KpB bs B C) : KpB bs A C := by
  refine ⟨Nat.le_trans h.size k.size, fun i o hi ho hb hr => k.same i o (h.same i o hi ho hb hr) ho hb fun hc => ?_, fun i hi => ?_⟩
  · rcases h.row i hc with h1 | h1
    · exact hr h1
    · have := (Array.getElem?_eq_some_iff.1 hi).1; omega
  · rcases k.row i hi with h1 | h1
    · exact h.row i h1
    · exact .inr (Nat.le_trans h.size h1)
/-- What the iterator knows of its rows. -/
structure Held (A : Nat → Prop) (bs B : Nat) (w : World) : Prop where
  cells : ∀ b, A b → ∃ o, w.heap[b]? = some o ∧ o.isCells = true
  row : ∀ k, rowAt w bs = some k → ¬ A k
  bs : bs < w.heap.size ∧ ¬ A bs
  size : B ≤ w.heap.size
theorem Held.kept {A : Nat → Prop} {bs B : Nat} {w w' : World} (h : Held A bs B w) (hk : KpB bs w w') : Held A bs B w' ∧ ∀ b, A b → b < w.heap.size → w'.heap[b]? = w.heap[b]? := by
  have key : ∀ b, A b → ∃ o, w.heap[b]? = some o ∧ o.isCells = true ∧ w'.heap[b]? = some o := fun b hb => by
    obtain ⟨o, h1, h2⟩ := h.cells b hb
    exact ⟨o, h1, h2, hk.same b o h1 h2 (by rintro rfl; exact h.bs.2 hb) fun hc => h.row b hc hb⟩
  refine ⟨⟨fun b hb => by obtain ⟨o, _, h2, h3⟩ := key b hb; exact ⟨o, h3, h2⟩, fun k hc ha => ?_, ⟨Nat.lt_of_lt_of_le h.bs.1 hk.size, h.bs.2⟩, Nat.le_trans h.size hk.size⟩, fun b hb _ => by obtain ⟨o, h1, _, h3⟩ := key b hb; rw [h1, h3]⟩
  rcases hk.row k hc with h1 | h1
  · exact h.row k h1 ha
  · obtain ⟨o, h2, _⟩ := h.cells k ha
    have := (Array.getElem?_eq_some_iff.1 h2).1; omega

theorem SetAt.rowAt {w : World} {bs : Nat} {fp : Option Nat} {l : List Rn} (h : SetAt w bs fp l) : rowAt w bs = fp := by
  obtain ⟨v, hb, ho, hf⟩ := h
  unfold Run.rowAt
  rw [cellOf hb 0 rfl]; exact hf
theorem KpB.of_turns {w w' : World} {bs : Nat} {fp : Option Nat} {l l' : List Rn} {n : Int} {e : Ending} (hs : SetAt w bs fp l) (h : Turns w bs fp l' n e w') : KpB bs w w' := by
  obtain ⟨rfl, fp', h1, h2, h3⟩ := h
  refine ⟨h3.size, fun k o hk ho hb hr => h3.heap hk fun hf => ?_, fun k hk => ?_⟩
  · rw [hs.rowAt] at hr
    rcases hf with hf | hf
    · exact hb hf
    · exact hr hf
  · rw [h1.rowAt] at hk; rw [hs.rowAt]; exact h2 k hk
theorem SrcAt.kept {F : Nat → Prop} {w w' : World} {v : Value} {l : List Rn} (h : SrcAt w v l) (hk : Keeps F w w') (hF : ∀ k, F k → w.heap.size ≤ k) : SrcAt w' v l := by
  rcases h with h | ⟨bs, fp, h1, h2⟩
  · exact .inl h
  · exact .inr ⟨bs, fp, h1, h2.kept hk (fun h => by have := hF _ h; have := h2.lt; omega) fun k hk h => by have := hF _ h; have := h2.fp_lt k hk; omega⟩
/-- A new set. -/
def NewSet (w : World) (l : List Rn) (e : Ending) (w' : World) : Prop :=
  ∃ b2 fp2, e = .returned (.pointer (some ⟨b2, 0, none⟩)) ∧ w.heap.size ≤ b2 ∧ (∀ b, fp2 = some b → w.heap.size ≤ b) ∧ SetAt w' b2 fp2 l ∧ Keeps (fun _ => False) w w'
/-- A set that grows: its row is new. -/
def Grown (B : Nat) (bs : Nat) (l : List Rn) (W : World) : Prop := ∃ fp, SetAt W bs fp l ∧ ∀ k, fp = some k → B ≤ k
theorem Grown.kept {B bs : Nat} {l : List Rn} {w w' : World} (h : Grown B bs l w) (hk : Keeps (fun _ => False) w w') : Grown B bs l w' := by
  obtain ⟨fp, h1, h2⟩ := h; exact ⟨fp, h1.kept0 hk, h2⟩
theorem Grown.lt {B bs : Nat} {l : List Rn} {w : World} (h : Grown B bs l w) : bs < w.heap.size := by obtain ⟨fp, h1, _⟩ := h; exact h1.lt
/-- A run more. -/
theorem Grown.put {B bs : Nat} {l : List Rn} {w : World} {r : Rn} (h : Grown B bs l w) (hB : B ≤ bs) (hw : B ≤ w.heap.size) (hg : Good l) (hr : Run64 r) (hb : l.length ≤ 274877906944) :
    Calls Try.prog 21 #[.pointer (some ⟨bs, 0, none⟩), .agg #[.int .u64 r.f, .int .u64 r.t]] w fun e w' => (∃ n, e = .returned (.int .u64 n)) ∧ Grown B bs (putL l r) w' ∧ KpB bs w w' ∧ Keeps (fun k => B ≤ k) w w' ∧ KeepsOthers w w' := by
  obtain ⟨fp, h1, h2⟩ := h
  refine (put_calls w bs fp l r h1 hg hr hb).mono fun e w' ht => ?_
  have hk := KpB.of_turns h1 ht
  obtain ⟨rfl, fp', k1, k2, k3⟩ := ht
  have hoth : KeepsOthers w w' := ⟨k3.size, fun k o hk1 hk2 => k3.heap hk1 fun hf => by
    obtain ⟨v, q1, q2, q3⟩ := h1
    rcases hf with hf | hf
    · subst hf; rw [q1] at hk1; injection hk1 with hk1; subst hk1; cases hk2
    · rw [← q3] at hf; obtain ⟨cs, q4⟩ := q2.type k hf; rw [q4] at hk1; injection hk1 with hk1; subst hk1; cases hk2⟩
  refine ⟨⟨_, rfl⟩, ⟨fp', k1, fun k hk => ?_⟩, hk, k3.mono fun k _ hk => ?_, hoth⟩
  · rcases k2 k hk with h | h
    · exact h2 k h
    · omega
  · rcases hk with rfl | hk
    · exact hB
    · exact h2 k hk
/-- A turn of a block that is no cells. -/
theorem SetAt.turned {w w' : World} {bs : Nat} {fp : Option Nat} {l : List Rn} {row : Option Nat} (h : SetAt w bs fp l) (hg : w.grownBy w' row) (hr : ∀ r, row = some r → ∃ o : Obj, w.heap[r]? = some o ∧ o.isCells = false) : SetAt w' bs fp l := by
  have hk : Keeps (fun k => row = some k) w w' := ⟨hg.os, hg.tape, hg.output, hg.size, fun k hk hn => hg.block k hk fun h => hn h.symm⟩
  have h0 := h
  obtain ⟨v, q1, q2, q3⟩ := h
  refine h0.kept hk (fun hf => ?_) fun k hk hf => ?_
  · obtain ⟨o, h1, h2⟩ := hr _ hf; rw [q1] at h1; injection h1 with h1; subst h1; cases h2
  · rw [← q3] at hk; obtain ⟨cs, q4⟩ := q2.type k hk; obtain ⟨o, h1, h2⟩ := hr _ hf; rw [q4] at h1; injection h1 with h1; subst h1; cases h2
theorem KpB.put {w : World} {bs l : Nat} {o o' : Obj} (hb : bs < l) (hl : w.heap[l]? = some o) (ho : o.isCells = false) : KpB bs w (w.putObj l o') := by
  have hh : ∀ k, k ≠ l → (w.putObj l o').heap[k]? = w.heap[k]? := fun k hk => World.putObj_heap_other hk
  refine ⟨by simp [World.putObj], fun k x hk hx _ _ => ?_, fun k hk => .inl ?_⟩
  · rw [hh k (by rintro rfl; rw [hl] at hk; injection hk with hk; subst hk; rw [ho] at hx; cases hx)]; exact hk
  · have e : rowAt (w.putObj l o') bs = rowAt w bs := by unfold rowAt; rw [World.cell?_of_block (w := w) (hh bs (by omega))]
    rw [← e]; exact hk
end Go.Proofs.Ytaphhmefkfhepaa.Run
