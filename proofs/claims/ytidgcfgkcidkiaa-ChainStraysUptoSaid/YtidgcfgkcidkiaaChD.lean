/- slices.Clone at bytes, Backs, ints: as calls. -/
import Derived.Test.YtidgcfgkcidkiaaChA
import Derived.Test.YtidgcfgkcidkiaaGw
namespace Go.Proofs.Ytidgcfgkcidkiaa.Ch
open Go Go.RowKit Go.Proofs.Ytidgcfgkcidkiaa.L Go.Proofs.Ytidgcfgkcidkiaa.X
set_option linter.unusedVariables false
set_option linter.unusedSimpArgs false

def evB (x : BackD) : List Value := [.int .i64 x.s, .int .u64 x.a, .int .u64 x.b]
def BackR : Rep BackD := flat 3 evB (fun _ => True) (fun _ => rfl) (by intro x u hu; simp [evB] at hu; rcases hu with rfl | rfl | rfl <;> rfl)
theorem BackR_flat : FlatOf BackR encB evB where
  K := fun A w cs x => ⟨fun h => h.1, fun h => ⟨h, trivial⟩⟩
  pos := Nat.succ_pos _
  cells := fun x => rfl
  at_ := by
    intro x j u hu
    match j, hu with
    | 0, hu => cases hu; exact ⟨_, rfl, fun M d => ⟨fun h => by cases h; rfl, fun h => by subst h; exact .int _ _⟩⟩
    | 1, hu => cases hu; exact ⟨_, rfl, fun M d => ⟨fun h => by cases h; rfl, fun h => by subst h; exact .int _ _⟩⟩
    | 2, hu => cases hu; exact ⟨_, rfl, fun M d => ⟨fun h => by cases h; rfl, fun h => by subst h; exact .int _ _⟩⟩
    | j + 3, hu => simp [encB, AV.cells] at hu

theorem info_byte : (Try.prog.info? 5).map (fun i => (i.zero, i.size, i.bytes)) = some (some (.int .u8 0), 1, 1) := by kernel_rfl
theorem elem_byte : Elem Try.prog 27 5 (numE .u8).sz 1 (.int .u8 0) := by
  obtain ⟨i, hi, h0, h1, h2⟩ := info_parts info_byte
  exact ⟨Try.underlying27, ⟨i, hi, h0, h1, h2⟩, rfl, Nat.succ_pos _⟩
set_option maxHeartbeats 400000 in
theorem clone_byte (v : Value) (l : List Int) (A : Nat → Prop) (w : World) (hs : SliceK (numE .u8) A w v l) (hb : l.length ≤ 1099511627776) :
    Calls Try.prog 55 #[v] w fun e w' => ∃ v', e = .returned v' ∧ Own (numE .u8) 5 nowhere w' v' l ∧ (∀ b, rowOf v' = some b → w.heap.size ≤ b) ∧ Keeps (fun _ => False) w w' := by
  obtain ⟨ad, c, rfl, hc1, hc2⟩ := hs.form
  have h1 : ∀ ad n c w, (binOp .eql 27 (.slice ad n c) (.slice none 0 0)).run Try.prog w = .ok (.bool ad.isNone) w := fun ad n c w => Lib.run_eql_slice_nil w _ 5 _ _ _ _ _ Try.underlying27
  cases ad with
  | none =>
    obtain ⟨rfl, _⟩ := hs.nil_none
    go_enter Try.func55, Try.ntmps55
    go_wp2_with fail
    go_ret
    exact ⟨_, rfl, own_nil _ _ _ _, by simp [rowOf], Keeps.refl _ _⟩
  | some a =>
    go_enter Try.func55, Try.ntmps55
    go_wp2_with (at_builtin; refine wpList_append_any (α := Int) (R := numE .u8) (A := A) (B := A) (xs := []) (ys := l) rfl _ _ rfl elem_byte (.slice (some ⟨w.heap.size, 0, none⟩) 0 0) (.slice (some a) l.length c) rfl rfl (own_zero _ _ _ _ _) (hs.alloc _) (fun _ h => h) (by rw [rowOf_zero]; simp) (by simp; omega) (by simp; exact Nat.le_trans hc1 hc2) ?_; intro v' w' hown hk hr)
    go_ret
    refine ⟨v', rfl, ?_, ?_, ?_⟩
    · exact Go.Proofs.Ytidgcfgkcidkiaa.X.Own.toFlat (numE_flat .u8) hown
    · intro b hb; rcases hr b hb with h | h
      · rw [rowOf_zero] at h; cases h
      · simp at h; omega
    · exact ((Keeps.refl _ _).alloc _).trans hk (by intro b _ h; rw [rowOf_zero] at h; cases h)
theorem clone_byte_ac (l : List Int) (hb : l.length ≤ 1099511627776) : ACalls Try.prog 55 [.lst 1 (l.map byteA)] [] (.row 0 1 l.length) [.row 5 1 (l.map byteA)] :=
  FlatOf.newrow (numE_flat .u8) ⟨_, Try.func55, rfl, rfl⟩ fun K w cs hR hcs => by
    obtain ⟨v, vs, rfl, hv, hvs⟩ := hcs.cons_inv
    obtain rfl := hvs.nil_inv
    exact clone_byte v l anyA w (FlatOf.down (numE_flat .u8) hR hv) hb

theorem info_back : (Try.prog.info? 98).map (fun i => (i.zero, i.size, i.bytes)) = some (some (.agg #[.int .i64 0, .int .u64 0, .int .u64 0]), 3, 24) := by kernel_rfl
theorem elem_back : Elem Try.prog 28 98 (BackR).sz 24 (.agg #[.int .i64 0, .int .u64 0, .int .u64 0]) := by
  obtain ⟨i, hi, h0, h1, h2⟩ := info_parts info_back
  exact ⟨Try.underlying28, ⟨i, hi, h0, h1, h2⟩, rfl, Nat.succ_pos _⟩
set_option maxHeartbeats 400000 in
theorem clone_back (v : Value) (l : List BackD) (A : Nat → Prop) (w : World) (hs : SliceK (BackR) A w v l) (hb : l.length ≤ 1099511627776) :
    Calls Try.prog 56 #[v] w fun e w' => ∃ v', e = .returned v' ∧ Own (BackR) 98 nowhere w' v' l ∧ (∀ b, rowOf v' = some b → w.heap.size ≤ b) ∧ Keeps (fun _ => False) w w' := by
  obtain ⟨ad, c, rfl, hc1, hc2⟩ := hs.form
  have h1 : ∀ ad n c w, (binOp .eql 28 (.slice ad n c) (.slice none 0 0)).run Try.prog w = .ok (.bool ad.isNone) w := fun ad n c w => Lib.run_eql_slice_nil w _ 98 _ _ _ _ _ Try.underlying28
  cases ad with
  | none =>
    obtain ⟨rfl, _⟩ := hs.nil_none
    go_enter Try.func56, Try.ntmps56
    go_wp2_with fail
    go_ret
    exact ⟨_, rfl, own_nil _ _ _ _, by simp [rowOf], Keeps.refl _ _⟩
  | some a =>
    go_enter Try.func56, Try.ntmps56
    go_wp2_with (at_builtin; refine wpList_append_any (α := BackD) (R := BackR) (A := A) (B := A) (xs := []) (ys := l) rfl _ _ rfl elem_back (.slice (some ⟨w.heap.size, 0, none⟩) 0 0) (.slice (some a) l.length c) rfl rfl (own_zero _ _ _ _ _) (hs.alloc _) (fun _ h => h) (by rw [rowOf_zero]; simp) (by simp; omega) (by simp; exact Nat.le_trans hc1 hc2) ?_; intro v' w' hown hk hr)
    go_ret
    refine ⟨v', rfl, ?_, ?_, ?_⟩
    · exact Go.Proofs.Ytidgcfgkcidkiaa.X.Own.toFlat BackR_flat hown
    · intro b hb; rcases hr b hb with h | h
      · rw [rowOf_zero] at h; cases h
      · simp at h; omega
    · exact ((Keeps.refl _ _).alloc _).trans hk (by intro b _ h; rw [rowOf_zero] at h; cases h)
theorem clone_back_ac (l : List BackD) (hb : l.length ≤ 1099511627776) : ACalls Try.prog 56 [.lst 3 (l.map encB)] [] (.row 0 3 l.length) [.row 98 3 (l.map encB)] :=
  FlatOf.newrow BackR_flat ⟨_, Try.func56, rfl, rfl⟩ fun K w cs hR hcs => by
    obtain ⟨v, vs, rfl, hv, hvs⟩ := hcs.cons_inv
    obtain rfl := hvs.nil_inv
    exact clone_back v l anyA w (FlatOf.down BackR_flat hR hv) hb

theorem info_int : (Try.prog.info? 3).map (fun i => (i.zero, i.size, i.bytes)) = some (some (.int .i64 0), 1, 8) := by kernel_rfl
theorem elem_int : Elem Try.prog 38 3 (numE .i64).sz 8 (.int .i64 0) := by
  obtain ⟨i, hi, h0, h1, h2⟩ := info_parts info_int
  exact ⟨Try.underlying38, ⟨i, hi, h0, h1, h2⟩, rfl, Nat.succ_pos _⟩
set_option maxHeartbeats 400000 in
theorem clone_int (v : Value) (l : List Int) (A : Nat → Prop) (w : World) (hs : SliceK (numE .i64) A w v l) (hb : l.length ≤ 1099511627776) :
    Calls Try.prog 44 #[v] w fun e w' => ∃ v', e = .returned v' ∧ Own (numE .i64) 3 nowhere w' v' l ∧ (∀ b, rowOf v' = some b → w.heap.size ≤ b) ∧ Keeps (fun _ => False) w w' := by
  obtain ⟨ad, c, rfl, hc1, hc2⟩ := hs.form
  have h1 : ∀ ad n c w, (binOp .eql 38 (.slice ad n c) (.slice none 0 0)).run Try.prog w = .ok (.bool ad.isNone) w := fun ad n c w => Lib.run_eql_slice_nil w _ 3 _ _ _ _ _ Try.underlying38
  cases ad with
  | none =>
    obtain ⟨rfl, _⟩ := hs.nil_none
    go_enter Try.func44, Try.ntmps44
    go_wp2_with fail
    go_ret
    exact ⟨_, rfl, own_nil _ _ _ _, by simp [rowOf], Keeps.refl _ _⟩
  | some a =>
    go_enter Try.func44, Try.ntmps44
    go_wp2_with (at_builtin; refine wpList_append_any (α := Int) (R := numE .i64) (A := A) (B := A) (xs := []) (ys := l) rfl _ _ rfl elem_int (.slice (some ⟨w.heap.size, 0, none⟩) 0 0) (.slice (some a) l.length c) rfl rfl (own_zero _ _ _ _ _) (hs.alloc _) (fun _ h => h) (by rw [rowOf_zero]; simp) (by simp; omega) (by simp; exact Nat.le_trans hc1 hc2) ?_; intro v' w' hown hk hr)
    go_ret
    refine ⟨v', rfl, ?_, ?_, ?_⟩
    · exact Go.Proofs.Ytidgcfgkcidkiaa.X.Own.toFlat (numE_flat .i64) hown
    · intro b hb; rcases hr b hb with h | h
      · rw [rowOf_zero] at h; cases h
      · simp at h; omega
    · exact ((Keeps.refl _ _).alloc _).trans hk (by intro b _ h; rw [rowOf_zero] at h; cases h)
theorem clone_int_ac (l : List Int) (hb : l.length ≤ 1099511627776) : ACalls Try.prog 44 [.lst 1 (l.map intA)] [] (.row 0 1 l.length) [.row 3 1 (l.map intA)] :=
  FlatOf.newrow (numE_flat .i64) ⟨_, Try.func44, rfl, rfl⟩ fun K w cs hR hcs => by
    obtain ⟨v, vs, rfl, hv, hvs⟩ := hcs.cons_inv
    obtain rfl := hvs.nil_inv
    exact clone_int v l anyA w (FlatOf.down (numE_flat .i64) hR hv) hb
end Go.Proofs.Ytidgcfgkcidkiaa.Ch
