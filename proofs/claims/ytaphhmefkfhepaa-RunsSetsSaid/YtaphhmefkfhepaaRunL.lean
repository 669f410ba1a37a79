/- The statement RunsNil: the walk. -/
import Derived.Test.YtaphhmefkfhepaaRunK
import Derived.Test.YtaphhmefkfhepaaLibE
import Derived.Deep.RegionHeld3
namespace Go.Proofs.Ytaphhmefkfhepaa.Run
open Go Go.RowKit Go.Proofs.Ytaphhmefkfhepaa.L
set_option linter.unusedVariables false
set_option linter.unusedSimpArgs false

theorem opens_run : Opens Try.prog RnR 30 := by
  intro H enc w fuel cs x h
  obtain ⟨hl, hf⟩ := open_fields Try.underlying30 h
  obtain ⟨n0, y0, h0⟩ := hf 0 _ rfl
  obtain ⟨n1, y1, h1⟩ := hf 1 _ rfl
  obtain ⟨a, ha, wa⟩ := opens_num Try.underlying26 enc w n0 _ _ h0
  obtain ⟨b, hb, wb⟩ := opens_num Try.underlying26 enc w n1 _ _ h1
  have c2 : Try.prog.cellsOf 30 = 2 := by kernel_rfl
  have c1 : Try.prog.cellsOf 26 = 1 := by kernel_rfl
  rw [c2] at hl
  have ha' : (cs.drop 0).take 1 = [.int .u64 a] := by rw [← c1]; exact ha
  have hb' : (cs.drop 1).take 1 = [.int .u64 b] := by rw [← c1]; exact hb
  match cs, hl with
  | [x, y], _ =>
    simp at ha' hb'
    subst ha' hb'
    exact ⟨⟨a, b⟩, rfl, wa, wb⟩
theorem skeep {w w1 w2 : World} {b : Nat} {x y : Value} (h : w1.cell? ⟨b, 0, none⟩ = some x ∧ w1.cell? ⟨b, 1, none⟩ = some y ∧ Keeps (fun _ => False) w w1 ∧ b < w1.heap.size) (hk : Keeps (fun _ => False) w1 w2) :
    w2.cell? ⟨b, 0, none⟩ = some x ∧ w2.cell? ⟨b, 1, none⟩ = some y ∧ Keeps (fun _ => False) w w2 ∧ b < w2.heap.size :=
  ⟨(kcell hk _ _ h.2.2.2 fun h => h).trans h.1, (kcell hk _ _ h.2.2.2 fun h => h).trans h.2.1, h.2.2.1.step hk, by have := hk.size; have := h.2.2.2; omega⟩

set_option maxRecDepth 100000 in
set_option maxHeartbeats 4000000 in
theorem nil_law (r : Rn) (w : World) : Calls Try.prog 5 #[.agg #[.int .u64 r.f, .int .u64 r.t]] w fun e w' => e = .returned (.bool true) ∧ Keeps (fun _ => False) w w' := by
  have hwu : wu (countL []) = 0 := rfl
  have HWU := Lib.hid hwu
  clear hwu
  go_enter Try.func5, Try.ntmps5
  go_wp2_with (go_at_call 12; refine (next_calls _ _ _ _ (finds_nil _ _)).mono ?_; rintro e w1 ⟨rfl, hk1⟩; unfold nextV)
  have h1 : w1.cell? ⟨w.heap.size, 0, none⟩ = some (.int .u64 r.f) := (kcell hk1 _ 0 (by simp) fun h => h).trans (cellOf (heap_alloc_new w _) 0 rfl)
  have h2 : w1.cell? ⟨w.heap.size, 1, none⟩ = some (.int .u64 r.t) := (kcell hk1 _ 1 (by simp) fun h => h).trans (cellOf (heap_alloc_new w _) 1 rfl)
  have h3 : Keeps (fun _ => False) w w1 := ((Keeps.refl _ _).alloc _).step hk1
  have h4 : w.heap.size < w1.heap.size := by have := hk1.size; simp at this; omega
  clear hk1
  go_region_held3 (fun w' => w'.cell? ⟨w.heap.size, 0, none⟩ = some (.int .u64 r.f) ∧ w'.cell? ⟨w.heap.size, 1, none⟩ = some (.int .u64 r.t) ∧ Keeps (fun _ => False) w w' ∧ w.heap.size < w'.heap.size)
    (first | (go_split_ands; exact skeep ⟨by assumption, by assumption, by assumption, by assumption⟩ hk) | (exact skeep (by assumption) hk) | exact ⟨h1, h2, h3.drew, h4⟩ | exact ⟨h1, h2, h3, h4⟩ | go_keep)
    (first
      | (go_at_call 14; refine (alive_calls _).mono ?_; rintro e wx ⟨rfl, hk⟩)
      | (go_at_call 21; refine (add_nil r _).mono ?_; rintro e wx ⟨rfl, hk⟩)
      | (go_at_call 18; refine (drop_nil r _).mono ?_; rintro e wx ⟨rfl, hk⟩)
      | (go_at_call 27; refine (has_calls _ _ _ _ (finds_nil _ _)).mono ?_; rintro e wx ⟨rfl, hk⟩; unfold hasO)
      | (go_at_call 11; refine (runs_nil _).mono ?_; rintro e wx ⟨v', rfl, ho, hr, hk⟩; obtain ⟨ad, c, rfl, q1, q2⟩ := ho.form)
      | (go_at_call 25; refine (count_calls _ _ [] (runs_nil _)).mono ?_; rintro e wx ⟨rfl, hk⟩; rw [HWU.out])
      | (go_at_call 13; refine (gap_calls _ _ _ _ (finds_nil _ _)).mono ?_; rintro e wx ⟨rfl, hk⟩; unfold gapO)
      | (go_at_call 17; refine (copy_nil _).mono ?_; rintro e wx ⟨rfl, rfl⟩))
  go_wp2_with fail
  go_ret
  refine ⟨rfl, ?_⟩
  go_split_ands
  assumption
end Go.Proofs.Ytaphhmefkfhepaa.Run
