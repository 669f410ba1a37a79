/- The walks of the statements over runs: a set that is built; told. -/
import Derived.Test.YtaphhmefkfhepaaRunL
namespace Go.Proofs.Ytaphhmefkfhepaa.Run
open Go Go.RowKit Go.Proofs.Ytaphhmefkfhepaa.L
set_option linter.unusedVariables false
set_option linter.unusedSimpArgs false

def putAll (s : List Rn) (l : List Rn) : List Rn := l.foldl putL s
def cutAll (s : List Rn) (l : List Rn) : List Rn := l.foldl cutL s
def buildL (l : List Rn) : List Rn := putAll [] (l.take 60)
def All64 (l : List Rn) : Prop := ∀ r ∈ l, Run64 r
theorem putAll_spec : ∀ (l s : List Rn), Good s → All64 l → Good (putAll s l) ∧ (∀ n, Mem (putAll s l) n ↔ Mem s n ∨ ∃ r ∈ l, In r n) ∧ (putAll s l).length ≤ s.length + l.length
  | [], s, hs, _ => ⟨hs, fun n => by simp [putAll], by simp [putAll]⟩
  | r :: l, s, hs, hl => by
    have h1 := putL_good hs (hl r (by simp))
    obtain ⟨i1, i2, i3⟩ := putAll_spec l (putL s r) h1 (fun x hx => hl x (by simp [hx]))
    have h4 := putL_length hs (hl r (by simp))
    refine ⟨i1, fun n => ?_, ?_⟩
    · show Mem (putAll (putL s r) l) n ↔ _
      rw [i2, putL_mem hs (hl r (by simp))]
      simp only [List.mem_cons, exists_eq_or_imp]
      exact or_assoc
    · show (putAll (putL s r) l).length ≤ _
      simp only [List.length_cons]; omega
theorem cutAll_spec : ∀ (l s : List Rn), Good s → All64 l → Good (cutAll s l) ∧ (∀ n, Mem (cutAll s l) n ↔ Mem s n ∧ ¬ ∃ r ∈ l, In r n) ∧ (cutAll s l).length ≤ s.length + l.length
  | [], s, hs, _ => ⟨hs, fun n => by simp [cutAll], by simp [cutAll]⟩
  | r :: l, s, hs, hl => by
    have h1 := cutL_good hs (hl r (by simp))
    obtain ⟨i1, i2, i3⟩ := cutAll_spec l (cutL s r) h1 (fun x hx => hl x (by simp [hx]))
    have h4 := cutL_length hs (hl r (by simp))
    refine ⟨i1, fun n => ?_, ?_⟩
    · show Mem (cutAll (cutL s r) l) n ↔ _
      rw [i2, cutL_mem hs (hl r (by simp))]
      simp only [List.mem_cons, exists_eq_or_imp, not_or]
      exact and_assoc
    · show (cutAll (cutL s r) l).length ≤ _
      simp only [List.length_cons]; omega
theorem All64.take {l : List Rn} (h : All64 l) (n : Nat) : All64 (l.take n) := fun r hr => h r (List.mem_of_mem_take hr)
theorem All64.of_slice {A : Nat → Prop} {w : World} {v : Value} {l : List Rn} (h : SliceK RnR A w v l) : All64 l := by
  intro r hr
  obtain ⟨ad, c, rfl, _, _⟩ := h.form
  obtain ⟨i, hi⟩ := List.getElem?_of_mem hr
  obtain ⟨b, o, _, _, _, hc⟩ := run_at h (List.length_pos_of_mem hr)
  obtain ⟨h1, h2, _⟩ := hc i r hi
  exact ⟨h1, h2⟩
theorem build_spec {l : List Rn} (h : All64 l) : Good (buildL l) ∧ (∀ n, Mem (buildL l) n ↔ ∃ r ∈ l.take 60, In r n) ∧ (buildL l).length ≤ 60 := by
  obtain ⟨h1, h2, h3⟩ := putAll_spec (l.take 60) [] good_nil (h.take 60)
  refine ⟨h1, fun n => (h2 n).trans ⟨fun h => h.elim (fun h => absurd h (mem_nil n)) id, .inr⟩, Nat.le_trans h3 ?_⟩
  rw [List.length_take]; simp; omega
theorem build_step {l : List Rn} {k : Nat} {r : Rn} (h : l[k]? = some r) (s : List Rn) : putAll s (l.take (k + 1)) = putL (putAll s (l.take k)) r := by
  unfold putAll
  rw [List.take_add_one, h, List.foldl_append]; rfl
theorem cut_step {l : List Rn} {k : Nat} {r : Rn} (h : l[k]? = some r) (s : List Rn) : cutAll s (l.take (k + 1)) = cutL (cutAll s (l.take k)) r := by
  unfold cutAll
  rw [List.take_add_one, h, List.foldl_append]; rfl

set_option maxHeartbeats 1000000 in
theorem built_calls (w : World) (ad : Option Addr) (c : Nat) (l : List Rn) (A : Nat → Prop) (hl : SliceK RnR A w (.slice ad l.length c) l) :
    Calls Try.prog 10 #[.slice ad l.length c] w fun e w' => ∃ bs, e = .returned (.pointer (some ⟨bs, 0, none⟩)) ∧ SetFrom w.heap.size w' bs (buildL l) ∧ Keeps (fun _ => False) w w' := by
  have HL := Lib.hid hl
  have H64 := Lib.hid (All64.of_slice hl)
  obtain ⟨_, _, hv, q1, q2⟩ := hl.form
  injection hv with e0 _ e; subst e0 e
  unfold maxLen at q2
  clear hl
  go_enter Try.func10, Try.ntmps10
  go_wp2_with (go_at_call 15; refine (new_calls _).mono ?_; rintro e w1 ⟨rfl, s1, k1⟩)
  have S1 := Lib.hid (show SetFrom w.heap.size w1 w.heap.size [] from ⟨none, s1, Nat.le_refl _, fun k h => by cases h⟩)
  clear s1
  go_loopw [4] (fun u4 wr => ∃ (k : Nat), u4 = .int .i64 k ∧ k ≤ 60 ∧ k ≤ l.length ∧ Hid (SetFrom w.heap.size wr w.heap.size (putAll [] (l.take k))) ∧ Keeps (fun k => w.heap.size ≤ k) w wr) (fun u4 _ => l.length - (intOf u4).toNat)
  case atStart => exact ⟨0, rfl, by omega, by omega, S1.out, k1.mono fun _ _ h => h.elim⟩
  case round =>
    obtain ⟨k, rfl, hk60, hkl, HS, HK⟩ := hrel
    by_cases hlt : k < l.length ∧ k < 60
    · obtain ⟨hlt, hlt6⟩ := hlt
      obtain ⟨b, o, rfl, hA, hbb, hcell⟩ := run_at HL.out (by omega)
      obtain ⟨r, hr0⟩ : ∃ r, l[k]? = some r := ⟨l[k], List.getElem?_eq_getElem hlt⟩
      obtain ⟨r1, r2, c1, c2⟩ := hcell k r hr0
      have HR0 := Lib.hid hr0
      clear hcell hr0
      rw [← kcell HK b _ hbb (by omega)] at c1 c2
      obtain ⟨g1, _, g3⟩ := putAll_spec (l.take k) [] good_nil (H64.out.take k)
      have HC := Lib.hid (put_from w.heap.size wr _ _ r HS.out g1 ⟨r1, r2⟩ (by rw [List.length_take] at g3; simp at g3; omega) HK.size)
      clear g1 g3
      go_wp2_with (go_at_call 21; refine HC.out.mono ?_; rintro e w2 ⟨rfl, s2, k2⟩)
      go_roundw
      case rel => exact ⟨k + 1, by go_num, by omega, by omega, (by show SetFrom _ _ _ _; rw [build_step HR0.out]; exact s2), HK.trans k2 fun _ _ h => h⟩
      case measure => simp [intOf]; omega
    · have e : l.take 60 = l.take k := by
        rcases (by omega : k = l.length ∨ k = 60) with h | h
        · rw [h, List.take_length, List.take_of_length_le (by omega)]
        · rw [h]
      have HE : Hid (buildL l = putAll [] (l.take k)) := by
        show _ = _
        unfold buildL
        rw [e]
      clear e
      by_cases hlk : k < l.length
      · obtain rfl : k = 60 := by omega
        go_wp2
        go_ret
        exact ⟨_, rfl, by rw [HE.out]; exact HS.out, HK.mono fun k hk h => by omega⟩
      · obtain rfl : k = l.length := by omega
        go_wp2
        go_ret
        exact ⟨_, rfl, by rw [HE.out]; exact HS.out, HK.mono fun k hk h => by omega⟩
end Go.Proofs.Ytaphhmefkfhepaa.Run
