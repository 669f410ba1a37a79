/- The walks over package runs, eleventh part: Add and Drop at every set and run; the live question. -/
import Derived.Test.YtaphhmefkfhepaaRunP
namespace Go.Proofs.Ytaphhmefkfhepaa.Run
open Go Go.RowKit Go.Proofs.Ytaphhmefkfhepaa.L
set_option linter.unusedVariables false
set_option linter.unusedSimpArgs false

set_option maxHeartbeats 1000000 in
theorem add_nil (r : Rn) (w : World) : Calls Try.prog 21 #[.pointer none, .agg #[.int .u64 r.f, .int .u64 r.t]] w fun e w' => e = .returned (.int .u64 0) ∧ Keeps (fun _ => False) w w' := by
  go_enter Try.func21, Try.ntmps21
  go_wp2_with fail
  go_ret
  exact ⟨rfl, (Keeps.refl _ _).alloc _⟩
set_option maxHeartbeats 1000000 in
theorem drop_nil (r : Rn) (w : World) : Calls Try.prog 18 #[.pointer none, .agg #[.int .u64 r.f, .int .u64 r.t]] w fun e w' => e = .returned (.int .u64 0) ∧ Keeps (fun _ => False) w w' := by
  go_enter Try.func18, Try.ntmps18
  go_wp2_with fail
  go_ret
  exact ⟨rfl, (Keeps.refl _ _).alloc _⟩
set_option maxHeartbeats 1000000 in
theorem add_empty (bs : Nat) (r : Rn) (hr : r.t ≤ r.f) (w : World) : Calls Try.prog 21 #[.pointer (some ⟨bs, 0, none⟩), .agg #[.int .u64 r.f, .int .u64 r.t]] w fun e w' => e = .returned (.int .u64 0) ∧ Keeps (fun _ => False) w w' := by
  go_enter Try.func21, Try.ntmps21
  go_wp2_with (go_at_call 36; refine (empty_calls _ _ _).mono ?_; rintro e w1 ⟨rfl, hk1⟩)
  go_ret
  exact ⟨rfl, ((Keeps.refl _ _).alloc _).step hk1⟩
set_option maxHeartbeats 1000000 in
theorem drop_empty (bs : Nat) (r : Rn) (hr : r.t ≤ r.f) (w : World) : Calls Try.prog 18 #[.pointer (some ⟨bs, 0, none⟩), .agg #[.int .u64 r.f, .int .u64 r.t]] w fun e w' => e = .returned (.int .u64 0) ∧ Keeps (fun _ => False) w w' := by
  go_enter Try.func18, Try.ntmps18
  go_wp2_with (go_at_call 36; refine (empty_calls _ _ _).mono ?_; rintro e w1 ⟨rfl, hk1⟩)
  go_ret
  exact ⟨rfl, ((Keeps.refl _ _).alloc _).step hk1⟩

def putL (l : List Rn) (r : Rn) : List Rn := if r.f < r.t then addL l r else l
def cutL (l : List Rn) (r : Rn) : List Rn := if r.f < r.t then dropL l r else l
def In (r : Rn) (n : Int) : Prop := r.f ≤ n ∧ n < r.t
def Run64 (r : Rn) : Prop := InK .u64 r.f ∧ InK .u64 r.t
theorem Run64.bounds {r : Rn} (h : Run64 r) (h2 : r.f < r.t) : 0 ≤ r.f ∧ r.f < r.t ∧ r.t ≤ 18446744073709551615 := ⟨h.1.u64.1, h2, h.2.u64.2⟩
theorem putL_good {l : List Rn} (h : Good l) {r : Rn} (hr : Run64 r) : Good (putL l r) := by unfold putL; split; exact (add_spec h (hr.bounds ‹_›)).1; exact h
theorem cutL_good {l : List Rn} (h : Good l) {r : Rn} (hr : Run64 r) : Good (cutL l r) := by unfold cutL; split; exact (drop_spec h ⟨hr.1.u64.1, ‹_›⟩).1; exact h
theorem putL_mem {l : List Rn} (h : Good l) {r : Rn} (hr : Run64 r) (n : Int) : Mem (putL l r) n ↔ Mem l n ∨ In r n := by
  unfold putL; split
  · exact (add_spec h (hr.bounds ‹_›)).2.1 n
  · constructor
    · exact .inl
    · rintro (a | ⟨a, b⟩); exact a; omega
theorem cutL_mem {l : List Rn} (h : Good l) {r : Rn} (hr : Run64 r) (n : Int) : Mem (cutL l r) n ↔ Mem l n ∧ ¬ In r n := by
  unfold cutL; split
  · exact (drop_spec h ⟨hr.1.u64.1, ‹_›⟩).2.1 n
  · constructor
    · exact fun a => ⟨a, fun b => by have := b.1; have := b.2; omega⟩
    · exact And.left
theorem putL_length {l : List Rn} (h : Good l) {r : Rn} (hr : Run64 r) : (putL l r).length ≤ l.length + 1 := by
  unfold putL; split
  · exact (add_spec h (hr.bounds ‹_›)).2.2.2
  · omega
theorem cutL_length {l : List Rn} (h : Good l) {r : Rn} (hr : Run64 r) : (cutL l r).length ≤ l.length + 1 := by
  unfold cutL; split
  · exact dropL_length h ‹_›
  · omega

/-- What Add and Drop do to a set. -/
def Turns (w : World) (bs : Nat) (fp : Option Nat) (l : List Rn) (n : Int) (e : Ending) (w' : World) : Prop :=
  e = .returned (.int .u64 n) ∧ ∃ fp', SetAt w' bs fp' l ∧ (∀ k, fp' = some k → fp = some k ∨ w.heap.size ≤ k) ∧ Keeps (fun k => k = bs ∨ fp = some k) w w'
theorem put_calls (w : World) (bs : Nat) (fp : Option Nat) (l : List Rn) (r : Rn) (hs : SetAt w bs fp l) (hg : Good l) (hr : Run64 r) (hb : l.length ≤ 274877906944) :
    Calls Try.prog 21 #[.pointer (some ⟨bs, 0, none⟩), .agg #[.int .u64 r.f, .int .u64 r.t]] w (Turns w bs fp (putL l r) (countL (putL l r) - countL l)) := by
  by_cases h : r.f < r.t
  · refine (add_calls w bs fp l r hs hg.rises h hr (by omega)).mono ?_
    rintro e w' ⟨rfl, h2⟩
    unfold putL
    rw [if_pos h]
    exact ⟨by rw [(add_spec hg (hr.bounds h)).2.2.1], h2⟩
  · refine (add_empty bs r (by omega) w).mono ?_
    rintro e w' ⟨rfl, h2⟩
    unfold putL
    rw [if_neg h]
    exact ⟨by rw [Int.sub_self], fp, hs.kept0 h2, fun k hk => .inl hk, h2.mono fun _ _ h => h.elim⟩
theorem cut_calls (w : World) (bs : Nat) (fp : Option Nat) (l : List Rn) (r : Rn) (hs : SetAt w bs fp l) (hg : Good l) (hr : Run64 r) (hb : l.length ≤ 274877906944) :
    Calls Try.prog 18 #[.pointer (some ⟨bs, 0, none⟩), .agg #[.int .u64 r.f, .int .u64 r.t]] w (Turns w bs fp (cutL l r) (countL l - countL (cutL l r))) := by
  by_cases h : r.f < r.t
  · refine (drop_calls w bs fp l r hs hg.rises h hr (by omega)).mono ?_
    rintro e w' ⟨rfl, h2⟩
    unfold cutL
    rw [if_pos h]
    exact ⟨by rw [(drop_spec hg ⟨hr.1.u64.1, h⟩).2.2.1], h2⟩
  · refine (drop_empty bs r (by omega) w).mono ?_
    rintro e w' ⟨rfl, h2⟩
    unfold cutL
    rw [if_neg h]
    exact ⟨by rw [Int.sub_self], fp, hs.kept0 h2, fun k hk => .inl hk, h2.mono fun _ _ h => h.elim⟩

theorem alive_lists : putL [] ⟨3, 7⟩ = [⟨3, 7⟩] ∧ putL [⟨3, 7⟩] ⟨7, 9⟩ = [⟨3, 9⟩] ∧ cutL [⟨3, 9⟩] ⟨5, 6⟩ = [⟨3, 5⟩, ⟨6, 9⟩] := by decide
theorem small64 {a b : Int} (h0 : 0 ≤ a ∧ a ≤ 1000) (h1 : 0 ≤ b ∧ b ≤ 1000) : Run64 ⟨a, b⟩ := ⟨.mk_u64 h0.1 (by show a ≤ _; omega), .mk_u64 h1.1 (by show b ≤ _; omega)⟩

/-- A set all of whose blocks lie from B on. -/
def SetFrom (B : Nat) (w : World) (bs : Nat) (l : List Rn) : Prop := ∃ fp, SetAt w bs fp l ∧ B ≤ bs ∧ ∀ k, fp = some k → B ≤ k
theorem SetFrom.kept0 {B : Nat} {w w' : World} {bs : Nat} {l : List Rn} (h : SetFrom B w bs l) (hk : Keeps (fun _ => False) w w') : SetFrom B w' bs l := by
  obtain ⟨fp, h1, h2⟩ := h; exact ⟨fp, h1.kept0 hk, h2⟩
theorem SetFrom.mono {B B' : Nat} {w : World} {bs : Nat} {l : List Rn} (h : SetFrom B w bs l) (hB : B' ≤ B) : SetFrom B' w bs l := by
  obtain ⟨fp, h1, h2, h3⟩ := h; exact ⟨fp, h1, by omega, fun k hk => by have := h3 k hk; omega⟩
/-- What Add and Drop do to such a set. -/
def TurnsFrom (B : Nat) (w : World) (bs : Nat) (l : List Rn) (n : Int) (e : Ending) (w' : World) : Prop :=
  e = .returned (.int .u64 n) ∧ SetFrom B w' bs l ∧ Keeps (fun k => B ≤ k) w w'
theorem turns_from {B : Nat} {w : World} {bs : Nat} {fp : Option Nat} {l : List Rn} {n : Int} {e : Ending} {w' : World} (h1 : B ≤ bs) (h2 : ∀ k, fp = some k → B ≤ k) (hB : B ≤ w.heap.size) (h : Turns w bs fp l n e w') : TurnsFrom B w bs l n e w' := by
  obtain ⟨rfl, fp', h3, h4, h5⟩ := h
  exact ⟨rfl, ⟨fp', h3, h1, fun k hk => by rcases h4 k hk with h | h; exact h2 k h; omega⟩, h5.mono fun k _ hk => by rcases hk with rfl | hk; exact h1; exact h2 k hk⟩
theorem put_from (B : Nat) (w : World) (bs : Nat) (l : List Rn) (r : Rn) (hs : SetFrom B w bs l) (hg : Good l) (hr : Run64 r) (hb : l.length ≤ 274877906944) (hB : B ≤ w.heap.size) :
    Calls Try.prog 21 #[.pointer (some ⟨bs, 0, none⟩), .agg #[.int .u64 r.f, .int .u64 r.t]] w (TurnsFrom B w bs (putL l r) (countL (putL l r) - countL l)) := by
  obtain ⟨fp, h1, h2, h3⟩ := hs
  exact (put_calls w bs fp l r h1 hg hr hb).mono fun e w' h => turns_from h2 h3 hB h
theorem cut_from (B : Nat) (w : World) (bs : Nat) (l : List Rn) (r : Rn) (hs : SetFrom B w bs l) (hg : Good l) (hr : Run64 r) (hb : l.length ≤ 274877906944) (hB : B ≤ w.heap.size) :
    Calls Try.prog 18 #[.pointer (some ⟨bs, 0, none⟩), .agg #[.int .u64 r.f, .int .u64 r.t]] w (TurnsFrom B w bs (cutL l r) (countL l - countL (cutL l r))) := by
  obtain ⟨fp, h1, h2, h3⟩ := hs
  exact (cut_calls w bs fp l r h1 hg hr hb).mono fun e w' h => turns_from h2 h3 hB h
theorem SetFrom.finds {B : Nat} {w : World} {bs : Nat} {l : List Rn} (h : SetFrom B w bs l) (hg : Good l) (n : Int) : Finds w (.pointer (some ⟨bs, 0, none⟩)) n (findR l n) := by
  obtain ⟨fp, h1, _⟩ := h; exact finds_set n h1 hg.rises
theorem SetFrom.runs {B : Nat} {w : World} {bs : Nat} {l : List Rn} (h : SetFrom B w bs l) (hb : l.length ≤ 1099511627776) : Calls Try.prog 11 #[.pointer (some ⟨bs, 0, none⟩)] w (Told w l) := by
  obtain ⟨fp, h1, _⟩ := h; exact runs_calls w bs fp l h1 hb
theorem SetFrom.count {B : Nat} {w : World} {bs : Nat} {l : List Rn} (h : SetFrom B w bs l) (hg : Good l) (hb : l.length ≤ 1099511627776) : Calls Try.prog 25 #[.pointer (some ⟨bs, 0, none⟩)] w fun e w' => e = .returned (.int .u64 (countL l)) ∧ Keeps (fun _ => False) w w' := by
  have := count_calls w _ l (h.runs hb)
  rwa [hg.wu_count] at this

set_option maxRecDepth 100000 in
set_option maxHeartbeats 4000000 in
theorem alive_calls (w : World) : Calls Try.prog 14 #[] w fun e w' => e = .returned (.bool true) ∧ Keeps (fun _ => False) w w' := by
  obtain ⟨a1, a2, a3⟩ := alive_lists
  have g1 := putL_good good_nil (small64 (a := 3) (b := 7) (by omega) (by omega))
  rw [a1] at g1
  have g2 := putL_good g1 (small64 (a := 7) (b := 9) (by omega) (by omega))
  rw [a2] at g2
  have g3 := cutL_good g2 (small64 (a := 5) (b := 6) (by omega) (by omega))
  rw [a3] at g3
  have C1 : Hid (∀ W, SetFrom w.heap.size W w.heap.size [] → w.heap.size ≤ W.heap.size → Calls Try.prog 21 #[.pointer (some ⟨w.heap.size, 0, none⟩), .agg #[.int .u64 3, .int .u64 7]] W (TurnsFrom w.heap.size W w.heap.size [⟨3, 7⟩] 4)) := fun W h hB => by
    have := put_from w.heap.size W _ [] ⟨3, 7⟩ h good_nil (small64 (by omega) (by omega)) (by simp) hB
    rwa [a1] at this
  have C2 : Hid (∀ W, SetFrom w.heap.size W w.heap.size [⟨3, 7⟩] → w.heap.size ≤ W.heap.size → Calls Try.prog 21 #[.pointer (some ⟨w.heap.size, 0, none⟩), .agg #[.int .u64 7, .int .u64 9]] W (TurnsFrom w.heap.size W w.heap.size [⟨3, 9⟩] 2)) := fun W h hB => by
    have := put_from w.heap.size W _ [⟨3, 7⟩] ⟨7, 9⟩ h g1 (small64 (by omega) (by omega)) (by simp) hB
    rwa [a2] at this
  have C3 : Hid (∀ W, SetFrom w.heap.size W w.heap.size [⟨3, 9⟩] → w.heap.size ≤ W.heap.size → Calls Try.prog 18 #[.pointer (some ⟨w.heap.size, 0, none⟩), .agg #[.int .u64 5, .int .u64 6]] W (TurnsFrom w.heap.size W w.heap.size [⟨3, 5⟩, ⟨6, 9⟩] 1)) := fun W h hB => by
    have := cut_from w.heap.size W _ [⟨3, 9⟩] ⟨5, 6⟩ h g2 (small64 (by omega) (by omega)) (by simp) hB
    rwa [a3] at this
  have G3 := Lib.hid g3
  clear a1 a2 a3 g1 g2 g3
  go_enter Try.func14, Try.ntmps14
  go_wp2_with (go_at_call 15; refine (new_calls _).mono ?_; rintro e w1 ⟨rfl, s1, k1⟩)
  have s1' : SetFrom w.heap.size w1 w.heap.size [] := ⟨none, s1, Nat.le_refl _, fun k h => by cases h⟩
  refine (C1.out _ s1' k1.size).mono ?_
  rintro e w2 ⟨rfl, s2, k2⟩
  have K2 : Keeps (fun k => w.heap.size ≤ k) w w2 := (k1.mono fun _ _ h => h.elim).trans k2 fun _ _ h => h
  go_wp2_with fail
  refine (C2.out _ s2 K2.size).mono ?_
  rintro e w3 ⟨rfl, s3, k3⟩
  have K3 := K2.trans k3 fun _ _ h => h
  go_wp2_with fail
  refine (C3.out _ s3 K3.size).mono ?_
  rintro e w4 ⟨rfl, s4, k4⟩
  have K4 := K3.trans k4 fun _ _ h => h
  go_wp2_with fail
  refine (s4.runs (by simp)).mono ?_
  rintro e w5 ⟨v', rfl, o5, r5, k5⟩
  have K5 := K4.step k5
  have s5 := s4.kept0 k5
  obtain ⟨ad, c, rfl, q1, q2⟩ := o5.form
  obtain ⟨b, o, rfl, hA, hbb, hcell⟩ := run_at (o5.slice (A' := fun k => rowOf (.slice ad _ c) = some k) (fun _ h => h.elim) (fun _ h => h)) (by simp)
  obtain ⟨_, _, c1, c2⟩ := hcell 1 ⟨6, 9⟩ rfl
  clear hcell
  go_wp2_with fail
  refine (next_calls _ _ _ _ (s5.finds G3.out 5)).mono ?_
  rintro e w6 ⟨rfl, k6⟩
  have K6 := K5.step k6
  have s6 := s5.kept0 k6
  have e6 : nextV (findR [⟨3, 5⟩, ⟨6, 9⟩] 5) 5 = .tuple #[.int .u64 6, .bool true] := rfl
  rw [← kcell k6 b _ hbb (fun h => h)] at c1 c2
  simp only [e6]
  go_wp2_with fail
  refine (gap_calls _ _ _ _ (s6.finds G3.out 3)).mono ?_
  rintro e w7 ⟨rfl, k7⟩
  have K7 := K6.step k7
  have s7 := s6.kept0 k7
  have e7 : gapO (findR [⟨3, 5⟩, ⟨6, 9⟩] 3) 3 = 5 := rfl
  simp only [e7]
  go_wp2_with fail
  refine (s7.count G3.out (by simp)).mono ?_
  rintro e w8 ⟨rfl, k8⟩
  have K8 := K7.step k8
  have e8 : countL [⟨3, 5⟩, ⟨6, 9⟩] = 5 := rfl
  simp only [e8]
  go_wp2_with fail
  go_ret
  exact ⟨rfl, K8.mono fun k hk h => by omega⟩
end Go.Proofs.Ytaphhmefkfhepaa.Run
