/- The walks over package runs, eighth part: New, at, find, Has, Runs, Count, Next, Gap, Copy. -/
import Derived.Test.YtaphhmefkfhepaaRunG
namespace Go.Proofs.Ytaphhmefkfhepaa.Run
open Go Go.RowKit Go.Proofs.Ytaphhmefkfhepaa.L
set_option linter.unusedVariables false
set_option linter.unusedSimpArgs false

attribute [local go_sem] max_go min_go

/-- A set in memory: its block, the block of its row. -/
def SetAt (w : World) (bs : Nat) (fp : Option Nat) (l : List Rn) : Prop :=
  ∃ v, w.heap[bs]? = some (.cells #[v] 62 (0, 0)) ∧ Own RnR 30 none' w v l ∧ rowOf v = fp

theorem SetAt.lt {w : World} {bs : Nat} {fp : Option Nat} {l : List Rn} (h : SetAt w bs fp l) : bs < w.heap.size := by
  obtain ⟨v, hb, _⟩ := h; exact lt_of_heap hb
theorem SetAt.fp_lt {w : World} {bs : Nat} {fp : Option Nat} {l : List Rn} (h : SetAt w bs fp l) : ∀ k, fp = some k → k < w.heap.size := by
  obtain ⟨v, hb, ho, rfl⟩ := h; exact ho.lt
theorem SetAt.fp_ne {w : World} {bs : Nat} {fp : Option Nat} {l : List Rn} (h : SetAt w bs fp l) : ∀ k, fp = some k → k ≠ bs := by
  obtain ⟨v, hb, ho, rfl⟩ := h
  intro k hk
  obtain ⟨cs, hc⟩ := ho.type k hk
  exact ne_of_heap hc hb (by decide)
theorem SetAt.kept {F : Nat → Prop} {w w' : World} {bs : Nat} {fp : Option Nat} {l : List Rn} (h : SetAt w bs fp l) (hk : Keeps F w w') (h1 : ¬ F bs) (h2 : ∀ k, fp = some k → ¬ F k) : SetAt w' bs fp l := by
  obtain ⟨v, hb, ho, rfl⟩ := h
  exact ⟨v, hk.heap hb h1, ho.kept hk (fun _ h => h.elim) fun b hb _ => h2 b hb, rfl⟩
theorem SetAt.kept0 {w w' : World} {bs : Nat} {fp : Option Nat} {l : List Rn} (h : SetAt w bs fp l) (hk : Keeps (fun _ => False) w w') : SetAt w' bs fp l := h.kept hk (fun h => h) fun _ _ h => h

set_option maxHeartbeats 400000 in
theorem new_calls (w : World) : Calls Try.prog 15 #[] w fun e w' => e = .returned (.pointer (some ⟨w.heap.size, 0, none⟩)) ∧ SetAt w' w.heap.size none [] ∧ Keeps (fun _ => False) w w' := by
  go_enter Try.func15, Try.ntmps15
  go_wp2
  go_ret
  exact ⟨rfl, ⟨.slice none 0 0, heap_alloc_new w _, own_nil _ _ _ _, rfl⟩, (Keeps.refl _ _).alloc _⟩

set_option maxHeartbeats 400000 in
theorem at_calls (w : World) (bs : Nat) (fp : Option Nat) (l : List Rn) (n : Int) (hs : SetAt w bs fp l) (hr : Rises l) :
    Calls Try.prog 37 #[.pointer (some ⟨bs, 0, none⟩), .int .u64 n] w fun e w' => e = .returned (.int .i64 (place l n)) ∧ Keeps (fun _ => False) w w' := by
  obtain ⟨v, hb, ho, hfp⟩ := hs
  obtain ⟨ad, c, rfl, h1, h2⟩ := ho.form
  have hc := cellOf hb 0 rfl
  have hk := ho.slice (A' := fun k => rowOf (.slice ad l.length c) = some k) (fun _ h => h.elim) (fun _ h => h)
  clear hb ho hfp
  go_enter Try.func37, Try.ntmps37
  go_wp2_with (go_at_call 40; refine (search_calls _ _ _ _ _ _ hk hr).mono ?_; rintro e w1 ⟨rfl, hk1⟩)
  go_ret
  exact ⟨rfl, hk1⟩

/-- What find answers. -/
def foundV : Option Rn → Value
  | none => .tuple #[.agg #[.int .u64 0, .int .u64 0], .bool false]
  | some r => .tuple #[.agg #[.int .u64 r.f, .int .u64 r.t], .bool true]
def findR (l : List Rn) (n : Int) : Option Rn := if found l n (place l n) = true then l[place l n + 1]? else l[place l n]?

set_option maxHeartbeats 400000 in
theorem find_nil (n : Int) (w : World) : Calls Try.prog 35 #[.pointer none, .int .u64 n] w fun e w' => e = .returned (foundV none) ∧ Keeps (fun _ => False) w w' := by
  go_enter Try.func35, Try.ntmps35
  go_wp2
  exact bodyPost_ret (v := foundV none) (by simp [foundV, results, Try.results35, go_sem]) rfl ⟨rfl, (Keeps.refl _ _).alloc _⟩

set_option maxRecDepth 100000 in
set_option maxHeartbeats 1000000 in
theorem find_calls (w : World) (bs : Nat) (fp : Option Nat) (l : List Rn) (n : Int) (hs : SetAt w bs fp l) (hr : Rises l) :
    Calls Try.prog 35 #[.pointer (some ⟨bs, 0, none⟩), .int .u64 n] w fun e w' => e = .returned (foundV (findR l n)) ∧ Keeps (fun _ => False) w w' := by
  have HA : Hid (∀ w1, SetAt w1 bs fp l → Calls Try.prog 37 #[.pointer (some ⟨bs, 0, none⟩), .int .u64 n] w1 fun e w' => e = .returned (.int .i64 (place l n)) ∧ Keeps (fun _ => False) w1 w') := fun w1 h => at_calls w1 bs fp l n h hr
  have hs0 := Lib.hid hs
  obtain ⟨v, hb, ho, hfp⟩ := hs
  have hbl := lt_of_heap hb
  have hbc := cellOf hb 0 rfl
  obtain ⟨ad, c, rfl, h1, h2⟩ := ho.form
  unfold maxLen at h2
  have hk := ho.slice (A' := fun k => rowOf (.slice ad l.length c) = some k) (fun _ h => h.elim) (fun _ h => h)
  have hpl := place_le l n
  have HR : Hid (findR l n = if found l n (place l n) = true then l[place l n + 1]? else l[place l n]?) := rfl
  obtain ⟨p, hp⟩ : ∃ p, p = place l n := ⟨_, rfl⟩
  rw [← hp] at hpl HA HR
  clear hp hb ho hfp hr
  have hread : ∀ i r, l[i]? = some r → ∃ b o, ad = some ⟨b, o, none⟩ ∧ b < w.heap.size ∧ w.cell? ⟨b, o + i * 2, none⟩ = some (.int .u64 r.f) ∧ w.cell? ⟨b, o + i * 2 + 1, none⟩ = some (.int .u64 r.t) := fun i r hi => by
    obtain ⟨b, o, rfl, hA, hbb, hcell⟩ := run_at hk (by have := (List.getElem?_eq_some_iff.1 hi).1; omega)
    obtain ⟨_, _, e1, e2⟩ := hcell i r hi
    exact ⟨b, o, rfl, hbb, e1, e2⟩
  have Hread := Lib.hid hread
  clear hread hk
  rcases Nat.lt_or_ge p l.length with hpl2 | hpl2
  · obtain ⟨r, hr0⟩ : ∃ r, l[p]? = some r := ⟨l[p], List.getElem?_eq_getElem hpl2⟩
    obtain ⟨b, o, rfl, hbb, e1, e2⟩ := Hread.out p r hr0
    have HR0 := Lib.hid hr0
    clear hr0
    by_cases hrt : r.t = n
    · have hrt' := Lib.hid hrt
      have hq : (r.t == n) = true := beq_iff_eq.2 hrt
      clear hrt
      by_cases hp1 : p + 1 < l.length
      · obtain ⟨r1, hr1⟩ : ∃ r, l[p + 1]? = some r := ⟨l[p + 1], List.getElem?_eq_getElem hp1⟩
        obtain ⟨b', o', eq, hbb', e1', e2'⟩ := Hread.out (p + 1) r1 hr1
        injection eq with eq; injection eq with eq1 eq2; subst eq1 eq2
        have HR1 := Lib.hid hr1
        clear hr1
        have he : Hid (findR l n = some r1) := by show _ = _; rw [HR.out, if_pos (by simp [found, HR0.out, hrt'.out])]; exact HR1.out
        go_enter Try.func35, Try.ntmps35
        go_wp2_with (go_at_call 37; refine (HA.out _ (hs0.out.kept0 ((Keeps.refl _ _).alloc _))).mono ?_; rintro e w1 ⟨rfl, hk1⟩; obtain ⟨hcc, hff⟩ := kcell0 hk1)
        exact bodyPost_ret (v := foundV (some r1)) (by simp [foundV, results, Try.results35, go_sem, hcc]) rfl ⟨by rw [he.out], ((((Keeps.refl _ _).alloc _).step hk1).setCell (.inr (Nat.le_refl _)) _).setCell (.inr (Nat.le_refl _)) _⟩
      · have hpe : l.length = p + 1 := by omega
        have he : Hid (findR l n = none) := by show _ = _; rw [HR.out, if_pos (by simp [found, HR0.out, hrt'.out])]; exact List.getElem?_eq_none (by omega)
        have hp2 : ((p : Int) + 1 == (l.length : Int)) = true := beq_iff_eq.2 (by omega)
        clear hpe
        go_enter Try.func35, Try.ntmps35
        go_wp2_with (go_at_call 37; refine (HA.out _ (hs0.out.kept0 ((Keeps.refl _ _).alloc _))).mono ?_; rintro e w1 ⟨rfl, hk1⟩; obtain ⟨hcc, hff⟩ := kcell0 hk1)
        exact bodyPost_ret (v := foundV none) (by simp [foundV, results, Try.results35, go_sem, hcc]) rfl ⟨by rw [he.out], ((((Keeps.refl _ _).alloc _).step hk1).setCell (.inr (Nat.le_refl _)) _).setCell (.inr (Nat.le_refl _)) _⟩
    · have hq : (r.t == n) = false := beq_eq_false_iff_ne.2 hrt
      have he : Hid (findR l n = some r) := by show _ = _; rw [HR.out, if_neg (by simp [found, HR0.out, hrt])]; exact HR0.out
      have hp2 : ((p : Int) == (l.length : Int)) = false := beq_eq_false_iff_ne.2 (by omega)
      go_enter Try.func35, Try.ntmps35
      go_wp2_with (go_at_call 37; refine (HA.out _ (hs0.out.kept0 ((Keeps.refl _ _).alloc _))).mono ?_; rintro e w1 ⟨rfl, hk1⟩; obtain ⟨hcc, hff⟩ := kcell0 hk1)
      exact bodyPost_ret (v := foundV (some r)) (by simp [foundV, results, Try.results35, go_sem, hcc]) rfl ⟨by rw [he.out], ((((Keeps.refl _ _).alloc _).step hk1).setCell (.inr (Nat.le_refl _)) _).setCell (.inr (Nat.le_refl _)) _⟩
  · have he : Hid (findR l n = none) := by show _ = _; rw [HR.out, if_neg (by simp [found, List.getElem?_eq_none hpl2])]; exact List.getElem?_eq_none hpl2
    have hp2 : ((p : Int) == (l.length : Int)) = true := beq_iff_eq.2 (by omega)
    have hp3 : ¬ (p < l.length) := by omega
    go_enter Try.func35, Try.ntmps35
    go_wp2_with (go_at_call 37; refine (HA.out _ (hs0.out.kept0 ((Keeps.refl _ _).alloc _))).mono ?_; rintro e w1 ⟨rfl, hk1⟩; obtain ⟨hcc, hff⟩ := kcell0 hk1)
    exact bodyPost_ret (v := foundV none) (by simp [foundV, results, Try.results35, go_sem, hcc]) rfl ⟨by rw [he.out], ((((Keeps.refl _ _).alloc _).step hk1).setCell (.inr (Nat.le_refl _)) _).setCell (.inr (Nat.le_refl _)) _⟩

/-- What find is known to answer, from a world on. -/
def Finds (w : World) (pv : Value) (n : Int) (o : Option Rn) : Prop :=
  ∀ w1, Keeps (fun _ => False) w w1 → Calls Try.prog 35 #[pv, .int .u64 n] w1 fun e w' => e = .returned (foundV o) ∧ Keeps (fun _ => False) w1 w'
theorem finds_nil (w : World) (n : Int) : Finds w (.pointer none) n none := fun w1 _ => find_nil n w1
theorem finds_set {w : World} {bs : Nat} {fp : Option Nat} {l : List Rn} (n : Int) (hs : SetAt w bs fp l) (hr : Rises l) : Finds w (.pointer (some ⟨bs, 0, none⟩)) n (findR l n) := fun w1 hk => find_calls w1 bs fp l n (hs.kept0 hk) hr

def hasO (o : Option Rn) (n : Int) : Bool := match o with | none => false | some r => decide (r.f ≤ n)
def nextV (o : Option Rn) (n : Int) : Value := match o with | none => .tuple #[.int .u64 0, .bool false] | some r => .tuple #[.int .u64 (max n r.f), .bool true]
def gapO (o : Option Rn) (n : Int) : Int := match o with | none => n | some r => if r.f ≤ n then r.t else n

set_option maxHeartbeats 1000000 in
theorem has_calls (w : World) (pv : Value) (n : Int) (o : Option Rn) (hf : Finds w pv n o) :
    Calls Try.prog 27 #[pv, .int .u64 n] w fun e w' => e = .returned (.bool (hasO o n)) ∧ Keeps (fun _ => False) w w' := by
  have HF := Lib.hid hf
  clear hf
  cases o with
  | none =>
    go_enter Try.func27, Try.ntmps27
    go_wp2_with (go_at_call 35; refine (HF.out _ (Keeps.refl _ _)).mono ?_; rintro e w1 ⟨rfl, hk1⟩; unfold foundV)
    go_ret
    exact ⟨rfl, hk1.alloc _⟩
  | some r =>
    go_enter Try.func27, Try.ntmps27
    go_wp2_with (go_at_call 35; refine (HF.out _ (Keeps.refl _ _)).mono ?_; rintro e w1 ⟨rfl, hk1⟩; unfold foundV)
    go_ret
    exact ⟨rfl, hk1.alloc _⟩

set_option maxHeartbeats 1000000 in
theorem next_calls (w : World) (pv : Value) (n : Int) (o : Option Rn) (hf : Finds w pv n o) :
    Calls Try.prog 12 #[pv, .int .u64 n] w fun e w' => e = .returned (nextV o n) ∧ Keeps (fun _ => False) w w' := by
  have HF := Lib.hid hf
  clear hf
  cases o with
  | none =>
    go_enter Try.func12, Try.ntmps12
    go_wp2_with (go_at_call 35; refine (HF.out _ (Keeps.refl _ _)).mono ?_; rintro e w1 ⟨rfl, hk1⟩; unfold foundV)
    go_ret2
    exact ⟨rfl, hk1.alloc _⟩
  | some r =>
    go_enter Try.func12, Try.ntmps12
    go_wp2_with (go_at_call 35; refine (HF.out _ (Keeps.refl _ _)).mono ?_; rintro e w1 ⟨rfl, hk1⟩; unfold foundV)
    go_ret2
    exact ⟨ret2 (vint (mx_max _ _)) rfl, hk1.alloc _⟩

set_option maxHeartbeats 1000000 in
theorem gap_calls (w : World) (pv : Value) (n : Int) (o : Option Rn) (hf : Finds w pv n o) :
    Calls Try.prog 13 #[pv, .int .u64 n] w fun e w' => e = .returned (.int .u64 (gapO o n)) ∧ Keeps (fun _ => False) w w' := by
  have HF := Lib.hid hf
  clear hf
  cases o with
  | none =>
    go_enter Try.func13, Try.ntmps13
    go_wp2_with (go_at_call 35; refine (HF.out _ (Keeps.refl _ _)).mono ?_; rintro e w1 ⟨rfl, hk1⟩; unfold foundV)
    go_ret
    exact ⟨rfl, hk1.alloc _⟩
  | some r =>
    by_cases hle : r.f ≤ n
    all_goals
      go_enter Try.func13, Try.ntmps13
      go_wp2_with (go_at_call 35; refine (HF.out _ (Keeps.refl _ _)).mono ?_; rintro e w1 ⟨rfl, hk1⟩; unfold foundV)
      go_ret
      exact ⟨ret_int (by first | (rw [gapO, if_pos hle]) | (rw [gapO, if_neg (by omega)])), hk1.alloc _⟩

/-- The runs of a set, as a row of its own. -/
def Told (w : World) (l : List Rn) (e : Ending) (w' : World) : Prop :=
  ∃ v', e = .returned v' ∧ Own RnR 30 none' w' v' l ∧ (∀ b, rowOf v' = some b → w.heap.size ≤ b) ∧ Keeps (fun _ => False) w w'
theorem runs_nil (w : World) : Calls Try.prog 11 #[.pointer none] w (Told w []) := by
  go_enter Try.func11, Try.ntmps11
  go_wp2
  go_ret
  exact ⟨_, rfl, own_nil _ _ _ _, by simp [rowOf], Keeps.refl _ _⟩
theorem runs_calls (w : World) (bs : Nat) (fp : Option Nat) (l : List Rn) (hs : SetAt w bs fp l) (hb : l.length ≤ 1099511627776) :
    Calls Try.prog 11 #[.pointer (some ⟨bs, 0, none⟩)] w (Told w l) := by
  obtain ⟨v, hb', ho, hfp⟩ := hs
  have hc := cellOf hb' 0 rfl
  have hk := Lib.hid (ho.slice (A' := fun k => rowOf v = some k) (fun _ h => h.elim) (fun _ h => h))
  clear hb' ho hfp
  go_enter Try.func11, Try.ntmps11
  go_wp2_with (go_at_call 34; refine (clone_calls _ _ _ _ hk.out hb).mono ?_; rintro e w1 ⟨v', rfl, h1, h2, h3⟩)
  go_ret
  exact ⟨_, rfl, h1, h2, h3⟩
theorem copy_nil (w : World) : Calls Try.prog 17 #[.pointer none] w fun e w' => e = .returned (.pointer none) ∧ w = w' := by
  go_enter Try.func17, Try.ntmps17
  go_wp2
  go_ret
  exact ⟨rfl, rfl⟩
theorem copy_calls (w : World) (bs : Nat) (fp : Option Nat) (l : List Rn) (hs : SetAt w bs fp l) (hb : l.length ≤ 1099511627776) :
    Calls Try.prog 17 #[.pointer (some ⟨bs, 0, none⟩)] w fun e w' => ∃ b2 fp2, e = .returned (.pointer (some ⟨b2, 0, none⟩)) ∧ w.heap.size ≤ b2 ∧ (∀ b, fp2 = some b → w.heap.size ≤ b) ∧ SetAt w' b2 fp2 l ∧ Keeps (fun _ => False) w w' := by
  obtain ⟨v, hb', ho, hfp⟩ := hs
  have hc := cellOf hb' 0 rfl
  have hk := Lib.hid (ho.slice (A' := fun k => rowOf v = some k) (fun _ h => h.elim) (fun _ h => h))
  clear hb' ho hfp
  go_enter Try.func17, Try.ntmps17
  go_wp2_with (go_at_call 34; refine (clone_calls _ _ _ _ hk.out hb).mono ?_; rintro e w1 ⟨v', rfl, h1, h2, h3⟩; obtain ⟨ad', c', rfl, q1, q2⟩ := h1.form)
  go_ret
  exact ⟨_, _, rfl, h3.size, h2, ⟨_, heap_alloc_new _ _, h1.alloc _, rfl⟩, h3.alloc _⟩
end Go.Proofs.Ytaphhmefkfhepaa.Run
