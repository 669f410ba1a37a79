/- The walks over package runs, first part: what a run is, comparing, searching. -/
import Derived.Test.YtaphhmefkfhepaaProg
import Derived.Test.YtaphhmefkfhepaaLibC
namespace Go.Proofs.Ytaphhmefkfhepaa.Run
open Go Go.RowKit Go.Proofs.Ytaphhmefkfhepaa.L
set_option linter.unusedVariables false
set_option linter.unusedSimpArgs false

/-- A run of numbers. -/
structure Rn where
  f : Int
  t : Int
deriving DecidableEq

def rnEnc (r : Rn) : List Value := [.int .u64 r.f, .int .u64 r.t]
def RnR : Rep Rn := flat 2 rnEnc (fun r => InK .u64 r.f ∧ InK .u64 r.t) (fun _ => rfl) (by intro x u hu; simp [rnEnc] at hu; rcases hu with rfl | rfl <;> rfl)

theorem RnR.any {A B : Nat → Prop} {w w' : World} {cs : List Value} {l : List Rn} (h : Cells RnR A w cs l) : Cells RnR B w' cs l := by
  induction h with
  | nil => exact .nil
  | cons h _ ih => exact .cons h ih
theorem _root_.Go.Proofs.Ytaphhmefkfhepaa.L.Own.flat {T : TypeId} {A B : Nat → Prop} {w : World} {v : Value} {l : List Rn} (h : Own RnR T A w v l) : Own RnR T B w v l := by
  obtain ⟨ad, c, rfl, h1, h2, h3⟩ := h
  refine ⟨ad, c, rfl, h1, h2, ?_⟩
  rcases h3 with h3 | ⟨b, pre, live, dead, rfl, hh, hd, hc⟩
  · exact .inl h3
  · exact .inr ⟨b, pre, live, dead, rfl, hh, hd, RnR.any hc⟩

def cmpI (a b : Int) : Int := if a < b then -1 else if b < a then 1 else 0

set_option maxHeartbeats 400000 in
theorem empty_calls (f t : Int) (w : World) : Calls Try.prog 36 #[.agg #[.int .u64 f, .int .u64 t]] w fun e w' => e = .returned (.bool (decide (t ≤ f))) ∧ Keeps (fun _ => False) w w' := by
  go_enter Try.func36, Try.ntmps36
  go_wp2
  go_ret
  exact ⟨rfl, (Keeps.refl _ _).alloc _⟩

set_option maxHeartbeats 400000 in
theorem compare_calls (a b : Int) (w : World) : Calls Try.prog 47 #[.int .u64 a, .int .u64 b] w fun e w' => e = .returned (.int .i64 (cmpI a b)) ∧ w = w' := by
  go_enter Try.func47, Try.ntmps47
  go_wp2
  all_goals
    go_ret
    refine ⟨ret_int ?_, rfl⟩
    unfold cmpI
    repeat' split
    all_goals first | rfl | omega

set_option maxHeartbeats 400000 in
theorem ends_calls (f t n : Int) (w : World) : Calls Try.prog 41 #[.agg #[.int .u64 f, .int .u64 t], .int .u64 n] w fun e w' => e = .returned (.int .i64 (cmpI t n)) ∧ Keeps (fun _ => False) w w' := by
  go_enter Try.func41, Try.ntmps41
  go_wp2_with (go_at_call 47; refine (compare_calls _ _ _).mono ?_; rintro e w' ⟨rfl, rfl⟩)
  go_ret
  exact ⟨rfl, (Keeps.refl _ _).alloc _⟩

/-- The place of the first run that ends at a number or behind it. -/
def place (l : List Rn) (n : Int) : Nat := (l.takeWhile fun r => decide (r.t < n)).length

/-- The ends rise. -/
def Rises (l : List Rn) : Prop := ∀ i j : Nat, i < j → ∀ a b, l[i]? = some a → l[j]? = some b → a.t < b.t

theorem place_le (l : List Rn) (n : Int) : place l n ≤ l.length := by
  unfold place; exact (List.takeWhile_sublist _).length_le
theorem place_before {l : List Rn} {n : Int} {k : Nat} (h : k < place l n) {r : Rn} (hr : l[k]? = some r) : r.t < n := by
  unfold place at h
  have h1 := (List.getElem?_eq_some_iff.1 hr).2
  have hp : (l.takeWhile fun r => decide (r.t < n)) <+: l := List.takeWhile_prefix _
  have h2 := hp.getElem h
  have h3 := List.all_takeWhile (p := fun r : Rn => decide (r.t < n)) (l := l)
  rw [List.all_eq_true] at h3
  have h4 := h3 _ (List.getElem_mem h)
  rw [h2] at h4
  rw [← h1]
  simpa using h4
theorem place_unique {l : List Rn} {n : Int} {k : Nat} (hk : k ≤ l.length) (h1 : ∀ i r, i < k → l[i]? = some r → r.t < n) (h2 : ∀ i r, k ≤ i → l[i]? = some r → n ≤ r.t) : place l n = k := by
  have hp : (l.takeWhile fun r => decide (r.t < n)) = l.take k := by
    conv => lhs; rw [← List.take_append_drop k l]
    rw [List.takeWhile_append_of_pos]
    · have : (l.drop k).takeWhile (fun r => decide (r.t < n)) = [] := by
        cases hd : l.drop k with
        | nil => rfl
        | cons x xs =>
          have := h2 k x (Nat.le_refl _) (by rw [← List.head?_drop, hd]; rfl)
          rw [List.takeWhile_cons, if_neg (by simp; omega)]
      rw [this, List.append_nil]
    · intro r hr
      obtain ⟨i, hi, he⟩ := List.getElem_of_mem hr
      have hi' : i < k := by simp at hi; omega
      have := h1 i r hi' (by rw [← he, List.getElem_take]; simp)
      simpa using this
  unfold place; rw [hp]; simp; omega
theorem cmpI_lt {a b : Int} : (cmpI a b < 0) ↔ a < b := by unfold cmpI; repeat' split; all_goals omega
theorem cmpI_eq {a b : Int} : (cmpI a b = 0) ↔ a = b := by unfold cmpI; repeat' split; all_goals omega

/-- The two cells of a run in a slice that is read. -/
theorem run_at {A : Nat → Prop} {w : World} {ad : Option Addr} {c : Nat} {l : List Rn} (hs : SliceK RnR A w (.slice ad l.length c) l) (h0 : 0 < l.length) :
    ∃ b o, ad = some ⟨b, o, none⟩ ∧ A b ∧ b < w.heap.size ∧ ∀ i r, l[i]? = some r → InK .u64 r.f ∧ InK .u64 r.t ∧ w.cell? ⟨b, o + i * 2, none⟩ = some (.int .u64 r.f) ∧ w.cell? ⟨b, o + i * 2 + 1, none⟩ = some (.int .u64 r.t) := by
  obtain ⟨b, o, cs, rfl, hA, hb, hc, hcell⟩ := hs.cells h0
  refine ⟨b, o, rfl, hA, hb, fun i r hi => ?_⟩
  obtain ⟨c', ⟨hc', hk1, hk2⟩, hg⟩ := hc.get hi
  subst hc'
  exact ⟨hk1, hk2, hcell _ _ (hg 0 _ rfl), by rw [Nat.add_assoc]; exact hcell _ _ (hg 1 _ rfl)⟩

def found (l : List Rn) (n : Int) (k : Nat) : Bool := match l[k]? with | some r => decide (r.t = n) | none => false

set_option maxHeartbeats 1000000 in
theorem search_calls (ad : Option Addr) (c : Nat) (l : List Rn) (n : Int) (A : Nat → Prop) (w : World) (hs : SliceK RnR A w (.slice ad l.length c) l) (hr : Rises l) :
    Calls Try.prog 40 #[.slice ad l.length c, .int .u64 n, .func (.func 41) #[] #[]] w fun e w' =>
      e = .returned (.tuple #[.int .i64 (place l n), .bool (found l n (place l n))]) ∧ Keeps (fun _ => False) w w' := by
  have hlen : l.length ≤ 9223372036854775807 := by obtain ⟨_, _, h, h1, h2⟩ := hs.form; unfold maxLen at h2; omega
  go_enter Try.func40, Try.ntmps40
  go_wp2_with fail
  go_loopw [9, 10] (fun u9 u10 wr => ∃ i j : Nat, u9 = .int .i64 i ∧ u10 = .int .i64 j ∧ i ≤ j ∧ j ≤ l.length ∧ Hid (∀ k r, k < i → l[k]? = some r → r.t < n) ∧ Hid (∀ k r, j ≤ k → l[k]? = some r → n ≤ r.t) ∧ Keeps (fun _ => False) w wr) (fun u9 u10 _ => (intOf u10 - intOf u9).toNat)
  case atStart => exact ⟨0, l.length, rfl, rfl, by omega, by omega, (by show ∀ k r, _; intro k r h; omega), (by show ∀ k r, _; intro k r h h1; rw [List.getElem?_eq_none (by omega)] at h1; cases h1), Keeps.refl _ _⟩
  case round =>
    obtain ⟨i, j, rfl, rfl, hij, hjl, H1, H2, HK⟩ := hrel
    by_cases hlt : i < j
    · obtain ⟨b, o, rfl, hA, hb, hcell⟩ := run_at hs (by omega)
      obtain ⟨h, Hh, hh⟩ : ∃ h : Nat, Hid (h = (i + j) / 2) ∧ wrap64 (IntKind.u64.wrap (wrap64 ((i : Int) + (j : Int))) / 2) = (h : Int) := ⟨_, rfl, half_wrap i j (by omega) (by omega)⟩
      have hhl : h < j := by have := Hh.out; omega
      have hil : i ≤ h := by have := Hh.out; omega
      have hlh : h < l.length := by omega
      obtain ⟨r, hr0⟩ : ∃ r, l[h]? = some r := ⟨l[h], List.getElem?_eq_getElem hlh⟩
      obtain ⟨k1, k2, c1, c2⟩ := hcell h r hr0
      have Hr0 := Lib.hid hr0
      clear hcell hr0
      rw [← kcell HK b _ hb (fun hf => hf)] at c1 c2
      by_cases hcmp : r.t < n
      · have hc0 : cmpI r.t n < 0 := cmpI_lt.2 hcmp
        go_wp2_with (go_at_call 41; refine (ends_calls _ _ _ _).mono ?_; rintro e w1 ⟨rfl, HK1⟩)
        go_roundw
        case rel => exact ⟨h + 1, j, by go_num, rfl, by omega, hjl, (by
          show ∀ k r, _
          intro k r' hk hk1
          rcases Nat.lt_or_ge k h with h1 | h1
          · have := hr k h h1 r' r hk1 Hr0.out; omega
          · have : k = h := by omega
            subst this; rw [Hr0.out] at hk1; injection hk1 with hk1; subst hk1; exact hcmp), H2, HK.step HK1⟩
        case measure => simp [intOf]; omega
      · have hc0 : ¬ cmpI r.t n < 0 := fun h => hcmp (cmpI_lt.1 h)
        go_wp2_with (go_at_call 41; refine (ends_calls _ _ _ _).mono ?_; rintro e w1 ⟨rfl, HK1⟩)
        go_roundw
        case rel => exact ⟨i, h, rfl, rfl, hil, by omega, H1, (by
          show ∀ k r, _
          intro k r' hk hk1
          rcases Nat.lt_or_ge h k with h1 | h1
          · have := hr h k h1 r r' Hr0.out hk1; omega
          · have : k = h := by omega
            subst this; rw [Hr0.out] at hk1; injection hk1 with hk1; subst hk1; omega), HK.step HK1⟩
        case measure => simp [intOf]; omega
    · obtain rfl : i = j := by omega
      have hp : place l n = i := place_unique hjl H1.out H2.out
      have Hp := Lib.hid hp
      clear hp
      by_cases hil : i < l.length
      · obtain ⟨b, o, rfl, hA, hb, hcell⟩ := run_at hs (by omega)
        obtain ⟨r, hr0⟩ : ∃ r, l[i]? = some r := ⟨l[i], List.getElem?_eq_getElem hil⟩
        obtain ⟨k1, k2, c1, c2⟩ := hcell i r hr0
        have Hr0 := Lib.hid hr0
        clear hcell hr0
        rw [← kcell HK b _ hb (fun hf => hf)] at c1 c2
        go_wp2_with (go_at_call 41; refine (ends_calls _ _ _ _).mono ?_; rintro e w1 ⟨rfl, HK1⟩)
        go_ret2
        refine ⟨ret2 (vint (by rw [Hp.out])) (vbool ?_), HK.step HK1⟩
        rw [Hp.out]
        simp only [found, Hr0.out]
        rw [Bool.eq_iff_iff, beq_iff_eq, decide_eq_true_iff]
        exact cmpI_eq
      · go_wp2_with fail
        go_ret2
        refine ⟨ret2 (vint (by rw [Hp.out])) (vbool ?_), HK⟩
        rw [Hp.out]
        simp only [found, List.getElem?_eq_none (Nat.le_of_not_lt hil)]
end Go.Proofs.Ytaphhmefkfhepaa.Run
