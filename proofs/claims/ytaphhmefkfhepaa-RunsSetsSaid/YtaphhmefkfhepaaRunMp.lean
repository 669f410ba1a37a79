/- The plain law of what two sets have in common and together: members, and how many. -/
import Derived.Test.YtaphhmefkfhepaaRunYQ
namespace Go.Proofs.Ytaphhmefkfhepaa.Run
open Go Go.RowKit Go.Proofs.Ytaphhmefkfhepaa.L
set_option linter.unusedVariables false
set_option linter.unusedSimpArgs false

/-- The runs in common. -/
def meetF : Nat → List Rn → List Rn → List Rn
  | 0, _, _ => []
  | _ + 1, [], _ => []
  | _ + 1, _ :: _, [] => []
  | n + 1, x :: xs, y :: ys => (if mn x.t y.t ≤ mx x.f y.f then [] else [⟨mx x.f y.f, mn x.t y.t⟩]) ++ if x.t < y.t then meetF n xs (y :: ys) else meetF n (x :: xs) ys
def meetL (a b : List Rn) : List Rn := meetF (a.length + b.length) a b
theorem meetL_nil (b : List Rn) : meetL [] b = [] := by unfold meetL; cases b <;> simp [meetF]
theorem meetL_nil2 (x : Rn) (xs : List Rn) : meetL (x :: xs) [] = [] := by unfold meetL; simp [meetF]
theorem meetL_cons (x y : Rn) (xs ys : List Rn) : meetL (x :: xs) (y :: ys) = (if mn x.t y.t ≤ mx x.f y.f then [] else [⟨mx x.f y.f, mn x.t y.t⟩]) ++ if x.t < y.t then meetL xs (y :: ys) else meetL (x :: xs) ys := by
  unfold meetL
  have e : (x :: xs).length + (y :: ys).length = (xs.length + (y :: ys).length) + 1 := by simp; omega
  rw [e]
  have e2 : xs.length + (y :: ys).length = (x :: xs).length + ys.length := by simp; omega
  conv => lhs; unfold meetF
  split
  · split
    · rfl
    · rw [e2]
  · split
    · rfl
    · rw [e2]

theorem mx_le {a b n : Int} : mx a b ≤ n ↔ a ≤ n ∧ b ≤ n := by unfold mx; split <;> omega
theorem lt_mn {a b n : Int} : n < mn a b ↔ n < a ∧ n < b := by unfold mn; split <;> omega
theorem head_mem (x y : Rn) (n : Int) : Mem (if mn x.t y.t ≤ mx x.f y.f then [] else [⟨mx x.f y.f, mn x.t y.t⟩]) n ↔ (x.f ≤ n ∧ n < x.t) ∧ (y.f ≤ n ∧ n < y.t) := by
  split
  · rename_i h
    refine ⟨fun h => absurd h (mem_nil n), fun hn => ?_⟩
    have h1 := (mx_le (a := x.f) (b := y.f) (n := n)).2 ⟨hn.1.1, hn.2.1⟩
    have h2 := (lt_mn (a := x.t) (b := y.t) (n := n)).2 ⟨hn.1.2, hn.2.2⟩
    omega
  · rw [mem_cons]
    show (mx x.f y.f ≤ n ∧ n < mn x.t y.t) ∨ Mem [] n ↔ _
    rw [mx_le, lt_mn]
    have := mem_nil n
    constructor
    · rintro (h | h)
      · exact ⟨⟨h.1.1, h.2.1⟩, h.1.2, h.2.2⟩
      · exact absurd h this
    · intro h; exact .inl ⟨⟨h.1.1, h.2.1⟩, h.1.2, h.2.2⟩
theorem Good.above {x : Rn} {l : List Rn} (h : Good (x :: l)) {n : Int} (hm : Mem l n) : x.t < n := by
  obtain ⟨z, hz, h1, _⟩ := hm
  have := h.head.2 z hz
  omega
theorem meetF_mem : ∀ (N : Nat) (a b : List Rn), Good a → Good b → a.length + b.length ≤ N → ∀ n, Mem (meetF N a b) n ↔ Mem a n ∧ Mem b n
  | 0, a, b, ha, hb, hN, n => by
    obtain rfl : a = [] := List.eq_nil_of_length_eq_zero (by omega)
    simp [meetF, mem_nil]
  | N + 1, [], b, ha, hb, hN, n => by simp [meetF, mem_nil]
  | N + 1, x :: xs, [], ha, hb, hN, n => by simp [meetF, mem_nil]
  | N + 1, x :: xs, y :: ys, ha, hb, hN, n => by
    unfold meetF
    rw [mem_append, head_mem]
    simp only [List.length_cons] at hN
    have hx := ha.above (n := n)
    have hy := hb.above (n := n)
    have h1 := ha.head.1
    have h2 := hb.head.1
    split
    · rename_i hlt
      rw [meetF_mem N xs (y :: ys) ha.tail hb (by simp only [List.length_cons]; omega) n, mem_cons, mem_cons]
      constructor
      · rintro (⟨h, k⟩ | ⟨h, k⟩)
        · exact ⟨.inl h, .inl k⟩
        · exact ⟨.inr h, k⟩
      · rintro ⟨h | h, k | k⟩
        · exact .inl ⟨h, k⟩
        · have := hy k; omega
        · exact .inr ⟨h, .inl k⟩
        · exact .inr ⟨h, .inr k⟩
    · rename_i hlt
      rw [meetF_mem N (x :: xs) ys ha hb.tail (by simp only [List.length_cons]; omega) n, mem_cons, mem_cons]
      constructor
      · rintro (⟨h, k⟩ | ⟨h, k⟩)
        · exact ⟨.inl h, .inl k⟩
        · exact ⟨h, .inr k⟩
      · rintro ⟨h | h, k | k⟩
        · exact .inl ⟨h, k⟩
        · exact .inr ⟨.inl h, k⟩
        · have := hx h; omega
        · exact .inr ⟨.inr h, k⟩
theorem meet_mem {a b : List Rn} (ha : Good a) (hb : Good b) (n : Int) : Mem (meetL a b) n ↔ Mem a n ∧ Mem b n := meetF_mem _ a b ha hb (Nat.le_refl _) n
theorem meetF_length : ∀ (N : Nat) (a b : List Rn), (meetF N a b).length ≤ N
  | 0, a, b => by simp [meetF]
  | N + 1, [], b => by simp [meetF]
  | N + 1, x :: xs, [] => by simp [meetF]
  | N + 1, x :: xs, y :: ys => by
    unfold meetF
    rw [List.length_append]
    have h1 := meetF_length N xs (y :: ys)
    have h2 := meetF_length N (x :: xs) ys
    split <;> split <;> simp <;> omega
theorem mx_64 {a b : Int} (ha : InK .u64 a) (hb : InK .u64 b) : InK .u64 (mx a b) := by unfold mx; split <;> assumption
theorem mn_64 {a b : Int} (ha : InK .u64 a) (hb : InK .u64 b) : InK .u64 (mn a b) := by unfold mn; split <;> assumption
theorem meetF_64 : ∀ (N : Nat) (a b : List Rn), All64 a → All64 b → All64 (meetF N a b)
  | 0, a, b, ha, hb => by intro r h; simp [meetF] at h
  | N + 1, [], b, ha, hb => by intro r h; simp [meetF] at h
  | N + 1, x :: xs, [], ha, hb => by intro r h; simp [meetF] at h
  | N + 1, x :: xs, y :: ys, ha, hb => by
    unfold meetF
    intro r hr
    have hx := ha x (by simp)
    have hy := hb y (by simp)
    rcases List.mem_append.1 hr with h | h
    · split at h
      · cases h
      · rw [List.mem_singleton] at h; subst h; exact ⟨mx_64 hx.1 hy.1, mn_64 hx.2 hy.2⟩
    · split at h
      · exact meetF_64 N xs (y :: ys) (fun z hz => ha z (by simp [hz])) hb r h
      · exact meetF_64 N (x :: xs) ys ha (fun z hz => hb z (by simp [hz])) r h
theorem any_mem (l : List Rn) (n : Int) : (∃ r ∈ l, In r n) ↔ Mem l n := Iff.rfl

/-- What two sets have in common, as a set. -/
def metL (a b : List Rn) : List Rn := putAll [] (meetL a b)
/-- What two sets have together. -/
def joinL (a b : List Rn) : List Rn := putAll (putAll [] a) b
theorem met_spec {a b : List Rn} (ha : Good a) (hb : Good b) (h64a : All64 a) (h64b : All64 b) : Good (metL a b) ∧ (∀ n, Mem (metL a b) n ↔ Mem a n ∧ Mem b n) ∧ (metL a b).length ≤ a.length + b.length := by
  obtain ⟨h1, h2, h3⟩ := putAll_spec (meetL a b) [] good_nil (meetF_64 _ a b h64a h64b)
  refine ⟨h1, fun n => ?_, Nat.le_trans h3 ?_⟩
  · show Mem (putAll [] (meetL a b)) n ↔ _
    rw [h2 n, any_mem, meet_mem ha hb]
    exact ⟨fun h => h.resolve_left (mem_nil n), .inr⟩
  · have := meetF_length (a.length + b.length) a b
    show _ + (meetF _ _ _).length ≤ _
    simp only [List.length_nil]; omega
theorem join_spec {a b : List Rn} (h64a : All64 a) (h64b : All64 b) : Good (joinL a b) ∧ (∀ n, Mem (joinL a b) n ↔ Mem a n ∨ Mem b n) ∧ (joinL a b).length ≤ a.length + b.length := by
  obtain ⟨h1, h2, h3⟩ := putAll_spec a [] good_nil h64a
  obtain ⟨k1, k2, k3⟩ := putAll_spec b (putAll [] a) h1 h64b
  refine ⟨k1, fun n => ?_, Nat.le_trans k3 ?_⟩
  · show Mem (putAll (putAll [] a) b) n ↔ _
    rw [k2 n, h2 n, any_mem, any_mem]
    have := mem_nil n
    exact ⟨fun h => h.elim (fun h => h.elim (fun h => absurd h this) .inl) .inr, fun h => h.elim (fun h => .inl (.inr h)) .inr⟩
  · simp only [List.length_nil] at h3; omega

/-- How many of the first numbers have a property. -/
noncomputable def cnt (p : Int → Prop) : Nat → Int
  | 0 => 0
  | n + 1 => cnt p n + (open Classical in if p n then 1 else 0)
theorem cnt_congr {p q : Int → Prop} : ∀ (N : Nat), (∀ n : Nat, n < N → (p n ↔ q n)) → cnt p N = cnt q N
  | 0, _ => rfl
  | N + 1, h => by
    unfold cnt
    rw [cnt_congr N fun n hn => h n (by omega)]
    by_cases hp : p N
    · rw [if_pos hp, if_pos ((h N (by omega)).1 hp)]
    · rw [if_neg hp, if_neg fun hq => hp ((h N (by omega)).2 hq)]
theorem cnt_both (p q : Int → Prop) : ∀ (N : Nat), cnt (fun n => p n ∧ q n) N + cnt (fun n => p n ∨ q n) N = cnt p N + cnt q N
  | 0 => rfl
  | N + 1 => by
    have ih := cnt_both p q N
    unfold cnt
    by_cases hp : p N <;> by_cases hq : q N <;> simp [hp, hq] <;> omega
theorem cnt_none {p : Int → Prop} : ∀ (N : Nat), (∀ n : Nat, n < N → ¬ p n) → cnt p N = 0
  | 0, _ => rfl
  | N + 1, h => by
    unfold cnt
    rw [cnt_none N fun n hn => h n (by omega), if_neg (h N (by omega))]; rfl
theorem cnt_run (f t : Int) (hf : 0 ≤ f) (hft : f ≤ t) : ∀ (N : Nat), cnt (fun n => f ≤ n ∧ n < t) N = if (N : Int) ≤ f then 0 else if (N : Int) ≤ t then N - f else t - f
  | 0 => by rw [if_pos (by simpa using hf)]; rfl
  | N + 1 => by
    have ih := cnt_run f t hf hft N
    unfold cnt
    rw [ih]
    by_cases h : f ≤ (N : Int) ∧ (N : Int) < t
    · rw [if_pos h]
      push_cast
      repeat' split
      all_goals omega
    · rw [if_neg h]
      push_cast
      repeat' split
      all_goals omega
theorem count_cnt : ∀ (l : List Rn), Good l → ∀ N : Nat, (N : Int) = 18446744073709551616 → countL l = cnt (Mem l) N
  | [], _, N, _ => by rw [cnt_none N fun n _ => mem_nil n]; rfl
  | x :: l, h, N, hN => by
    have ih := count_cnt l h.tail N hN
    have h1 := h.head.1
    have e1 : cnt (Mem (x :: l)) N = cnt (fun n => (x.f ≤ n ∧ n < x.t) ∨ Mem l n) N := cnt_congr N fun n _ => mem_cons
    have e2 := cnt_both (fun n => x.f ≤ n ∧ n < x.t) (Mem l) N
    have e3 : cnt (fun n => (x.f ≤ n ∧ n < x.t) ∧ Mem l n) N = 0 := cnt_none N fun n _ hn => by have := h.above hn.2; omega
    have e4 := cnt_run x.f x.t (by omega) (by omega) N
    rw [if_neg (by omega), if_neg (by omega)] at e4
    simp only [countL]
    omega
theorem big : ∃ N : Nat, (N : Int) = 18446744073709551616 := ⟨18446744073709551616, rfl⟩
theorem count_two {a b m j : List Rn} (ha : Good a) (hb : Good b) (hm : Good m) (hj : Good j) (em : ∀ n, Mem m n ↔ Mem a n ∧ Mem b n) (ej : ∀ n, Mem j n ↔ Mem a n ∨ Mem b n) : countL m + countL j = countL a + countL b := by
  obtain ⟨N, hN⟩ := big
  rw [count_cnt a ha N hN, count_cnt b hb N hN, count_cnt m hm N hN, count_cnt j hj N hN, ← cnt_both (Mem a) (Mem b) N, cnt_congr (p := Mem m) (q := fun n => Mem a n ∧ Mem b n) N fun n _ => em n, cnt_congr (p := Mem j) (q := fun n => Mem a n ∨ Mem b n) N fun n _ => ej n]
theorem run_good {r : Rn} (hr : Run64 r) (h : r.f < r.t) : Good [r] := good_cons ⟨(hr.bounds h).1, h, (hr.bounds h).2.2⟩ (by simp) good_nil
/-- A run put in, taken out. -/
theorem put_again {l : List Rn} (h : Good l) {r : Rn} (hr : Run64 r) : putL (putL l r) r = putL l r :=
  good_unique (putL_good (putL_good h hr) hr) (putL_good h hr) fun n _ => by rw [putL_mem (putL_good h hr) hr, putL_mem h hr]; exact ⟨fun h => h.elim id .inr, .inl⟩
end Go.Proofs.Ytaphhmefkfhepaa.Run
