/- The plain law of sets as lists of runs: what putting in and taking out leave, how many, and that a set has one list. -/
import Derived.Test.YtaphhmefkfhepaaRunJ
namespace Go.Proofs.Ytaphhmefkfhepaa.Run
open Go Go.Proofs.Ytaphhmefkfhepaa.L
set_option linter.unusedVariables false
set_option linter.unusedSimpArgs false

/-- A list of runs in normal form. -/
structure Good (l : List Rn) : Prop where
  each : ∀ x ∈ l, 0 ≤ x.f ∧ x.f < x.t ∧ x.t ≤ 18446744073709551615
  apart : l.Pairwise fun a b => a.t < b.f
def Mem (l : List Rn) (n : Int) : Prop := ∃ x ∈ l, x.f ≤ n ∧ n < x.t
theorem mem_nil (n : Int) : ¬ Mem [] n := by rintro ⟨x, h, _⟩; cases h
theorem mem_cons {x : Rn} {l : List Rn} {n : Int} : Mem (x :: l) n ↔ (x.f ≤ n ∧ n < x.t) ∨ Mem l n := by
  constructor
  · rintro ⟨y, h, h2⟩
    rcases List.mem_cons.1 h with rfl | h
    · exact .inl h2
    · exact .inr ⟨y, h, h2⟩
  · rintro (h | ⟨y, h, h2⟩)
    · exact ⟨x, by simp, h⟩
    · exact ⟨y, by simp [h], h2⟩
theorem mem_append {a b : List Rn} {n : Int} : Mem (a ++ b) n ↔ Mem a n ∨ Mem b n := by
  induction a with
  | nil => simp [mem_nil]
  | cons x a ih => rw [List.cons_append, mem_cons, mem_cons, ih, or_assoc]
theorem good_nil : Good [] := ⟨by simp, .nil⟩
theorem Good.tail {x : Rn} {l : List Rn} (h : Good (x :: l)) : Good l := ⟨fun y hy => h.each y (by simp [hy]), (List.pairwise_cons.1 h.apart).2⟩
theorem Good.head {x : Rn} {l : List Rn} (h : Good (x :: l)) : (0 ≤ x.f ∧ x.f < x.t ∧ x.t ≤ 18446744073709551615) ∧ ∀ y ∈ l, x.t < y.f := ⟨h.each x (by simp), (List.pairwise_cons.1 h.apart).1⟩
theorem good_cons {x : Rn} {l : List Rn} (h : 0 ≤ x.f ∧ x.f < x.t ∧ x.t ≤ 18446744073709551615) (k : ∀ y ∈ l, x.t < y.f) (hl : Good l) : Good (x :: l) :=
  ⟨fun y hy => by rcases List.mem_cons.1 hy with rfl | hy; exact h; exact hl.each y hy, List.pairwise_cons.2 ⟨k, hl.apart⟩⟩
theorem good_append {a b : List Rn} : Good (a ++ b) ↔ Good a ∧ Good b ∧ ∀ x ∈ a, ∀ y ∈ b, x.t < y.f := by
  constructor
  · intro h
    have hp := List.pairwise_append.1 h.apart
    exact ⟨⟨fun x hx => h.each x (by simp [hx]), hp.1⟩, ⟨fun x hx => h.each x (by simp [hx]), hp.2.1⟩, hp.2.2⟩
  · rintro ⟨ha, hb, hab⟩
    exact ⟨fun x hx => by rcases List.mem_append.1 hx with h | h; exact ha.each x h; exact hb.each x h, List.pairwise_append.2 ⟨ha.apart, hb.apart, hab⟩⟩

theorem Good.rises {l : List Rn} (h : Good l) : Rises l := by
  intro i j hij a b ha hb
  have hp := List.pairwise_iff_getElem.1 h.apart
  obtain ⟨hi, rfl⟩ := List.getElem?_eq_some_iff.1 ha
  obtain ⟨hj, rfl⟩ := List.getElem?_eq_some_iff.1 hb
  have h1 := hp i j hi hj hij
  have h2 := h.each _ (List.getElem_mem hj)
  omega

theorem count_bound {l : List Rn} (h : Good l) : 0 ≤ countL l ∧ ∀ B, 0 ≤ B → (∀ x ∈ l, B ≤ x.f) → B + countL l ≤ 18446744073709551615 ∨ l = [] := by
  induction l with
  | nil => simp [countL]
  | cons x l ih =>
    obtain ⟨h0, h1⟩ := h.head
    obtain ⟨i1, i2⟩ := ih h.tail
    refine ⟨by simp only [countL]; omega, fun B hB hx => .inl ?_⟩
    have hxB := hx x (by simp)
    rcases i2 x.t (by omega) (fun y hy => by have := h1 y hy; omega) with h2 | rfl
    · simp only [countL]; omega
    · simp only [countL]; omega
theorem Good.count {l : List Rn} (h : Good l) : 0 ≤ countL l ∧ countL l ≤ 18446744073709551615 := by
  obtain ⟨h1, h2⟩ := count_bound h
  refine ⟨h1, ?_⟩
  rcases h2 0 (by omega) (fun x hx => (h.each x hx).1) with h | rfl
  · omega
  · simp [countL]
theorem Good.wu_count {l : List Rn} (h : Good l) : wu (countL l) = countL l := wu_id h.count.1 h.count.2

theorem count_within {l : List Rn} (h : Good l) (A B : Int) (hAB : A ≤ B) (hx : ∀ x ∈ l, A ≤ x.f ∧ x.t ≤ B) : countL l ≤ B - A := by
  induction l generalizing A with
  | nil => simp [countL]; omega
  | cons x l ih =>
    have h1 := hx x (by simp)
    have h2 := ih h.tail x.t (by omega) fun y hy => ⟨by have := h.head.2 y hy; omega, (hx y (by simp [hy])).2⟩
    simp only [countL]
    omega

/-- Where the search comes to. -/
theorem place_split {l : List Rn} (h : Good l) (n : Int) : (∀ x ∈ l.take (place l n), x.t < n) ∧ (∀ x ∈ l.drop (place l n), n ≤ x.t) := by
  induction l with
  | nil => simp
  | cons x l ih =>
    by_cases hx : x.t < n
    · have e : place (x :: l) n = place l n + 1 := by unfold place; rw [List.takeWhile_cons, if_pos (by simpa using hx)]; rfl
      rw [e]
      obtain ⟨i1, i2⟩ := ih h.tail
      refine ⟨fun y hy => ?_, fun y hy => i2 y hy⟩
      rw [List.take_succ_cons] at hy
      rcases List.mem_cons.1 hy with rfl | hy
      · exact hx
      · exact i1 y hy
    · have e : place (x :: l) n = 0 := by unfold place; rw [List.takeWhile_cons, if_neg (by simpa using hx)]; rfl
      rw [e]
      refine ⟨by simp, fun y hy => ?_⟩
      rcases List.mem_cons.1 hy with rfl | hy
      · omega
      · have := h.head.2 y hy; have := h.tail.each y hy; omega

theorem place_zero {x : Rn} {l : List Rn} {n : Int} (h : n ≤ x.t) : place (x :: l) n = 0 := by unfold place; rw [List.takeWhile_cons, if_neg (by simp; omega)]; rfl
theorem place_succ {x : Rn} {l : List Rn} {n : Int} (h : x.t < n) : place (x :: l) n = place l n + 1 := by unfold place; rw [List.takeWhile_cons, if_pos (by simpa using h)]; rfl

/-- What find finds. -/
theorem findR_eq {l : List Rn} (h : Good l) (n : Int) : findR l n = l.find? fun x => decide (n < x.t) := by
  induction l with
  | nil => rfl
  | cons x l ih =>
    by_cases hx : x.t < n
    · rw [List.find?_cons_of_neg (by simp; omega), ← ih h.tail]
      unfold findR
      rw [place_succ hx]
      have e : found (x :: l) n (place l n + 1) = found l n (place l n) := rfl
      rw [e]
      simp only [List.getElem?_cons_succ]
    · by_cases hn : x.t = n
      · rw [List.find?_cons_of_neg (by simp; omega)]
        unfold findR
        rw [place_zero (by omega)]
        simp only [found, List.getElem?_cons_zero, hn, decide_true, if_true, Nat.zero_add, List.getElem?_cons_succ]
        cases l with
        | nil => rfl
        | cons y l =>
          have := h.head.2 y (by simp)
          have := h.tail.head.1
          rw [List.getElem?_cons_zero, List.find?_cons_of_pos (by simp; omega)]
      · rw [List.find?_cons_of_pos (by simp; omega)]
        unfold findR
        rw [place_zero (by omega)]
        simp [found, hn]

theorem has_iff {l : List Rn} (h : Good l) (n : Int) : hasO (findR l n) n = true ↔ Mem l n := by
  rw [findR_eq h]
  induction l with
  | nil => simp [hasO, mem_nil]
  | cons x l ih =>
    rw [mem_cons]
    by_cases hx : n < x.t
    · rw [List.find?_cons_of_pos (by simpa using hx)]
      simp only [hasO, decide_eq_true_iff]
      constructor
      · intro h1; exact .inl ⟨h1, hx⟩
      · rintro (h1 | ⟨y, hy, h1, h2⟩)
        · exact h1.1
        · have := h.head.2 y hy; have := h.head.1; omega
    · rw [List.find?_cons_of_neg (by simpa using hx), ih h.tail]
      constructor
      · exact .inr
      · rintro (h1 | h1)
        · omega
        · exact h1

/-- One list for each set. -/
theorem good_unique {l l' : List Rn} (h : Good l) (h' : Good l') (hm : ∀ n, 0 ≤ n → (Mem l n ↔ Mem l' n)) : l = l' := by
  induction l generalizing l' with
  | nil =>
    cases l' with
    | nil => rfl
    | cons y l' =>
      obtain ⟨h0, h1⟩ := h'.head
      exact absurd ((hm y.f h0.1).2 (mem_cons.2 (.inl ⟨by omega, by omega⟩))) (mem_nil _)
  | cons x l ih =>
    cases l' with
    | nil =>
      obtain ⟨h0, h1⟩ := h.head
      exact absurd ((hm x.f h0.1).1 (mem_cons.2 (.inl ⟨by omega, by omega⟩))) (mem_nil _)
    | cons y l' =>
      obtain ⟨a0, a1⟩ := h.head
      obtain ⟨b0, b1⟩ := h'.head
      have hf : x.f = y.f := by
        have e1 : y.f ≤ x.f := by
          rcases mem_cons.1 ((hm x.f a0.1).1 (mem_cons.2 (.inl ⟨by omega, by omega⟩))) with h1 | ⟨z, hz, h1, h2⟩
          · omega
          · have := b1 z hz; omega
        have e2 : x.f ≤ y.f := by
          rcases mem_cons.1 ((hm y.f b0.1).2 (mem_cons.2 (.inl ⟨by omega, by omega⟩))) with h1 | ⟨z, hz, h1, h2⟩
          · omega
          · have := a1 z hz; omega
        omega
      have ht : x.t = y.t := by
        rcases Int.lt_trichotomy x.t y.t with hlt | heq | hgt
        · rcases mem_cons.1 ((hm x.t (by omega)).2 (mem_cons.2 (.inl ⟨by omega, by omega⟩))) with h1 | ⟨z, hz, h1, h2⟩
          · omega
          · have := a1 z hz; omega
        · exact heq
        · rcases mem_cons.1 ((hm y.t (by omega)).1 (mem_cons.2 (.inl ⟨by omega, by omega⟩))) with h1 | ⟨z, hz, h1, h2⟩
          · omega
          · have := b1 z hz; omega
      have hxy : x = y := by cases x; cases y; simp_all
      subst hxy
      congr 1
      refine ih h.tail h'.tail fun n hn => ?_
      have := hm n hn
      rw [mem_cons, mem_cons] at this
      constructor
      · rintro ⟨z, hz, h1, h2⟩
        rcases this.1 (.inr ⟨z, hz, h1, h2⟩) with h3 | h3
        · have := a1 z hz; omega
        · exact h3
      · rintro ⟨z, hz, h1, h2⟩
        rcases this.2 (.inr ⟨z, hz, h1, h2⟩) with h3 | h3
        · have := b1 z hz; omega
        · exact h3
theorem wu_sub {a b x : Int} (h : wu a = wu b) : wu (x - a) = wu (x - b) := by unfold wu at *; omega
theorem wu_wu1 (x : Int) : wu (wu x) = wu x := by unfold wu; omega
theorem wu_subl (x a : Int) : wu (wu x - a) = wu (x - a) := by unfold wu; omega

theorem absorb_spec (r : Rn) (hr : 0 ≤ r.f ∧ r.f < r.t ∧ r.t ≤ 18446744073709551615) : ∀ (L : List Rn), Good L → (∀ x ∈ L, r.f ≤ x.t) → ∀ (a : Rn) (q : Int) (k : Nat), r.t ≤ a.t → a.f ≤ r.f → 0 ≤ a.f → a.t ≤ 18446744073709551615 →
    (a.t = r.t ∨ ∀ x ∈ L, a.t < x.f) → (a.f = r.f ∨ ∀ x ∈ L, r.f ≤ x.f) →
    ∃ a' q' m, absorb r L (a, q, k) = (a', q', k + m) ∧ m ≤ L.length ∧ 0 ≤ a'.f ∧ a'.f < a'.t ∧ a'.t ≤ 18446744073709551615 ∧ (∀ y ∈ L.drop m, a'.t < y.f) ∧ (∀ b, b < a.f → (∀ x ∈ L, b < x.f) → b < a'.f) ∧
      (∀ n, (a'.f ≤ n ∧ n < a'.t) ↔ (a.f ≤ n ∧ n < a.t) ∨ Mem (L.take m) n) ∧ wu q' = wu (q + (countL (L.take m) - ((a'.t - a'.f) - (a.t - a.f)))) := by
  intro L
  induction L with
  | nil =>
    intro _ _ a q k h1 h2 h3 h4 _ _
    exact ⟨a, q, 0, rfl, Nat.le_refl _, h3, by omega, h4, by simp, fun b hb _ => hb, fun n => by simp [mem_nil], by simp [countL]⟩
  | cons x L ih =>
    intro hg hx a q k h1 h2 h3 h4 h5 h6
    obtain ⟨g0, g1⟩ := hg.head
    have hxr := hx x (by simp)
    by_cases hgo : x.f ≤ r.t
    · have hat : a.t = r.t := by
        rcases h5 with h | h
        · exact h
        · have := h x (by simp); omega
      have e1 : (Rn.mk (mn a.f x.f) (mx a.t x.t)).f = mn a.f x.f := rfl
      have e2 : (Rn.mk (mn a.f x.f) (mx a.t x.t)).t = mx a.t x.t := rfl
      have m1 : mn a.f x.f = min a.f x.f := mn_min _ _
      have m2 : mx a.t x.t = max a.t x.t := mx_max _ _
      obtain ⟨a', q', m, he, hm, f1, f2, f3, f4, f5, f6, f7⟩ := ih hg.tail (fun y hy => by have := g1 y hy; have := hg.tail.each y hy; omega) ⟨mn a.f x.f, mx a.t x.t⟩ (wu (q + wu (ovl r x))) (k + 1)
        (by rw [e2, m2]; omega) (by rw [e1, m1]; omega) (by rw [e1, m1]; omega) (by rw [e2, m2]; omega)
        (by rw [e2, m2]
            by_cases hxt : x.t ≤ a.t
            · left; omega
            · right; intro y hy; have := g1 y hy; omega)
        (by right; intro y hy; have := g1 y hy; omega)
      refine ⟨a', q', m + 1, ?_, by simp; omega, f1, f2, f3, ?_, ?_, ?_, ?_⟩
      · rw [absorb, if_pos hgo, he]; congr 2; omega
      · intro y hy; exact f4 y (by simpa using hy)
      · intro b hb hbx
        refine f5 b ?_ fun y hy => hbx y (by simp [hy])
        have := hbx x (by simp)
        rw [e1, m1]; omega
      · intro n
        rw [f6, List.take_succ_cons, mem_cons, e1, e2, m1, m2]
        constructor
        · rintro (⟨h, h'⟩ | h)
          · by_cases hn : a.f ≤ n ∧ n < a.t
            · exact .inl hn
            · right; left; omega
          · exact .inr (.inr h)
        · rintro (h | h | h)
          · left; omega
          · left; omega
          · exact .inr h
      · rw [f7, List.take_succ_cons]
        simp only [countL]
        have ho : ovl r x = (x.t - x.f) - ((mx a.t x.t - mn a.f x.f) - (a.t - a.f)) := by
          unfold ovl
          rw [mn_min, mn_min, mx_max, mx_max, mn_min]
          rcases h6 with h | h
          · omega
          · have := h x (by simp); omega
        rw [ho]
        unfold wu; omega
    · refine ⟨a, q, 0, by rw [absorb, if_neg hgo]; rfl, Nat.zero_le _, h3, by omega, h4, ?_, fun b hb _ => hb, fun n => by simp [mem_nil], by simp [countL]⟩
      intro y hy
      rcases h5 with h | h
      · rw [List.drop_zero] at hy
        rcases List.mem_cons.1 hy with rfl | hy
        · omega
        · have := g1 y hy; omega
      · exact h y (by simpa using hy)

/-- What Add leaves, and answers. -/
theorem add_spec {l : List Rn} (h : Good l) {r : Rn} (hr : 0 ≤ r.f ∧ r.f < r.t ∧ r.t ≤ 18446744073709551615) :
    Good (addL l r) ∧ (∀ n, Mem (addL l r) n ↔ Mem l n ∨ (r.f ≤ n ∧ n < r.t)) ∧ wu (wu (r.t - r.f) - (addS l r).2.1) = countL (addL l r) - countL l ∧ (addL l r).length ≤ l.length + 1 := by
  obtain ⟨p1, p2⟩ := place_split h r.f
  have hd : Good (l.drop (place l r.f)) := (good_append.1 (by rw [List.take_append_drop]; exact h)).2.1
  have ht : Good (l.take (place l r.f)) := (good_append.1 (by rw [List.take_append_drop]; exact h)).1
  have htd : ∀ x ∈ l.take (place l r.f), ∀ y ∈ l.drop (place l r.f), x.t < y.f := (good_append.1 (by rw [List.take_append_drop]; exact h)).2.2
  obtain ⟨a', q', m, he, hm, f1, f2, f3, f4, f5, f6, f7⟩ := absorb_spec r hr _ hd p2 r 0 (place l r.f) (Int.le_refl _) (Int.le_refl _) hr.1 hr.2.2 (.inl rfl) (.inl rfl)
  have es : addS l r = (a', q', place l r.f + m) := he
  have el : addL l r = l.take (place l r.f) ++ [a'] ++ (l.drop (place l r.f)).drop m := by unfold addL; rw [es]; simp [List.drop_drop]
  obtain ⟨L1, L2, hl, hL1, hL2⟩ : ∃ L1 L2, l = L1 ++ L2 ∧ l.take (place l r.f) = L1 ∧ l.drop (place l r.f) = L2 := ⟨_, _, (List.take_append_drop _ _).symm, rfl, rfl⟩
  rw [hL1] at p1 ht htd el
  rw [hL2] at p2 hd htd hm f4 f5 f6 f7 el
  have h2 : L2 = L2.take m ++ L2.drop m := (List.take_append_drop _ _).symm
  have hdd : Good (L2.drop m) := (good_append.1 (by rw [← h2]; exact hd)).2.1
  have hsub : ∀ y ∈ L2.drop m, y ∈ L2 := fun y hy => List.mem_of_mem_drop hy
  have hG : Good (L1 ++ [a'] ++ L2.drop m) := by
    rw [List.append_assoc]
    refine good_append.2 ⟨ht, ?_, fun x hx y hy => ?_⟩
    · exact good_cons ⟨f1, f2, f3⟩ f4 hdd
    · rcases List.mem_cons.1 hy with rfl | hy
      · exact f5 x.t (p1 x hx) fun z hz => htd x hx z hz
      · exact htd x hx y (hsub y hy)
  have hM : ∀ n, Mem (L1 ++ [a'] ++ L2.drop m) n ↔ Mem l n ∨ (r.f ≤ n ∧ n < r.t) := by
    intro n
    have e : Mem L2 n ↔ Mem (L2.take m) n ∨ Mem (L2.drop m) n := by conv => lhs; rw [h2]
                                                                    exact mem_append
    rw [hl, mem_append, mem_append, mem_append, e, mem_cons, f6]
    simp only [mem_nil, or_false]
    constructor
    · rintro ((a | b | c) | d)
      · exact .inl (.inl a)
      · exact .inr b
      · exact .inl (.inr (.inl c))
      · exact .inl (.inr (.inr d))
    · rintro ((a | c | d) | b)
      · exact .inl (.inl a)
      · exact .inl (.inr (.inr c))
      · exact .inr d
      · exact .inl (.inr (.inl b))
  refine ⟨by rw [el]; exact hG, fun n => by rw [el]; exact hM n, ?_, by rw [el]; simp [hl]; omega⟩
  rw [es, el, wu_subl, wu_sub f7]
  have c1 : countL l = countL L1 + (countL (L2.take m) + countL (L2.drop m)) := by rw [hl, countL_append, ← countL_append (L2.take m), List.take_append_drop]
  have c2 : countL (L1 ++ [a'] ++ L2.drop m) = countL L1 + (a'.t - a'.f) + countL (L2.drop m) := by rw [countL_append, countL_append]; simp [countL]
  have c3 : r.t - r.f - (0 + (countL (L2.take m) - (a'.t - a'.f - (r.t - r.f)))) = countL (L1 ++ [a'] ++ L2.drop m) - countL l := by rw [c1, c2]; omega
  rw [c3]
  have b1 := hG.count
  have b2 := h.count
  refine wu_id ?_ (by omega)
  rw [c1, c2]
  have ht2 : Good (L2.take m) := (good_append.1 (by rw [← h2]; exact hd)).1
  have := count_within ht2 a'.f a'.t (by omega) fun x hx => by
    have hx2 := ht2.each x hx
    have i1 := (f6 x.f).2 (.inr ⟨x, hx, by omega, by omega⟩)
    have i2 := (f6 (x.t - 1)).2 (.inr ⟨x, hx, by omega, by omega⟩)
    omega
  omega

theorem pieces_mem (r x : Rn) (hr : r.f < r.t) (n : Int) : Mem ((pieces r x).filter full) n ↔ (x.f ≤ n ∧ n < x.t) ∧ ¬ (r.f ≤ n ∧ n < r.t) := by
  unfold Mem
  simp only [List.mem_filter, pieces, List.mem_cons, List.mem_nil_iff, or_false, full, decide_eq_true_iff]
  constructor
  · rintro ⟨y, ⟨rfl | rfl, h⟩, h1, h2⟩
    · have e := mn_min x.t r.f
      dsimp only at h h1 h2; omega
    · have e := mx_max x.f r.t
      dsimp only at h h1 h2; omega
  · rintro ⟨⟨h1, h2⟩, h3⟩
    by_cases h4 : n < r.f
    · exact ⟨⟨x.f, mn x.t r.f⟩, ⟨.inl rfl, by simp only [mn_min]; omega⟩, h1, by simp only [mn_min]; omega⟩
    · exact ⟨⟨mx x.f r.t, x.t⟩, ⟨.inr rfl, by simp only [mx_max]; omega⟩, by simp only [mx_max]; omega, h2⟩
theorem pieces_good (r x : Rn) (hr : 0 ≤ r.f ∧ r.f < r.t) (hx : 0 ≤ x.f ∧ x.f < x.t ∧ x.t ≤ 18446744073709551615) :
    Good ((pieces r x).filter full) ∧ (∀ y ∈ (pieces r x).filter full, x.f ≤ y.f ∧ y.t ≤ x.t) ∧ countL ((pieces r x).filter full) = (x.t - x.f) - (if (bothR r x).t ≤ (bothR r x).f then 0 else (bothR r x).t - (bothR r x).f) := by
  have e1 : mn x.t r.f = min x.t r.f := mn_min _ _
  have e2 : mx x.f r.t = max x.f r.t := mx_max _ _
  have e3 : (bothR r x).t = min x.t r.t := mn_min _ _
  have e4 : (bothR r x).f = max x.f r.f := mx_max _ _
  rw [e3, e4]
  unfold pieces
  by_cases h1 : x.f < mn x.t r.f
  · by_cases h2 : mx x.f r.t < x.t
    · rw [List.filter_cons_of_pos (by simpa [full] using h1), List.filter_cons_of_pos (by simpa [full] using h2), List.filter_nil]
      refine ⟨good_cons ⟨hx.1, h1, by simp only; omega⟩ (by intro y hy; simp at hy; subst hy; simp only; omega) (good_cons ⟨by simp only; omega, h2, hx.2.2⟩ (by simp) good_nil), ?_, ?_⟩
      · intro y hy; simp at hy; rcases hy with rfl | rfl <;> simp only <;> omega
      · simp only [countL]; split <;> omega
    · rw [List.filter_cons_of_pos (by simpa [full] using h1), List.filter_cons_of_neg (by simpa [full] using h2), List.filter_nil]
      refine ⟨good_cons ⟨hx.1, h1, by simp only; omega⟩ (by simp) good_nil, ?_, ?_⟩
      · intro y hy; simp at hy; subst hy; simp only; omega
      · simp only [countL]; split <;> omega
  · by_cases h2 : mx x.f r.t < x.t
    · rw [List.filter_cons_of_neg (by simpa [full] using h1), List.filter_cons_of_pos (by simpa [full] using h2), List.filter_nil]
      refine ⟨good_cons ⟨by simp only; omega, h2, hx.2.2⟩ (by simp) good_nil, ?_, ?_⟩
      · intro y hy; simp at hy; subst hy; simp only; omega
      · simp only [countL]; split <;> omega
    · rw [List.filter_cons_of_neg (by simpa [full] using h1), List.filter_cons_of_neg (by simpa [full] using h2), List.filter_nil]
      refine ⟨good_nil, by simp, ?_⟩
      simp only [countL]; split <;> omega

theorem shed_spec (r : Rn) (hr : 0 ≤ r.f ∧ r.f < r.t) : ∀ (L : List Rn), Good L → ∀ (g : Int) (lf : List Rn) (k : Nat),
    ∃ g' L' m, shed r L (g, lf, k) = (g', lf ++ L', k + m) ∧ m ≤ L.length ∧ L'.length ≤ 2 * m ∧ Good L' ∧ (∀ y ∈ L', ∃ x ∈ L.take m, x.f ≤ y.f ∧ y.t ≤ x.t) ∧ (∀ n, Mem L' n ↔ Mem (L.take m) n ∧ ¬ (r.f ≤ n ∧ n < r.t)) ∧ (∀ x ∈ L.drop m, r.t ≤ x.f) ∧
      wu g' = wu (g + (countL (L.take m) - countL L')) ∧ (wu g = g → wu g' = g') ∧ countL L' ≤ countL (L.take m) := by
  intro L
  induction L with
  | nil =>
    intro _ g lf k
    exact ⟨g, [], 0, by simp [shed], Nat.le_refl _, by simp, good_nil, by simp, fun n => by simp [mem_nil], by simp, by simp [countL], fun h => h, by simp [countL]⟩
  | cons x L ih =>
    intro hg g lf k
    obtain ⟨g0, g1⟩ := hg.head
    obtain ⟨q1, q2, q3⟩ := pieces_good r x hr g0
    by_cases hgo : x.f < r.t
    · obtain ⟨g', L', m, he, hm, hl2, f1, f2, f3, f4, f5, f6, f7⟩ := ih hg.tail (if (bothR r x).t ≤ (bothR r x).f then g else wu (g + wu ((bothR r x).t - (bothR r x).f))) (lf ++ (pieces r x).filter full) (k + 1)
      have hf2 : ((pieces r x).filter full).length ≤ 2 := List.length_filter_le _ _
      refine ⟨g', (pieces r x).filter full ++ L', m + 1, ?_, by simp; omega, by simp; omega, ?_, ?_, ?_, ?_, ?_, ?_, ?_⟩
      · rw [shed, if_pos hgo, he, List.append_assoc]; congr 2; omega
      · refine good_append.2 ⟨q1, f1, fun y hy z hz => ?_⟩
        obtain ⟨u, hu, h1, h2⟩ := f2 z hz
        have := (q2 y hy).2
        have := g1 u (List.mem_of_mem_take hu)
        omega
      · intro y hy
        rw [List.take_succ_cons]
        rcases List.mem_append.1 hy with hy | hy
        · exact ⟨x, by simp, q2 y hy⟩
        · obtain ⟨u, hu, h⟩ := f2 y hy
          exact ⟨u, by simp [hu], h⟩
      · intro n
        rw [mem_append, List.take_succ_cons, mem_cons, pieces_mem r x hr.2, f3]
        constructor
        · rintro (⟨a, b⟩ | ⟨a, b⟩)
          · exact ⟨.inl a, b⟩
          · exact ⟨.inr a, b⟩
        · rintro ⟨a | a, b⟩
          · exact .inl ⟨a, b⟩
          · exact .inr ⟨a, b⟩
      · intro y hy; exact f4 y (by simpa using hy)
      · rw [f5, List.take_succ_cons, countL_append, q3]
        simp only [countL]
        split
        · congr 1; omega
        · unfold wu; omega
      · intro hg1
        refine f6 ?_
        split
        · exact hg1
        · exact wu_wu1 _
      · rw [List.take_succ_cons, countL_append, q3]
        simp only [countL]
        split <;> omega
    · refine ⟨g, [], 0, by rw [shed, if_neg hgo]; simp, Nat.zero_le _, by simp, good_nil, by simp, fun n => by simp [mem_nil], ?_, by simp [countL], fun h => h, by simp [countL]⟩
      intro y hy
      rw [List.drop_zero] at hy
      rcases List.mem_cons.1 hy with rfl | hy
      · omega
      · have := g1 y hy; omega

/-- What Drop leaves, and answers. -/
theorem drop_spec {l : List Rn} (h : Good l) {r : Rn} (hr : 0 ≤ r.f ∧ r.f < r.t) :
    Good (dropL l r) ∧ (∀ n, Mem (dropL l r) n ↔ Mem l n ∧ ¬ (r.f ≤ n ∧ n < r.t)) ∧ (dropS l r).1 = countL l - countL (dropL l r) ∧ (dropL l r).length ≤ 2 * l.length := by
  obtain ⟨p1, p2⟩ := place_split h r.f
  have hd : Good (l.drop (place l r.f)) := (good_append.1 (by rw [List.take_append_drop]; exact h)).2.1
  have ht : Good (l.take (place l r.f)) := (good_append.1 (by rw [List.take_append_drop]; exact h)).1
  have htd : ∀ x ∈ l.take (place l r.f), ∀ y ∈ l.drop (place l r.f), x.t < y.f := (good_append.1 (by rw [List.take_append_drop]; exact h)).2.2
  obtain ⟨g', L', m, he, hm, hl2, f1, f2, f3, f4, f5, f6, f7⟩ := shed_spec r hr _ hd 0 [] (place l r.f)
  have es : dropS l r = (g', L', place l r.f + m) := he
  have el : dropL l r = l.take (place l r.f) ++ L' ++ (l.drop (place l r.f)).drop m := by unfold dropL; rw [es]; simp [List.drop_drop]
  obtain ⟨L1, L2, hl, hL1, hL2⟩ : ∃ L1 L2, l = L1 ++ L2 ∧ l.take (place l r.f) = L1 ∧ l.drop (place l r.f) = L2 := ⟨_, _, (List.take_append_drop _ _).symm, rfl, rfl⟩
  rw [hL1] at p1 ht htd el
  rw [hL2] at p2 hd htd hm f2 f3 f4 f5 f7 el
  have h2 : L2 = L2.take m ++ L2.drop m := (List.take_append_drop _ _).symm
  have hg2 := good_append.1 (show Good (L2.take m ++ L2.drop m) by rw [← h2]; exact hd)
  have hsub : ∀ y ∈ L2.drop m, y ∈ L2 := fun y hy => List.mem_of_mem_drop hy
  have hG : Good (L1 ++ L' ++ L2.drop m) := by
    rw [List.append_assoc]
    refine good_append.2 ⟨ht, good_append.2 ⟨f1, hg2.2.1, fun x hx y hy => ?_⟩, fun x hx y hy => ?_⟩
    · obtain ⟨u, hu, h3, h4⟩ := f2 x hx
      have := hg2.2.2 u hu y hy
      omega
    · rcases List.mem_append.1 hy with hy | hy
      · obtain ⟨u, hu, h3, h4⟩ := f2 y hy
        have := htd x hx u (List.mem_of_mem_take hu)
        omega
      · exact htd x hx y (hsub y hy)
  have hM : ∀ n, Mem (L1 ++ L' ++ L2.drop m) n ↔ Mem l n ∧ ¬ (r.f ≤ n ∧ n < r.t) := by
    intro n
    have e : Mem L2 n ↔ Mem (L2.take m) n ∨ Mem (L2.drop m) n := by conv => lhs; rw [h2]
                                                                    exact mem_append
    rw [hl, mem_append, mem_append, mem_append, e, f3]
    constructor
    · rintro ((⟨z, hz, a, b⟩ | b) | ⟨z, hz, a, b⟩)
      · have := p1 z hz; exact ⟨.inl ⟨z, hz, a, b⟩, by omega⟩
      · exact ⟨.inr (.inl b.1), b.2⟩
      · have := f4 z hz; exact ⟨.inr (.inr ⟨z, hz, a, b⟩), by omega⟩
    · rintro ⟨a | a | a, b⟩
      · exact .inl (.inl a)
      · exact .inl (.inr ⟨a, b⟩)
      · exact .inr a
  refine ⟨by rw [el]; exact hG, fun n => by rw [el]; exact hM n, ?_, ?_⟩
  · rw [es, el]
    show g' = _
    rw [← f6 (by simp [wu]), f5]
    have c1 : countL l = countL L1 + (countL (L2.take m) + countL (L2.drop m)) := by rw [hl, countL_append, ← countL_append (L2.take m), List.take_append_drop]
    have c2 : countL (L1 ++ L' ++ L2.drop m) = countL L1 + countL L' + countL (L2.drop m) := by rw [countL_append, countL_append]
    have b1 := hG.count
    have b2 := h.count
    have b3 := hg2.1.count
    have b4 := f1.count
    have hge : countL L' ≤ countL (L2.take m) := f7
    rw [c1, c2]
    rw [c1] at b2
    rw [c2] at b1
    have e : (0 : Int) + (countL (L2.take m) - countL L') = countL L1 + (countL (L2.take m) + countL (L2.drop m)) - (countL L1 + countL L' + countL (L2.drop m)) := by omega
    rw [e]
    exact wu_id (by omega) (by omega)
  · rw [el]
    have : (L2.drop m).length = L2.length - m := List.length_drop
    rw [hl]; simp; omega
theorem shed_len1 (r : Rn) (hr : r.f < r.t) : ∀ (L : List Rn), (∀ x ∈ L, r.f ≤ x.f) → ∀ (g : Int) (lf : List Rn) (k : Nat), (shed r L (g, lf, k)).2.1.length + k ≤ lf.length + (shed r L (g, lf, k)).2.2 := by
  intro L
  induction L with
  | nil => intro _ g lf k; simp [shed]
  | cons x L ih =>
    intro hx g lf k
    by_cases hgo : x.f < r.t
    · rw [shed, if_pos hgo]
      have h1 : full ⟨x.f, mn x.t r.f⟩ = false := by
        have := hx x (by simp)
        have e := mn_min x.t r.f
        simp only [full, decide_eq_false_iff_not]; omega
      have h2 : ((pieces r x).filter full).length ≤ 1 := by
        unfold pieces
        rw [List.filter_cons_of_neg (by simp [h1])]
        exact List.length_filter_le _ _
      have := ih (fun y hy => hx y (by simp [hy])) (if (bothR r x).t ≤ (bothR r x).f then g else wu (g + wu ((bothR r x).t - (bothR r x).f))) (lf ++ (pieces r x).filter full) (k + 1)
      rw [List.length_append] at this
      omega
    · rw [shed, if_neg hgo]
      simp
theorem shed_len2 (r : Rn) (hr : r.f < r.t) : ∀ (L : List Rn), Good L → (∀ x ∈ L, r.f ≤ x.t) → ∀ (g : Int) (lf : List Rn) (k : Nat), (shed r L (g, lf, k)).2.1.length + k ≤ lf.length + (shed r L (g, lf, k)).2.2 + 1 := by
  intro L hg hx g lf k
  cases L with
  | nil => simp [shed]
  | cons x L =>
    by_cases hgo : x.f < r.t
    · rw [shed, if_pos hgo]
      have h2 : ((pieces r x).filter full).length ≤ 2 := List.length_filter_le _ _
      have := shed_len1 r hr L (fun y hy => by have := hg.head.2 y hy; have := hx x (by simp); omega) (if (bothR r x).t ≤ (bothR r x).f then g else wu (g + wu ((bothR r x).t - (bothR r x).f))) (lf ++ (pieces r x).filter full) (k + 1)
      rw [List.length_append] at this
      omega
    · rw [shed, if_neg hgo]
      simp
theorem dropL_length {l : List Rn} (h : Good l) {r : Rn} (hr : r.f < r.t) : (dropL l r).length ≤ l.length + 1 := by
  have hd : Good (l.drop (place l r.f)) := (good_append.1 (by rw [List.take_append_drop]; exact h)).2.1
  have h1 := shed_len2 r hr _ hd (place_split h r.f).2 0 [] (place l r.f)
  have h2 := (shed_le r (l.drop (place l r.f)) (0, [], place l r.f)).2.1
  have h3 := place_le l r.f
  simp only [dropL, dropS, List.length_append, List.length_take, List.length_drop, List.length_nil] at *
  omega
end Go.Proofs.Ytaphhmefkfhepaa.Run
