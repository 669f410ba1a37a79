/- The statement RunsNext: the walk. -/
import Derived.Test.YtaphhmefkfhepaaRunM
import Derived.Test.YtaphhmefkfhepaaLibH
namespace Go.Proofs.Ytaphhmefkfhepaa.Run
open Go Go.RowKit Go.Proofs.Ytaphhmefkfhepaa.L
set_option linter.unusedVariables false
set_option linter.unusedSimpArgs false

theorem skeep2 {w w1 w2 : World} {b o1 o2 : Nat} {x y : Value} (h : w1.cell? ⟨b, o1, none⟩ = some x ∧ w1.cell? ⟨b, o2, none⟩ = some y ∧ Keeps (fun _ => False) w w1 ∧ b < w1.heap.size) (hk : Keeps (fun _ => False) w1 w2) :
    w2.cell? ⟨b, o1, none⟩ = some x ∧ w2.cell? ⟨b, o2, none⟩ = some y ∧ Keeps (fun _ => False) w w2 ∧ b < w2.heap.size :=
  ⟨(kcell hk _ _ h.2.2.2 fun h => h).trans h.1, (kcell hk _ _ h.2.2.2 fun h => h).trans h.2.1, h.2.2.1.step hk, by have := hk.size; have := h.2.2.2; omega⟩

/-- The place that the walk is at, ahead of run i. -/
def atL (l : List Rn) : Nat → Int
  | 0 => 0
  | i + 1 => match l[i]? with | some r => r.t | none => 0
theorem find_on {l : List Rn} (h : Good l) (i : Nat) (hi : i ≤ l.length) : findR l (atL l i) = l[i]? ∧ ∀ x, l[i]? = some x → atL l i ≤ x.f := by
  rw [findR_eq h]
  have key : (∀ x ∈ l.take i, x.t ≤ atL l i) ∧ (∀ x ∈ l.drop i, atL l i ≤ x.f) := by
    cases i with
    | zero => exact ⟨by simp, fun x hx => (h.each x (by simpa using hx)).1⟩
    | succ i =>
      have hlt : i < l.length := hi
      have e : atL l (i + 1) = l[i].t := by show (match l[i]? with | some r => r.t | none => 0) = _; rw [List.getElem?_eq_getElem hlt]
      rw [e]
      have hl : l = l.take i ++ (l[i] :: l.drop (i + 1)) := by rw [← List.drop_eq_getElem_cons hlt, List.take_append_drop]
      have hg := h
      rw [hl] at hg
      obtain ⟨g1, g2, g3⟩ := good_append.1 hg
      refine ⟨fun x hx => ?_, fun x hx => ?_⟩
      · rw [List.take_add_one, List.getElem?_eq_getElem hlt] at hx
        rcases List.mem_append.1 hx with hx | hx
        · have := g3 x hx l[i] (List.mem_cons_self ..)
          have := g2.head.1
          omega
        · simp at hx; subst hx; exact Int.le_refl _
      · have := g2.head.2 x hx
        omega
  have e1 : l.find? (fun x => decide (atL l i < x.t)) = l[i]? := by
    rw [← List.take_append_drop i l, List.find?_append, List.find?_eq_none.2 (by intro x hx; have := key.1 x hx; simp; omega)]
    rw [List.take_append_drop]
    show List.find? _ (l.drop i) = _
    cases hd : l.drop i with
    | nil => simp; exact List.drop_eq_nil_iff.1 hd
    | cons x rest =>
      have hx : x ∈ l.drop i := by rw [hd]; simp
      have h1 := key.2 x hx
      have h2 := h.each x (List.mem_of_mem_drop hx)
      rw [List.find?_cons_of_pos (by simp; omega)]
      have : (l.drop i)[0]? = some x := by rw [hd]; rfl
      rw [List.getElem?_drop] at this
      exact this.symm
  refine ⟨e1, fun x hx => key.2 x ?_⟩
  have : (l.drop i)[0]? = some x := by rw [List.getElem?_drop]; exact hx
  exact List.mem_of_getElem? this
theorem find_run {l : List Rn} (h : Good l) {i : Nat} {x : Rn} (hx : l[i]? = some x) : findR l x.f = some x := by
  have hlt := (List.getElem?_eq_some_iff.1 hx).1
  obtain ⟨e1, e2⟩ := find_on h i (by omega)
  have h0 := h.each x (List.mem_of_getElem? hx)
  rw [findR_eq h] at e1 ⊢
  rw [hx] at e1
  obtain ⟨h1, l1, l2, h2, h3⟩ := List.find?_eq_some_iff_append.1 e1
  refine List.find?_eq_some_iff_append.2 ⟨by simp; omega, l1, l2, h2, fun a ha => ?_⟩
  have := h3 a ha
  have := e2 x hx
  simp at *
  omega

/-- Three facts of the walk's round: next, and the two gaps. -/
theorem on_round {l : List Rn} (h : Good l) {i : Nat} {x : Rn} (hx : l[i]? = some x) :
    nextV (findR l (atL l i)) (atL l i) = .tuple #[.int .u64 x.f, .bool true] ∧ (atL l i = x.f ∨ gapO (findR l (atL l i)) (atL l i) = atL l i) ∧ gapO (findR l x.f) x.f = x.t ∧ atL l (i + 1) = x.t := by
  have hlt := (List.getElem?_eq_some_iff.1 hx).1
  obtain ⟨e1, e2⟩ := find_on h i (by omega)
  have e3 := e2 x hx
  rw [e1, hx]
  refine ⟨by simp [nextV]; omega, ?_, by rw [find_run h hx]; simp [gapO], by show (match l[i]? with | some r => r.t | none => 0) = _; rw [hx]⟩
  by_cases hc : atL l i = x.f
  · exact .inl hc
  · right; show (if _ then _ else _) = _; rw [if_neg (by omega)]

set_option maxRecDepth 100000 in
set_option maxHeartbeats 4000000 in
theorem next_law (w : World) (ad : Option Addr) (c : Nat) (l : List Rn) (A : Nat → Prop) (hl : SliceK RnR A w (.slice ad l.length c) l) :
    Calls Try.prog 3 #[.slice ad l.length c] w fun e w' => e = .returned (.bool true) ∧ Keeps (fun _ => False) w w' := by
  have HL := Lib.hid hl
  have hb := build_spec (All64.of_slice hl)
  obtain ⟨m, Hm⟩ : ∃ m, Hid (m = buildL l) := ⟨_, rfl⟩
  have HB := Lib.hid hb
  have hml : m.length ≤ 60 := by rw [Hm.out]; exact hb.2.2
  have HG : Hid (Good m) := by show Good m; rw [Hm.out]; exact hb.1
  have C1 : Hid (Calls Try.prog 10 #[.slice ad l.length c] w fun e w' => ∃ bs, e = .returned (.pointer (some ⟨bs, 0, none⟩)) ∧ SetFrom w.heap.size w' bs m ∧ Keeps (fun _ => False) w w') := by
    have := built_calls w ad c l A hl
    rw [← Hm.out] at this; exact this
  clear hl hb
  go_enter Try.func3, Try.ntmps3
  go_wp2_with (first | (go_at_call 10; refine C1.out.mono ?_; rintro e w1 ⟨bs, rfl, s1, k1⟩) | (go_at_call 11; refine (s1.runs (by omega)).mono ?_; rintro e w2 ⟨v', rfl, o2, r2, k2⟩; obtain ⟨ad2, c2, rfl, q1, q2⟩ := o2.form; unfold maxLen at q2))
  have K2 := k1.step k2
  have S2 := Lib.hid (s1.kept0 k2)
  have O2 := Lib.hid (o2.slice (A' := fun _ => True) (fun _ h => h.elim) (fun _ _ => trivial))
  have CN : Hid (∀ w', Keeps (fun _ => False) w2 w' → ∀ n, Calls Try.prog 12 #[.pointer (some ⟨bs, 0, none⟩), .int .u64 n] w' fun e w'' => e = .returned (nextV (findR m n) n) ∧ Keeps (fun _ => False) w' w'') := fun w' h n => next_calls _ _ _ _ ((S2.out.kept0 h).finds HG.out n)
  have CG : Hid (∀ w', Keeps (fun _ => False) w2 w' → ∀ n, Calls Try.prog 13 #[.pointer (some ⟨bs, 0, none⟩), .int .u64 n] w' fun e w'' => e = .returned (.int .u64 (gapO (findR m n) n)) ∧ Keeps (fun _ => False) w' w'') := fun w' h n => gap_calls _ _ _ _ ((S2.out.kept0 h).finds HG.out n)
  clear s1 o2 r2 k1
  go_loopw [5, 6] (fun u5 u6 wr => ∃ (k : Nat) (at' : Int), u6 = .int .i64 k ∧ u5 = .int .u64 at' ∧ k ≤ m.length ∧ Hid (at' = atL m k) ∧ Keeps (fun _ => False) w2 wr) (fun _ u6 _ => m.length - (intOf u6).toNat)
  case atStart => exact ⟨0, 0, rfl, rfl, by omega, rfl, Keeps.refl _ _⟩
  case round =>
    obtain ⟨k, at', rfl, rfl, hkl, HAT, HK⟩ := hrel
    by_cases hlt : k < m.length
    · obtain ⟨b, o, rfl, hA, hbb, hcell⟩ := run_at O2.out (by omega)
      obtain ⟨x, hx0⟩ : ∃ r, m[k]? = some r := ⟨m[k], List.getElem?_eq_getElem hlt⟩
      obtain ⟨_, _, c1, c2⟩ := hcell k x hx0
      obtain ⟨f1, f2, f3, f4⟩ := on_round HG.out hx0
      rw [← HAT.out] at f1 f2
      have F1 := Lib.hid f1
      have F3 := Lib.hid f3
      have F4 := Lib.hid f4
      have hxt : ¬ x.t = x.f := fun e => by have := HG.out.each x (List.mem_of_getElem? hx0); omega
      have HX := Lib.hid hx0
      clear hcell hx0 f1 f3 f4
      rcases f2 with f2 | f2
      · subst f2
        have hd : (x.t != x.f) = true := by simp [hxt]
        go_wp2_with (go_at_call 12; refine (CN.out _ HK _).mono ?_; rintro e w3 ⟨rfl, k3⟩; rw [F1.out])
        have hI := skeep2 ⟨(kcell HK b _ hbb fun h => h).trans c1, (kcell HK b _ hbb fun h => h).trans c2, HK, by have := HK.size; omega⟩ k3
        obtain ⟨i1, i2, i3, i4⟩ := hI
        go_region_held3 (fun w' => w'.cell? ⟨b, o + k * 2, none⟩ = some (.int .u64 x.f) ∧ w'.cell? ⟨b, o + k * 2 + 1, none⟩ = some (.int .u64 x.t) ∧ Keeps (fun _ => False) w2 w' ∧ b < w'.heap.size)
          (first | (go_split_ands; exact skeep2 ⟨by assumption, by assumption, by assumption, by assumption⟩ hk) | (exact skeep2 (by assumption) hk) | exact ⟨i1, i2, i3.drew, i4⟩ | exact ⟨i1, i2, i3, i4⟩ | go_keep)
          (first
            | (go_at_call 13; refine (CG.out _ (by first | assumption | exact (by assumption : _ ∧ _ ∧ _ ∧ _).2.2.1) _).mono ?_; rintro e wx ⟨rfl, hk⟩; rw [F3.out]))
        go_split_ands
        go_wp2_with (go_at_call 13; refine (CG.out _ (by assumption) _).mono ?_; rintro e w4 ⟨rfl, k4⟩; rw [F3.out])
        go_roundw
        case rel => exact ⟨k + 1, _, by go_num, rfl, by omega, F4.out.symm, Keeps.step (by assumption) k4⟩
        case measure => simp [intOf]; omega
      · have Hg := Lib.hid f2
        clear f2
        go_wp2_with (go_at_call 12; refine (CN.out _ HK _).mono ?_; rintro e w3 ⟨rfl, k3⟩; rw [F1.out])
        have hI := skeep2 ⟨(kcell HK b _ hbb fun h => h).trans c1, (kcell HK b _ hbb fun h => h).trans c2, HK, by have := HK.size; omega⟩ k3
        obtain ⟨i1, i2, i3, i4⟩ := hI
        refine wp_region_noPanic ?_
        refine wp_region_held_drew (S := (fun w' => w'.cell? ⟨b, o + k * 2, none⟩ = some (.int .u64 x.f) ∧ w'.cell? ⟨b, o + k * 2 + 1, none⟩ = some (.int .u64 x.t) ∧ Keeps (fun _ => False) w2 w' ∧ b < w'.heap.size)) (by kernel_rfl) ?_ (fun hHeld => ?_)
        · (try dsimp only); (first | (go_split_ands; exact skeep2 ⟨by assumption, by assumption, by assumption, by assumption⟩ hk) | (exact skeep2 (by assumption) hk) | exact ⟨i1, i2, i3.drew, i4⟩ | exact ⟨i1, i2, i3, i4⟩ | go_keep)
        refine take_pure 0 (v := ?_) rfl (by kernel_rfl) (by kernel_rfl) (by kernel_rfl) (fun _ _ _ h => h) rfl hHeld ?_ ?_
        rotate_left
        · (intro w hSw; (try dsimp only at hSw); go_simp; try with_reducible rfl)
        try simp only [Act.put, List.setIfInBounds_toArray, List.set_cons_zero, List.set_cons_succ]
        refine take_pure 1 (v := ?_) rfl (by kernel_rfl) (by kernel_rfl) (by kernel_rfl) (fun _ _ _ h => h) rfl hHeld ?_ ?_
        rotate_left
        · (intro w hSw; (try dsimp only at hSw); go_simp; try with_reducible rfl)
        try simp only [Act.put, List.setIfInBounds_toArray, List.set_cons_zero, List.set_cons_succ]
        refine take_pure 2 (v := ?_) rfl (by kernel_rfl) (by kernel_rfl) (by kernel_rfl) (fun _ _ _ h => h) rfl hHeld ?_ ?_
        rotate_left
        · (intro w hSw; (try dsimp only at hSw); go_simp; try with_reducible rfl)
        try simp only [Act.put, List.setIfInBounds_toArray, List.set_cons_zero, List.set_cons_succ]
        refine take_pure 3 (v := ?_) rfl (by kernel_rfl) (by kernel_rfl) (by kernel_rfl) (fun _ _ _ h => h) rfl hHeld ?_ ?_
        rotate_left
        · (intro w hSw; (try dsimp only at hSw); go_simp; try with_reducible rfl)
        try simp only [Act.put, List.setIfInBounds_toArray, List.set_cons_zero, List.set_cons_succ]
        refine take_pure 4 (v := ?_) rfl (by kernel_rfl) (by kernel_rfl) (by kernel_rfl) (fun _ _ _ h => h) rfl hHeld ?_ ?_
        rotate_left
        · (intro w hSw; (try dsimp only at hSw); go_simp; try with_reducible rfl)
        try simp only [Act.put, List.setIfInBounds_toArray, List.set_cons_zero, List.set_cons_succ]
        refine take_pure 5 (v := ?_) rfl (by kernel_rfl) (by kernel_rfl) (by kernel_rfl) (fun _ _ _ h => h) rfl hHeld ?_ ?_
        rotate_left
        · (intro w hSw; (try dsimp only at hSw); go_simp; try with_reducible rfl)
        try simp only [Act.put, List.setIfInBounds_toArray, List.set_cons_zero, List.set_cons_succ]
        refine take_pure 6 (v := ?_) rfl (by kernel_rfl) (by kernel_rfl) (by kernel_rfl) (fun _ _ _ h => h) rfl hHeld ?_ ?_
        rotate_left
        · (intro w hSw; (try dsimp only at hSw); go_simp; try with_reducible rfl)
        try simp only [Act.put, List.setIfInBounds_toArray, List.set_cons_zero, List.set_cons_succ]
        refine take_pure 7 (v := ?_) rfl (by kernel_rfl) (by kernel_rfl) (by kernel_rfl) (fun _ _ _ h => h) rfl hHeld ?_ ?_
        rotate_left
        · (intro w hSw; (try dsimp only at hSw); go_simp; try with_reducible rfl)
        try simp only [Act.put, List.setIfInBounds_toArray, List.set_cons_zero, List.set_cons_succ]
        refine take_pure 8 (v := ?_) rfl (by kernel_rfl) (by kernel_rfl) (by kernel_rfl) (fun _ _ _ h => h) rfl hHeld ?_ ?_
        rotate_left
        · (intro w hSw; (try dsimp only at hSw); go_simp; try with_reducible rfl)
        try simp only [Act.put, List.setIfInBounds_toArray, List.set_cons_zero, List.set_cons_succ]
        refine take_pure 9 (v := ?_) rfl (by kernel_rfl) (by kernel_rfl) (by kernel_rfl) (fun _ _ _ h => h) rfl hHeld ?_ ?_
        rotate_left
        · (intro w hSw; (try dsimp only at hSw); go_simp; try with_reducible rfl)
        try simp only [Act.put, List.setIfInBounds_toArray, List.set_cons_zero, List.set_cons_succ]
        refine take_pure 10 (v := ?_) rfl (by kernel_rfl) (by kernel_rfl) (by kernel_rfl) (fun _ _ _ h => h) rfl hHeld ?_ ?_
        rotate_left
        · (intro w hSw; (try dsimp only at hSw); go_simp; try with_reducible rfl)
        try simp only [Act.put, List.setIfInBounds_toArray, List.set_cons_zero, List.set_cons_succ]
        refine take_pure 11 (v := ?_) rfl (by kernel_rfl) (by kernel_rfl) (by kernel_rfl) (fun _ _ _ h => h) rfl hHeld ?_ ?_
        rotate_left
        · (intro w hSw; (try dsimp only at hSw); go_simp; try with_reducible rfl)
        try simp only [Act.put, List.setIfInBounds_toArray, List.set_cons_zero, List.set_cons_succ]
        refine take_pure 12 (v := ?_) rfl (by kernel_rfl) (by kernel_rfl) (by kernel_rfl) (fun _ _ _ h => h) rfl hHeld ?_ ?_
        rotate_left
        · (intro w hSw; (try dsimp only at hSw); go_simp; try with_reducible rfl)
        try simp only [Act.put, List.setIfInBounds_toArray, List.set_cons_zero, List.set_cons_succ]
        refine take_pure 13 (v := ?_) rfl (by kernel_rfl) (by kernel_rfl) (by kernel_rfl) (fun _ _ _ h => h) rfl hHeld ?_ ?_
        rotate_left
        · (intro w hSw; (try dsimp only at hSw); go_simp; try with_reducible rfl)
        try simp only [Act.put, List.setIfInBounds_toArray, List.set_cons_zero, List.set_cons_succ]
        refine take_pure 15 (v := ?_) rfl (by kernel_rfl) (by kernel_rfl) (by kernel_rfl) (fun _ _ _ h => h) rfl hHeld ?_ ?_
        rotate_left
        · (intro w hSw; (try dsimp only at hSw); go_simp; try with_reducible rfl)
        try simp only [Act.put, List.setIfInBounds_toArray, List.set_cons_zero, List.set_cons_succ]
        refine wpAnyH_ready (rs := [14]) (by kernel_rfl) (by simp) ?_
        refine ready_cons rfl (fun K hK => ?_) (AllReadyH.nil)
        go_simp
        (first | (go_at_call 13; refine (CG.out _ (by first | assumption | exact (by assumption : _ ∧ _ ∧ _ ∧ _).2.2.1) _).mono ?_; rintro e wx ⟨rfl, hk⟩; first | rw [Hg.out] | rw [F3.out]))
        try go_wp2_with fail
        refine hK.out _ _ ?_ (fun hHeld2 => ?_)
        · (try dsimp only); (first | (go_split_ands; exact skeep2 ⟨by assumption, by assumption, by assumption, by assumption⟩ hk) | (exact skeep2 (by assumption) hk) | exact ⟨i1, i2, i3.drew, i4⟩ | exact ⟨i1, i2, i3, i4⟩ | go_keep)
        clear hK K
        try simp only [Act.put, List.setIfInBounds_toArray, List.set_cons_zero, List.set_cons_succ]
        clear hHeld; have hHeld := hHeld2; clear hHeld2
        refine take_pure 16 (v := ?_) rfl (by kernel_rfl) (by kernel_rfl) (by kernel_rfl) (fun _ _ _ h => h) rfl hHeld ?_ ?_
        rotate_left
        · (intro w hSw; (try dsimp only at hSw); go_simp; try with_reducible rfl)
        try simp only [Act.put, List.setIfInBounds_toArray, List.set_cons_zero, List.set_cons_succ]
        refine take_pure 17 (v := ?_) rfl (by kernel_rfl) (by kernel_rfl) (by kernel_rfl) (fun _ _ _ h => h) rfl hHeld ?_ ?_
        rotate_left
        · (intro w hSw; (try dsimp only at hSw); go_simp; try with_reducible rfl)
        try simp only [Act.put, List.setIfInBounds_toArray, List.set_cons_zero, List.set_cons_succ]
        refine take_out 18 rfl (by kernel_rfl) (by kernel_rfl) (by kernel_rfl) (fun _ _ _ h => h) rfl hHeld ?_
        try simp only [Act.put, List.setIfInBounds_toArray, List.set_cons_zero, List.set_cons_succ]
        refine take_out 19 rfl (by kernel_rfl) (by kernel_rfl) (by kernel_rfl) (fun _ _ _ h => h) rfl hHeld ?_
        try simp only [Act.put, List.setIfInBounds_toArray, List.set_cons_zero, List.set_cons_succ]
        refine take_out 20 rfl (by kernel_rfl) (by kernel_rfl) (by kernel_rfl) (fun _ _ _ h => h) rfl hHeld ?_
        try simp only [Act.put, List.setIfInBounds_toArray, List.set_cons_zero, List.set_cons_succ]
        refine take_pure 21 (v := ?_) rfl (by kernel_rfl) (by kernel_rfl) (by kernel_rfl) (fun _ _ _ h => h) rfl hHeld ?_ ?_
        rotate_left
        · (intro w hSw; (try dsimp only at hSw); go_simp; try with_reducible rfl)
        try simp only [Act.put, List.setIfInBounds_toArray, List.set_cons_zero, List.set_cons_succ]
        refine take_pure 22 (v := ?_) rfl (by kernel_rfl) (by kernel_rfl) (by kernel_rfl) (fun _ _ _ h => h) rfl hHeld ?_ ?_
        rotate_left
        · (intro w hSw; (try dsimp only at hSw); go_simp; try with_reducible rfl)
        try simp only [Act.put, List.setIfInBounds_toArray, List.set_cons_zero, List.set_cons_succ]
        refine take_pure 23 (v := ?_) rfl (by kernel_rfl) (by kernel_rfl) (by kernel_rfl) (fun _ _ _ h => h) rfl hHeld ?_ ?_
        rotate_left
        · (intro w hSw; (try dsimp only at hSw); go_simp; try with_reducible rfl)
        try simp only [Act.put, List.setIfInBounds_toArray, List.set_cons_zero, List.set_cons_succ]
        refine take_pure 24 (v := ?_) rfl (by kernel_rfl) (by kernel_rfl) (by kernel_rfl) (fun _ _ _ h => h) rfl hHeld ?_ ?_
        rotate_left
        · (intro w hSw; (try dsimp only at hSw); go_simp; try with_reducible rfl)
        try simp only [Act.put, List.setIfInBounds_toArray, List.set_cons_zero, List.set_cons_succ]
        refine take_pure 25 (v := ?_) rfl (by kernel_rfl) (by kernel_rfl) (by kernel_rfl) (fun _ _ _ h => h) rfl hHeld ?_ ?_
        rotate_left
        · (intro w hSw; (try dsimp only at hSw); go_simp; try with_reducible rfl)
        try simp only [Act.put, List.setIfInBounds_toArray, List.set_cons_zero, List.set_cons_succ]
        refine take_pure 27 (v := ?_) rfl (by kernel_rfl) (by kernel_rfl) (by kernel_rfl) (fun _ _ _ h => h) rfl hHeld ?_ ?_
        rotate_left
        · (intro w hSw; (try dsimp only at hSw); go_simp; try with_reducible rfl)
        try simp only [Act.put, List.setIfInBounds_toArray, List.set_cons_zero, List.set_cons_succ]
        refine take_pure 28 (v := ?_) rfl (by kernel_rfl) (by kernel_rfl) (by kernel_rfl) (fun _ _ _ h => h) rfl hHeld ?_ ?_
        rotate_left
        · (intro w hSw; (try dsimp only at hSw); go_simp; try with_reducible rfl)
        try simp only [Act.put, List.setIfInBounds_toArray, List.set_cons_zero, List.set_cons_succ]
        refine take_pure 29 (v := ?_) rfl (by kernel_rfl) (by kernel_rfl) (by kernel_rfl) (fun _ _ _ h => h) rfl hHeld ?_ ?_
        rotate_left
        · (intro w hSw; (try dsimp only at hSw); go_simp; try with_reducible rfl)
        try simp only [Act.put, List.setIfInBounds_toArray, List.set_cons_zero, List.set_cons_succ]
        refine take_pure 30 (v := ?_) rfl (by kernel_rfl) (by kernel_rfl) (by kernel_rfl) (fun _ _ _ h => h) rfl hHeld ?_ ?_
        rotate_left
        · (intro w hSw; (try dsimp only at hSw); go_simp; try with_reducible rfl)
        try simp only [Act.put, List.setIfInBounds_toArray, List.set_cons_zero, List.set_cons_succ]
        refine take_pure 31 (v := ?_) rfl (by kernel_rfl) (by kernel_rfl) (by kernel_rfl) (fun _ _ _ h => h) rfl hHeld ?_ ?_
        rotate_left
        · (intro w hSw; (try dsimp only at hSw); go_simp; try with_reducible rfl)
        try simp only [Act.put, List.setIfInBounds_toArray, List.set_cons_zero, List.set_cons_succ]
        refine wpAnyH_ready (rs := [26]) (by kernel_rfl) (by simp) ?_
        refine ready_cons rfl (fun K hK => ?_) (AllReadyH.nil)
        go_simp
        (first | (go_at_call 13; refine (CG.out _ (by first | assumption | exact (by assumption : _ ∧ _ ∧ _ ∧ _).2.2.1) _).mono ?_; rintro e wx ⟨rfl, hk⟩; first | rw [Hg.out] | rw [F3.out]))
        try go_wp2_with fail
        refine hK.out _ _ ?_ (fun hHeld2 => ?_)
        · (try dsimp only); (first | (go_split_ands; exact skeep2 ⟨by assumption, by assumption, by assumption, by assumption⟩ hk) | (exact skeep2 (by assumption) hk) | exact ⟨i1, i2, i3.drew, i4⟩ | exact ⟨i1, i2, i3, i4⟩ | go_keep)
        clear hK K
        try simp only [Act.put, List.setIfInBounds_toArray, List.set_cons_zero, List.set_cons_succ]
        clear hHeld; have hHeld := hHeld2; clear hHeld2
        refine take_pure 32 (v := ?_) rfl (by kernel_rfl) (by kernel_rfl) (by kernel_rfl) (fun _ _ _ h => h) rfl hHeld ?_ ?_
        rotate_left
        · (intro w hSw; (try dsimp only at hSw); go_simp; try with_reducible rfl)
        try simp only [Act.put, List.setIfInBounds_toArray, List.set_cons_zero, List.set_cons_succ]
        refine take_pure 33 (v := ?_) rfl (by kernel_rfl) (by kernel_rfl) (by kernel_rfl) (fun _ _ _ h => h) rfl hHeld ?_ ?_
        rotate_left
        · (intro w hSw; (try dsimp only at hSw); go_simp; try with_reducible rfl)
        try simp only [Act.put, List.setIfInBounds_toArray, List.set_cons_zero, List.set_cons_succ]
        refine wpAnyH_done (by kernel_rfl) ?_ _
        refine NoPanic.normal ?_
        all_goals (
          go_split_ands
          go_wp2_with (go_at_call 13; refine (CG.out _ (by assumption) _).mono ?_; rintro e w4 ⟨rfl, k4⟩; rw [F3.out])
          go_roundw
          case rel => exact ⟨k + 1, _, by go_num, rfl, by omega, F4.out.symm, Keeps.step (by assumption) k4⟩
          case measure => simp [intOf]; omega)
    · obtain rfl : k = m.length := by omega
      have HN : Hid (findR m at' = none) := by show _ = _; rw [HAT.out, (find_on HG.out _ (Nat.le_refl _)).1]; simp
      go_wp2_with (first
        | (go_at_call 12; refine (CN.out _ HK _).mono ?_; rintro e w3 ⟨rfl, k3⟩; rw [HN.out]; unfold nextV)
        | (go_at_call 14; refine (alive_calls _).mono ?_; rintro e w4 ⟨rfl, k4⟩)
        | (go_at_call 13; refine (CG.out _ ((HK.step k3).step k4) _).mono ?_; rintro e w5 ⟨rfl, k5⟩; rw [HN.out]; unfold gapO))
      go_ret
      exact ⟨rfl, K2.step (((HK.step k3).step k4).step k5)⟩
end Go.Proofs.Ytaphhmefkfhepaa.Run
