/- Meet: the runs that two sets have in common: the iterator, and its caller. -/
import Derived.Test.YtaphhmefkfhepaaRunMh
import Derived.RangeFuncNested
import Derived.RangeFuncBound
import Derived.RangeFuncCalls
import Derived.RangeFuncLeaves
import Derived.Shelf.Abstract
import Derived.Shelf.RegionOpen
import Derived.OwnWalkIn
import Derived.TacticsInMore
import Derived.LoopNIn
import Derived.LoopIn
import Derived.BigRegion
namespace Go.Proofs.Ytaphhmefkfhepaa.Run
open Go Go.RowKit Go.Proofs.Ytaphhmefkfhepaa.L Go.Shelf
set_option linter.unusedVariables false
set_option linter.unusedSimpArgs false
attribute [local go_sem] Oper.semAt_some max_go min_go

def seqSnd : Code → Code | .seq _ y => y | c => c
set_option maxRecDepth 100000 in
set_option maxHeartbeats 8000000 in
theorem both_loop (l bs ba bb : Nat) (va vb : Value) (la lb : List Rn) (J Jx : List Rn → World → Prop) (N : Nat) (W : World)
    (hJ : AbidesFrom W.heap.size J)
    (hY : ∀ pre x W, Run64 x → J pre W → pre.length < N → YieldAt Fence.wide 9 Try.prog l #[.agg #[.int .u64 x.f, .int .u64 x.t]] W fun e W' =>
      (e = .returned (.bool true) ∧ J (pre ++ [x]) W' ∧ KpB bs W W') ∨ (e = .returned (.bool false) ∧ Jx (pre ++ [x]) W'))
    (h0 : J [] W) (na : la.length ≤ 1000) (nb : lb.length ≤ 1000) (hba : ba < W.heap.size) (hbb : bb < W.heap.size) (hbs : bs < W.heap.size) (hrow : ∀ k, rowAt W bs = some k → k < W.heap.size) (hN : la.length + lb.length ≤ N) (c : Code) (hc : Try.f46.body = some c) :
    ∀ (vx vy : Value) (w1 w2 wx : World) (j7 j8 j9 j10 j11 j12 j13 j14 j15 j16 j17 j18 j19 j20 j21 j22 j23 j24 j25 j26 j27 j28 j29 j30 j31 j32 j33 j34 j35 j36 j37 j38 j39 j40 j41 j42 j43 j44 j45 j46 j47 j48 j49 j50 j51 j52 j53 j54 j55 j56 j57 j58 j59 : Value), L.Own RnR 30 none' w1 vx la → (∀ b, rowOf vx = some b → W.heap.size ≤ b) → Keeps (fun _ => False) W w1 → L.Own RnR 30 none' w2 vy lb → (∀ b, rowOf vy = some b → w1.heap.size ≤ b) → Keeps (fun _ => False) w1 w2 → Keeps (fun _ => False) w2 wx →
      (seqSnd c).wpIn Fence.wide 10 Try.prog (bodyPost Try.prog Try.f46 fun e W' => (∃ v, e = .returned v) ∧ (J (meetL la lb) W' ∨ ∃ pre, Jx pre W')) { tmps := (.func (.yield l) #[] #[] :: .pointer (some ⟨ba, 0, none⟩) :: .pointer (some ⟨bb, 0, none⟩) :: undef :: vx :: vy :: undef :: j7 :: j8 :: j9 :: j10 :: j11 :: j12 :: j13 :: j14 :: j15 :: j16 :: j17 :: j18 :: j19 :: j20 :: j21 :: j22 :: j23 :: j24 :: j25 :: j26 :: j27 :: j28 :: j29 :: j30 :: j31 :: j32 :: j33 :: j34 :: j35 :: j36 :: j37 :: j38 :: j39 :: j40 :: j41 :: j42 :: j43 :: j44 :: j45 :: j46 :: j47 :: j48 :: j49 :: j50 :: j51 :: j52 :: j53 :: j54 :: j55 :: j56 :: j57 :: j58 :: j59 :: []).toArray, defers := [] } wx := by
  obtain rfl : _ = c := Option.some.inj hc
  intro vx vy w1 w2 wx j7 j8 j9 j10 j11 j12 j13 j14 j15 j16 j17 j18 j19 j20 j21 j22 j23 j24 j25 j26 j27 j28 j29 j30 j31 j32 j33 j34 j35 j36 j37 j38 j39 j40 j41 j42 j43 j44 j45 j46 j47 j48 j49 j50 j51 j52 j53 j54 j55 j56 j57 j58 j59 ox nx kx oy ny ky kw
  have OX := ox.kept ky (fun _ h => h.elim) fun _ _ _ h => h
  obtain ⟨A, hA⟩ : ∃ A : Nat → Prop, A = fun b => rowOf vx = some b ∨ rowOf vy = some b := ⟨_, rfl⟩
  have S1 : SliceK RnR A wx vx la := by rw [hA]; exact (OX.slice (fun _ h => h.elim) fun b hb => .inl hb).kept kw fun _ _ _ h => h
  have S2 : SliceK RnR A wx vy lb := by rw [hA]; exact (oy.slice (fun _ h => h.elim) fun b hb => .inr hb).kept kw fun _ _ _ h => h
  have K0 : Keeps (fun _ => False) W wx := (kx.step ky).step kw
  have hAn : ∀ b, A b → W.heap.size ≤ b := by
    intro b hb
    rw [hA] at hb
    rcases hb with hb | hb
    · exact nx b hb
    · exact Nat.le_trans kx.size (ny b hb)
  have D0 : Held A bs W.heap.size wx := ⟨fun b hb => by
      rw [hA] at hb
      rcases hb with hb | hb
      · obtain ⟨cs, h1⟩ := OX.type b hb; exact ⟨_, kw.heap0 h1, rfl⟩
      · obtain ⟨cs, h1⟩ := oy.type b hb; exact ⟨_, kw.heap0 h1, rfl⟩, fun k hk ha => by
      rw [rowAt_kept K0 hbs] at hk
      have h1 := hrow k hk
      have h2 := hAn k ha
      omega, ⟨Nat.lt_of_lt_of_le hbs K0.size, fun h => by have := hAn _ h; omega⟩, K0.size⟩
  have J0 : J [] wx := hJ [] W wx none h0 K0.grows (by simp)
  clear OX ox nx kx oy ny ky kw hA hAn K0 hrow hbs h0 hc
  dsimp only [seqSnd]
  gi_step
  gi_step
  gi_loopw [4, 5] (fun u4 u5 wr => ∃ (pre lx ly : List Rn), SliceK RnR A wr u4 lx ∧ SliceK RnR A wr u5 ly ∧ J pre wr ∧ Hid (pre ++ meetL lx ly = meetL la lb) ∧ Hid (Held A bs W.heap.size wr) ∧ pre.length + lx.length + ly.length ≤ la.length + lb.length) (fun u4 u5 _ => lenOf u4 + lenOf u5)
  case atStart => exact ⟨[], la, lb, S1, S2, J0, by show _ = _; rw [List.nil_append], D0, by simp⟩
  case round =>
    obtain ⟨pre, lx, ly, s1, s2, hj, HP, HD, hln⟩ := hrel
    match lx, ly with
    | [], ly =>
      obtain ⟨ad, c, rfl, q1, q2⟩ := s1.form
      have hfin : J (meetL la lb) wr := by have := HP.out; rw [meetL_nil, List.append_nil] at this; rw [← this]; exact hj
      gi_wp2
      go_end0
      exact ⟨⟨_, rfl⟩, .inl hfin⟩
    | x :: lx, [] =>
      obtain ⟨ad, c, rfl, q1, q2⟩ := s1.form
      obtain ⟨ad2, c2, rfl, q3, q4⟩ := s2.form
      have hfin : J (meetL la lb) wr := by have := HP.out; rw [meetL_nil2, List.append_nil] at this; rw [← this]; exact hj
      gi_wp2
      go_end0
      exact ⟨⟨_, rfl⟩, .inl hfin⟩
    | x :: lx, y :: ly =>
      obtain ⟨ad1, c1, rfl, q1, q2⟩ := s1.form
      obtain ⟨ad2, c2, rfl, q3, q4⟩ := s2.form
      unfold maxLen at q2 q4
      have HS1 := Lib.hid s1
      have HS2 := Lib.hid s2
      obtain ⟨b1, o1, rfl, hA1, hb1, hc1⟩ := run_at s1 (by simp)
      obtain ⟨b2, o2, rfl, hA2, hb2, hc2⟩ := run_at s2 (by simp)
      obtain ⟨r1, r2, c11, c12⟩ := hc1 0 x rfl
      obtain ⟨r3, r4, c21, c22⟩ := hc2 0 y rfl
      clear s1 s2 hc1 hc2
      simp only [List.length_cons, Nat.zero_mul, Nat.add_zero] at *
      gi_wp2
      refine wpIn_wide.2 ?_
      go_region
      gi_step
      gi_step
      gi_step
      rename_i K3 hK3
      have key2 : ∀ (w6 : World) (pre' : List Rn) (j11 j12 j13 j14 j15 j16 j17 j18 j19 j20 j21 j22 j23 j24 j25 j26 j27 j28 j29 j30 j31 j32 j33 j34 j35 j36 j37 j38 j39 j40 j41 j42 j43 j44 j45 j46 j47 j48 j49 j50 j51 j52 j53 j54 j55 j56 j57 j58 j59 : Value), SliceK RnR A w6 (.slice (some ⟨b1, o1, none⟩) (lx.length + 1) c1) (x :: lx) → SliceK RnR A w6 (.slice (some ⟨b2, o2, none⟩) (ly.length + 1) c2) (y :: ly) → J pre' w6 →
          pre' ++ (if x.t < y.t then meetL lx (y :: ly) else meetL (x :: lx) ly) = meetL la lb → Held A bs W.heap.size w6 → pre'.length ≤ pre.length + 1 →
          K3 { tmps := (.func (.yield l) #[] #[] :: .pointer (some ⟨ba, 0, none⟩) :: .pointer (some ⟨bb, 0, none⟩) :: undef :: .slice (some ⟨b1, o1, none⟩) (lx.length + 1) c1 :: .slice (some ⟨b2, o2, none⟩) (ly.length + 1) c2 :: .pointer (some ⟨wr.heap.size, 0, none⟩) :: j7 :: j8 :: j9 :: j10 :: j11 :: j12 :: j13 :: j14 :: j15 :: j16 :: j17 :: j18 :: j19 :: j20 :: j21 :: j22 :: j23 :: j24 :: j25 :: j26 :: j27 :: j28 :: j29 :: j30 :: j31 :: j32 :: j33 :: j34 :: j35 :: j36 :: j37 :: j38 :: j39 :: j40 :: j41 :: j42 :: j43 :: j44 :: j45 :: j46 :: j47 :: j48 :: j49 :: j50 :: j51 :: j52 :: j53 :: j54 :: j55 :: j56 :: j57 :: j58 :: j59 :: []).toArray, defers := [] } w6 := by
        intro w6 pre' j11 j12 j13 j14 j15 j16 j17 j18 j19 j20 j21 j22 j23 j24 j25 j26 j27 j28 j29 j30 j31 j32 j33 j34 j35 j36 j37 j38 j39 j40 j41 j42 j43 j44 j45 j46 j47 j48 j49 j50 j51 j52 j53 j54 j55 j56 j57 j58 j59 hs1 hs2 hj6 hP6 hD6 hl6
        clear hY HD HP hj
        obtain ⟨_, _, eq1, hA1, hb1, hc1⟩ := run_at (l := x :: lx) hs1 (by simp)
        injection eq1 with eq1; injection eq1 with e1 e2; subst e1 e2
        obtain ⟨_, _, eq2, hA2, hb2, hc2⟩ := run_at (l := y :: ly) hs2 (by simp)
        injection eq2 with eq2; injection eq2 with e1 e2; subst e1 e2
        obtain ⟨r1, r2, c11, c12⟩ := hc1 0 x rfl
        obtain ⟨r3, r4, c21, c22⟩ := hc2 0 y rfl
        have hs1' := Lib.hid hs1
        have hs2' := Lib.hid hs2
        clear hs1 hs2
        have HP6 := Lib.hid hP6
        have HD6 := Lib.hid hD6
        clear hc1 hc2 hP6 hD6
        simp only [Nat.zero_mul, Nat.add_zero] at c11 c12 c21 c22
        apply hK3
        clear hK3
        gi_step
        refine wpIn_wide.2 ?_
        go_quiet (fail)
        have k6 : Keeps (fun _ => False) w6 (w6.drewN nq) := (Keeps.refl _ _).drewN _
        obtain ⟨w8, hw8⟩ : ∃ w8, w8 = w6.drewN nq := ⟨_, rfl⟩
        rw [← hw8] at k6 ⊢
        have hj8 := hJ pre' w6 w8 none hj6 k6.grows (by simp)
        clear hw8
        clear c11 c12 c21 c22 r1 r2 r3 r4 hb1 hb2
        by_cases hlt : x.t < y.t
        · have hdl : decide (x.t < y.t) = true := decide_eq_true hlt
          iterate 14 gi_step
          obtain ⟨sv, hsv⟩ : ∃ sv, sv = Value.slice (if c1 = 1 then some ⟨b1, o1, none⟩ else some ⟨b1, o1 + 2, none⟩) lx.length (c1 - 1) := ⟨_, rfl⟩
          rw [← hsv]
          have hl1 : lenOf sv + lenOf (Value.slice (some ⟨b2, o2, none⟩) (ly.length + 1) c2) = lx.length + (ly.length + 1) := by rw [hsv]; rfl
          refine ⟨?_, ?measure⟩
          (repeat apply Exists.intro)
          refine And.intro ?rel ?eqq
          case eqq => exact rfl
          case rel => exact ⟨pre', lx, y :: ly, by rw [hsv]; exact tail_slice (hs1'.out.kept k6 fun _ _ _ h => h), hs2'.out.kept k6 fun _ _ _ h => h, hj8, by have := HP6.out; rw [if_pos hlt] at this; exact this, (HD6.out.kept (KpB.of_kept k6 HD6.out.bs.1)).1, by simp only [List.length_cons]; omega⟩
          case measure =>
            have e2 : lenOf (Value.slice (some ⟨b1, o1, none⟩) (lx.length + 1) c1) + lenOf (Value.slice (some ⟨b2, o2, none⟩) (ly.length + 1) c2) = (lx.length + 1) + (ly.length + 1) := rfl
            have e3 : lenOf sv + lenOf (Value.slice (some ⟨b2, o2, none⟩) (ly.length + 1) c2) < lenOf (Value.slice (some ⟨b1, o1, none⟩) (lx.length + 1) c1) + lenOf (Value.slice (some ⟨b2, o2, none⟩) (ly.length + 1) c2) := by rw [hl1, e2]; omega
            exact e3
        · have hdl : decide (x.t < y.t) = false := decide_eq_false hlt
          iterate 14 gi_step
          obtain ⟨sv, hsv⟩ : ∃ sv, sv = Value.slice (if c2 = 1 then some ⟨b2, o2, none⟩ else some ⟨b2, o2 + 2, none⟩) ly.length (c2 - 1) := ⟨_, rfl⟩
          rw [← hsv]
          have hl1 : lenOf (Value.slice (some ⟨b1, o1, none⟩) (lx.length + 1) c1) + lenOf sv = (lx.length + 1) + ly.length := by rw [hsv]; rfl
          refine ⟨?_, ?measure⟩
          (repeat apply Exists.intro)
          refine And.intro ?rel ?eqq
          case eqq => exact rfl
          case rel => exact ⟨pre', x :: lx, ly, hs1'.out.kept k6 fun _ _ _ h => h, by rw [hsv]; exact tail_slice (hs2'.out.kept k6 fun _ _ _ h => h), hj8, by have := HP6.out; rw [if_neg hlt] at this; exact this, (HD6.out.kept (KpB.of_kept k6 HD6.out.bs.1)).1, by simp only [List.length_cons]; omega⟩
          case measure =>
            have e2 : lenOf (Value.slice (some ⟨b1, o1, none⟩) (lx.length + 1) c1) + lenOf (Value.slice (some ⟨b2, o2, none⟩) (ly.length + 1) c2) = (lx.length + 1) + (ly.length + 1) := rfl
            have e3 : lenOf (Value.slice (some ⟨b1, o1, none⟩) (lx.length + 1) c1) + lenOf sv < lenOf (Value.slice (some ⟨b1, o1, none⟩) (lx.length + 1) c1) + lenOf (Value.slice (some ⟨b2, o2, none⟩) (ly.length + 1) c2) := by rw [hl1, e2]; omega
            exact e3
      clear hK3
      have hhd : Held A bs W.heap.size wr := HD.out
      obtain ⟨w5, hw5⟩ : ∃ w5, w5 = (wr.alloc (Obj.cells #[Value.int IntKind.u64 (mx x.f y.f), Value.int IntKind.u64 (mn x.t y.t)] 30)).drew := ⟨_, rfl⟩
      rw [← hw5]
      have k5 : Keeps (fun _ => False) wr w5 := by rw [hw5]; exact ((Keeps.refl _ _).alloc _).drew
      have cl : w5.cell? ⟨wr.heap.size, 0, none⟩ = some (.int .u64 (mx x.f y.f)) := by rw [hw5]; exact cellOf (heap_alloc_new wr _) 0 rfl
      have ch : w5.cell? ⟨wr.heap.size, 1, none⟩ = some (.int .u64 (mn x.t y.t)) := by rw [hw5]; exact cellOf (heap_alloc_new wr _) 1 rfl
      have l5 : wr.heap.size < w5.heap.size := by rw [hw5]; simp
      clear hw5
      by_cases hne : mn x.t y.t ≤ mx x.f y.f
      · have hP6 : pre ++ (if x.t < y.t then meetL lx (y :: ly) else meetL (x :: lx) ly) = meetL la lb := by
          have := HP.out
          rw [meetL_cons, if_pos hne, List.nil_append] at this
          exact this
        have HP6 := Lib.hid hP6
        clear hP6
        have hdec : decide (mn x.t y.t ≤ mx x.f y.f) = true := decide_eq_true hne
        gi_wp2_with (refine ⟨trivial, ?_⟩; gi_at_call 36; refine (callsIn_wide.2 (empty_calls _ _ _)).mono ?_; rintro e w6 ⟨he, hk6⟩; rw [hdec] at he; subst he)
        refine ⟨fun _ h => (by cases h), ?_⟩
        gi_wp2
        have k6 := k5.step hk6
        refine key2 w6 pre _ _ _ _ _ _ _ _ _ _ _ _ _ _ _ _ _ _ _ _ _ _ _ _ _ _ _ _ _ _ _ _ _ _ _ _ _ _ _ _ _ _ _ _ _ _ _ _ _ (HS1.out.kept k6 fun _ _ _ h => h) (HS2.out.kept k6 fun _ _ _ h => h) (hJ pre wr w6 none hj k6.grows (by simp)) HP6.out (hhd.kept (KpB.of_kept k6 hhd.bs.1)).1 (by omega)
      · have HP6 : Hid (pre ++ [⟨mx x.f y.f, mn x.t y.t⟩] ++ (if x.t < y.t then meetL lx (y :: ly) else meetL (x :: lx) ly) = meetL la lb) := by
          have := HP.out
          rw [meetL_cons, if_neg hne, ← List.append_assoc] at this
          exact this
        have hdec : decide (mn x.t y.t ≤ mx x.f y.f) = false := decide_eq_false hne
        have h64 : Run64 ⟨mx x.f y.f, mn x.t y.t⟩ := ⟨by show InK .u64 (mx x.f y.f); unfold mx; split <;> assumption, by show InK .u64 (mn x.t y.t); unfold mn; split <;> assumption⟩
        gi_wp2_with (refine ⟨trivial, ?_⟩; gi_at_call 36; refine (callsIn_wide.2 (empty_calls _ _ _)).mono ?_; rintro e w6 ⟨he, hk6⟩; rw [hdec] at he; subst he; have k6 := k5.step hk6; obtain ⟨fn, tmps, assign, body, hy, hR⟩ := hY pre ⟨mx x.f y.f, mn x.t y.t⟩ w6 h64 (hJ pre wr w6 none hj k6.grows (by simp)) (by omega); have cl6 : w6.cell? ⟨wr.heap.size, 0, none⟩ = some (.int .u64 (mx x.f y.f)) := (kcell hk6 _ 0 l5 fun h => h).trans cl; have ch6 : w6.cell? ⟨wr.heap.size, 1, none⟩ = some (.int .u64 (mn x.t y.t)) := (kcell hk6 _ 1 l5 fun h => h).trans ch)
        refine hR.mono ?_
        rintro e w7 (⟨rfl, hJ7, hk7⟩ | ⟨rfl, hJx7⟩)
        · gi_wp2
          obtain ⟨hd6, -⟩ := hhd.kept (KpB.of_kept k6 hhd.bs.1)
          obtain ⟨hd7, hs7⟩ := hd6.kept hk7
          refine key2 w7 _ _ _ _ _ _ _ _ _ _ _ _ _ _ _ _ _ _ _ _ _ _ _ _ _ _ _ _ _ _ _ _ _ _ _ _ _ _ _ _ _ _ _ _ _ _ _ _ _ _ ((HS1.out.kept k6 fun _ _ _ h => h).keep (fun _ h => h) hs7) ((HS2.out.kept k6 fun _ _ _ h => h).keep (fun _ h => h) hs7) hJ7 HP6.out hd7 (by simp)
        · gi_wp2
          refine bodyPost_ret (results_none rfl _ _ _) rfl ?_
          exact ⟨⟨_, rfl⟩, .inr ⟨_, hJx7⟩⟩
set_option maxRecDepth 100000 in
set_option maxHeartbeats 8000000 in
theorem both1_in (l bs ba bb : Nat) (va vb : Value) (la lb : List Rn) (J Jx : List Rn → World → Prop) (N : Nat) (W : World)
    (hJ : AbidesFrom W.heap.size J)
    (hY : ∀ pre x W, Run64 x → J pre W → pre.length < N → YieldAt Fence.wide 9 Try.prog l #[.agg #[.int .u64 x.f, .int .u64 x.t]] W fun e W' =>
      (e = .returned (.bool true) ∧ J (pre ++ [x]) W' ∧ KpB bs W W') ∨ (e = .returned (.bool false) ∧ Jx (pre ++ [x]) W'))
    (ha : W.cell? ⟨ba, 0, none⟩ = some va) (hb : W.cell? ⟨bb, 0, none⟩ = some vb) (h0 : J [] W) (sa : SrcAt W va la) (sb : SrcAt W vb lb) (na : la.length ≤ 1000) (nb : lb.length ≤ 1000) (hba : ba < W.heap.size) (hbb : bb < W.heap.size) (hbs : bs < W.heap.size) (hrow : ∀ k, rowAt W bs = some k → k < W.heap.size) (hN : la.length + lb.length ≤ N) :
    CallsIn Fence.wide 10 Try.prog 46 #[.func (.yield l) #[] #[], .pointer (some ⟨ba, 0, none⟩), .pointer (some ⟨bb, 0, none⟩)] W fun e W' => (∃ v, e = .returned v) ∧
      (J (meetL la lb) W' ∨ ∃ pre, Jx pre W') := by
  have HA := Lib.hid sa
  have HB := Lib.hid sb
  clear sa sb
  refine callsIn_of_wp Try.func46 rfl trivial ?_ rfl
  simp only [Try.ntmps46, List.size_toArray, List.length_cons, List.length_nil, Nat.reduceAdd, Nat.reduceSub, Array.replicate_succ, Array.replicate_zero, List.push_toArray, List.append_toArray, List.nil_append, List.cons_append]
  gi_step
  gi_step
  rename_i Q2 K hK
  have key : ∀ (vx vy : Value) (w1 w2 wx : World) (j7 j8 j9 j10 j11 j12 j13 j14 j15 j16 j17 j18 j19 j20 j21 j22 j23 j24 j25 j26 j27 j28 j29 j30 j31 j32 j33 j34 j35 j36 j37 j38 j39 j40 j41 j42 j43 j44 j45 j46 j47 j48 j49 j50 j51 j52 j53 j54 j55 j56 j57 j58 j59 : Value), L.Own RnR 30 none' w1 vx la → (∀ b, rowOf vx = some b → W.heap.size ≤ b) → Keeps (fun _ => False) W w1 → L.Own RnR 30 none' w2 vy lb → (∀ b, rowOf vy = some b → w1.heap.size ≤ b) → Keeps (fun _ => False) w1 w2 → Keeps (fun _ => False) w2 wx →
      K { tmps := (.func (.yield l) #[] #[] :: .pointer (some ⟨ba, 0, none⟩) :: .pointer (some ⟨bb, 0, none⟩) :: undef :: vx :: vy :: undef :: j7 :: j8 :: j9 :: j10 :: j11 :: j12 :: j13 :: j14 :: j15 :: j16 :: j17 :: j18 :: j19 :: j20 :: j21 :: j22 :: j23 :: j24 :: j25 :: j26 :: j27 :: j28 :: j29 :: j30 :: j31 :: j32 :: j33 :: j34 :: j35 :: j36 :: j37 :: j38 :: j39 :: j40 :: j41 :: j42 :: j43 :: j44 :: j45 :: j46 :: j47 :: j48 :: j49 :: j50 :: j51 :: j52 :: j53 :: j54 :: j55 :: j56 :: j57 :: j58 :: j59 :: []).toArray, defers := [] } wx := fun vx vy w1 w2 wx j7 j8 j9 j10 j11 j12 j13 j14 j15 j16 j17 j18 j19 j20 j21 j22 j23 j24 j25 j26 j27 j28 j29 j30 j31 j32 j33 j34 j35 j36 j37 j38 j39 j40 j41 j42 j43 j44 j45 j46 j47 j48 j49 j50 j51 j52 j53 j54 j55 j56 j57 j58 j59 ox nx kx oy ny ky kw => hK _ _ (both_loop l bs ba bb va vb la lb J Jx N W hJ hY h0 na nb hba hbb hbs hrow hN _ rfl vx vy w1 w2 wx j7 j8 j9 j10 j11 j12 j13 j14 j15 j16 j17 j18 j19 j20 j21 j22 j23 j24 j25 j26 j27 j28 j29 j30 j31 j32 j33 j34 j35 j36 j37 j38 j39 j40 j41 j42 j43 j44 j45 j46 j47 j48 j49 j50 j51 j52 j53 j54 j55 j56 j57 j58 j59 ox nx kx oy ny ky kw)
  clear hK
  have HAc : ∀ w', Keeps (fun _ => False) W w' → Calls Try.prog 11 #[va] w' (Told w' la) := fun w' hk => (HA.out.kept0 hk).runs (by omega)
  have HBc : ∀ w', Keeps (fun _ => False) W w' → Calls Try.prog 11 #[vb] w' (Told w' lb) := fun w' hk => (HB.out.kept0 hk).runs (by omega)
  refine wpIn_wide.2 ?_
  go_region_with (first
    | (go_at_call 11; have kxx := kx; refine (HBc _ ?_).mono ?_; (first | exact (Keeps.refl _ _).drew.step kx | exact (Keeps.refl _ _).drew.drew.step kx | exact ((Keeps.refl _ _).drew.step kx).drew | exact ((Keeps.refl _ _).drew.drew.step kx).drew | exact ((Keeps.refl _ _).drew.step kx).drew.drew | exact ((Keeps.refl _ _).drew.drew.step kx).drew.drew | trace_state); rintro e w2 ⟨vy, rfl, oy, ny, ky⟩)
    | (go_at_call 11; refine (HAc _ ?_).mono ?_; (first | exact (Keeps.refl _ _).drew | exact (Keeps.refl _ _).drew.drew | exact (Keeps.refl _ _).drew.drew.drew); rintro e w1 ⟨vx, rfl, ox, nx, kx⟩; have hb1 : w1.cell? ⟨bb, 0, none⟩ = some vb := (kcell kx bb 0 hbb (fun h => h)).trans hb))
  all_goals
    gi_wp2
    refine key vx vy w1 w2 _ _ _ _ _ _ _ _ _ _ _ _ _ _ _ _ _ _ _ _ _ _ _ _ _ _ _ _ _ _ _ _ _ _ _ _ _ _ _ _ _ _ _ _ _ _ _ _ _ _ _ _ _ _ ox nx ?_ oy ny ?_ ?_
    · first | exact (Keeps.refl _ _).drew.step kx | exact (Keeps.refl _ _).drew.drew.step kx | exact (Keeps.refl _ _).drew.drew.drew.step kx
    · first | exact ky | exact (Keeps.refl _ _).drew.step ky | exact (Keeps.refl _ _).drew.drew.step ky
    · first | exact Keeps.refl _ _ | exact (Keeps.refl _ _).drew | exact (Keeps.refl _ _).drew.drew | exact (Keeps.refl _ _).drew.drew.drew
end Go.Proofs.Ytaphhmefkfhepaa.Run
