/- The walks over package runs, tenth part: Drop. -/
import Derived.Test.YtaphhmefkfhepaaRunI
namespace Go.Proofs.Ytaphhmefkfhepaa.Run
open Go Go.RowKit Go.Proofs.Ytaphhmefkfhepaa.L
set_option linter.unusedVariables false
set_option linter.unusedSimpArgs false
attribute [local go_sem] max_go min_go

def full (x : Rn) : Bool := decide (x.f < x.t)
def pieces (r x : Rn) : List Rn := [⟨x.f, mn x.t r.f⟩, ⟨mx x.f r.t, x.t⟩]
def bothR (r x : Rn) : Rn := ⟨mx x.f r.f, mn x.t r.t⟩
/-- What Drop goes through. -/
def shed (r : Rn) : List Rn → Int × List Rn × Nat → Int × List Rn × Nat
  | [], s => s
  | x :: l, (g, lf, k) => if x.f < r.t then shed r l (if (bothR r x).t ≤ (bothR r x).f then g else wu (g + wu ((bothR r x).t - (bothR r x).f)), lf ++ (pieces r x).filter full, k + 1) else (g, lf, k)
def dropS (l : List Rn) (r : Rn) : Int × List Rn × Nat := shed r (l.drop (place l r.f)) (0, [], place l r.f)
def dropL (l : List Rn) (r : Rn) : List Rn := l.take (place l r.f) ++ (dropS l r).2.1 ++ l.drop (dropS l r).2.2
theorem shed_le (r : Rn) : ∀ (l : List Rn) (s : Int × List Rn × Nat), s.2.2 ≤ (shed r l s).2.2 ∧ (shed r l s).2.2 ≤ s.2.2 + l.length ∧ (shed r l s).2.1.length ≤ s.2.1.length + 2 * l.length
  | [], s => by simp [shed]
  | x :: l, (g, lf, k) => by
    unfold shed
    split
    · have := shed_le r l (if (bothR r x).t ≤ (bothR r x).f then g else wu (g + wu ((bothR r x).t - (bothR r x).f)), lf ++ (pieces r x).filter full, k + 1)
      have h2 : ((pieces r x).filter full).length ≤ 2 := List.length_filter_le _ _
      simp at this ⊢; omega
    · simp

theorem slice_new (w : World) (a b : Int) (h : InK .u64 a ∧ InK .u64 b) : SliceK RnR (fun k => k = w.heap.size) (w.alloc (.cells #[.int .u64 a, .int .u64 b] 30)) (.slice (some ⟨w.heap.size, 0, none⟩) 1 1) [⟨a, b⟩] :=
  ⟨some ⟨w.heap.size, 0, none⟩, 1, rfl, Nat.le_refl _, by unfold maxLen; omega, .inr ⟨w.heap.size, [], [.int .u64 a, .int .u64 b], [], 30, (0, 0), rfl, rfl, heap_alloc_new w _, Cells.single ⟨rfl, h⟩⟩⟩

/-- The inner loop's round: one piece is put behind, if it has numbers. -/
theorem keep_one {w w1 : World} {bl B : Nat} {v : Value} {lf : List Rn} {y : Rn} (ho : Own RnR 30 none' w v lf) (hr : ∀ b, rowOf v = some b → b ≠ bl ∧ B ≤ b) (hB : B ≤ w.heap.size) (hbl : bl < w.heap.size) (hk : Keeps (fun _ => False) w w1) (hy : InK .u64 y.f ∧ InK .u64 y.t) (hsz : lf.length ≤ 1099511627775) (ty : TypeId) :
    ∃ v' w', (Builtin.append_ #[22, 22] ty #[v, .slice (some ⟨w1.heap.size, 0, none⟩) 1 1]).run Try.prog (w1.alloc (.cells #[.int .u64 y.f, .int .u64 y.t] 30)) = .ok v' w' ∧ Hid (Own RnR 30 none' w' v' (lf ++ [y]) ∧ (∀ b, rowOf v' = some b → b ≠ bl ∧ B ≤ b) ∧ Keeps (fun b => b ≠ bl ∧ B ≤ b) w w') := by
  have hk1 : Keeps (fun _ => False) w (w1.alloc (.cells #[.int .u64 y.f, .int .u64 y.t] 30)) := hk.alloc _
  have hl := ho.lt
  obtain ⟨v', w', hr', h1, h2, h3, _⟩ := run_append_any (P := Try.prog) (A := fun k => k = w1.heap.size) elemRun ty ((ho.kept hk1 (fun _ h => h.elim) fun _ _ _ h => h).flat) (slice_new w1 y.f y.t hy) (fun _ h => h) (fun b hb e => by have := hl b hb; have := hk.size; omega) (by simp; omega) (by simp; unfold maxLen; omega)
  refine ⟨v', w', hr', h1.flat, fun b hb => ?_, (hk1.mono fun _ _ h => h.elim).trans h2 fun b _ hb => hr b hb⟩
  rcases h3 b hb with h | h
  · exact hr b h
  · have := hk1.size; omega

set_option maxRecDepth 100000 in
set_option maxHeartbeats 8000000 in
theorem drop_calls (w : World) (bs : Nat) (fp : Option Nat) (l : List Rn) (r : Rn) (hs : SetAt w bs fp l) (hr : Rises l) (hre : r.f < r.t) (hrk : InK .u64 r.f ∧ InK .u64 r.t) (hb : l.length ≤ 274877906944) :
    Calls Try.prog 18 #[.pointer (some ⟨bs, 0, none⟩), .agg #[.int .u64 r.f, .int .u64 r.t]] w fun e w' => e = .returned (.int .u64 (dropS l r).1) ∧ ∃ fp', SetAt w' bs fp' (dropL l r) ∧ (∀ k, fp' = some k → fp = some k ∨ w.heap.size ≤ k) ∧ Keeps (fun k => k = bs ∨ fp = some k) w w' := by
  have HA : Hid (∀ w1, SetAt w1 bs fp l → Calls Try.prog 37 #[.pointer (some ⟨bs, 0, none⟩), .int .u64 r.f] w1 fun e w' => e = .returned (.int .i64 (place l r.f)) ∧ Keeps (fun _ => False) w1 w') := fun w1 h => at_calls w1 bs fp l r.f h hr
  have hs0 := Lib.hid hs
  obtain ⟨v, hbh, ho, hfp⟩ := hs
  have hbl := lt_of_heap hbh
  have hbc := cellOf hbh 0 rfl
  obtain ⟨ad, c, rfl, h1, h2⟩ := ho.form
  unfold maxLen at h2
  have hk := ho.slice (A' := fun k => rowOf (.slice ad l.length c) = some k) (fun _ h => h.elim) (fun _ h => h)
  have hpl := place_le l r.f
  obtain ⟨p, HP⟩ : ∃ p, Hid (p = place l r.f) := ⟨_, rfl⟩
  rw [← HP.out] at hpl HA
  have hte : ¬ (r.t ≤ r.f) := by omega
  have Hbh := Lib.hid hbh
  have Ho := Lib.hid ho
  have Hfp := Lib.hid hfp
  have Hk := Lib.hid hk
  clear hbh ho hfp hk hr
  go_enter Try.func18, Try.ntmps18
  go_wp2_with (first | (go_at_call 36; refine (empty_calls _ _ _).mono ?_; rintro e w1 ⟨rfl, hk1⟩; obtain ⟨hcc, hff⟩ := kcell0 hk1) | (go_at_call 37; refine (HA.out _ (hs0.out.kept0 (((Keeps.refl _ _).alloc _).step hk1))).mono ?_; rintro e w2 ⟨rfl, hk2⟩; obtain ⟨hcc2, hff2⟩ := kcell0 (hk1.step hk2)))
  have hk12 := hk1.step hk2
  have hz2 : w.heap.size < w2.heap.size := by have := hk12.size; simp at this; omega
  have hkw : Keeps (fun _ => False) w w2 := ((Keeps.refl _ _).alloc _).step hk12
  have hW : ∀ wr : World, Keeps (fun _ => False) w2 wr → Keeps (fun _ => False) w wr ∧ SetAt wr bs fp l ∧ wr.cell? ⟨bs, 0, none⟩ = some (.slice ad l.length c) ∧ wr.cell? ⟨w.heap.size, 0, none⟩ = some (.int .u64 r.f) ∧ wr.cell? ⟨w.heap.size, 1, none⟩ = some (.int .u64 r.t) ∧ bs < wr.heap.size ∧ w.heap.size < wr.heap.size ∧ 
      ∀ i x, l[i]? = some x → ∃ b o, ad = some ⟨b, o, none⟩ ∧ wr.cell? ⟨b, o + i * 2, none⟩ = some (.int .u64 x.f) ∧ wr.cell? ⟨b, o + i * 2 + 1, none⟩ = some (.int .u64 x.t) ∧ b < wr.heap.size ∧ InK .u64 x.f ∧ InK .u64 x.t := fun wr hkr => by
    have hK : Keeps (fun _ => False) w wr := hkw.step hkr
    have e1 : wr.heap[w.heap.size]? = some (.cells #[.int .u64 r.f, .int .u64 r.t] 30 (0, 0)) := hkr.heap0 (hk12.heap0 (heap_alloc_new w _))
    have hs1 := hs0.out.kept0 hK
    refine ⟨hK, hs1, cellOf (hK.heap0 Hbh.out) 0 rfl, cellOf e1 0 rfl, cellOf e1 1 rfl, hs1.lt, lt_of_heap e1, fun i x hx => ?_⟩
    obtain ⟨b, o, rfl, hA, hbb, hcell⟩ := run_at Hk.out (by have := (List.getElem?_eq_some_iff.1 hx).1; omega)
    obtain ⟨k1, k2, c1, c2⟩ := hcell i x hx
    refine ⟨b, o, rfl, ?_, ?_, by have := hK.size; omega, k1, k2⟩
    · rw [kcell hK b _ hbb (fun hf => hf)]; exact c1
    · rw [kcell hK b _ hbb (fun hf => hf)]; exact c2
  have HW := Lib.hid hW
  clear hW hcc hff hcc2 hff2 HA
  go_loopw [5, 7, 8] (fun u5 u7 u8 wr => ∃ (k : Nat) (q : Int) (lf : List Rn), u5 = .int .u64 q ∧ u7 = .int .i64 k ∧ p ≤ k ∧ k ≤ l.length ∧ Hid (shed r (l.drop p) (0, [], p) = shed r (l.drop k) (q, lf, k)) ∧ Hid (Own RnR 30 none' wr u8 lf ∧ (∀ b, rowOf u8 = some b → w2.heap.size ≤ b) ∧ lf.length ≤ 2 * (k - p)) ∧ Keeps (fun _ => False) w2 wr) (fun _ u7 _ _ => l.length - (intOf u7).toNat)
  case atStart => exact ⟨p, 0, [], rfl, rfl, Nat.le_refl _, hpl, rfl, ⟨own_nil _ _ _ _, by simp [rowOf], by simp⟩, Keeps.refl _ _⟩
  case round =>
    obtain ⟨k, q, lf, rfl, rfl, hpk, hkl, HQ, HL, HK⟩ := hrel
    by_cases hgo : ∃ x, l[k]? = some x ∧ x.f < r.t
    · obtain ⟨x, hx0, hxt⟩ := hgo
      have hlt : k < l.length := (List.getElem?_eq_some_iff.1 hx0).1
      have HX := Lib.hid hx0
      obtain ⟨_, _, cb, cr0, cr1, hz3, hz4, he⟩ := HW.out wr HK
      obtain ⟨b, o, rfl, c1, c2, hbb, k1, k2⟩ := he k x hx0
      clear he hx0
      go_wp2_with fail
      go_quiet (fail)
      obtain ⟨w0, hw0⟩ : ∃ w0, w0 = wr.drewN nq := ⟨_, rfl⟩
      rw [← hw0]
      have HK0 : Keeps (fun _ => False) w2 w0 := by rw [hw0]; exact HK.drewN _
      clear cb cr0 cr1 hz3 hz4 c1 c2 hbb k1 k2
      obtain ⟨_, _, cb, cr0, cr1, hz3, hz4, he⟩ := HW.out w0 HK0
      obtain ⟨b', o', eq, c1, c2, hbb, k1, k2⟩ := he k x HX.out
      injection eq with eq; injection eq with eq1 eq2; subst eq1 eq2
      have Hw0 := Lib.hid hw0
      clear he hw0
      obtain ⟨wo, rfl⟩ : ∃ wo : World, wo = wr := ⟨_, rfl⟩
      have HIN : Hid ((InK .u64 x.f ∧ InK .u64 (mn x.t r.f)) ∧ (InK .u64 (mx x.f r.t) ∧ InK .u64 x.t)) := ⟨⟨k1, by unfold mn; split <;> first | exact hrk.1 | exact k2⟩, ⟨by unfold mx; split <;> first | exact hrk.2 | exact k1, k2⟩⟩
      have HLE : Hid (∀ (lg : List Rn) (i : Nat), i ≤ 2 → lg = lf ++ ((pieces r x).take i).filter full → lg.length ≤ 1099511627775) := fun lg i hi e => by
        have h2 : (((pieces r x).take i).filter full).length ≤ ((pieces r x).take i).length := List.length_filter_le _ _
        rw [List.length_take] at h2
        have h3 := HL.out.2.2
        rw [e, List.length_append]; omega
      have HS0 : Hid (∀ w4, Keeps (fun _ => False) w0 w4 → ∀ o, Own RnR 30 none' (w4.alloc o) u8 lf ∧ (∀ b, rowOf u8 = some b → b ≠ w4.heap.size ∧ w2.heap.size ≤ b)) := fun w4 h4 o => by
        have hk : Keeps (fun _ => False) wo w4 := by have e := Hw0.out; subst e; exact ((Keeps.refl _ _).drewN _).step h4
        refine ⟨HL.out.1.kept (hk.alloc _) (fun _ h => h.elim) fun _ _ _ h => h, fun b hb => ⟨fun e => ?_, HL.out.2.1 b hb⟩⟩
        have := HL.out.1.lt b hb
        have := hk.size
        omega
      by_cases hbe : mn x.t r.t ≤ mx x.f r.f
      · go_wp2_with (go_at_call 36; refine (empty_calls _ _ _).mono ?_; rintro e w4 ⟨rfl, hk4⟩; have HK4 := ((HK0.alloc _).alloc _).step hk4; obtain ⟨_, _, cb4, cr04, cr14, hz34, hz44, _⟩ := HW.out w4 HK4; have ex := hk4.heap0 (heap_alloc2_old w0 _ _); have ex0 := cellOf ex 0 rfl; have ex1 := cellOf ex 1 rfl; clear ex)
        have HS := Lib.hid (HS0.out w4 (((Keeps.refl _ _).alloc _).alloc _ |>.step hk4) (.cells #[.int .u64 x.f, .int .u64 (mn x.t r.f), .int .u64 (mx x.f r.t), .int .u64 x.t] 30))
        clear cb4 cr04 cr14 hz34 hz44 ex0 ex1
        go_loopw [8, 90] (fun v8 v90 wi => ∃ (i : Nat) (lg : List Rn), v90 = .int .i64 i ∧ i ≤ 2 ∧ Hid (lg = lf ++ ((pieces r x).take i).filter full) ∧ Hid (Own RnR 30 none' wi v8 lg ∧ (∀ b, rowOf v8 = some b → b ≠ w4.heap.size ∧ w2.heap.size ≤ b)) ∧
          wi.heap[w4.heap.size]? = some (.cells #[.int .u64 x.f, .int .u64 (mn x.t r.f), .int .u64 (mx x.f r.t), .int .u64 x.t] 30 (0, 0)) ∧ Keeps (fun _ => False) w2 wi) (fun _ v90 _ => 2 - (intOf v90).toNat)
        case atStart => exact ⟨0, lf, rfl, by omega, (by show _ = _; simp), HS.out, heap_alloc_new w4 _, HK4.alloc _⟩
        case round =>
          obtain ⟨i, lg, rfl, hi2, HLG, HOL, hlit, HKi⟩ := hrel
          by_cases hi : i < 2
          · have hy : ∃ y, (pieces r x)[i]? = some y ∧ wr.cell? ⟨w4.heap.size, i * 2, none⟩ = some (.int .u64 y.f) ∧ wr.cell? ⟨w4.heap.size, i * 2 + 1, none⟩ = some (.int .u64 y.t) ∧ InK .u64 y.f ∧ InK .u64 y.t := by
              rcases (by omega : i = 0 ∨ i = 1) with rfl | rfl
              · exact ⟨_, rfl, cellOf hlit 0 rfl, cellOf hlit 1 rfl, HIN.out.1⟩
              · exact ⟨_, rfl, cellOf hlit 2 rfl, cellOf hlit 3 rfl, HIN.out.2⟩
            obtain ⟨y, hy, cy0, cy1, hyk⟩ := hy
            have hlitlt := lt_of_heap hlit
            have HY := Lib.hid hy
            have Hyk := Lib.hid hyk
            have Hlit := Lib.hid hlit
            clear hy hyk hlit
            have hfl : Hid (∀ b, (lf ++ ((pieces r x).take (i + 1)).filter full) = lg ++ (if b = full y then (if full y = true then [y] else []) else [])  ∨ b ≠ full y) := by
              intro b
              by_cases hb : b = full y
              · left
                rw [if_pos hb, List.take_add_one, HY.out, List.filter_append, ← List.append_assoc, ← HLG.out]
                cases hh : full y <;> simp [hh]
              · exact .inr hb
            by_cases hfy : y.t ≤ y.f
            · have hq2 : decide (y.t ≤ y.f) = true := decide_eq_true hfy
              go_wp2_with (go_at_call 36; refine (empty_calls _ _ _).mono ?_; rintro e w5 ⟨rfl, hk5⟩)
              go_roundw
              case rel =>
                have hf : full y = false := by simp [full]; omega
                have hki : Keeps (fun _ => False) wr w5 := ((Keeps.refl _ _).alloc _).step hk5
                refine ⟨i + 1, lg, by go_num, by omega, ?_, ⟨HOL.out.1.kept hki (fun _ h => h.elim) fun _ _ _ h => h, HOL.out.2⟩, hki.heap0 Hlit.out, HKi.step hki⟩
                show _ = _
                rcases hfl.out (full y) with h | h
                · rw [h, if_pos rfl, hf]; simp
                · exact absurd rfl h
              case measure => simp [intOf]; omega
            · have hq2 : decide (y.t ≤ y.f) = false := decide_eq_false hfy
              go_wp2_with (first | (go_at_call 36; refine (empty_calls _ _ _).mono ?_; rintro e w5 ⟨rfl, hk5⟩; have ey := hk5.heap0 (heap_alloc_new wr _); have ey0 := cellOf ey 0 rfl; have ey1 := cellOf ey 1 rfl; clear ey; obtain ⟨v', w', hap, HO'⟩ := keep_one HOL.out.1 HOL.out.2 (by have := HKi.size; exact this) hlitlt (((Keeps.refl _ _).alloc _).step hk5) Hyk.out (HLE.out lg i hi2 HLG.out) 22) | (at_builtin; refine Lib.wpList_append_run _ rfl _ _ 22 22 rfl _ _ rfl rfl _ _ hap ?_))
              go_roundw
              case rel =>
                have hf : full y = true := by simp [full]; omega
                obtain ⟨g1, g2, g3⟩ := HO'.out
                refine ⟨i + 1, lg ++ [y], by go_num, by omega, ?_, ⟨g1, g2⟩, g3.heap Hlit.out (fun h => h.1 rfl), HKi.trans g3 (fun b hb h => by omega)⟩
                show _ = _
                rcases hfl.out (full y) with h | h
                · rw [h, if_pos rfl, hf]; simp
                · exact absurd rfl h
              case measure => simp [intOf]; omega
          · obtain rfl : i = 2 := by omega
            go_wp2_with fail
            go_roundw
            case rel =>
              have hlg : lg = lf ++ (pieces r x).filter full := HLG.out
              have hfl2 : ((pieces r x).filter full).length ≤ 2 := List.length_filter_le _ _
              refine ⟨k + 1, _, lg, rfl, by go_num, by omega, by omega, ?_, ⟨HOL.out.1, fun b hb => (HOL.out.2 b hb).2, by rw [hlg, List.length_append]; have := HL.out.2.2; omega⟩, HKi⟩
              show _ = _
              rw [HQ.out, List.drop_eq_getElem_cons hlt, (List.getElem?_eq_some_iff.1 HX.out).2, shed, if_pos hxt, hlg]
              rw [if_pos (show (bothR r x).t ≤ (bothR r x).f from hbe)]
            case measure => simp [intOf]; omega
      · have hq : decide (mn x.t r.t ≤ mx x.f r.f) = false := decide_eq_false hbe
        go_wp2_with (go_at_call 36; refine (empty_calls _ _ _).mono ?_; rintro e w4 ⟨rfl, hk4⟩; have HK4 := ((HK0.alloc _).alloc _).step hk4; obtain ⟨_, _, cb4, cr04, cr14, hz34, hz44, _⟩ := HW.out w4 HK4; have ex := hk4.heap0 (heap_alloc2_old w0 _ _); have ex0 := cellOf ex 0 rfl; have ex1 := cellOf ex 1 rfl; clear ex; have ey := hk4.heap0 (heap_alloc2_new w0 _ _); have ey0 := cellOf ey 0 rfl; have ey1 := cellOf ey 1 rfl; clear ey)
        have HS := Lib.hid (HS0.out w4 (((Keeps.refl _ _).alloc _).alloc _ |>.step hk4) (.cells #[.int .u64 x.f, .int .u64 (mn x.t r.f), .int .u64 (mx x.f r.t), .int .u64 x.t] 30))
        clear cb4 cr04 cr14 hz34 hz44 ex0 ex1 ey0 ey1
        go_loopw [8, 90] (fun v8 v90 wr => ∃ (i : Nat) (lg : List Rn), v90 = .int .i64 i ∧ i ≤ 2 ∧ Hid (lg = lf ++ ((pieces r x).take i).filter full) ∧ Hid (Own RnR 30 none' wr v8 lg ∧ (∀ b, rowOf v8 = some b → b ≠ w4.heap.size ∧ w2.heap.size ≤ b)) ∧
          wr.heap[w4.heap.size]? = some (.cells #[.int .u64 x.f, .int .u64 (mn x.t r.f), .int .u64 (mx x.f r.t), .int .u64 x.t] 30 (0, 0)) ∧ Keeps (fun _ => False) w2 wr) (fun _ v90 _ => 2 - (intOf v90).toNat)
        case atStart => exact ⟨0, lf, rfl, by omega, (by show _ = _; simp), HS.out, heap_alloc_new w4 _, HK4.alloc _⟩
        case round =>
          obtain ⟨i, lg, rfl, hi2, HLG, HOL, hlit, HKi⟩ := hrel
          by_cases hi : i < 2
          · have hy : ∃ y, (pieces r x)[i]? = some y ∧ wr.cell? ⟨w4.heap.size, i * 2, none⟩ = some (.int .u64 y.f) ∧ wr.cell? ⟨w4.heap.size, i * 2 + 1, none⟩ = some (.int .u64 y.t) ∧ InK .u64 y.f ∧ InK .u64 y.t := by
              rcases (by omega : i = 0 ∨ i = 1) with rfl | rfl
              · exact ⟨_, rfl, cellOf hlit 0 rfl, cellOf hlit 1 rfl, HIN.out.1⟩
              · exact ⟨_, rfl, cellOf hlit 2 rfl, cellOf hlit 3 rfl, HIN.out.2⟩
            obtain ⟨y, hy, cy0, cy1, hyk⟩ := hy
            have hlitlt := lt_of_heap hlit
            have HY := Lib.hid hy
            have Hyk := Lib.hid hyk
            have Hlit := Lib.hid hlit
            clear hy hyk hlit
            have hfl : Hid (∀ b, (lf ++ ((pieces r x).take (i + 1)).filter full) = lg ++ (if b = full y then (if full y = true then [y] else []) else [])  ∨ b ≠ full y) := by
              intro b
              by_cases hb : b = full y
              · left
                rw [if_pos hb, List.take_add_one, HY.out, List.filter_append, ← List.append_assoc, ← HLG.out]
                cases hh : full y <;> simp [hh]
              · exact .inr hb
            by_cases hfy : y.t ≤ y.f
            · have hq2 : decide (y.t ≤ y.f) = true := decide_eq_true hfy
              go_wp2_with (go_at_call 36; refine (empty_calls _ _ _).mono ?_; rintro e w5 ⟨rfl, hk5⟩)
              go_roundw
              case rel =>
                have hf : full y = false := by simp [full]; omega
                have hki : Keeps (fun _ => False) wr w5 := ((Keeps.refl _ _).alloc _).step hk5
                refine ⟨i + 1, lg, by go_num, by omega, ?_, ⟨HOL.out.1.kept hki (fun _ h => h.elim) fun _ _ _ h => h, HOL.out.2⟩, hki.heap0 Hlit.out, HKi.step hki⟩
                show _ = _
                rcases hfl.out (full y) with h | h
                · rw [h, if_pos rfl, hf]; simp
                · exact absurd rfl h
              case measure => simp [intOf]; omega
            · have hq2 : decide (y.t ≤ y.f) = false := decide_eq_false hfy
              go_wp2_with (first | (go_at_call 36; refine (empty_calls _ _ _).mono ?_; rintro e w5 ⟨rfl, hk5⟩; have ey := hk5.heap0 (heap_alloc_new wr _); have ey0 := cellOf ey 0 rfl; have ey1 := cellOf ey 1 rfl; clear ey; obtain ⟨v', w', hap, HO'⟩ := keep_one HOL.out.1 HOL.out.2 (by have := HKi.size; exact this) hlitlt (((Keeps.refl _ _).alloc _).step hk5) Hyk.out (HLE.out lg i hi2 HLG.out) 22) | (at_builtin; refine Lib.wpList_append_run _ rfl _ _ 22 22 rfl _ _ rfl rfl _ _ hap ?_))
              go_roundw
              case rel =>
                have hf : full y = true := by simp [full]; omega
                obtain ⟨g1, g2, g3⟩ := HO'.out
                refine ⟨i + 1, lg ++ [y], by go_num, by omega, ?_, ⟨g1, g2⟩, g3.heap Hlit.out (fun h => h.1 rfl), HKi.trans g3 (fun b hb h => by omega)⟩
                show _ = _
                rcases hfl.out (full y) with h | h
                · rw [h, if_pos rfl, hf]; simp
                · exact absurd rfl h
              case measure => simp [intOf]; omega
          · obtain rfl : i = 2 := by omega
            go_wp2_with fail
            go_roundw
            case rel =>
              have hlg : lg = lf ++ (pieces r x).filter full := HLG.out
              have hfl2 : ((pieces r x).filter full).length ≤ 2 := List.length_filter_le _ _
              refine ⟨k + 1, _, lg, rfl, by go_num, by omega, by omega, ?_, ⟨HOL.out.1, fun b hb => (HOL.out.2 b hb).2, by rw [hlg, List.length_append]; have := HL.out.2.2; omega⟩, HKi⟩
              show _ = _
              rw [HQ.out, List.drop_eq_getElem_cons hlt, (List.getElem?_eq_some_iff.1 HX.out).2, shed, if_pos hxt, hlg]
              rw [if_neg (show ¬ (bothR r x).t ≤ (bothR r x).f by show ¬ (mn x.t r.t ≤ mx x.f r.f); omega), wrap_wu, wrap_wu]; rfl
            case measure => simp [intOf]; omega
    · have HE : Hid (dropS l r = (q, lf, k)) := by
        show _ = _
        unfold dropS
        rw [← HP.out, HQ.out]
        by_cases hlt : k < l.length
        · rw [List.drop_eq_getElem_cons hlt, shed, if_neg (fun h => hgo ⟨_, List.getElem?_eq_getElem hlt, h⟩)]
        · rw [List.drop_eq_nil_of_le (by omega)]; rfl
      have HRep : Hid (∀ W : World, Keeps (fun _ => False) wr W → Calls Try.prog 38 #[.slice ad l.length c, .int .i64 p, .int .i64 k, u8] W fun e w' => ∃ ad' n' c', e = .returned (.slice ad' n' c') ∧
          w'.cell? ⟨bs, 0, none⟩ = some (.slice ad l.length c) ∧ w'.frozen? ⟨bs, 0, none⟩ = false ∧
          Hid (Own RnR 30 none' w' (.slice ad' n' c') (dropL l r) ∧ w'.heap[bs]? = some (.cells #[.slice ad l.length c] 62 (0, 0)) ∧ Keeps (fun k => fp = some k) w w' ∧ ∀ k, rowOf (.slice ad' n' c') = some k → fp = some k ∨ w.heap.size ≤ k)) := by
        intro W hkW
        obtain ⟨hK, hsr, cb, cr0, cr1, _, _, _⟩ := HW.out wr HK
        have hKW : Keeps (fun _ => False) w W := hK.step hkW
        have hoW : Own RnR 30 none' W (.slice ad l.length c) l := Ho.out.kept hKW (fun _ h => h.elim) fun _ _ _ h => h
        have hfl : ∀ k, fp = some k → k < w.heap.size := hs0.out.fp_lt
        have hfn : ∀ k, fp = some k → k ≠ bs := hs0.out.fp_ne
        have hoN : Own RnR 30 none' W u8 lf := HL.out.1.kept hkW (fun _ h => h.elim) fun _ _ _ h => h
        have hkk : (dropS l r).2.2 = k := by rw [HE.out]
        have haa : (dropS l r).2.1 = lf := by rw [HE.out]
        have hll := HL.out.2.2
        refine (replace_calls _ _ p k l lf W hoW hoN (fun b hb h => ?_) hpk hkl (by omega)).mono ?_
        · rw [Hfp.out] at hb
          have := hfl b hb
          have := HL.out.2.1 b h
          omega
        · rintro e w' ⟨v', rfl, g1, g2, g3⟩
          rw [Hfp.out] at g2 g3
          obtain ⟨ad', c', rfl, _, _⟩ := g1.form
          have hKw' : Keeps (fun k => fp = some k) w w' := (hKW.mono fun _ _ h => h.elim).trans g2 fun _ _ h => h
          have e1 : w'.heap[bs]? = some (.cells #[.slice ad l.length c] 62 (0, 0)) := hKw'.heap Hbh.out fun h => hfn bs h rfl
          have hlW : w.heap.size ≤ W.heap.size := hKW.size
          refine ⟨ad', _, c', rfl, cellOf e1 0 rfl, freeOf e1 0, ?_, e1, hKw', fun k hk => ?_⟩
          · unfold dropL
            rw [haa, hkk, ← HP.out]
            exact g1
          · rcases g3 k hk with h | h
            · exact .inl h
            · exact .inr (by omega)
      have Hgo := Lib.hid hgo
      clear hgo
      by_cases hlt : k < l.length
      · have hx0 : l[k]? = some l[k] := List.getElem?_eq_getElem hlt
        obtain ⟨x, hx⟩ : ∃ x, x = l[k] := ⟨_, rfl⟩
        rw [← hx] at hx0
        have hxt : ¬ x.f < r.t := fun h => Hgo.out ⟨x, hx0, h⟩
        clear hx
        obtain ⟨_, _, cb, cr0, cr1, hz3, hz4, he⟩ := HW.out wr HK
        obtain ⟨b, o, rfl, c1, c2, hbb, k1, k2⟩ := he k x hx0
        clear he hx0
        go_wp2_with fail
        go_quiet (fail)
        obtain ⟨w0, hw0⟩ : ∃ w0, w0 = wr.drewN nq := ⟨_, rfl⟩
        rw [← hw0]
        have hk0 : Keeps (fun _ => False) wr w0 := by rw [hw0]; exact (Keeps.refl _ _).drewN _
        clear cb cr0 cr1 hz3 hz4 c1 c2 hbb k1 k2
        obtain ⟨_, _, cb, cr0, cr1, hz3, hz4, he⟩ := HW.out w0 (HK.step hk0)
        have Hk0 := Lib.hid hk0
        clear he hw0 hk0
        have hne : ¬ (w.heap.size = bs) := by omega
        go_wp2_with (go_at_call 38; refine (HRep.out _ (by exact Hk0.out)).mono ?_; rintro e w3 ⟨ad', n', c', rfl, d1, d2, HO⟩)
        all_goals
          go_ret
          obtain ⟨g1, g2, g3, g4⟩ := HO.out
          have hlt3 := lt_of_heap g2
          refine ⟨ret_int ?_, _, ⟨_, one_set g2 _, g1.kept (Keeps.setCell (F := fun k => k = bs) (Keeps.refl _ _) (.inl rfl) _) (fun _ h => h.elim) ?_, rfl⟩, g4, (g3.mono fun k _ h => .inr h).setCell (.inl (.inl rfl)) _⟩
          · rw [HE.out]
          · intro b' hb' _ e
            obtain ⟨cs, hcs⟩ := g1.type b' hb'
            exact ne_of_heap hcs g2 (by decide) e
      · obtain ⟨_, _, cb, cr0, cr1, hz3, hz4, he⟩ := HW.out wr HK
        clear he
        obtain rfl : k = l.length := by omega
        go_wp2_with fail
        go_quiet (fail)
        obtain ⟨w0, hw0⟩ : ∃ w0, w0 = wr.drewN nq := ⟨_, rfl⟩
        rw [← hw0]
        have hk0 : Keeps (fun _ => False) wr w0 := by rw [hw0]; exact (Keeps.refl _ _).drewN _
        clear cb cr0 cr1 hz3 hz4
        obtain ⟨_, _, cb, cr0, cr1, hz3, hz4, he⟩ := HW.out w0 (HK.step hk0)
        have Hk0 := Lib.hid hk0
        clear he hw0 hk0
        have hne : ¬ (w.heap.size = bs) := by omega
        go_wp2_with (go_at_call 38; refine (HRep.out _ (by exact Hk0.out)).mono ?_; rintro e w3 ⟨ad', n', c', rfl, d1, d2, HO⟩)
        all_goals
          go_ret
          obtain ⟨g1, g2, g3, g4⟩ := HO.out
          have hlt3 := lt_of_heap g2
          refine ⟨ret_int ?_, _, ⟨_, one_set g2 _, g1.kept (Keeps.setCell (F := fun k => k = bs) (Keeps.refl _ _) (.inl rfl) _) (fun _ h => h.elim) ?_, rfl⟩, g4, (g3.mono fun k _ h => .inr h).setCell (.inl (.inl rfl)) _⟩
          · rw [HE.out]
          · intro b' hb' _ e
            obtain ⟨cs, hcs⟩ := g1.type b' hb'
            exact ne_of_heap hcs g2 (by decide) e
end Go.Proofs.Ytaphhmefkfhepaa.Run
