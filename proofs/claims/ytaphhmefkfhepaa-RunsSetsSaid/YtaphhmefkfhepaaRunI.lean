/- The walks over package runs, ninth part: Count, Add, Drop. -/
import Derived.Test.YtaphhmefkfhepaaRunH
namespace Go.Proofs.Ytaphhmefkfhepaa.Run
open Go Go.RowKit Go.Proofs.Ytaphhmefkfhepaa.L
set_option linter.unusedVariables false
set_option linter.unusedSimpArgs false
attribute [local go_sem] max_go min_go

def countL : List Rn → Int
  | [] => 0
  | r :: l => (r.t - r.f) + countL l
theorem countL_append (a b : List Rn) : countL (a ++ b) = countL a + countL b := by
  induction a with
  | nil => simp [countL]
  | cons x a ih => simp [countL, ih]; omega
theorem countL_take {l : List Rn} {k : Nat} {r : Rn} (h : l[k]? = some r) : countL (l.take (k + 1)) = countL (l.take k) + (r.t - r.f) := by
  rw [List.take_add_one, h, countL_append]; simp [countL]
/-- A number of 64 bits, wrapped round. -/
def wu (x : Int) : Int := x % 18446744073709551616
theorem wrap_wu (x : Int) : IntKind.u64.wrap x = wu x := by simp [IntKind.wrap, IntKind.bits, IntKind.signed, wu]
theorem wu_wu (x y : Int) : wu (wu x + wu y) = wu (x + y) := by unfold wu; omega
theorem wu_id {x : Int} (h0 : 0 ≤ x) (h1 : x ≤ 18446744073709551615) : wu x = x := by unfold wu; omega

set_option maxHeartbeats 1000000 in
theorem count_calls (w : World) (pv : Value) (l : List Rn) (hr : Calls Try.prog 11 #[pv] w (Told w l)) :
    Calls Try.prog 25 #[pv] w fun e w' => e = .returned (.int .u64 (wu (countL l))) ∧ Keeps (fun _ => False) w w' := by
  have HR := Lib.hid hr
  clear hr
  go_enter Try.func25, Try.ntmps25
  go_wp2_with (go_at_call 11; refine HR.out.mono ?_; rintro e w1 ⟨v', rfl, h1, h2, h3⟩; obtain ⟨ad, c, rfl, q1, q2⟩ := h1.form; unfold maxLen at q2)
  have hk := Lib.hid (h1.slice (A' := fun k => rowOf (.slice ad l.length c) = some k) (fun _ h => h.elim) (fun _ h => h))
  clear h1 h2
  go_loopw [3, 9] (fun u3 u9 wr => ∃ (k : Nat) (q : Int), u9 = .int .i64 k ∧ k ≤ l.length ∧ u3 = .int .u64 q ∧ Hid (q = wu (countL (l.take k))) ∧ Keeps (fun _ => False) w1 wr) (fun _ u9 _ => l.length - (intOf u9).toNat)
  case atStart => exact ⟨0, 0, rfl, Nat.zero_le _, rfl, rfl, Keeps.refl _ _⟩
  case round =>
    obtain ⟨k, q, rfl, hkl, rfl, HQ, HK⟩ := hrel
    by_cases hlt : k < l.length
    · obtain ⟨b, o, rfl, hA, hbb, hcell⟩ := run_at hk.out (by omega)
      obtain ⟨r, hr0⟩ : ∃ r, l[k]? = some r := ⟨l[k], List.getElem?_eq_getElem hlt⟩
      obtain ⟨k1, k2, c1, c2⟩ := hcell k r hr0
      have HR0 := Lib.hid hr0
      clear hcell hr0
      rw [← kcell HK b _ hbb (fun hf => hf)] at c1 c2
      go_wp2
      go_roundw
      case rel =>
        refine ⟨k + 1, _, by go_num, by omega, rfl, ?_, HK.alloc _⟩
        show _ = _
        rw [countL_take HR0.out, HQ.out, wrap_wu, wrap_wu, wu_wu]
      case measure => simp [intOf]; omega
    · obtain rfl : k = l.length := by omega
      go_wp2
      go_ret
      exact ⟨ret_int (by rw [HQ.out, List.take_length]), h3.step HK⟩

/-- How many numbers two runs have in common, as Add counts it. -/
def ovl (r x : Rn) : Int := mn x.t r.t - mn (mx x.f r.f) (mn x.t r.t)
/-- What Add goes through. -/
def absorb (r : Rn) : List Rn → Rn × Int × Nat → Rn × Int × Nat
  | [], s => s
  | x :: l, (a, q, k) => if x.f ≤ r.t then absorb r l (⟨mn a.f x.f, mx a.t x.t⟩, wu (q + wu (ovl r x)), k + 1) else (a, q, k)
def addS (l : List Rn) (r : Rn) : Rn × Int × Nat := absorb r (l.drop (place l r.f)) (r, 0, place l r.f)
def addL (l : List Rn) (r : Rn) : List Rn := l.take (place l r.f) ++ [(addS l r).1] ++ l.drop (addS l r).2.2
theorem absorb_le (r : Rn) : ∀ (l : List Rn) (s : Rn × Int × Nat), s.2.2 ≤ (absorb r l s).2.2 ∧ (absorb r l s).2.2 ≤ s.2.2 + l.length
  | [], s => by simp [absorb]
  | x :: l, (a, q, k) => by
    unfold absorb
    split
    · have := absorb_le r l (⟨mn a.f x.f, mx a.t x.t⟩, wu (q + wu (ovl r x)), k + 1)
      simp at this ⊢; omega
    · simp

set_option maxRecDepth 100000 in
set_option maxHeartbeats 8000000 in
theorem add_calls (w : World) (bs : Nat) (fp : Option Nat) (l : List Rn) (r : Rn) (hs : SetAt w bs fp l) (hr : Rises l) (hre : r.f < r.t) (hrk : InK .u64 r.f ∧ InK .u64 r.t) (hb : l.length ≤ 549755813888) :
    Calls Try.prog 21 #[.pointer (some ⟨bs, 0, none⟩), .agg #[.int .u64 r.f, .int .u64 r.t]] w fun e w' => e = .returned (.int .u64 (wu (wu (r.t - r.f) - (addS l r).2.1))) ∧ ∃ fp', SetAt w' bs fp' (addL l r) ∧ (∀ k, fp' = some k → fp = some k ∨ w.heap.size ≤ k) ∧ Keeps (fun k => k = bs ∨ fp = some k) w w' := by
  have HA : Hid (∀ w1, SetAt w1 bs fp l → Calls Try.prog 37 #[.pointer (some ⟨bs, 0, none⟩), .int .u64 r.f] w1 fun e w' => e = .returned (.int .i64 (place l r.f)) ∧ Keeps (fun _ => False) w1 w') := fun w1 h => at_calls w1 bs fp l r.f h hr
  have hs0 := Lib.hid hs
  obtain ⟨v, hbh, ho, hfp⟩ := hs
  have hbl := lt_of_heap hbh
  have hbc := cellOf hbh 0 rfl
  obtain ⟨ad, c, rfl, h1, h2⟩ := ho.form
  unfold maxLen at h2
  have hk := ho.slice (A' := fun k => rowOf (.slice ad l.length c) = some k) (fun _ h => h.elim) (fun _ h => h)
  have hpl := place_le l r.f
  obtain ⟨p, HP⟩ : ∃ p, Hid (p = place l r.f) := ⟨_, rfl⟩
  rw [← HP.out] at hpl HA
  have hte : ¬ (r.t ≤ r.f) := by omega
  have Hbh := Lib.hid hbh
  have Ho := Lib.hid ho
  have Hfp := Lib.hid hfp
  have Hk := Lib.hid hk
  clear hbh ho hfp hk hr
  go_enter Try.func21, Try.ntmps21
  go_wp2_with (first | (go_at_call 36; refine (empty_calls _ _ _).mono ?_; rintro e w1 ⟨rfl, hk1⟩; obtain ⟨hcc, hff⟩ := kcell0 hk1) | (go_at_call 37; refine (HA.out _ (hs0.out.kept0 (((Keeps.refl _ _).alloc _).step hk1))).mono ?_; rintro e w2 ⟨rfl, hk2⟩; obtain ⟨hcc2, hff2⟩ := kcell0 (hk1.step hk2)))
  have hk12 := hk1.step hk2
  have hz2 : w.heap.size < w2.heap.size := by have := hk12.size; simp at this; omega
  have hkw : Keeps (fun _ => False) w w2 := ((Keeps.refl _ _).alloc _).step hk12
  have hW : ∀ wr, Keeps (fun k => k = w2.heap.size) (w2.alloc (.cells #[.int .u64 r.f, .int .u64 r.t] 30)) wr → Keeps (fun _ => False) w wr ∧ SetAt wr bs fp l ∧ wr.cell? ⟨bs, 0, none⟩ = some (.slice ad l.length c) ∧ wr.cell? ⟨w.heap.size, 0, none⟩ = some (.int .u64 r.f) ∧ wr.cell? ⟨w.heap.size, 1, none⟩ = some (.int .u64 r.t) ∧ bs < wr.heap.size ∧ w2.heap.size < wr.heap.size := fun wr hkr => by
    have hK : Keeps (fun _ => False) w wr := (hkw.alloc _).trans hkr (by intro k hk e; omega)
    have e1 : wr.heap[w.heap.size]? = some (.cells #[.int .u64 r.f, .int .u64 r.t] 30 (0, 0)) := hkr.heap (by rw [heap_alloc_old _ _ hz2]; exact hk12.heap0 (heap_alloc_new w _)) (by show ¬ (_ = _); omega)
    have hs1 := hs0.out.kept0 hK
    exact ⟨hK, hs1, cellOf (hK.heap0 Hbh.out) 0 rfl, cellOf e1 0 rfl, cellOf e1 1 rfl, hs1.lt, by have := hkr.size; simp at this; omega⟩
  have HW := Lib.hid hW
  clear hW hcc hff hcc2 hff2
  go_loopw [5, 7] (fun u5 u7 wr => ∃ (k : Nat) (q a1 a2 : Int), u5 = .int .u64 q ∧ u7 = .int .i64 k ∧ p ≤ k ∧ k ≤ l.length ∧ Hid (absorb r (l.drop p) (r, 0, p) = absorb r (l.drop k) (⟨a1, a2⟩, q, k)) ∧ Hid (InK .u64 a1 ∧ InK .u64 a2) ∧ wr.heap[w2.heap.size]? = some (.cells #[.int .u64 a1, .int .u64 a2] 30 (0, 0)) ∧ Keeps (fun k => k = w2.heap.size) (w2.alloc (.cells #[.int .u64 r.f, .int .u64 r.t] 30)) wr) (fun _ u7 _ => l.length - (intOf u7).toNat)
  case atStart => exact ⟨p, 0, r.f, r.t, rfl, rfl, Nat.le_refl _, hpl, rfl, hrk, heap_alloc_new _ _, Keeps.refl _ _⟩
  case round =>
    obtain ⟨k, q, a1, a2, rfl, rfl, hpk, hkl, HQ, HI, hab, HK⟩ := hrel
    have facts : ∀ wq : World, wq.heap = wr.heap → (wq.cell? ⟨bs, 0, none⟩ = some (.slice ad l.length c) ∧ wq.cell? ⟨w.heap.size, 0, none⟩ = some (.int .u64 r.f) ∧ wq.cell? ⟨w.heap.size, 1, none⟩ = some (.int .u64 r.t) ∧ bs < wq.heap.size ∧ w2.heap.size < wq.heap.size ∧
        wq.cell? ⟨w2.heap.size, 0, none⟩ = some (.int .u64 a1) ∧ wq.cell? ⟨w2.heap.size, 1, none⟩ = some (.int .u64 a2) ∧ wq.frozen? ⟨w2.heap.size, 0, none⟩ = false ∧ wq.frozen? ⟨w2.heap.size, 1, none⟩ = false ∧ w.heap.size < wq.heap.size) ∧
        ∀ i x, l[i]? = some x → ∃ b o, ad = some ⟨b, o, none⟩ ∧ wq.cell? ⟨b, o + i * 2, none⟩ = some (.int .u64 x.f) ∧ wq.cell? ⟨b, o + i * 2 + 1, none⟩ = some (.int .u64 x.t) ∧ b < wq.heap.size ∧ InK .u64 x.f ∧ InK .u64 x.t := fun wq he => by
      have ec : ∀ a, wq.cell? a = wr.cell? a := fun a => World.cell?_of_block (w := wr) (by rw [he])
      have ef : ∀ a, wq.frozen? a = wr.frozen? a := fun a => World.frozen?_of_block (w := wr) (by rw [he])
      obtain ⟨hK, hsr, cb, cr0, cr1, hz3, hz4⟩ := HW.out wr HK
      simp only [ec, ef, he]
      refine ⟨⟨cb, cr0, cr1, hz3, hz4, cellOf hab 0 rfl, cellOf hab 1 rfl, freeOf hab 0, freeOf hab 1, by omega⟩, fun i x hx => ?_⟩
      obtain ⟨b, o, rfl, hA, hbb, hcell⟩ := run_at Hk.out (by have := (List.getElem?_eq_some_iff.1 hx).1; omega)
      obtain ⟨k1, k2, c1, c2⟩ := hcell i x hx
      refine ⟨b, o, rfl, ?_, ?_, by have := hK.size; omega, k1, k2⟩
      · rw [kcell hK b _ hbb (fun hf => hf)]; exact c1
      · rw [kcell hK b _ hbb (fun hf => hf)]; exact c2
    have HF := Lib.hid facts
    have Hab := Lib.hid hab
    clear facts hab
    by_cases hgo : ∃ x, l[k]? = some x ∧ x.f ≤ r.t
    · obtain ⟨x, hx0, hxt⟩ := hgo
      have hlt : k < l.length := (List.getElem?_eq_some_iff.1 hx0).1
      have HX := Lib.hid hx0
      obtain ⟨⟨cb, cr0, cr1, hz3, hz4, ca0, ca1, cf0, cf1, hz5⟩, he⟩ := HF.out wr rfl
      obtain ⟨b, o, rfl, c1, c2, hbb, k1, k2⟩ := he k x hx0
      clear he hx0
      go_wp2_with fail
      go_quiet (fail)
      obtain ⟨w0, hw0⟩ : ∃ w0, w0 = wr.drewN nq := ⟨_, rfl⟩
      rw [← hw0]
      clear cb cr0 cr1 hz3 hz4 ca0 ca1 cf0 cf1 hz5 c1 c2 hbb k1 k2
      obtain ⟨⟨cb, cr0, cr1, hz3, hz4, ca0, ca1, cf0, cf1, hz5⟩, he⟩ := HF.out w0 (by rw [hw0]; rfl)
      obtain ⟨b', o', eq, c1, c2, hbb, k1, k2⟩ := he k x HX.out
      injection eq with eq; injection eq with eq1 eq2; subst eq1 eq2
      have Hw0 := Lib.hid hw0
      clear he hw0
      go_wp2_with fail
      go_roundw
      case rel =>
        refine ⟨k + 1, _, mn a1 x.f, mx a2 x.t, rfl, by go_num, by omega, by omega, ?_, ?_, ?_, ?_⟩
        · show _ = _
          rw [HQ.out, List.drop_eq_getElem_cons hlt, (List.getElem?_eq_some_iff.1 HX.out).2, absorb, if_pos hxt, wrap_wu, wrap_wu]
          rfl
        · exact ⟨by unfold mn; split; exact k1; exact HI.out.1, by unfold mx; split; exact k2; exact HI.out.2⟩
        · have e := Hw0.out
          rw [heap_alloc_old _ _ (by simp [World.setCell]; exact hz4)]
          exact two_set (by rw [e]; exact Hab.out) _ _
        · have e := Hw0.out
          subst e
          exact (((HK.drewN nq).setCell (.inl rfl) _).setCell (.inl rfl) _).alloc _
      case measure => simp [intOf]; omega
    · have HE : Hid (addS l r = (⟨a1, a2⟩, q, k)) := by
        show _ = _
        unfold addS
        rw [← HP.out, HQ.out]
        by_cases hlt : k < l.length
        · rw [List.drop_eq_getElem_cons hlt, absorb, if_neg (fun h => hgo ⟨_, List.getElem?_eq_getElem hlt, h⟩)]
        · rw [List.drop_eq_nil_of_le (by omega)]; rfl
      have HRep : Hid (∀ W w0 : World, Keeps (fun _ => False) wr w0 → Keeps (fun _ => False) w0 W → W.heap[w0.heap.size]? = some (.cells #[.int .u64 a1, .int .u64 a2] 30 (0, 0)) → Calls Try.prog 38 #[.slice ad l.length c, .int .i64 p, .int .i64 k, .slice (some ⟨w0.heap.size, 0, none⟩) 1 1] W fun e w' => ∃ ad' n' c', e = .returned (.slice ad' n' c') ∧
          w'.cell? ⟨bs, 0, none⟩ = some (.slice ad l.length c) ∧ w'.frozen? ⟨bs, 0, none⟩ = false ∧ w'.cell? ⟨w.heap.size, 0, none⟩ = some (.int .u64 r.f) ∧ w'.cell? ⟨w.heap.size, 1, none⟩ = some (.int .u64 r.t) ∧
          Hid (Own RnR 30 none' w' (.slice ad' n' c') (addL l r) ∧ w'.heap[bs]? = some (.cells #[.slice ad l.length c] 62 (0, 0)) ∧ Keeps (fun k => fp = some k) w w' ∧ ∀ k, rowOf (.slice ad' n' c') = some k → fp = some k ∨ w.heap.size ≤ k)) := by
        intro W w0 hk0 hkW hnew
        obtain ⟨hK, hsr, cb, cr0, cr1, _, _⟩ := HW.out wr HK
        have hKW : Keeps (fun _ => False) w W := (hK.step hk0).step hkW
        have hoW : Own RnR 30 none' W (.slice ad l.length c) l := Ho.out.kept hKW (fun _ h => h.elim) fun _ _ _ h => h
        have hfl : ∀ k, fp = some k → k < w.heap.size := hs0.out.fp_lt
        have hfn : ∀ k, fp = some k → k ≠ bs := hs0.out.fp_ne
        have hw0 : w.heap.size < w0.heap.size := by have e1 := (HW.out wr HK).2.2.2.2.2.2; have e2 := hk0.size; omega
        have hoN : Own RnR 30 none' W (.slice (some ⟨w0.heap.size, 0, none⟩) 1 1) [⟨a1, a2⟩] := by
          refine own_of (L := [.int .u64 a1, .int .u64 a2]) (body := [.int .u64 a1, .int .u64 a2]) hnew rfl rfl (Nat.le_refl _) (by unfold maxLen; omega) rfl (Cells.single ⟨rfl, HI.out⟩)
        have hab1 := absorb_le r (l.drop p) (r, 0, p)
        have hkk : (addS l r).2.2 = k := by rw [HE.out]
        have haa : (addS l r).1 = ⟨a1, a2⟩ := by rw [HE.out]
        refine (replace_calls _ _ p k l [⟨a1, a2⟩] W hoW hoN (fun b hb h => ?_) hpk hkl (by simp; omega)).mono ?_
        · rw [Hfp.out] at hb
          have := hfl b hb
          simp [rowOf] at h
          omega
        · rintro e w' ⟨v', rfl, g1, g2, g3⟩
          rw [Hfp.out] at g2 g3
          obtain ⟨ad', c', rfl, _, _⟩ := g1.form
          have hKw' : Keeps (fun k => fp = some k) w w' := (hKW.mono fun _ _ h => h.elim).trans g2 fun _ _ h => h
          have e1 : w'.heap[bs]? = some (.cells #[.slice ad l.length c] 62 (0, 0)) := hKw'.heap Hbh.out fun h => hfn bs h rfl
          have e2 : W.cell? ⟨w.heap.size, 0, none⟩ = some (.int .u64 r.f) ∧ W.cell? ⟨w.heap.size, 1, none⟩ = some (.int .u64 r.t) := by
            have hlt : w.heap.size < wr.heap.size := by have e1 := (HW.out wr HK).2.2.2.2.2.2; omega
            exact ⟨(kcell (hk0.step hkW) _ 0 hlt fun h => h).trans cr0, (kcell (hk0.step hkW) _ 1 hlt fun h => h).trans cr1⟩
          have hlW : w.heap.size < W.heap.size := by have := hkW.size; omega
          have hnf : ¬ fp = some w.heap.size := fun h => by have := hfl _ h; omega
          refine ⟨ad', _, c', rfl, cellOf e1 0 rfl, freeOf e1 0, (kcell g2 _ 0 hlW hnf).trans e2.1, (kcell g2 _ 1 hlW hnf).trans e2.2, ?_, e1, hKw', fun k hk => ?_⟩
          · unfold addL
            rw [haa, hkk, ← HP.out]
            exact g1
          · rcases g3 k hk with h | h
            · exact .inl h
            · exact .inr (by omega)
      clear HA
      have Hgo := Lib.hid hgo
      clear hgo
      by_cases hlt : k < l.length
      · have hx0 : l[k]? = some l[k] := List.getElem?_eq_getElem hlt
        obtain ⟨x, hx⟩ : ∃ x, x = l[k] := ⟨_, rfl⟩
        rw [← hx] at hx0
        have hxt : ¬ x.f ≤ r.t := fun h => Hgo.out ⟨x, hx0, h⟩
        clear hx
        obtain ⟨⟨cb, cr0, cr1, hz3, hz4, ca0, ca1, cf0, cf1, hz5⟩, he⟩ := HF.out wr rfl
        obtain ⟨b, o, rfl, c1, c2, hbb, k1, k2⟩ := he k x hx0
        clear he hx0
        go_wp2_with fail
        go_quiet (fail)
        obtain ⟨w0, hw0⟩ : ∃ w0, w0 = wr.drewN nq := ⟨_, rfl⟩
        rw [← hw0]
        clear cb cr0 cr1 hz3 hz4 ca0 ca1 cf0 cf1 hz5 c1 c2 hbb k1 k2
        have hh0 : w0.heap = wr.heap := by rw [hw0]; rfl
        obtain ⟨⟨cb, cr0, cr1, hz3, hz4, ca0, ca1, cf0, cf1, hz5⟩, he⟩ := HF.out w0 hh0
        have Hk0 : Hid (Keeps (fun _ => False) wr w0) := by rw [hw0]; exact (Keeps.refl _ _).drewN _
        have Hw0 := Lib.hid hw0
        clear he hw0 hh0
        have hne : ¬ (w.heap.size = bs) := by omega
        go_wp2_with fail
        go_region_with (go_at_call 38; refine (HRep.out _ w0 Hk0.out (by exact ((Keeps.refl _ _).alloc _).drew) (by exact heap_alloc_new w0 _)).mono ?_; rintro e w3 ⟨ad', n', c', rfl, d1, d2, d3, d4, HO⟩)
        all_goals go_wp2_with fail
        all_goals
          go_ret
          obtain ⟨g1, g2, g3, g4⟩ := HO.out
          have hlt3 := lt_of_heap g2
          refine ⟨ret_int ?_, _, ⟨_, one_set g2 _, g1.kept (Keeps.setCell (F := fun k => k = bs) (Keeps.refl _ _) (.inl rfl) _) (fun _ h => h.elim) ?_, rfl⟩, g4, (g3.mono fun k _ h => .inr h).setCell (.inl (.inl rfl)) _⟩
          · rw [wrap_wu, wrap_wu, HE.out]
          · intro b' hb' _ e
            obtain ⟨cs, hcs⟩ := g1.type b' hb'
            exact ne_of_heap hcs g2 (by decide) e
      · obtain ⟨⟨cb, cr0, cr1, hz3, hz4, ca0, ca1, cf0, cf1, hz5⟩, he⟩ := HF.out wr rfl
        clear he
        obtain rfl : k = l.length := by omega
        go_wp2_with fail
        go_quiet (fail)
        obtain ⟨w0, hw0⟩ : ∃ w0, w0 = wr.drewN nq := ⟨_, rfl⟩
        rw [← hw0]
        clear cb cr0 cr1 hz3 hz4 ca0 ca1 cf0 cf1 hz5
        have hh0 : w0.heap = wr.heap := by rw [hw0]; rfl
        obtain ⟨⟨cb, cr0, cr1, hz3, hz4, ca0, ca1, cf0, cf1, hz5⟩, he⟩ := HF.out w0 hh0
        have Hk0 : Hid (Keeps (fun _ => False) wr w0) := by rw [hw0]; exact (Keeps.refl _ _).drewN _
        have Hw0 := Lib.hid hw0
        clear he hw0 hh0
        have hne : ¬ (w.heap.size = bs) := by omega
        go_wp2_with fail
        go_region_with (go_at_call 38; refine (HRep.out _ w0 Hk0.out (by exact ((Keeps.refl _ _).alloc _).drew) (by exact heap_alloc_new w0 _)).mono ?_; rintro e w3 ⟨ad', n', c', rfl, d1, d2, d3, d4, HO⟩)
        all_goals go_wp2_with fail
        all_goals
          go_ret
          obtain ⟨g1, g2, g3, g4⟩ := HO.out
          have hlt3 := lt_of_heap g2
          refine ⟨ret_int ?_, _, ⟨_, one_set g2 _, g1.kept (Keeps.setCell (F := fun k => k = bs) (Keeps.refl _ _) (.inl rfl) _) (fun _ h => h.elim) ?_, rfl⟩, g4, (g3.mono fun k _ h => .inr h).setCell (.inl (.inl rfl)) _⟩
          · rw [wrap_wu, wrap_wu, HE.out]
          · intro b' hb' _ e
            obtain ⟨cs, hcs⟩ := g1.type b' hb'
            exact ne_of_heap hcs g2 (by decide) e
end Go.Proofs.Ytaphhmefkfhepaa.Run
