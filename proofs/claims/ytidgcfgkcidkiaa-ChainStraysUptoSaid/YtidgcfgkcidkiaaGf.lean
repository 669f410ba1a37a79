/- A library of no program: the rest of the operations that leave memory alone. -/
import Derived.Test.YtidgcfgkcidkiaaGe
import Derived.Laws.CopyRow
import Derived.Laws.Tables
namespace Go.Proofs.Ytidgcfgkcidkiaa.X
open Go Go.Proofs.Ytidgcfgkcidkiaa.L
set_option linter.unusedVariables false
set_option linter.unusedSimpArgs false

section
variable {P : Program} {K : Ctx} {e : Nat → Option AV} {get : Nat → Obj} {a : Act} {w : World}

theorem setN_lay {α : Type} : ∀ (l ys r : List α), layN l ys = some r → r = ys ++ l.drop ys.length ∧ ys.length ≤ l.length
  | l, [], r, h => by cases l <;> (simp [layN] at h; subst h; simp)
  | [], y :: ys, r, h => by simp [layN] at h
  | x :: l, y :: ys, r, h => by
    simp only [layN] at h
    split at h
    · rename_i s hs
      cases h
      obtain ⟨h1, h2⟩ := setN_lay l ys s hs
      simp [h1, h2]
    · cases h
theorem setN_eq {α : Type} : ∀ (l : List α) (n : Nat) (ys r : List α), setN l n ys = some r → r = l.take n ++ ys ++ l.drop (n + ys.length) ∧ n + ys.length ≤ l.length
  | l, 0, ys, r, h => by
    have := setN_lay l ys r (by cases l <;> exact h)
    simpa using this
  | [], n + 1, ys, r, h => by simp [setN] at h
  | x :: l, n + 1, ys, r, h => by
    simp only [setN] at h
    split at h
    · rename_i s hs
      cases h
      obtain ⟨h1, h2⟩ := setN_eq l n ys s hs
      refine ⟨?_, by simp; omega⟩
      rw [h1, show n + 1 + ys.length = (n + ys.length) + 1 by omega]
      simp
    · cases h
theorem VRs.take {us : List AV} {ds : List Value} (h : VRs K us ds) (n : Nat) : VRs K (us.take n) (ds.take n) := by simpa using h.take_drop 0 n
theorem VRs.drop {us : List AV} {ds : List Value} (h : VRs K us ds) (n : Nat) : VRs K (us.drop n) (ds.drop n) := by
  refine ⟨by simp [h.1], fun i u d h1 h2 => ?_⟩
  rw [List.getElem?_drop] at h1 h2
  exact h.2 _ u d h1 h2
theorem VRs.setN {us ys r : List AV} {ds es : List Value} {n : Nat} (h : VRs K us ds) (k : VRs K ys es) (hr : setN us n ys = some r) : VRs K r (ds.take n ++ es ++ ds.drop (n + es.length)) := by
  obtain ⟨rfl, _⟩ := setN_eq _ _ _ _ hr
  rw [k.1]
  exact ((h.take n).append k).append (h.drop _)
theorem fold_seg : ∀ (vs : List Value) (off i : Nat) (cells : Array Value), off + i + vs.length ≤ cells.size →
    ((vs.zipIdx i).foldl (fun cs x => cs.setIfInBounds (off + x.2) x.1) cells).toList = cells.toList.take (off + i) ++ vs ++ cells.toList.drop (off + i + vs.length)
  | [], off, i, cells, h => by simp
  | v :: vs, off, i, cells, h => by
    simp only [List.zipIdx_cons, List.foldl_cons]
    rw [fold_seg vs off (i + 1) _ (by simp at h ⊢; omega)]
    have e := list_seg_step cells.toList (off + i) v vs (by simp at h ⊢; omega)
    simpa [Array.toList_setIfInBounds, Nat.add_assoc] using e
theorem fillA_sound (hS : RelS K e get a w) {place : Nat → Option (Nat × Nat)} : ∀ (parts : List (Nat × Operand)) (cs r : List AV) (ds : Array Value), fillA e place cs parts = some r → VRs K cs ds.toList →
    ∃ ds', Instr.fill place ds (parts.map fun x => (x.1, a.eval x.2)) = some ds' ∧ VRs K r ds'.toList
  | [], cs, r, ds, h, hd => by cases h; exact ⟨ds, rfl, hd⟩
  | (i, x) :: ps, cs, r, ds, h, hd => by
    simp only [fillA] at h
    split at h
    · rename_i off size v hp hv
      split at h
      · rename_i hl hc
        split at h
        · rename_i c hs
          have hv' := opv_sound hS hv
          obtain ⟨h1, _⟩ := hv'.cells hc
          obtain ⟨_, h2⟩ := setN_eq _ _ _ _ hs
          have h3 := lenB_iff.1 hl
          have h4 : (a.eval x).cells.size = size := by have := h1.1; simp at this; omega
          have h5 : off + (a.eval x).cells.size ≤ ds.size := by have := hd.1; simp at this; omega
          have e1 : ((a.eval x).cells.zipIdx.foldl (fun cs (c, j) => cs.setIfInBounds (off + j) c) ds).toList = ds.toList.take off ++ (a.eval x).cells.toList ++ ds.toList.drop (off + (a.eval x).cells.toList.length) := by
            rw [← Array.foldl_toList, Array.toList_zipIdx]
            simpa using fold_seg (a.eval x).cells.toList off 0 ds (by simpa using h5)
          obtain ⟨ds', hf, hr⟩ := fillA_sound hS ps c r _ h (by rw [e1]; exact hd.setN h1 hs)
          refine ⟨ds', ?_, hr⟩
          simp only [List.map_cons, Instr.fill, hp]
          rw [if_neg (by simp [h4]; omega)]
          exact hf
        · cases h
      · cases h
    · cases h
theorem nth_arr {α : Type} (l : List α) : nth l = fun i => l.toArray[i]? := by funext i; rw [nth_eq]; simp
theorem buildA_sound (hS : RelS K e get a w) {T : TypeId} {parts : Array (Nat × Operand)} {r : List AV} (h : buildA P e T parts.toList = some r) :
    ∃ ds : Array Value, (Instr.build T (parts.map fun (i, x) => (i, a.eval x))).run P w = .ok (.agg ds) w ∧ VRs K r ds.toList := by
  unfold buildA at h
  split at h
  · rename_i it n el hi hu
    split at h
    · rename_i z ie hz hie
      split at h
      · rename_i zs hzs
        obtain ⟨ds, h1, h2⟩ := fillA_sound hS parts.toList zs r z.cells h (cstL_sound _ _ hzs)
        refine ⟨ds, run_build w T _ ds ?_, h2⟩
        simp only [Program.built, hi, hu, hz, hie]
        rw [Array.toList_map]
        exact h1
      · cases h
    · cases h
  · rename_i it fs hi hu
    split at h
    · rename_i z places hz hp
      split at h
      · rename_i zs hzs
        obtain ⟨ds, h1, h2⟩ := fillA_sound hS parts.toList zs r z.cells h (cstL_sound _ _ hzs)
        refine ⟨ds, run_build w T _ ds ?_, h2⟩
        simp only [Program.built, hi, hu, hz, hp]
        rw [Array.toList_map, ← nth_arr]
        exact h1
      · cases h
    · cases h
  · cases h

theorem beq_eq' {m n : Nat} (h : Nat.beq m n = true) : m = n := Nat.eq_of_beq_eq_true h
theorem addr_mid (b o j : Nat) : (⟨b, o, none⟩ : Addr).add j = ⟨b, o + j, none⟩ := by unfold Addr.add; split <;> simp_all
theorem movA_sound {x y : AV} {o : Nat} {c : Value} (h : movA x o = some y) (hx : VR K x c) : ∃ ad, c = .pointer (some ad) ∧ VR K y (.pointer (some (ad.add o))) := by
  unfold movA at h
  split at h
  · rename_i id off
    cases h
    cases hx with
    | pure h => cases h
    | ptr id off c hk h hp =>
      obtain ⟨ad, rfl⟩ := hp
      refine ⟨ad, rfl, .ptr _ _ _ hk ?_ ⟨_, rfl⟩⟩
      rcases h with h | h
      · exact .inl h
      · injection h with h; injection h with h; subst h; rw [addr_mid]; exact .inr rfl
  · rename_i id sz i off
    cases h
    cases hx with
    | pure h => cases h
    | ept id sz i off c hk h hp =>
      obtain ⟨ad, rfl⟩ := hp
      refine ⟨ad, rfl, .ept _ _ _ _ _ hk ?_ ⟨_, rfl⟩⟩
      rcases h with h | ⟨n, h1, h2, h⟩
      · exact .inl h
      · injection h with h; injection h with h; subst h; rw [addr_mid]; exact .inr ⟨n, h1, h2, by rw [Nat.add_assoc]⟩
  · rename_i sz xs i off
    cases h
    cases hx with
    | pure h => cases h
    | lpt sz xs i off ad n c hx hi =>
      refine ⟨_, rfl, ?_⟩
      rw [addr_mid, Nat.add_assoc]
      exact .lpt sz xs i (off + o) ad n c hx hi
  · cases h
theorem cells_info {T : TypeId} {i : TypeInfo} (h : P.info? T = some i) : P.cellsOf T = i.size := by simp [Program.cellsOf, h]

theorem indexA_sound {T : TypeId} {x y v : AV} {c d : Value} {g g' : List Gd} {ob : List Prop} (hx : VR K x c) (hy : VR K y d) (h : indexA P T x y g = some (v, ob, g')) (ho : AllP ob) :
    ∃ r, (Instr.indexAt T c d).run P w = .ok r w ∧ VR K v r := by
  unfold indexA at h
  split at h
  · cases h
  · rename_i j o1 g1 hj
    split at h
    · rename_i len el id off hu
      split at h
      · rename_i i hi
        cases h
        obtain ⟨k, rfl⟩ := ixA_sound hy hj ho.2
        have hjl := ho.1
        obtain ⟨ad, rfl, hv⟩ := movA_sound (x := .ptr id off) (o := j * P.cellsOf el) rfl hx
        exact ⟨_, by simp [Instr.indexAt, asIntOf, run_underlying hu, Instr.sureAddr, hjl, size_run hi], hv⟩
      · cases h
    · rename_i len el id sz i off hu
      split at h
      · rename_i i' hi
        cases h
        obtain ⟨k, rfl⟩ := ixA_sound hy hj ho.2
        have hjl := ho.1
        obtain ⟨ad, rfl, hv⟩ := movA_sound (x := .ept id sz i off) (o := j * P.cellsOf el) rfl hx
        exact ⟨_, by simp [Instr.indexAt, asIntOf, run_underlying hu, Instr.sureAddr, hjl, size_run hi], hv⟩
      · cases h
    · rename_i el id sz len hu
      split at h
      · rename_i i' hi hsz
        cases h
        obtain ⟨k, rfl⟩ := ixA_sound hy hj ho.2
        have hjl := ho.1
        cases hx with
        | pure h => cases h
        | row id sz len c hk h hp =>
          obtain ⟨ad, m, rfl, hm1, hm2, ha⟩ := hp
          obtain ⟨p, rfl⟩ := ha (by omega)
          refine ⟨.pointer (some (p.add (j * P.cellsOf el))), by simp [Instr.indexAt, asIntOf, run_underlying hu, hjl, size_run hi], .ept _ _ _ _ _ hk ?_ ⟨_, rfl⟩⟩
          rcases h with h | ⟨h1, ad, hc, h2⟩
          · exact .inl h
          · injection hc with e1 e2 e3
            have := h2 (by omega)
            rw [this] at e1; injection e1 with e1; subst e1
            rw [addr_mid, beq_eq' hsz]
            exact .inr ⟨len, h1, hjl, by simp⟩
      · cases h
    · rename_i el id sz off len hu
      split at h
      · rename_i i' hi hsz
        cases h
        obtain ⟨k, rfl⟩ := ixA_sound hy hj ho.2
        have hjl := ho.1
        cases hx with
        | pure h => cases h
        | rws id sz off len c hk h hp =>
          obtain ⟨ad, m, rfl, hm1, hm2, ha⟩ := hp
          obtain ⟨p, rfl⟩ := ha (by omega)
          refine ⟨.pointer (some (p.add (j * P.cellsOf el))), by simp [Instr.indexAt, asIntOf, run_underlying hu, hjl, size_run hi], .ept _ _ _ _ _ hk ?_ ⟨_, rfl⟩⟩
          rcases h with h | ⟨n, ad, m', h1, hn, hc, h2⟩
          · exact .inl h
          · injection hc with e1 e2 e3
            have := h2 (by omega)
            rw [this] at e1; injection e1 with e1; subst e1
            rw [addr_mid, beq_eq' hsz]
            exact .inr ⟨n, h1, by omega, by rw [Nat.add_mul, Nat.add_zero, Nat.add_assoc]⟩
      · cases h
    · rename_i el sz xs hu
      split at h
      · rename_i i' hi hsz
        cases h
        obtain ⟨k, rfl⟩ := ixA_sound hy hj ho.2
        have hjl := ho.1
        cases hx with
        | pure h =>
          have h0 := h
          cases h with
          | lst sz xs ad c b o f hsz' hc hm had hl hM h =>
            have hne : xs ≠ [] := by rintro rfl; simp at hjl
            obtain rfl := had.resolve_left hne
            refine ⟨.pointer (some (Addr.add ⟨b, o, none⟩ (j * P.cellsOf el))), by simp [Instr.indexAt, asIntOf, run_underlying hu, hjl, size_run hi], ?_⟩
            rw [addr_mid, beq_eq' hsz]
            exact .lpt sz xs j 0 ⟨b, o, none⟩ _ _ h0 hjl
      · cases h
    · cases h
end
end Go.Proofs.Ytidgcfgkcidkiaa.X
