/- A library of no program: what a function reads of a struct that stands in memory. -/
import Derived.Test.YtidgcfgkcidkiaaGw
namespace Go.Proofs.Ytidgcfgkcidkiaa.X
open Go Go.Proofs.Ytidgcfgkcidkiaa.L Go.RowKit
set_option linter.unusedVariables false
set_option linter.unusedSimpArgs false

/-- What is a value by itself. -/
def pureB : AV → Bool
  | .bool _ | .int _ _ | .str _ | .nilp | .nils | .lst _ _ | .mapn | .nilf => true
  | _ => false
theorem pureB_PR {K : Ctx} {u : AV} {d : Value} (hu : pureB u = true) (h : VR K u d) : PR K.M u d := by
  cases h with
  | pure h => exact h
  | _ => cases hu
theorem Rel.toMem {K : Ctx} {get : Nat → Obj} {w : World} (hR : Rel K get w) : ∀ b o v, K.M b o = some v → memOf w b o = some v := fun b o v h => by
  obtain ⟨h1, h2⟩ := hR.mem b o v h
  exact memOf_some h1 h2
/-- A call that only reads, by a run over memory that stays. -/
theorem areads_of {P : Program} {f : FuncId} {args args' : List AV} {objs objs' : List Obj} {v : AV} (hv : ∀ K K' c, VR K v c → VR K' v c) (h : ACalls P f args' [] v objs') (ha : ∀ K w (cs : List Value), Rel K (getO objs) w → VRs K args cs → VRs (ctx0 w) args' cs) : AReads P f args objs v := by
  refine ⟨h.1, fun K w cs hR hcs => ?_⟩
  refine (h.2 (ctx0 w) w cs (ctx0_rel w) (ha K w cs hR hcs)).mono ?_
  rintro e w' ⟨K', c, rfl, h1, h2, h3⟩
  refine ⟨c, rfl, h3.keeps.mono fun k _ hk => ?_, fun K2 => hv K' K2 c h2⟩
  obtain ⟨id, h4, _⟩ := hk
  exact h4
theorem lst_of_row {K : Ctx} {get : Nat → Obj} {w : World} (hR : Rel K get w) {id T sz : Nat} {xs : List AV} (hg : get id = .row T sz xs) {d : Value} (hd : VR K (.row id sz xs.length) d) : PR (memOf w) (.lst sz xs) d := by
  have ho := hR.obj id
  rw [hg] at ho
  obtain ⟨hs, h1, h2, h3⟩ := ho
  cases hd with
  | pure h => cases h
  | row id sz len c hk h hp =>
    have hk' : K.kind id = .row sz xs.length := by rw [hR.kinds, hg]; rfl
    rw [hk'] at h
    obtain ⟨_, ad, rfl, ha⟩ := h.resolve_left (by simp)
    by_cases h0 : xs = []
    · subst h0
      refine .lst sz [] ad _ 0 0 (fun _ _ => undef) hs h1 h2 (.inl rfl) (by simp) (by simp) (by simp)
    · have hc : K.cap id ≠ 0 := by have := List.length_pos_iff.2 h0; omega
      obtain rfl := ha hc
      obtain ⟨ds, h4, h5, h6⟩ := h3 hc
      refine .lst sz xs _ _ (K.blk id) (K.off id) (fun i j => (ds.toList.drop (K.off id))[i * sz + j]?.getD undef) hs h1 h2 (.inr rfl) (fun i x hx => (h6 i x hx).1) (fun i x j u hx hu => ?_) (fun i x j u hx hu => ?_)
      · obtain ⟨d, q1, q2⟩ := (h6 i x hx).2 j u hu
        rw [q1]
        refine memOf_some ?_ q2.one
        rw [List.getElem?_drop] at q1
        refine cellOf h4 _ ?_
        rw [Nat.add_assoc]; simpa using q1
      · obtain ⟨d, q1, q2⟩ := (h6 i x hx).2 j u hu
        rw [q1]
        exact q2.mono hR.toMem
/-- A struct whose last part is a row, read where it stands. -/
theorem read_vars {K : Ctx} {w : World} {T T2 sz : Nat} {pre xs : List AV} (hpre : pre.all pureB = true) (hR : Rel K (getO [.vars T (pre ++ [.row 1 sz xs.length]), .row T2 sz xs]) w) {c : Value} (hc : VR K (.ptr 0 0) c) :
    VR (ctx0 w) (.lpt (pre.length + 1) [.agg (pre ++ [.lst sz xs])] 0 0) c := by
  have ho := hR.obj 0
  obtain ⟨ds, h1, h2, h3⟩ := ho
  have hp' : c = .pointer (some ⟨K.blk 0, 0, none⟩) := by
    cases hc with
    | pure h => cases h
    | ptr id off c hk h hp => exact h.resolve_left (by rw [hR.kinds]; simp [getO, Obj.kind])
  subst hp'
  have hlen : ds.toList.length = pre.length + 1 := by rw [← h2.1]; simp
  have hx : PR (memOf w) (.lst (pre.length + 1) [.agg (pre ++ [.lst sz xs])]) (.slice (some ⟨K.blk 0, 0, none⟩) 1 1) := by
    refine .lst (pre.length + 1) [.agg (pre ++ [.lst sz xs])] (some ⟨K.blk 0, 0, none⟩) 1 (K.blk 0) 0 (fun _ j => ds.toList[j]?.getD undef) (Nat.succ_pos _) (Nat.le_refl _) (by decide) (.inr rfl) (fun i x hx => ?_) (fun i x j u hx hu => ?_) (fun i x j u hx hu => ?_)
    · match i, hx with
      | 0, hx => cases hx; simp [AV.cells]
    · match i, hx with
      | 0, hx =>
        cases hx
        have hj : j < pre.length + 1 := by have := (List.getElem?_eq_some_iff.1 hu).1; simpa [AV.cells] using this
        have hd : ds.toList[j]? = some (ds.toList[j]'(by omega)) := List.getElem?_eq_getElem _
        rw [hd]
        refine memOf_some (cellOf h1 _ (by simp)) (h3 _ (List.getElem_mem _))
    · match i, hx with
      | 0, hx =>
        cases hx
        replace hu : (pre ++ [.lst sz xs])[j]? = some u := hu
        have hj : j < pre.length + 1 := by have := (List.getElem?_eq_some_iff.1 hu).1; simpa using this
        have hd : ds.toList[j]? = some (ds.toList[j]'(by omega)) := List.getElem?_eq_getElem _
        rw [hd]
        by_cases hjp : j < pre.length
        · rw [List.getElem?_append_left hjp] at hu
          have hv := h2.2 j u _ (by rw [List.getElem?_append_left hjp]; exact hu) hd
          exact (pureB_PR (List.all_eq_true.1 hpre u (List.mem_of_getElem? hu)) hv).mono hR.toMem
        · obtain rfl : j = pre.length := by omega
          rw [List.getElem?_append_right (Nat.le_refl _), Nat.sub_self] at hu
          cases hu
          have hv := h2.2 pre.length (.row 1 sz xs.length) _ (by rw [List.getElem?_append_right (Nat.le_refl _), Nat.sub_self]; rfl) hd
          exact lst_of_row hR (id := 1) (T := T2) rfl hv
  have hx' : PR (ctx0 w).M (.lst (pre.length + 1) [.agg (pre ++ [.lst sz xs])]) (.slice (some ⟨K.blk 0, 0, none⟩) 1 1) := hx
  have := VR.lpt (K := ctx0 w) (pre.length + 1) [AV.agg (pre ++ [AV.lst sz xs])] 0 0 ⟨K.blk 0, 0, none⟩ 1 1 hx' (by simp)
  simpa using this
end Go.Proofs.Ytidgcfgkcidkiaa.X
