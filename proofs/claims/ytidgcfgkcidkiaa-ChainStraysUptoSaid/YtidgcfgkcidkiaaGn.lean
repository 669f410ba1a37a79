/- A library of no program: calls. -/
import Derived.Test.YtidgcfgkcidkiaaGm
namespace Go.Proofs.Ytidgcfgkcidkiaa.X
open Go Go.Proofs.Ytidgcfgkcidkiaa.L Go.RowKit
set_option linter.unusedVariables false
set_option linter.unusedSimpArgs false

section
variable {P : Program} {K K' : Ctx} {e : Nat → Option AV} {get : Nat → Obj} {a : Act} {w w' : World}

theorem call_exec {o : Oper} {fo : Operand} {args : Array Operand} {ats : Array TypeId} (hop : o.op = .call { callee := .value fo, args, argTypes := ats }) {f : FuncId} {ds : Array Value} (hf : a.eval fo = .func (.func f) #[] ds) (he : Enters P f) :
    (execOp a.eval o).run P w = .ok (.enter f (args.toList.map a.eval ++ ds.toList).toArray) w := by
  obtain ⟨fn, h1, h2, h3⟩ := he
  have e1 : (args.toList.map a.eval ++ ds.toList).toArray = args.map a.eval ++ ds := by apply Array.ext'; simp
  have h2' : ¬ fn.body = none := by intro h; rw [h] at h2; cases h2
  have h3' : ¬ fn.name = "runtime.NumGoroutine" := by simpa using h3
  rw [e1]
  simp [execOp, hop, resolve, hf, Deferred.ofValue, invoke, callFunc, h1, h2', h3']
theorem Rel.keep0 (h : Rel K get w) (hk : Keeps (fun _ => False) w w') : Rel K get w' ∧ ∀ m, Grow m K w K w' :=
  h.change (fun _ => False) (Ctx.le_refl K) (fun i _ => ⟨rfl, rfl, rfl, rfl, rfl⟩) (hk.mono fun _ _ h => h.elim) (fun i h => h.elim) (fun i h => h.elim) (fun i h => h.elim) (fun i h => h.elim) (fun i _ h => h.elim) (fun b o v h => .inl h)
theorem flat0_VR {u : AV} {c : Value} (hf : flat0 u = true) (h : VR K u c) : VR K' u c := by
  cases h with
  | pure h =>
    cases h with
    | lst => cases hf
    | _ => exact .pure (by constructor)
  | _ => cases hf
theorem flats_VR {us : List AV} {ds : List Value} (hf : allB flat0 us = true) (h : VRs K us ds) : VRs K' us ds :=
  ⟨h.1, fun i u d hu hd => flat0_VR (allB_iff.1 hf u (List.mem_of_getElem? hu)) (h.2 i u d hu hd)⟩
theorem flat_VR {u : AV} {c : Value} (hf : flatB u = true) (h : VR K u c) : VR K' u c := by
  cases hu : u with
  | agg cs => subst hu; obtain ⟨ds, rfl, hd⟩ := h.agg_inv; simpa using VR.mkAgg (flats_VR (K' := K') hf hd)
  | tup cs => subst hu; obtain ⟨ds, rfl, hd⟩ := h.tup_inv; simpa using VR.mkTup (flats_VR (K' := K') hf hd)
  | _ => subst hu; exact flat0_VR hf h
theorem frzG_eq (br : List Nat) (get : Nat → Obj) : frzG br get = frzB (hasN br) get := by
  funext i
  unfold frzG frzB
  cases get i <;> cases hasN br i <;> rfl
theorem outO_eq (fz : Bool) (m j : Nat) (objs : List Obj) : outO fz m j (getO objs j) = frzB (fun j => fz && Nat.ble m j) (getO objs) j := by
  unfold outO frzB
  cases hb : Nat.ble m j <;> cases fz <;> cases getO objs j <;> simp [hb]

theorem updG_append (get : Nat → Obj) (l k : List (Nat × Obj)) : updG get (l ++ k) = updG (updG get l) k := by
  induction l generalizing get with
  | nil => rfl
  | cons x xs ih => exact ih _
theorem updG_map (get : Nat → Obj) (l : List Nat) (f : Nat → Obj) (i : Nat) : updG get (l.map fun id => (id, f id)) i = if i ∈ l then f i else get i := by
  induction l generalizing get with
  | nil => simp [updG]
  | cons x xs ih =>
    simp only [List.map_cons, updG, ih, List.mem_cons]
    by_cases h1 : i ∈ xs
    · simp [h1]
    · by_cases h2 : i = x
      · subst h2; simp [h1, putG]
      · simp [h1, h2, putG]
def isRow : Obj → Bool
  | .row .. => true
  | _ => false
theorem isRow_iff {o : Obj} : isRow o = true ↔ ∃ T sz xs, o = .row T sz xs := by
  cases o <;> simp [isRow]
theorem updG_gone (get g : Nat → Obj) (p : List Nat) (i : Nat) : updG g (goneW get p) i = if i ∈ p ∧ isRow (get i) = true then .gone else g i := by
  induction p generalizing g with
  | nil => simp [goneW, updG]
  | cons x xs ih =>
    simp only [goneW]
    split
    · rename_i T sz ys hg
      simp only [updG, ih, List.mem_cons]
      by_cases h1 : i = x
      · subst h1
        by_cases h2 : i ∈ xs <;> simp [h2, hg, putG, isRow]
      · simp [h1, putG]
    · rename_i hg
      rw [ih]
      by_cases h1 : i = x
      · subst h1
        have : isRow (get i) = false := by cases h9 : get i <;> first | rfl | exact absurd h9 (hg _ _ _)
        simp [this]
      · simp [h1]
/-- What a callee's thing is here. -/
def outObj (fz : Bool) (m : Nat) (r : AV → AV) (objs : List Obj) (j : Nat) : Obj :=
  mapO r (outO fz m j (getO objs j))
theorem updG_out (p : List Nat) (get : Nat → Obj) (fz : Bool) (base m : Nat) (r : AV → AV) (all : List Obj) : ∀ (os : List Obj) (j0 : Nat) (g : Nat → Obj) (i : Nat), (∀ k o, os[k]? = some o → getO all (j0 + k) = o) →
    ((∀ j, j0 ≤ j → j < j0 + os.length → outN p get base j ≠ i) → updG g (outW p get fz base m r j0 os) i = g i) ∧
    (∀ j, j0 ≤ j → j < j0 + os.length → outN p get base j = i → (∀ j', j0 ≤ j' → j' < j0 + os.length → outN p get base j' = i → j' = j) → updG g (outW p get fz base m r j0 os) i = outObj fz m r all j)
  | [], j0, g, i, hall => ⟨fun _ => rfl, fun j h1 h2 => by simp at h2; omega⟩
  | o :: os, j0, g, i, hall => by
    have hrec := updG_out p get fz base m r all os (j0 + 1) (putG g (outN p get base j0) (mapO r (outO fz m j0 o))) i (fun k o hk => by
      have := hall (k + 1) o (by simpa using hk)
      rwa [show j0 + (k + 1) = j0 + 1 + k by omega] at this)
    have h0 : getO all j0 = o := by simpa using hall 0 o rfl
    refine ⟨fun h => ?_, fun j h1 h2 he hu => ?_⟩
    · simp only [outW, updG]
      rw [hrec.1 fun j h1 h2 => h j (by omega) (by simp; omega)]
      have := h j0 (Nat.le_refl _) (by simp)
      simp [putG, Ne.symm this]
    · simp only [outW, updG]
      by_cases hj : j = j0
      · subst hj
        rw [hrec.1 fun j' h1' h2' he' => by
          have := hu j' (by omega) (by simp; omega) he'
          omega]
        simp [putG, he, outObj, h0]
      · refine hrec.2 j (by omega) (by simp at h2; omega) he fun j' h1' h2' he' => hu j' (by omega) (by simp; omega) he'
theorem fits_spec : ∀ {p : List Nat} {objs : List Obj}, fits get p objs = true → p.length ≤ objs.length ∧ ∀ (j id : Nat), p[j]? = some id → (∃ T cs, get id = .vars T cs ∧ ∃ T' cs', getO objs j = .vars T' cs') ∨ ∃ T sz xs, get id = .row T sz xs
  | [], objs, _ => ⟨Nat.zero_le _, fun j id h => by simp at h⟩
  | id :: ps, o :: os, h => by
    simp only [fits] at h
    split at h
    · rename_i T cs T' cs' hg
      obtain ⟨h1, h2⟩ := fits_spec h
      refine ⟨by simp; exact h1, fun j x hj => ?_⟩
      cases j with
      | zero => simp at hj; subst hj; exact .inl ⟨_, _, hg, _, _, rfl⟩
      | succ j => exact h2 j x (by simpa using hj)
    · rename_i T sz xs hg
      obtain ⟨h1, h2⟩ := fits_spec h
      refine ⟨by simp; exact h1, fun j x hj => ?_⟩
      cases j with
      | zero => simp at hj; subst hj; exact .inr ⟨_, _, _, hg⟩
      | succ j => exact h2 j x (by simpa using hj)
    · cases h
  | _ :: _, [], h => by simp [fits] at h
theorem mem_lent0 {p : List Nat} {v : AV} {id : Nat} (h : id ∈ lent0 p get v) : id ∉ p := by
  unfold lent0 at h
  split at h
  · split at h
    · rename_i hi _; simp at h; subst h; exact idx_none hi
    · cases h
  · split at h
    · rename_i hi _; simp at h; subst h; exact idx_none hi
    · cases h
  · cases h
theorem mem_lentL {p : List Nat} {vs : List AV} {id : Nat} (h : id ∈ lentL p get vs) : id ∉ p := by
  induction vs with
  | nil => cases h
  | cons v vs ih =>
    simp only [lentL, List.mem_append] at h
    exact h.elim mem_lent0 ih
theorem mem_lents {p : List Nat} {vs : List AV} {id : Nat} (h : id ∈ lents p get vs) : id ∉ p := by
  induction vs with
  | nil => cases h
  | cons v vs ih =>
    cases v <;> simp only [lents, List.mem_append] at h <;> first | exact h.elim mem_lentL ih | exact h.elim mem_lent0 ih

theorem callA_sound (hS : RelS K e get a w) {o : Oper} {next : Act → World → Prop} {Q : Exit → Act → World → Prop} {base : Nat} {fo : Operand} {args : Array Operand} {ats : Array TypeId} {f : FuncId} {vs caps : List AV} {g g' : List Gd} {E : Eff} {ob : List Prop} (hop : o.op = .call { callee := .value fo, args, argTypes := ats })
    (hf : opv e fo = some (.fn f caps)) (hv : opvL e args.toList = some vs) (h : callA P get base f (vs ++ caps) g = some (E, ob, g')) (ho : AllP ob) (hh : ∀ j, j < E.nf → get (base + j) = .hole)
    (hn : Then P K get a w o E next) : o.wp P a w next Q := by
  classical
  obtain ⟨cs, hcs, hcap⟩ := (opv_sound hS hf).fn_inv
  have hargs : VRs K (vs ++ caps) (args.toList.map a.eval ++ cs.toList) := (opvL_sound hS _ _ hv).append hcap
  unfold callA at h
  split at h
  · rename_i p fz bor v objs g1
    dsimp only at h
    generalize hbr : lents p get (vs ++ caps) = br at h
    rw [frzG_eq] at h
    obtain ⟨R1, G1⟩ := hS.rel.frz (hasN br)
    have le1 : K.le (K.frz (hasN br) get w) := frz_le _
    generalize hK1 : K.frz (hasN br) get w = K1 at R1 G1 le1
    split at h
    · -- lent
      split at h
      · rename_i hflat
        cases h
        have R2 := R1.sub (p := []) (by simp)
        have hA := (R1.ren_sub []).rens (hargs.mono le1)
        have hrun := call_exec (P := P) (w := w) hop hcs ho.1.1
        have hcall := ho.1.2 _ w _ R2 hA
        unfold Oper.wp
        rw [hrun, Oper.upon_enter]
        refine hcall.mono ?_
        rintro en w' ⟨K3, c, rfl, R3, V3, G3⟩
        have hk0 : Keeps (fun _ => False) w w' := G3.keeps.mono fun b _ ⟨j, hj, _⟩ => by
          obtain ⟨id, hid, _⟩ := sub_own hj; simp at hid
        obtain ⟨r1, r2⟩ := hS.rel.keep0 hk0
        exact hn K w' c r1 (Ctx.le_refl K) r2 (by rintro u ⟨rfl⟩; exact flat_VR hflat V3)
      · cases h
    · split at h
      · rename_i hfit hnd
        cases h
        have hp := nodupB_iff.1 hnd
        obtain ⟨hlen, hfit⟩ := fits_spec hfit
        have hbp : ∀ id, id ∈ p → hasN br id = false := fun id hid => by
          cases hb : hasN br id with
          | false => rfl
          | true => rw [hasN_iff, ← hbr] at hb; exact absurd hid (mem_lents hb)
        have hg1 : ∀ id, id ∈ p → frzB (hasN br) get id = get id := fun id hid => by
          unfold frzB; rw [hbp id hid]; cases get id <;> rfl
        have R2 := R1.sub hp
        have hA := (R1.ren_sub p).rens (hargs.mono le1)
        have hrun := call_exec (P := P) (w := w) hop hcs ho.1.1
        have hcall := ho.1.2 _ w _ R2 hA
        unfold Oper.wp
        rw [hrun, Oper.upon_enter]
        refine hcall.mono ?_
        rintro en w' ⟨K3, c, rfl, R3, V3, G3⟩
        rw [List.length_map] at G3
        obtain ⟨R4, G4⟩ := R3.frz (fun j => fz && Nat.ble p.length j)
        have le4 : K3.le (K3.frz (fun j => fz && Nat.ble p.length j) (getO objs) w') := frz_le _
        have V4 := V3.mono le4
        generalize hK4 : K3.frz (fun j => fz && Nat.ble p.length j) (getO objs) w' = K4 at R4 G4 le4 V4
        have G := G3.trans (G4 p.length)
        -- the numbers
        let σ := outN p get base
        let n := objs.length
        let r : Nat → Option Nat := fun j => some (outN p get base j)
        let getC : Nat → Obj := fun j => match outO fz p.length j (getO objs j) with | .frz T sz xs => .frz T sz xs | _ => .hole
        let rr : Nat → Option Nat := fun j => match getC j with | .frz .. => none | _ => r j
        let get' := updG get ((br.map fun id => (id, frzB (hasN br) get id)) ++ goneW get p ++ outW p get fz base p.length (ren0 rr getC) 0 objs)
        have σvar : ∀ j id, p[j]? = some id → (∃ T cs, get id = .vars T cs) → σ j = id := by
          rintro j id hj ⟨T, cs, hg⟩
          show outN p get base j = id
          simp [outN, nth_eq, hj, hg]
        have σnew : ∀ j, (∀ id, p[j]? = some id → ¬ ∃ T cs, get id = .vars T cs) → σ j = base + j := by
          intro j hj
          show outN p get base j = base + j
          unfold outN
          rw [nth_eq]
          cases hpj : p[j]? with
          | none => rfl
          | some id =>
            simp only
            split
            · rename_i T cs hg; exact absurd ⟨T, cs, hg⟩ (hj id hpj)
            · rfl
        have hhole : ∀ j, j < n → get (base + j) = .hole := hh
        have σinj : ∀ i j, i < n → j < n → σ i = σ j → i = j := by
          intro i j hi hj he
          by_cases h1 : ∃ id, p[i]? = some id ∧ ∃ T cs, get id = .vars T cs <;> by_cases h2 : ∃ id, p[j]? = some id ∧ ∃ T cs, get id = .vars T cs
          · obtain ⟨x, hx, vx⟩ := h1
            obtain ⟨y, hy, vy⟩ := h2
            rw [σvar i x hx vx, σvar j y hy vy] at he
            subst he
            exact (List.getElem?_inj (List.getElem?_eq_some_iff.1 hx).1 hp).1 (hx.trans hy.symm)
          · obtain ⟨x, hx, vx⟩ := h1
            rw [σvar i x hx vx, σnew j fun id h3 h4 => h2 ⟨id, h3, h4⟩] at he
            obtain ⟨T, cs, hg⟩ := vx
            rw [he, hhole j hj] at hg; cases hg
          · obtain ⟨y, hy, vy⟩ := h2
            rw [σnew i fun id h3 h4 => h1 ⟨id, h3, h4⟩, σvar j y hy vy] at he
            obtain ⟨T, cs, hg⟩ := vy
            rw [← he, hhole i hi] at hg; cases hg
          · rw [σnew i fun id h3 h4 => h1 ⟨id, h3, h4⟩, σnew j fun id h3 h4 => h2 ⟨id, h3, h4⟩] at he
            omega
        let inv : Nat → Option Nat := fun i => if h : ∃ j, j < n ∧ σ j = i then some h.choose else none
        have inv_some : ∀ j, j < n → inv (σ j) = some j := by
          intro j hj
          have hex : ∃ k, k < n ∧ σ k = σ j := ⟨j, hj, rfl⟩
          show (if h : ∃ k, k < n ∧ σ k = σ j then some h.choose else none) = some j
          rw [dif_pos hex]
          congr 1
          exact σinj _ _ hex.choose_spec.1 hj hex.choose_spec.2
        have inv_spec : ∀ i j, inv i = some j → j < n ∧ σ j = i := by
          intro i j hi
          by_cases hex : ∃ k, k < n ∧ σ k = i
          · have : inv i = some hex.choose := dif_pos hex
            rw [this] at hi; injection hi with hi; rw [← hi]; exact hex.choose_spec
          · have : inv i = none := dif_neg hex
            rw [this] at hi; cases hi
        have inv_none : ∀ i, inv i = none → ∀ j, j < n → σ j ≠ i := by
          intro i hi j hj he
          rw [← he, inv_some j hj] at hi; cases hi
        -- what stands where
        have getI : ∀ j, j < n → get' (σ j) = outObj fz p.length (ren0 rr getC) objs j := by
          intro j hj
          show updG get _ (σ j) = _
          rw [updG_append]
          exact (updG_out p get fz base p.length (ren0 rr getC) objs objs 0 _ (σ j) (fun k o hk => by rw [Nat.zero_add, getO_eq, hk]; rfl)).2 j (Nat.zero_le _) (by rw [Nat.zero_add]; exact hj) rfl fun j' _ h2 he => σinj _ _ (by rw [Nat.zero_add] at h2; exact h2) hj he
        have getN : ∀ i, inv i = none → get' i = if i ∈ p ∧ isRow (get i) = true then .gone else frzB (hasN br) get i := by
          intro i hi
          show updG get _ i = _
          rw [updG_append, (updG_out p get fz base p.length (ren0 rr getC) objs objs 0 _ i (fun k o hk => by rw [Nat.zero_add, getO_eq, hk]; rfl)).1 (fun j _ h2 => inv_none i hi j (by rw [Nat.zero_add] at h2; exact h2)), updG_append, updG_gone, updG_map]
          by_cases h1 : i ∈ br
          · simp [h1]
          · have : hasN br i = false := by cases hb : hasN br i with | false => rfl | true => exact absurd (hasN_iff.1 hb) h1
            have e9 : frzB (hasN br) get i = get i := by unfold frzB; rw [this]; cases get i <;> rfl
            simp [h1, e9]
        have inP : ∀ i, i ∈ p → inv i = none → ∃ T sz xs, get i = .row T sz xs := by
          intro i hi hno
          obtain ⟨j, hj⟩ := List.getElem?_of_mem hi
          rcases hfit j i hj with ⟨T, cs, hg, _⟩ | h9
          · have hjn : j < n := by have := (List.getElem?_eq_some_iff.1 hj).1; show j < objs.length; omega
            exact absurd (σvar j i hj ⟨T, cs, hg⟩) (inv_none i hno j hjn)
          · exact h9
        let K' : Ctx :=
          { M := K4.M
            kind := fun i => match inv i with | some j => K4.kind j | none => if i ∈ p then .gone else K1.kind i
            blk := fun i => match inv i with | some j => K4.blk j | none => K1.blk i
            cap := fun i => match inv i with | some j => (if K4.kind j = .var then K1.cap i else K4.cap j) | none => K1.cap i
            off := fun i => match inv i with | some j => (if K4.kind j = .var then K1.off i else K4.off j) | none => K1.off i }
        have kI : ∀ j, j < n → K'.kind (σ j) = K4.kind j ∧ K'.blk (σ j) = K4.blk j ∧ (K4.kind j ≠ .var → K'.cap (σ j) = K4.cap j ∧ K'.off (σ j) = K4.off j) ∧ (K4.kind j = .var → K'.cap (σ j) = K1.cap (σ j) ∧ K'.off (σ j) = K1.off (σ j)) := by
          intro j hj
          have := inv_some j hj
          refine ⟨by simp [K', this], by simp [K', this], fun h => ⟨by simp [K', this, h], by simp [K', this, h]⟩, fun h => ⟨by simp [K', this, h], by simp [K', this, h]⟩⟩
        have get3 : ∀ j, frzB (fun j => fz && Nat.ble p.length j) (getO objs) j = outO fz p.length j (getO objs j) := fun j => (outO_eq fz p.length j objs).symm
        have hn4 : ∀ j, K4.kind j ≠ .hole → j < n := by
          intro j hj
          by_cases h9 : j < n
          · exact h9
          · exfalso; apply hj
            rw [R4.kinds, get3, getO_eq, List.getElem?_eq_none (by show objs.length ≤ j; omega)]
            cases fz <;> rfl
        have hRen : Ren rr getC K4 K' := by
          refine ⟨fun _ _ _ h => h, fun id j hj hk => ?_, fun id T sz xs hg c => ?_⟩
          · have hid := hn4 id hk
            have : j = σ id := by
              simp only [rr] at hj
              split at hj
              · cases hj
              · injection hj with hj; exact hj.symm
            subst this
            obtain ⟨k1, k2, k3, _⟩ := kI id hid
            exact ⟨k1, k2, fun ⟨sz, n, h9⟩ => k3 (by rcases h9 with h9 | h9 <;> rw [h9] <;> simp)⟩
          · have hg3 : frzB (fun j => fz && Nat.ble p.length j) (getO objs) id = .frz T sz xs := by
              rw [get3]
              simp only [getC] at hg
              split at hg
              · rename_i h9; rw [h9]; exact hg
              · cases hg
            exact ⟨fun s n hv => frz_list R4 hg3 hv, fun s o n hv => frz_list_sub R4 hg3 hv⟩
        have own' : ∀ j, j < n → (K'.own (σ j) ↔ K4.own j) := by
          intro j hj
          obtain ⟨k1, k2, k3, k4⟩ := kI j hj
          unfold Ctx.own
          rw [k1]
          cases hk : K4.kind j <;> simp
          rw [(k3 (by rw [hk]; simp)).1]
        have subOwn : ∀ j, (K1.sub p).own j → ∃ i, i ∈ p ∧ K1.own i ∧ K1.blk i = (K1.sub p).blk j := by
          intro j hj
          obtain ⟨id, h1, h2, h3⟩ := sub_own hj
          exact ⟨id, List.mem_of_getElem? h1, h2, h3.symm⟩
        have le' : K1.le K' := by
          refine ⟨fun b o v hv => G.mem b o v hv, fun i hi => ?_⟩
          cases hinv : inv i with
          | none =>
            by_cases hip : i ∈ p
            · exact .inl (by simp [K', hinv, hip])
            · exact .inr ⟨by simp [K', hinv], by simp [K', hinv], by simp [K', hinv], .inl (by simp [K', hinv, hip])⟩
          | some j =>
            obtain ⟨hj, rfl⟩ := inv_spec i j hinv
            by_cases h1 : ∃ id, p[j]? = some id ∧ ∃ T cs, get id = .vars T cs
            · obtain ⟨id, hid, hvar⟩ := h1
              have e1 := σvar j id hid hvar
              obtain ⟨T, cs, hg⟩ := hvar
              have hk1 : K1.kind id = .var := by rw [R1.kinds, hg1 id (List.mem_of_getElem? hid), hg]; rfl
              obtain ⟨s1, s2, s3, _⟩ := sub_at (K := K1) hid
              obtain ⟨v1, v2⟩ := G.var j (by have := (List.getElem?_eq_some_iff.1 hid).1; omega) (by rw [s1]; exact hk1)
              obtain ⟨k1, k2, k3, k4⟩ := kI j hj
              refine .inr ⟨?_, (k4 v1).1, (k4 v1).2, .inl ?_⟩
              · rw [k2, v2, s2, e1]
              · rw [k1, v1, e1, hk1]
            · exfalso; apply hi
              rw [R1.kinds, σnew j fun id h3 h4 => h1 ⟨id, h3, h4⟩]
              unfold frzB; rw [hhole j hj]; cases hasN br (base + j) <;> rfl
        obtain ⟨q1, q2⟩ := R1.change (K' := K') (get' := get') (w' := w') (fun i => (∃ j, j < n ∧ σ j = i) ∨ i ∈ p) le'
          (fun i hi => by
            have hno : inv i = none := dif_neg fun h => hi (.inl h)
            have hip : i ∉ p := fun h => hi (.inr h)
            refine ⟨by simp [K', hno, hip], by simp [K', hno], by simp [K', hno], by simp [K', hno], ?_⟩
            rw [getN i hno, if_neg fun h => hip h.1])
          (G.keeps.mono fun b _ ⟨j, hj, hb⟩ => by
            obtain ⟨i, h1, h2, h3⟩ := subOwn j hj
            exact ⟨i, .inr h1, h2, h3.trans hb⟩)
          (fun i hi => by
            cases hinv : inv i with
            | some j =>
              obtain ⟨hj, rfl⟩ := inv_spec i j hinv
              rw [getI j hj, (kI j hj).1, R4.kinds, get3]
              unfold outObj
              cases outO fz p.length j (getO objs j) <;> rfl
            | none =>
              have hip : i ∈ p := hi.resolve_left fun ⟨j, h1, h2⟩ => inv_none i hinv j h1 h2
              rw [getN i hinv, if_pos ⟨hip, isRow_iff.2 (inP i hip hinv)⟩]
              simp [K', hinv, hip, Obj.kind])
          (fun i hi hvar => by
            rcases le'.at_ i (by rw [hvar]; simp) with h1 | ⟨_, _, _, h1⟩
            · exfalso
              cases hinv : inv i with
              | none =>
                have hip : i ∈ p := hi.resolve_left fun ⟨j, h1, h2⟩ => inv_none i hinv j h1 h2
                obtain ⟨T, sz, xs, hg⟩ := inP i hip hinv
                rw [R1.kinds, hg1 i hip, hg] at hvar; cases hvar
              | some j =>
                obtain ⟨hj, rfl⟩ := inv_spec i j hinv
                by_cases h1' : ∃ id, p[j]? = some id ∧ ∃ T cs, get id = .vars T cs
                · obtain ⟨id, hid, hv'⟩ := h1'
                  have e1 := σvar j id hid hv'
                  obtain ⟨s1, s2, s3⟩ := sub_at (K := K1) hid
                  obtain ⟨v1, v2⟩ := G.var j (by have := (List.getElem?_eq_some_iff.1 hid).1; omega) (by rw [s1, ← e1]; exact hvar)
                  rw [(kI j hj).1, v1] at h1; cases h1
                · rw [R1.kinds, σnew j fun id h3 h4 => h1' ⟨id, h3, h4⟩] at hvar
                  unfold frzB at hvar; rw [hhole j hj] at hvar
                  cases hb : hasN br (base + j) <;> rw [hb] at hvar <;> cases hvar
            · rcases h1 with h1 | ⟨sz, n', h1, _⟩
              · exact h1.trans hvar
              · rw [hvar] at h1; cases h1)
          (fun i hi => by
            cases hinv : inv i with
            | none =>
              have hip : i ∈ p := hi.resolve_left fun ⟨j, h1, h2⟩ => inv_none i hinv j h1 h2
              rw [getN i hinv, if_pos ⟨hip, isRow_iff.2 (inP i hip hinv)⟩]; trivial
            | some j =>
              obtain ⟨hj, rfl⟩ := inv_spec i j hinv
              obtain ⟨k1, k2, k3, k4⟩ := kI j hj
              have hob := R4.obj j
              have hkj := R4.kinds j
              rw [get3] at hob hkj
              rw [getI j hj]
              unfold outObj
              cases hoj : outO fz p.length j (getO objs j) with
              | hole => trivial
              | gone => trivial
              | vars T cs =>
                rw [hoj] at hob
                obtain ⟨ds, d1, d2, d3⟩ := hob
                exact ⟨ds, by rw [k2]; exact d1, hRen.ren0s d2, d3⟩
              | row T sz xs =>
                rw [hoj] at hob hkj
                obtain ⟨hc, hcf⟩ := k3 (by rw [hkj]; simp [Obj.kind])
                obtain ⟨d0, d1, d2, d3⟩ := hob
                exact ⟨d0, by rw [hc]; exact d1, by rw [hc]; exact d2, by rw [hc, k2, hcf]; exact d3⟩
              | frz T sz xs =>
                rw [hoj] at hob hkj
                obtain ⟨hc, hcf⟩ := k3 (by rw [hkj]; simp [Obj.kind])
                obtain ⟨d0, d1, d2, d3⟩ := hob
                exact ⟨d0, by rw [hc]; exact d1, by rw [hc]; exact d2, by rw [k2, hcf]; exact d3⟩)
          (fun i hi hown => by
            cases hinv : inv i with
            | none =>
              have hip : i ∈ p := hi.resolve_left fun ⟨j, h1, h2⟩ => inv_none i hinv j h1 h2
              unfold Ctx.own at hown
              simp [K', hinv, hip] at hown
            | some j =>
              obtain ⟨hj, rfl⟩ := inv_spec i j hinv
              rw [(kI j hj).2.1]
              rcases G.foot _ ⟨j, (own' j hj).1 hown, rfl⟩ with ⟨k, h1, h2⟩ | h1
              · obtain ⟨x, x1, x2, x3⟩ := subOwn k h1
                exact .inl ⟨x, .inr x1, x2, x3.trans h2⟩
              · exact .inr h1)
          (fun i i' hi hi' hown hown' hb => by
            have gone : ∀ i, ((∃ j, j < n ∧ σ j = i) ∨ i ∈ p) → inv i = none → ¬ K'.own i := by
              intro i hi hinv hown
              have hip : i ∈ p := hi.resolve_left fun ⟨j, h1, h2⟩ => inv_none i hinv j h1 h2
              unfold Ctx.own at hown
              simp [K', hinv, hip] at hown
            cases hinv : inv i with
            | none => exact absurd hown (gone i hi hinv)
            | some j =>
              cases hinv' : inv i' with
              | none => exact absurd hown' (gone i' hi' hinv')
              | some j' =>
                obtain ⟨hj, rfl⟩ := inv_spec i j hinv
                obtain ⟨hj', rfl⟩ := inv_spec i' j' hinv'
                rw [(kI j hj).2.1, (kI j' hj').2.1] at hb
                rw [R4.inj j j' ((own' j hj).1 hown) ((own' j' hj').1 hown') hb])
          (fun b o v hv => by
            rcases G.new b o v hv with h1 | h1 | h1
            · exact .inl h1
            · refine .inr ⟨.inl ?_, (R4.mem b o v hv).1, (R4.mem b o v hv).2, ?_⟩
              · obtain ⟨k, h2, h3⟩ := h1
                obtain ⟨x, x1, x2, x3⟩ := subOwn k h2
                exact ⟨x, .inr x1, x2, x3.trans h3⟩
              · intro i hi hown hb
                cases hinv : inv i with
                | none =>
                  have hip : i ∈ p := hi.resolve_left fun ⟨j, h1, h2⟩ => inv_none i hinv j h1 h2
                  unfold Ctx.own at hown
                  simp [K', hinv, hip] at hown
                | some j =>
                  obtain ⟨hj, rfl⟩ := inv_spec i j hinv
                  rw [(kI j hj).2.1] at hb
                  have := R4.sep j o ((own' j hj).1 hown)
                  rw [hb] at this
                  have hv' : K4.M b o = some v := hv
                  rw [this] at hv'; cases hv'
            · refine .inr ⟨.inr h1, (R4.mem b o v hv).1, (R4.mem b o v hv).2, ?_⟩
              intro i hi hown hb
              cases hinv : inv i with
              | none =>
                have hip : i ∈ p := hi.resolve_left fun ⟨j, h1, h2⟩ => inv_none i hinv j h1 h2
                unfold Ctx.own at hown
                simp [K', hinv, hip] at hown
              | some j =>
                obtain ⟨hj, rfl⟩ := inv_spec i j hinv
                rw [(kI j hj).2.1] at hb
                have := R4.sep j o ((own' j hj).1 hown)
                rw [hb] at this
                have hv' : K4.M b o = some v := hv
                rw [this] at hv'; cases hv')
        have le : K.le K' := by
          refine ⟨fun b o v hv => le'.mem b o v (le1.mem b o v hv), fun i hi => ?_⟩
          rcases le1.at_ i hi with h1 | ⟨h1, h2, h2', h3⟩
          · rcases le'.at_ i (by rw [h1]; simp) with h4 | ⟨_, _, _, h4⟩
            · exact .inl h4
            · rcases h4 with h4 | ⟨sz, n', h4, _⟩
              · exact .inl (h4.trans h1)
              · rw [h1] at h4; cases h4
          · have hne : K1.kind i ≠ .hole := by
              rcases h3 with h3 | ⟨sz, n', _, h3⟩ <;> rw [h3]
              · exact hi
              · simp
            rcases le'.at_ i hne with h4 | ⟨h4, h5, h5', h6⟩
            · exact .inl h4
            · refine .inr ⟨h4.trans h1, h5.trans h2, h5'.trans h2', ?_⟩
              rcases h3 with h3 | ⟨sz, n', h3, h3'⟩
              · rcases h6 with h6 | ⟨sz, n', h6, h6'⟩
                · exact .inl (h6.trans h3)
                · exact .inr ⟨sz, n', h3 ▸ h6, h6'⟩
              · rcases h6 with h6 | ⟨sz2, n2, h6, h6'⟩
                · exact .inr ⟨sz, n', h3, h6.trans h3'⟩
                · rw [h3'] at h6; cases h6
        refine hn K' w' c q1 le (fun m => (G1 m).trans (q2 m)) ?_
        rintro u ⟨rfl⟩
        cases hu : v with
        | tup us =>
          subst hu
          obtain ⟨ds, rfl, hd⟩ := V4.tup_inv
          have h9 := VR.mkTup (hRen.rens hd)
          rw [Array.toArray_toList] at h9
          exact h9
        | _ => subst hu; exact hRen.ren V4
      · cases h
  · -- a reading call
    rename_i p v g1
    split at h
    · rename_i hnd
      cases h
      have hp := nodupB_iff.1 hnd
      have R2 := hS.rel.sub hp
      have hA := (hS.rel.ren_sub p).rens hargs
      have hrun := call_exec (P := P) (w := w) hop hcs ho.1.1
      have hcall := ho.1.2 _ w _ R2 hA
      unfold Oper.wp
      rw [hrun, Oper.upon_enter]
      refine hcall.mono ?_
      rintro en w' ⟨c, rfl, hk0, V⟩
      obtain ⟨r1, r2⟩ := hS.rel.keep0 hk0
      exact hn K w' c r1 (Ctx.le_refl K) r2 (by rintro u ⟨rfl⟩; exact V K)
    · cases h
  · rename_i id xs v g1
    split at h
    · rename_i T sz ys hl hg
      cases h
      have R2 := hS.rel.sub (p := [id]) (by simp)
      have hA := (hS.rel.ren_sub [id]).rens hargs
      have hg2 : [id].map (fun i => renO (idx [id]) get (get i)) = [.row T sz ys] := by simp [hg, renO]
      rw [hg2] at R2
      have hrun := call_exec (P := P) (w := w) hop hcs ho.2.1.1
      have hcall := ho.2.1.2 _ w _ R2 hA
      unfold Oper.wp
      rw [hrun, Oper.upon_enter]
      refine hcall.mono ?_
      rintro en w' ⟨c, rfl, R3, hk, V⟩
      obtain ⟨s1, s2, s3, s4⟩ := sub_at (K := K) (p := [id]) (j := 0) (id := id) rfl
      obtain ⟨o0, o1, o2, o3⟩ := R3.obj 0
      rw [s3] at o1 o2 o3
      rw [s2, s4] at o3
      obtain ⟨r1, r2⟩ := hS.rel.change (K' := K) (get' := updG get [(id, .row T sz xs)]) (w' := w') (fun i => i = id) (Ctx.le_refl K)
        (fun i hi => ⟨rfl, rfl, rfl, rfl, by
          have := updG_map get [id] (fun _ => .row T sz xs) i
          rw [List.map_singleton] at this
          rw [this, if_neg (by simpa using hi)]⟩)
        (hk.mono fun b _ ⟨j, hj, hb⟩ => by
          obtain ⟨i, h1, h2, h3⟩ := sub_own hj
          have : i = id := by have := List.mem_of_getElem? h1; simpa using this
          subst this
          exact ⟨i, rfl, h2, h3.symm.trans hb⟩)
        (by
          rintro i rfl
          have := updG_map get [i] (fun _ => .row T sz xs) i
          rw [List.map_singleton] at this
          rw [this, if_pos (by simp), hS.rel.kinds, hg]
          simp only [Obj.kind, ho.1])
        (fun _ _ h => h)
        (by
          rintro i rfl
          have := updG_map get [i] (fun _ => .row T sz xs) i
          rw [List.map_singleton] at this
          rw [this, if_pos (by simp)]
          exact ⟨o0, o1, o2, o3⟩)
        (fun i hi h9 => .inl ⟨i, hi, h9, rfl⟩)
        (by rintro i j rfl rfl; intros; rfl)
        (fun b o v h => .inl h)
      exact hn K w' c r1 (Ctx.le_refl K) r2 (by rintro u ⟨rfl⟩; exact V K)
    · cases h
  · cases h
end
end Go.Proofs.Ytidgcfgkcidkiaa.X
