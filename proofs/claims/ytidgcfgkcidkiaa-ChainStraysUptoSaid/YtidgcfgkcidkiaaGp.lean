/- A library of no program: an operation looks at no more than it is said to look at. -/
import Derived.Test.YtidgcfgkcidkiaaGo
namespace Go.Proofs.Ytidgcfgkcidkiaa.X
open Go Go.Proofs.Ytidgcfgkcidkiaa.L Go.RowKit
set_option linter.unusedVariables false
set_option linter.unusedSimpArgs false

section
variable {P : Program} {e e' : Nat → Option AV} {get get' : Nat → Obj}

theorem opvL_congr {xs : List Operand} (h : ∀ x ∈ xs, opv e x = opv e' x) : opvL e xs = opvL e' xs := by
  induction xs with
  | nil => rfl
  | cons x xs ih => simp only [opvL, h x (by simp), ih fun y hy => h y (by simp [hy])]
theorem fillA_congr {place : Nat → Option (Nat × Nat)} : ∀ {ps : List (Nat × Operand)} {cs : List AV}, (∀ x ∈ ps.map (·.2), opv e x = opv e' x) → fillA e place cs ps = fillA e' place cs ps
  | [], cs, _ => rfl
  | (i, x) :: ps, cs, h => by
    simp only [fillA]
    rw [h x (by simp)]
    split
    · split
      · split
        · exact fillA_congr fun y hy => h y (by simp at hy ⊢; exact .inr hy)
        · rfl
      · rfl
    · rfl
theorem elsA_congr {sz : Nat} : ∀ {ps : List (Nat × Operand)} {xs : List AV}, (∀ x ∈ ps.map (·.2), opv e x = opv e' x) → elsA P e sz xs ps = elsA P e' sz xs ps
  | [], cs, _ => rfl
  | (i, x) :: ps, cs, h => by
    simp only [elsA]
    rw [h x (by simp)]
    split
    · split
      · split
        · exact elsA_congr fun y hy => h y (by simp at hy ⊢; exact .inr hy)
        · rfl
      · rfl
    · rfl
theorem buildA_congr {T : TypeId} {ps : List (Nat × Operand)} (h : ∀ x ∈ ps.map (·.2), opv e x = opv e' x) : buildA P e T ps = buildA P e' T ps := by
  unfold buildA
  split
  · split
    · split
      · exact fillA_congr h
      · rfl
    · rfl
  · split
    · split
      · exact fillA_congr h
      · rfl
    · rfl
  · rfl
theorem boundA_congr {d : Nat} {x : Option Operand} {g : List Gd} (h : ∀ y, x = some y → opv e y = opv e' y) : boundA e d x g = boundA e' d x g := by
  unfold boundA
  cases x with
  | none => rfl
  | some y => simp only [h y rfl]
theorem sliceA_congr {T : TypeId} {v : AV} {lo hi : Option Operand} {g : List Gd} (h1 : ∀ y, lo = some y → opv e y = opv e' y) (h2 : ∀ y, hi = some y → opv e y = opv e' y) : sliceA P e T v lo hi g = sliceA P e' T v lo hi g := by
  unfold sliceA
  simp only [boundA_congr h1, boundA_congr h2]
theorem pureA_congr {o : Oper} {g : List Gd} (hA : ∀ x ∈ o.op.operands.toList, opv e x = opv e' x) : pureA P e o g = pureA P e' o g := by
  obtain ⟨dst, op, ty, pos, af, gd⟩ := o
  have hA : ∀ x ∈ op.operands.toList, opv e x = opv e' x := hA
  cases op with
  | move x => have h1 := hA x (by simp [Op.operands]); simp only [pureA, h1]
  | assign x => have h1 := hA x (by simp [Op.operands]); simp only [pureA, h1]
  | pick c x y => have h1 := hA c (by simp [Op.operands]); have h2 := hA x (by simp [Op.operands]); have h3 := hA y (by simp [Op.operands]); simp only [pureA, h1, h2, h3]
  | nilCheck x => have h1 := hA x (by simp [Op.operands]); simp only [pureA, h1]
  | binOp op T x y U => have h1 := hA x (by simp [Op.operands]); have h2 := hA y (by simp [Op.operands]); simp only [pureA, h1, h2]
  | unOp op T x => have h1 := hA x (by simp [Op.operands]); cases op <;> first | rfl | simp only [pureA, h1]
  | convert s d x => have h1 := hA x (by simp [Op.operands]); simp only [pureA, h1]
  | fieldAddr T x f => have h1 := hA x (by simp [Op.operands]); simp only [pureA, h1]
  | field T x f => have h1 := hA x (by simp [Op.operands]); simp only [pureA, h1]
  | indexAddr T x y => have h1 := hA x (by simp [Op.operands]); have h2 := hA y (by simp [Op.operands]); simp only [pureA, h1, h2]
  | index T x y => have h1 := hA x (by simp [Op.operands]); have h2 := hA y (by simp [Op.operands]); simp only [pureA, h1, h2]
  | extract x i => have h1 := hA x (by simp [Op.operands]); simp only [pureA, h1]
  | slice T x lo hi mx =>
    have h1 := hA x (by simp [Op.operands])
    have h2 : ∀ y, lo = some y → opv e y = opv e' y := by rintro y rfl; exact hA y (by simp [Op.operands])
    have h3 : ∀ y, hi = some y → opv e y = opv e' y := by rintro y rfl; exact hA y (by simp [Op.operands])
    cases mx with
    | none => simp only [pureA, h1, sliceA_congr h2 h3]
    | some m => rfl
  | build T ps =>
    have h1 : buildA P e T ps.toList = buildA P e' T ps.toList := buildA_congr fun x hx => hA x (by simpa [Op.operands] using hx)
    simp only [pureA, h1]
  | makeFunc fn first caps =>
    have h1 : opvL e caps.toList = opvL e' caps.toList := opvL_congr fun x hx => hA x (by simp [Op.operands]; exact .inr (by simpa using hx))
    cases fn <;> first | rfl | simp only [pureA, h1]
  | call c =>
    obtain ⟨callee, args, ats⟩ := c
    cases callee with
    | builtin b =>
      have hx : ∀ x ∈ args.toList, opv e x = opv e' x := fun x hx => hA x (by simp [Op.operands, Call.operands]; simpa using hx)
      have h1 : opvL e args.toList = opvL e' args.toList := opvL_congr hx
      cases b <;> first | rfl | (simp only [pureA, h1]; done) | skip
      simp only [pureA]
      split
      · rename_i x T r h2 h3
        rw [hx x (by rw [h2]; simp)]
      · rfl
    | value f => rfl
    | invoke r m => rfl
  | _ => rfl

theorem lent0_congr {p : List Nat} {v : AV} (h : ∀ id ∈ hid0 v, get id = get' id) : lent0 p get v = lent0 p get' v := by
  cases v <;> first | rfl | (simp only [lent0]; rw [h _ (by simp [hid0])])
theorem lentL_congr {p : List Nat} {vs : List AV} (h : ∀ id ∈ hidL vs, get id = get' id) : lentL p get vs = lentL p get' vs := by
  induction vs with
  | nil => rfl
  | cons v vs ih => simp only [lentL]; rw [lent0_congr fun id hid => h id (by simp [hidL, hid]), ih fun id hid => h id (by simp [hidL, hid])]
/-- What one value names. -/
def hid1 : AV → List Nat
  | .agg cs | .fn _ cs => hidL cs
  | v => hid0 v
theorem hids_cons (v : AV) (vs : List AV) : hids (v :: vs) = hid1 v ++ hids vs := by cases v <;> rfl
theorem lents_congr {p : List Nat} {vs : List AV} (h : ∀ id ∈ hids vs, get id = get' id) : lents p get vs = lents p get' vs := by
  induction vs with
  | nil => rfl
  | cons v vs ih =>
    rw [hids_cons] at h
    have h2 := ih fun id hid => h id (by simp [hid])
    have h1 : ∀ id ∈ hid1 v, get id = get' id := fun id hid => h id (by simp [hid])
    cases v <;> simp only [hid1] at h1 <;> simp only [lents, h2] <;> first | rw [lentL_congr h1] | rw [lent0_congr h1]
theorem lent0_hid {p : List Nat} {v : AV} {id : Nat} (h : id ∈ lent0 p get v) : id ∈ hid0 v := by
  unfold lent0 at h
  split at h
  · split at h
    · simpa [hid0] using h
    · cases h
  · split at h
    · simpa [hid0] using h
    · cases h
  · cases h
theorem lentL_hid {p : List Nat} {vs : List AV} {id : Nat} (h : id ∈ lentL p get vs) : id ∈ hidL vs := by
  induction vs with
  | nil => cases h
  | cons v vs ih =>
    simp only [lentL, List.mem_append, hidL] at h ⊢
    exact h.imp lent0_hid ih
theorem lents_hid {p : List Nat} {vs : List AV} {id : Nat} (h : id ∈ lents p get vs) : id ∈ hids vs := by
  induction vs with
  | nil => cases h
  | cons v vs ih =>
    rw [hids_cons, List.mem_append]
    cases v <;> simp only [lents, List.mem_append] at h <;> first | exact h.imp lentL_hid ih | exact h.imp lent0_hid ih
theorem ren0_congr {r : Nat → Option Nat} {v : AV} (h : ∀ id ∈ hid0 v, get id = get' id) : ren0 r get v = ren0 r get' v := by
  cases v <;> first | rfl | (simp only [ren0]; rw [h _ (by simp [hid0])])
theorem ren0s_congr {r : Nat → Option Nat} {vs : List AV} (h : ∀ id ∈ hidL vs, get id = get' id) : vs.map (ren0 r get) = vs.map (ren0 r get') := by
  induction vs with
  | nil => rfl
  | cons v vs ih => simp only [List.map_cons]; rw [ren0_congr fun id hid => h id (by simp [hidL, hid]), ih fun id hid => h id (by simp [hidL, hid])]
theorem ren_congr {r : Nat → Option Nat} {v : AV} (h : ∀ id ∈ hid1 v, get id = get' id) : ren r get v = ren r get' v := by
  cases v <;> simp only [ren] <;> first | rw [ren0s_congr h] | exact ren0_congr h
theorem rens_congr {r : Nat → Option Nat} {vs : List AV} (h : ∀ id ∈ hids vs, get id = get' id) : vs.map (ren r get) = vs.map (ren r get') := by
  induction vs with
  | nil => rfl
  | cons v vs ih =>
    rw [hids_cons] at h
    simp only [List.map_cons]; rw [ren_congr fun id hid => h id (by simp [hid]), ih fun id hid => h id (by simp [hid])]
theorem frzG_at {br : List Nat} {id : Nat} (h : get id = get' id) : frzG br get id = frzG br get' id := by unfold frzG; rw [h]
theorem hidO_mem {p : List Nat} {id i : Nat} {T : TypeId} {cs : List AV} (h : id ∈ p) (hg : get id = .vars T cs) (hi : i ∈ hidL cs) : i ∈ hidO get p := by
  induction p with
  | nil => cases h
  | cons x xs ih =>
    simp only [hidO, List.mem_append]
    rcases List.mem_cons.1 h with rfl | h
    · exact .inl (by rw [hg]; exact hi)
    · exact .inr (ih h)
theorem hidO_congr {p : List Nat} (h : ∀ id ∈ p, get id = get' id) : hidO get p = hidO get' p := by
  induction p with
  | nil => rfl
  | cons x xs ih => simp only [hidO]; rw [h x (by simp), ih fun id hid => h id (by simp [hid])]
theorem fits_congr : ∀ {p : List Nat} {objs : List Obj}, (∀ id ∈ p, get id = get' id) → fits get p objs = fits get' p objs
  | [], _, _ => rfl
  | x :: xs, [], _ => rfl
  | x :: xs, o :: os, h => by simp only [fits]; rw [h x (by simp), fits_congr fun id hid => h id (by simp [hid])]
theorem outN_congr {p : List Nat} {base : Nat} (h : ∀ id ∈ p, get id = get' id) : outN p get base = outN p get' base := by
  funext j
  unfold outN
  rw [nth_eq]
  cases hj : p[j]? with
  | none => rfl
  | some id => simp only; rw [h id (List.mem_of_getElem? hj)]
theorem goneW_congr {p : List Nat} (h : ∀ id ∈ p, get id = get' id) : goneW get p = goneW get' p := by
  induction p with
  | nil => rfl
  | cons x xs ih => simp only [goneW]; rw [h x (by simp), ih fun id hid => h id (by simp [hid])]
theorem outW_congr {p : List Nat} {fz : Bool} {base m : Nat} {r : AV → AV} (h : ∀ id ∈ p, get id = get' id) : ∀ (os : List Obj) (j : Nat), outW p get fz base m r j os = outW p get' fz base m r j os
  | [], _ => rfl
  | o :: os, j => by simp only [outW]; rw [outN_congr h, outW_congr h os (j + 1)]
theorem callA_congr {base : Nat} {f : FuncId} {args : List AV} {g g' : List Gd} {E : Eff} {ob : List Prop} (h : callA P get base f args g = some (E, ob, g')) (hr : ∀ id ∈ E.rd, get id = get' id) : callA P get' base f args g = some (E, ob, g') := by
  unfold callA at h
  split at h
  · rename_i p fz bor v objs g1
    have key : ∀ id, id ∈ p ∨ id ∈ hids args ∨ id ∈ hidO get p → get id = get' id := by
      intro id hid
      refine hr id ?_
      dsimp only at h
      split at h
      · split at h
        · cases h; simp only [List.mem_append]; rcases hid with hid | hid | hid <;> simp [hid]
        · cases h
      · split at h
        · cases h; simp only [List.mem_append]; rcases hid with hid | hid | hid <;> simp [hid]
        · cases h
    have kp : ∀ id ∈ p, get id = get' id := fun id hid => key id (.inl hid)
    have e1 : lents p get args = lents p get' args := lents_congr fun id hid => key id (.inr (.inl hid))
    have e2 : hidO get p = hidO get' p := hidO_congr kp
    have e3 : args.map (ren (idx p) (frzG (lents p get' args) get)) = args.map (ren (idx p) (frzG (lents p get' args) get')) := rens_congr fun id hid => frzG_at (key id (.inr (.inl hid)))
    have e4 : (p.map fun id => renO (idx p) (frzG (lents p get' args) get) (frzG (lents p get' args) get id)) = p.map fun id => renO (idx p) (frzG (lents p get' args) get') (frzG (lents p get' args) get' id) := by
      refine List.map_congr_left fun id hid => ?_
      have h1 := kp id hid
      rw [frzG_at (br := lents p get' args) h1]
      cases hg : frzG (lents p get' args) get' id with
      | vars T cs =>
        have hg' : get' id = .vars T cs := by
          unfold frzG at hg
          split at hg
          · cases hg
          · exact hg
        simp only [renO]
        rw [ren0s_congr fun i hi => frzG_at (key i (.inr (.inr (hidO_mem hid (h1.trans hg') hi))))]
      | _ => rfl
    have e5 : ((lents p get' args).map fun id => (id, frzG (lents p get' args) get id)) = (lents p get' args).map fun id => (id, frzG (lents p get' args) get' id) := by
      refine List.map_congr_left fun id hid => ?_
      rw [← e1] at hid
      rw [frzG_at (key id (.inr (.inl (lents_hid hid))))]
    have e6 := outN_congr (base := base) kp
    have e7 := goneW_congr kp
    have e8 : fits get p objs = fits get' p objs := fits_congr kp
    unfold callA
    dsimp only at h ⊢
    rw [e1, e2, e3, e4, e5, e6, e7, e8] at h
    simp only [outW_congr kp] at h
    exact h
  · rename_i p v g1
    have key : ∀ id, id ∈ p ∨ id ∈ hids args ∨ id ∈ hidO get p → get id = get' id := by
      intro id hid
      refine hr id ?_
      split at h
      · cases h; simp only [List.mem_append]; rcases hid with hid | hid | hid <;> simp [hid]
      · cases h
    have kp : ∀ id ∈ p, get id = get' id := fun id hid => key id (.inl hid)
    have e1 : lents p get args = lents p get' args := lents_congr fun id hid => key id (.inr (.inl hid))
    have e2 : hidO get p = hidO get' p := hidO_congr kp
    have e3 : args.map (ren (idx p) get) = args.map (ren (idx p) get') := rens_congr fun id hid => key id (.inr (.inl hid))
    have e4 : (p.map fun id => renO (idx p) get (get id)) = p.map fun id => renO (idx p) get' (get' id) := by
      refine List.map_congr_left fun id hid => ?_
      have h1 := kp id hid
      rw [h1]
      cases hg : get' id with
      | vars T cs =>
        simp only [renO]
        rw [ren0s_congr fun i hi => key i (.inr (.inr (hidO_mem hid (h1.trans hg) hi)))]
      | _ => rfl
    unfold callA
    dsimp only at h ⊢
    rw [e1, e2, e3, e4] at h
    exact h
  · rename_i id xs v g1
    have key : ∀ i, i = id ∨ i ∈ hids args → get i = get' i := by
      intro i hi
      refine hr i ?_
      split at h
      · cases h; rcases hi with rfl | hi <;> simp [*]
      · cases h
    have e1 : lents [id] get args = lents [id] get' args := lents_congr fun i hi => key i (.inr hi)
    have e2 : args.map (ren (idx [id]) get) = args.map (ren (idx [id]) get') := rens_congr fun i hi => key i (.inr hi)
    have e3 := key id (.inl rfl)
    unfold callA
    dsimp only at h ⊢
    rw [e1, e2, e3] at h
    exact h
  · cases h
theorem srcA_congr {sz : Nat} {x : AV} {ys : List AV} {rd : List Nat} (h : srcA get sz x = some (ys, rd)) (hr : ∀ id ∈ rd, get id = get' id) : srcA get' sz x = some (ys, rd) := by
  unfold srcA at h ⊢
  split at h
  · exact h
  · exact h
  · rename_i id s n
    have : id ∈ rd := by
      split at h
      · split at h
        · cases h; simp
        · cases h
      · split at h
        · cases h; simp
        · cases h
      · cases h
    rw [← hr id this]; exact h
  · rename_i id s o n
    have : id ∈ rd := by
      split at h
      · split at h
        · cases h; simp
        · cases h
      · split at h
        · cases h; simp
        · cases h
      · cases h
    rw [← hr id this]; exact h
  · cases h
theorem memA_congr {base : Nat} {o : Oper} {g g' : List Gd} {E : Eff} {ob : List Prop} (h : memA P e get base o g = some (E, ob, g')) (hA : ∀ x ∈ o.op.operands.toList, opv e x = opv e' x) (hr : ∀ id ∈ E.rd, get id = get' id) : memA P e' get' base o g = some (E, ob, g') := by
  obtain ⟨dst, op, ty, pos, af, gd⟩ := o
  have hA : ∀ x ∈ op.operands.toList, opv e x = opv e' x := hA
  cases op with
  | load T x =>
    have h1 := hA x (by simp [Op.operands])
    simp only [memA] at h ⊢
    rw [← h1]
    split at h
    · rename_i v hv
      cases v with
      | ptr id off =>
        have : id ∈ E.rd := by
          simp only [loadA] at h
          (repeat' split at h) <;> first | (cases h; simp) | cases h
        simp only [loadA] at h ⊢
        rw [← hr id this]; exact h
      | ept id sz i off =>
        have : id ∈ E.rd := by
          simp only [loadA] at h
          (repeat' split at h) <;> first | (cases h; simp) | cases h
        simp only [loadA] at h ⊢
        rw [← hr id this]; exact h
      | lpt sz xs i off => simp only [loadA] at h ⊢; exact h
      | _ => simp only [loadA] at h; cases h
    · cases h
  | store T x y =>
    have h1 := hA x (by simp [Op.operands])
    have h2 := hA y (by simp [Op.operands])
    simp only [memA] at h ⊢
    rw [← h1, ← h2]
    split at h
    · rename_i v u hv hu
      cases v with
      | ptr id off =>
        have : id ∈ E.rd := by
          simp only [storeA] at h
          (repeat' split at h) <;> first | (cases h; simp) | cases h
        simp only [storeA] at h ⊢
        rw [← hr id this]; exact h
      | ept id sz i off =>
        have : id ∈ E.rd := by
          simp only [storeA] at h
          (repeat' split at h) <;> first | (cases h; simp) | cases h
        simp only [storeA] at h ⊢
        rw [← hr id this]; exact h
      | _ => simp only [storeA] at h; (repeat' split at h) <;> cases h
    · cases h
  | alloc T => exact h
  | box T x =>
    have h1 := hA x (by simp [Op.operands])
    simp only [memA] at h ⊢
    rw [← h1]; exact h
  | buildSlice T len ps =>
    have h1 : ∀ sz xs, elsA P e sz xs ps.toList = elsA P e' sz xs ps.toList := fun sz xs => elsA_congr fun x hx => hA x (by simpa [Op.operands] using hx)
    simp only [memA, h1] at h ⊢
    exact h
  | makeSlice T l c =>
    have h1 := hA l (by simp [Op.operands])
    have h2 := hA c (by simp [Op.operands])
    simp only [memA] at h ⊢
    rw [← h1, ← h2]; exact h
  | call c =>
    obtain ⟨callee, args, ats⟩ := c
    cases callee with
    | builtin b =>
      have h1 : opvL e args.toList = opvL e' args.toList := opvL_congr fun x hx => hA x (by simp [Op.operands, Call.operands]; simpa using hx)
      cases b <;> first | exact h | skip
      simp only [memA] at h ⊢
      rw [← h1]
      split at h
      · rename_i s x tS tX h2 h3
        unfold appendA at h ⊢
        split at h
        · rename_i el hu ht
          split at h
          · rename_i i hi
            split at h
            · rename_i ys rd z hs hz
              have hrd : ∀ id ∈ rd, id ∈ E.rd := by
                intro id hid
                (repeat' split at h) <;> first | (cases h; simp [hid]) | cases h
              rw [srcA_congr hs fun id hid => hr id (hrd id hid)]
              try simp only [hz]
              cases s with
              | nils => exact h
              | row id sz n =>
                have : id ∈ E.rd := by
                  simp only at h
                  (repeat' split at h) <;> first | (cases h; simp) | cases h
                simp only at h ⊢
                rw [← hr id this]; exact h
              | _ => cases h
            · cases h
          · cases h
        · cases h
      · cases h
    | value f =>
      have h0 := hA f (by simp [Op.operands, Call.operands])
      have h1 : opvL e args.toList = opvL e' args.toList := opvL_congr fun x hx => hA x (by simp [Op.operands, Call.operands]; exact .inr (by simpa using hx))
      simp only [memA] at h ⊢
      rw [← h0, ← h1]
      split at h
      · rename_i fn caps vs h2 h3
        exact callA_congr h hr
      · cases h
    | invoke r m => exact h
  | _ => exact h
theorem opA_congr {base : Nat} {o : Oper} {g g' : List Gd} {E : Eff} {ob : List Prop} (h : opA P e get base o g = some (E, ob, g')) (hA : ∀ x ∈ o.op.operands.toList, opv e x = opv e' x) (hr : ∀ id ∈ E.rd, get id = get' id) : opA P e' get' base o g = some (E, ob, g') := by
  unfold opA at h ⊢
  rw [← pureA_congr hA]
  split at h
  · exact h
  · exact memA_congr h hA hr
theorem opFo_congr {base : Nat} {o : Oper} {ids : List Nat} {g g' : List Gd} {E : Eff} {ob : List Prop} (h : opFo P e get base o ids g = some (E, ob, g')) (hA : ∀ x ∈ o.op.operands.toList, opv e x = opv e' x) (hr : ∀ id ∈ E.rd, get id = get' id) : opFo P e' get' base o ids g = some (E, ob, g') := by
  unfold opFo at h ⊢
  split at h
  · rename_i E1 ob1 g2 h1
    cases h
    have hid : ∀ id ∈ ids, frzG ids get id = frzG ids get' id := fun id hi => frzG_at (hr id (List.mem_append_left _ hi))
    have ho : onlyG ids (frzG ids get) = onlyG ids (frzG ids get') := by
      funext i
      unfold onlyG
      split
      · rename_i hc; exact hid i (hasN_iff.1 hc)
      · rfl
    have hm : (ids.map fun id => (id, frzG ids get id)) = ids.map fun id => (id, frzG ids get' id) := List.map_congr_left fun id hi => by rw [hid id hi]
    have := opA_congr (e' := convE (onlyG ids (frzG ids get')) e') (get' := frzG ids get') h1 (fun x hx => by
      have hq := hA x hx
      cases x with
      | tmp t =>
        have hq : e t = e' t := hq
        show convE _ e t = convE _ e' t
        unfold convE
        rw [hq, ho]
      | _ => rfl) (fun id hi => frzG_at (hr id (List.mem_append_right _ hi)))
    rw [this, hm]
  · cases h
theorem opF_congr {base : Nat} {o : Oper} {g g' : List Gd} {E : Eff} {ob : List Prop} (h : opF P e get base o g = some (E, ob, g')) (hA : ∀ x ∈ o.op.operands.toList, opv e x = opv e' x) (hr : ∀ id ∈ E.rd, get id = get' id) : opF P e' get' base o g = some (E, ob, g') := by
  unfold opF at h ⊢
  split at h
  · split at h
    · exact opFo_congr h hA hr
    · exact opA_congr h hA hr
  · exact opA_congr h hA hr
theorem stepA_congr {ds : List (Option Nat)} {base : Nat} {o : Oper} {g g' : List Gd} {E : Eff} {ob : List Prop} (h : stepA P ds e get base o g = some (E, ob, g')) (hA : ∀ t ∈ slotsOf ds o, e t = e' t) (hr : ∀ id ∈ E.rd, get id = get' id) : stepA P ds e' get' base o g = some (E, ob, g') := by
  have hB : ∀ x ∈ o.op.operands.toList, opv e x = opv e' x := by
    intro x hx
    cases x with
    | tmp t =>
      refine hA t ?_
      unfold slotsOf
      rw [List.mem_append]
      exact .inl (List.mem_filterMap.2 ⟨.tmp t, hx, rfl⟩)
    | _ => rfl
  unfold stepA at h ⊢
  split at h
  · exact opF_congr h hB hr
  · rename_i j want hg
    split at h
    · rename_i t ht
      have : e t = e' t := hA t (by unfold slotsOf; rw [hg]; simp [ht])
      rw [← this]
      split at h
      · exact opF_congr h hB hr
      · exact opF_congr h hB hr
      · exact h
      · exact h
      · cases h
    · cases h
end
end Go.Proofs.Ytidgcfgkcidkiaa.X
