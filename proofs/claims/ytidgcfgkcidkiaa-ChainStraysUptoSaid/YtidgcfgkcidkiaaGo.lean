/- A library of no program: one operation of a region. -/
import Derived.Test.YtidgcfgkcidkiaaGn
namespace Go.Proofs.Ytidgcfgkcidkiaa.X
open Go Go.Proofs.Ytidgcfgkcidkiaa.L Go.RowKit
set_option linter.unusedVariables false
set_option linter.unusedSimpArgs false

section
variable {P : Program} {K K' : Ctx} {e e' : Nat → Option AV} {get get' : Nat → Obj} {a : Act} {w w' : World}

theorem memA_sound (hS : RelS K e get a w) {o : Oper} {next : Act → World → Prop} {Q : Exit → Act → World → Prop} {base : Nat} {g g' : List Gd} {E : Eff} {ob : List Prop} (h : memA P e get base o g = some (E, ob, g')) (ho : AllP ob) (hh : ∀ j, j < E.nf → get (base + j) = .hole)
    (hn : Then P K get a w o E next) : o.wp P a w next Q := by
  unfold memA at h
  split at h
  · rename_i T x hop
    split at h
    · rename_i v hv
      obtain ⟨u, r, h1, h2, h3, h4⟩ := loadA_sound hS (opv_sound hS hv) h ho
      refine then_value hn (c := r) (K' := K) (w' := w) (by simp [execOp, hop, h3]) (by rw [h2]; exact hS.rel) (Ctx.le_refl K) (fun m => Grow.refl m K w) (fun y hy => ?_)
      rw [h1] at hy; injection hy with hy; subst hy; exact h4
    · cases h
  · rename_i T x y hop
    split at h
    · rename_i u v hu hv
      exact storeA_sound hS hop (opv_sound hS hu) (opv_sound hS hv) h ho hn
    · cases h
  · rename_i T hop
    split at h
    · rename_i cs hcs
      cases h
      exact alloc_sound hS hop (by have := hh 0 (by simp); simpa using this) hcs hn
    · cases h
  · rename_i T x hop
    split at h
    · rename_i v hv
      split at h
      · rename_i hc
        cases h
        exact box_sound hS hop (by have := hh 0 (by simp); simpa using this) hv hc hn
      · cases h
    · cases h
  · rename_i T len parts hop
    split at h
    · rename_i el hu
      split at h
      · rename_i i z hi hz
        split at h
        · rename_i n1 xs hsz hsm hx
          cases h
          exact buildSlice_sound hS hop (by have := hh 0 (by simp); simpa using this) hu hi hz (by rw [hsz]; omega) (Nat.le_of_ble_eq_true hsm) hx hn
        · cases h
      · cases h
    · cases h
  · rename_i T l c hop
    split at h
    · rename_i el lv cv hu hl hc
      split at h
      · rename_i i z n o1 g1 hi hz hl1
        split at h
        · rename_i n1 m o2 g2 hsz hc1
          cases h
          simp only [AllP, AllP.append_iff] at ho
          obtain ⟨p1, p2, p3, p4, p5⟩ := ho
          obtain ⟨k, hk⟩ := ixA_sound (opv_sound hS hl) hl1 p4
          obtain ⟨k', hk'⟩ := ixA_sound (opv_sound hS hc) hc1 p5
          exact makeSlice_sound hS hop (by have := hh 0 (by simp); simpa using this) hu hi hz (by rw [hsz]; omega) hk hk' p1 p2 p3 hn
        · cases h
      · cases h
    · cases h
  · rename_i args ats hop
    split at h
    · rename_i s x tS tX hargs hats
      obtain ⟨a1, a2, ha⟩ : ∃ a1 a2, args.toList = [a1, a2] := by
        cases hl : args.toList with
        | nil => rw [hl] at hargs; simp [opvL] at hargs
        | cons x1 r =>
          cases r with
          | nil =>
            rw [hl] at hargs
            simp only [opvL] at hargs
            split at hargs <;> simp at hargs
          | cons x2 r =>
            cases r with
            | nil => exact ⟨x1, x2, rfl⟩
            | cons x3 r =>
              exfalso
              have := (opvL_sound hS _ _ hargs).1
              rw [hl] at this; simp at this
      have hv := opvL_sound hS _ _ hargs
      rw [ha] at hv
      obtain ⟨c1, r1, e1, v1, h2⟩ := hv.cons_inv
      obtain ⟨c2, r2, e2, v2, h3⟩ := h2.cons_inv
      injection e1 with e1 e1'
      subst e1
      rw [← e1'] at e2
      injection e2 with e2 _
      subst e2
      have hb : get base = .hole := by
        have hnf : E.nf = 1 := by
          unfold appendA at h
          (repeat' split at h) <;> first | (cases h; rfl) | cases h
        have := hh 0 (by rw [hnf]; simp); simpa using this
      exact appendA_sound hS hop ha hats v1 v2 hb h ho hn
    · cases h
  · rename_i f args ats hop
    split at h
    · rename_i fn caps vs hf hv
      exact callA_sound hS hop hf hv h ho hh hn
    · cases h
  · cases h
theorem opA_sound (hS : RelS K e get a w) {o : Oper} {next : Act → World → Prop} {Q : Exit → Act → World → Prop} {base : Nat} {g g' : List Gd} {E : Eff} {ob : List Prop} (h : opA P e get base o g = some (E, ob, g')) (ho : AllP ob) (hh : ∀ j, j < E.nf → get (base + j) = .hole)
    (hn : Then P K get a w o E next) : o.wp P a w next Q := by
  unfold opA at h
  split at h
  · rename_i v ob' g1 hp
    cases h
    obtain ⟨c, h1, h2⟩ := pureA_sound hS hp ho
    exact then_value hn h1 hS.rel (Ctx.le_refl K) (fun m => Grow.refl m K w) (by rintro u ⟨rfl⟩; exact h2)
  · exact memA_sound hS h ho hh hn
theorem yielded_of (hS : RelS K e get a w) {ops : Array Oper} {j t : Nat} {b : Bool} (hd : nth (ops.toList.map (·.dst)) j = some (some t)) (ht : e t = some (.bool b)) : yielded ops a.tmps j = some b := by
  rw [nth_eq, List.getElem?_map] at hd
  obtain ⟨c, h1, h2⟩ := hS.env t _ ht
  have hc := h2.bool_inv
  unfold yielded
  cases hj : ops.toList[j]? with
  | none => rw [hj] at hd; cases hd
  | some o =>
    rw [hj] at hd
    have hd : o.dst = some t := by injection hd
    have hj' : ops[j]? = some o := by simpa using hj
    rw [hj', Option.bind_some, hd, Option.bind_some, h1, hc]
theorem yielded_undef (hS : RelS K e get a w) {ops : Array Oper} {j t : Nat} (hd : nth (ops.toList.map (·.dst)) j = some (some t)) (ht : e t = some (.tup [])) : yielded ops a.tmps j = none := by
  rw [nth_eq, List.getElem?_map] at hd
  obtain ⟨c, h1, h2⟩ := hS.env t _ ht
  obtain ⟨ds, rfl, _⟩ := h2.tup_inv
  unfold yielded
  cases hj : ops.toList[j]? with
  | none => rw [hj] at hd; cases hd
  | some o =>
    rw [hj] at hd
    have hd : o.dst = some t := by injection hd
    have hj' : ops[j]? = some o := by simpa using hj
    rw [hj', Option.bind_some, hd, Option.bind_some, h1]
theorem convF_VR {g1 g2 : Nat → Obj} (h : Rel K g1 w) (hg : ∀ id T sz xs, g2 id = .frz T sz xs → g1 id = .frz T sz xs) {u : AV} {c : Value} (hv : VR K u c) : VR K (conv0 g2 u) c := by
  cases u with
  | row id s n =>
    simp only [conv0]
    split
    · rename_i T sz xs hq; exact .pure (frz_list h (hg _ _ _ _ hq) hv)
    · exact hv
  | rws id s o n =>
    simp only [conv0]
    split
    · rename_i T sz xs hq; exact .pure (frz_list_sub h (hg _ _ _ _ hq) hv)
    · exact hv
  | _ => exact hv
theorem convFs_VR {g1 g2 : Nat → Obj} (h : Rel K g1 w) (hg : ∀ id T sz xs, g2 id = .frz T sz xs → g1 id = .frz T sz xs) {us : List AV} {ds : List Value} (hv : VRs K us ds) : VRs K (us.map (conv0 g2)) ds := by
  refine ⟨by rw [List.length_map]; exact hv.1, fun i u d hu hd => ?_⟩
  rw [List.getElem?_map] at hu
  cases hx : us[i]? with
  | none => rw [hx] at hu; cases hu
  | some x => rw [hx] at hu; injection hu with hu; subst hu; exact convF_VR h hg (hv.2 i x d hx hd)
theorem convG_VR {g1 g2 : Nat → Obj} (h : Rel K g1 w) (hg : ∀ id T sz xs, g2 id = .frz T sz xs → g1 id = .frz T sz xs) {u : AV} {c : Value} (hv : VR K u c) : VR K (conv g2 u) c := by
  cases hu : u with
  | agg cs => subst hu; obtain ⟨ds, rfl, hd⟩ := hv.agg_inv; simpa [conv] using VR.mkAgg (convFs_VR h hg hd)
  | _ => subst hu; exact convF_VR h hg hv
theorem opFo_sound (hS : RelS K e get a w) {o : Oper} {next : Act → World → Prop} {Q : Exit → Act → World → Prop} {base : Nat} {ids : List Nat} {g g' : List Gd} {E : Eff} {ob : List Prop} (h : opFo P e get base o ids g = some (E, ob, g')) (ho : AllP ob) (hh : ∀ j, j < E.nf → get (base + j) = .hole)
    (hn : Then P K get a w o E next) : o.wp P a w next Q := by
  unfold opFo at h
  split at h
  · rename_i E1 ob1 g2 h1
    cases h
    obtain ⟨R1, G1⟩ := hS.rel.frz (hasN ids)
    rw [← frzG_eq] at R1
    have hS1 : RelS (K.frz (hasN ids) get w) (convE (onlyG ids (frzG ids get)) e) (frzG ids get) a w := by
      refine ⟨R1, fun t v hv => ?_⟩
      unfold convE at hv
      split at hv
      · rename_i u hu
        injection hv with hv
        subst hv
        obtain ⟨c, c1, c2⟩ := hS.env t u hu
        refine ⟨c, c1, convG_VR R1 (fun id T sz xs hq => ?_) (c2.mono (frz_le _))⟩
        unfold onlyG at hq
        split at hq
        · exact hq
        · cases hq
      · cases hv
    refine opA_sound hS1 h1 ho (fun j hj => ?_) fun K' w' c q1 q2 q3 q4 => hn K' w' c ?_ (Ctx.le_trans (frz_le _) q2) (fun m => (G1 m).trans (q3 m)) q4
    · have := hh j hj
      unfold frzG
      rw [this]
    · have : updG get ((ids.map fun id => (id, frzG ids get id)) ++ E1.wr) = updG (frzG ids get) E1.wr := by
        rw [updG_append]
        congr 1
        funext i
        rw [updG_map]
        split
        · rfl
        · rename_i hi
          have : hasN ids i = false := by rw [Bool.eq_false_iff]; intro hc; exact hi (hasN_iff.1 hc)
          unfold frzG
          rw [this]
          cases get i <;> rfl
      simp only
      rw [this]
      exact q1
  · cases h
theorem opF_sound (hS : RelS K e get a w) {o : Oper} {next : Act → World → Prop} {Q : Exit → Act → World → Prop} {base : Nat} {g g' : List Gd} {E : Eff} {ob : List Prop} (h : opF P e get base o g = some (E, ob, g')) (ho : AllP ob) (hh : ∀ j, j < E.nf → get (base + j) = .hole)
    (hn : Then P K get a w o E next) : o.wp P a w next Q := by
  unfold opF at h
  split at h
  · split at h
    · exact opFo_sound hS h ho hh hn
    · exact opA_sound hS h ho hh hn
  · exact opA_sound hS h ho hh hn
theorem stepA_sound (hS : RelS K e get a w) {ops : Array Oper} {i : Nat} {o : Oper} (hi : ops[i]? = some o) {next : Act → World → Prop} {Q : Exit → Act → World → Prop} {base : Nat} {g g' : List Gd} {E : Eff} {ob : List Prop} (h : stepA P (ops.toList.map (·.dst)) e get base o g = some (E, ob, g')) (ho : AllP ob) (hh : ∀ j, j < E.nf → get (base + j) = .hole)
    (hn : Then P K get a w o E next) : wpOp P ops Q i next a w := by
  unfold wpOp
  rw [hi]
  simp only
  unfold stepA at h
  split at h
  · rename_i hg
    have : Region.wanted o (yielded ops a.tmps) = true := by simp [Region.wanted, hg]
    rw [if_pos this]
    exact .inl (opF_sound hS h ho hh hn)
  · rename_i j want hg
    split at h
    · rename_i t ht
      split at h
      · rename_i hb
        have : Region.wanted o (yielded ops a.tmps) = true := by simp [Region.wanted, hg, yielded_of hS ht hb]
        rw [if_pos this]
        exact .inl (opF_sound hS h ho hh hn)
      · rename_i hb
        have : Region.wanted o (yielded ops a.tmps) = true := by simp [Region.wanted, hg, yielded_of hS ht hb]
        rw [if_pos this]
        exact .inl (opF_sound hS h ho hh hn)
      · rename_i wa x1 wb b hb hn1 hn2
        cases h
        have hy := yielded_of hS ht hb
        have : Region.wanted o (yielded ops a.tmps) = false := by
          simp only [Region.wanted, hg, hy]
          cases b <;> cases wa <;> first | rfl | exact (hn2 rfl rfl).elim | exact (hn1 rfl rfl).elim
        rw [if_neg (by rw [this]; simp)]
        exact hn K w undef hS.rel (Ctx.le_refl K) (fun m => Grow.refl m K w) (by rintro v ⟨rfl⟩; exact VR.mkTup .nil)
      · rename_i wa x1 wb hb
        cases h
        have hy := yielded_undef hS ht hb
        have : Region.wanted o (yielded ops a.tmps) = false := by
          simp only [Region.wanted, hg, hy]
          cases wa <;> rfl
        rw [if_neg (by rw [this]; simp)]
        exact hn K w undef hS.rel (Ctx.le_refl K) (fun m => Grow.refl m K w) (by rintro v ⟨rfl⟩; exact VR.mkTup .nil)
      · cases h
    · cases h

def updE (e : Nat → Option AV) (d : Option Nat) (v : Option AV) : Nat → Option AV := fun t => match d with | some k => if t = k then v else e t | none => e t
theorem look_kill (e : Env) (t k : Nat) : look (killE e k) t = if t = k then none else look e t := by
  induction e with
  | nil => simp [killE, look]
  | cons x xs ih =>
    obtain ⟨y, v⟩ := x
    simp only [killE]
    split
    · rename_i h
      rw [ih]
      have := beq_eq' h; subst this
      by_cases ht : t = y
      · simp [ht]
      · simp only [ht, if_false, look]
        have : Nat.beq y t = false := by
          cases h9 : Nat.beq y t with
          | false => rfl
          | true => exact absurd (beq_eq' h9).symm ht
        rw [this]
    · rename_i h
      have hne : y ≠ k := Nat.ne_of_beq_eq_false h
      simp only [look]
      split
      · rename_i h2
        have := beq_eq' h2; subst this
        simp [hne]
      · exact ih
theorem look_put (e : Env) (d : Option Nat) (v : Option AV) : look (putE e d v) = updE (look e) d v := by
  funext t
  cases d with
  | none => rfl
  | some k =>
    cases v with
    | none => simp only [putE, updE, look_kill]
    | some v =>
      simp only [putE, look, updE]
      split
      · rename_i h; rw [beq_eq' h]; simp
      · rename_i h; rw [if_neg (Ne.symm (Nat.ne_of_beq_eq_false h))]
theorem getO_set (l : List Obj) (n : Nat) (o : Obj) : getO (setO l n o) = putG (getO l) n o := by
  funext i
  induction l generalizing n i with
  | nil =>
    induction n generalizing i with
    | zero => cases i <;> simp [setO, getO, putG]
    | succ n ih => cases i <;> simp [setO, getO, putG, ih]
  | cons x xs ih =>
    cases n with
    | zero => cases i <;> simp [setO, getO, putG]
    | succ n => cases i <;> simp [setO, getO, putG, ih]
theorem getO_sets (l : List Obj) (wr : List (Nat × Obj)) : getO (setsO l wr) = updG (getO l) wr := by
  induction wr generalizing l with
  | nil => rfl
  | cons x xs ih => obtain ⟨n, o⟩ := x; simp only [setsO, updG, ih, getO_set]
theorem getO_out (l : List Obj) (j : Nat) : getO l (l.length + j) = .hole := by rw [getO_eq, List.getElem?_eq_none (by omega)]; rfl
/-- The next state. -/
theorem RelS.next (hS : RelS K e get a w) {d : Option Nat} {E : Eff} {c : Value} {nt : Nat} (hsz : a.tmps.size = nt) (hd : dstB nt d = true) (h1 : Rel K' (updG get E.wr) w') (h2 : K.le K') (h3 : ∀ v, E.v = some v → VR K' v c) :
    RelS K' (updE e d E.v) (updG get E.wr) (a.put d c) w' ∧ (a.put d c).tmps.size = nt ∧ (a.put d c).defers = a.defers := by
  refine ⟨⟨h1, fun t v hv => ?_⟩, ?_, ?_⟩
  · cases d with
    | none =>
      obtain ⟨c', k1, k2⟩ := hS.env t v hv
      exact ⟨c', k1, k2.mono h2⟩
    | some k =>
      simp only [updE] at hv
      have hk : k < a.tmps.size := by rw [hsz]; exact Nat.le_of_ble_eq_true hd
      by_cases ht : t = k
      · subst ht
        rw [if_pos rfl] at hv
        exact ⟨c, by simp [Act.put, hk], h3 v hv⟩
      · rw [if_neg ht] at hv
        obtain ⟨c', k1, k2⟩ := hS.env t v hv
        exact ⟨c', by simp [Act.put, Array.getElem?_setIfInBounds_ne (Ne.symm ht), k1], k2.mono h2⟩
  · cases d <;> simp [Act.put, hsz]
  · cases d <;> rfl
/-- A region whose order is the text's. -/
theorem runOps_sound {ops : Array Oper} {nt : Nat} {Q : Exit → Act → World → Prop} : ∀ (l : List Oper) (i : Nat) (en : Env) (os : List Obj) (g : List Gd) (en' : Env) (os' : List Obj) (rs : List Rc) (ob : List Prop) (g' : List Gd) (K : Ctx) (a : Act) (w : World),
    ops.toList.drop i = l → runOps P nt (ops.toList.map (·.dst)) l en os g = some (en', os', rs, ob, g') → AllP ob → RelS K (look en) (getO os) a w → a.tmps.size = nt →
    (∀ K' a' w', RelS K' (look en') (getO os') a' w' → a'.tmps.size = nt → (∀ m, Grow m K w K' w') → a'.defers = a.defers → Q .normal a' w') → wpOps P ops Q (List.range' i (ops.size - i)) a w
  | [], i, en, os, g, en', os', rs, ob, g', K, a, w, hl, h, ho, hS, hsz, hQ => by
    cases h
    have : ops.size - i = 0 := by have := congrArg List.length hl; simp at this; omega
    rw [this]
    exact hQ K a w hS hsz (fun m => Grow.refl m K w) rfl
  | o :: r, i, en, os, g, en', os', rs, ob, g', K, a, w, hl, h, ho, hS, hsz, hQ => by
    have hi : ops[i]? = some o := by
      have : (ops.toList.drop i)[0]? = some o := by rw [hl]; rfl
      rw [List.getElem?_drop] at this; simpa using this
    have hlt : i < ops.size := (Array.getElem?_eq_some_iff.1 hi).1
    have hr : ops.toList.drop (i + 1) = r := by
      rw [← List.drop_drop, hl]; rfl
    simp only [runOps] at h
    split at h
    · rename_i E ob1 g1 hst hd
      split at h
      · rename_i en2 os2 rs2 ob2 g2 hrec
        cases h
        rw [AllP.append_iff] at ho
        rw [show ops.size - i = (ops.size - (i + 1)) + 1 by omega, List.range'_succ, wpOps_cons]
        refine stepA_sound hS hi hst ho.1 (fun j _ => getO_out os j) fun K' w' c h1 h2 h3 h4 => ?_
        obtain ⟨n1, n2, n3⟩ := hS.next (d := o.dst) hsz hd h1 h2 h4
        rw [← look_put, ← getO_sets] at n1
        refine runOps_sound r (i + 1) _ _ g1 _ _ rs2 ob2 _ K' _ w' hr hrec ho.2 n1 n2 fun K2 a2 w2 k1 k2 k3 k4 => ?_
        exact hQ K2 a2 w2 k1 k2 (fun m => (h3 m).trans (k3 m)) (k4.trans n3)
      · cases h
    · cases h
end
end Go.Proofs.Ytidgcfgkcidkiaa.X
