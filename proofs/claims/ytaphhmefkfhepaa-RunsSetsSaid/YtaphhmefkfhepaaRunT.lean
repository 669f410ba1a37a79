/- Package runs, as calls over things in memory: a set is a struct and its row. -/
import Derived.Test.YtaphhmefkfhepaaRunM
import Derived.Test.YtaphhmefkfhepaaGs
namespace Go.Proofs.Ytaphhmefkfhepaa.Run
open Go Go.RowKit Go.Proofs.Ytaphhmefkfhepaa.L Go.Proofs.Ytaphhmefkfhepaa.X
set_option linter.unusedVariables false
set_option linter.unusedSimpArgs false

theorem mixed : Try.prog.follows .mixedOrders = true := by kernel_rfl
/-- A run, as an abstract value. -/
def enc (r : Rn) : AV := .agg [.int .u64 r.f, .int .u64 r.t]
def setObjs (l : List Rn) : List X.Obj := [.vars 62 [.row 1 2 l.length], .row 30 2 (l.map enc)]

theorem enc_inv {K : Ctx} {r : Rn} {c : Value} (h : VR K (enc r) c) : c = .agg #[.int .u64 r.f, .int .u64 r.t] := by
  obtain ⟨ds, rfl, hd⟩ := h.agg_inv
  obtain ⟨a, a2, e1, h1, h2⟩ := hd.cons_inv
  obtain ⟨b, bs, e2, h3, h4⟩ := h2.cons_inv
  rw [h4.nil_inv] at e2
  rw [e2, h1.int_inv, h3.int_inv] at e1
  cases ds; simp at e1; subst e1; rfl
theorem enc_mk (K : Ctx) (r : Rn) : VR K (enc r) (.agg #[.int .u64 r.f, .int .u64 r.t]) :=
  VR.mkAgg (.cons (.pure (.int _ _)) (.cons (.pure (.int _ _)) .nil))

/-- The elements of a row of runs. -/
theorem cells_run {A : Nat → Prop} {w : World} : ∀ (l : List Rn) (D : List Value), (∀ (i : Nat) r, l[i]? = some r → D[i * 2]? = some (.int .u64 r.f) ∧ D[i * 2 + 1]? = some (.int .u64 r.t) ∧ Run64 r) → Cells RnR A w (D.take (l.length * 2)) l
  | [], D, h => by simp; exact .nil
  | r :: l, D, h => by
    obtain ⟨h1, h2, h3⟩ := h 0 r rfl
    match D, h1, h2, h with
    | [], h1, _, _ => simp at h1
    | [a], _, h2, _ => simp at h2
    | a :: b :: D, h1, h2, h =>
      simp at h1 h2
      subst h1 h2
      have := Cells.cons (R := RnR) (A := A) (w := w) (cs := rnEnc r) (x := r) ⟨rfl, h3⟩ (cells_run l D fun i x hx => by
        have := h (i + 1) x (by simpa using hx)
        rw [Nat.succ_mul] at this
        simpa using this)
      simpa [rnEnc, Nat.succ_mul] using this
theorem prows_run {M : Nat → Nat → Option Value} {l : List Rn} {D : List Value} (h : PRows M 2 (l.map enc) D) (i : Nat) (r : Rn) (hr : l[i]? = some r) : D[i * 2]? = some (.int .u64 r.f) ∧ D[i * 2 + 1]? = some (.int .u64 r.t) := by
  obtain ⟨_, h2⟩ := h i (enc r) (by simp [hr])
  obtain ⟨d, h3, h4⟩ := h2 0 (.int .u64 r.f) rfl
  obtain ⟨d', h5, h6⟩ := h2 1 (.int .u64 r.t) rfl
  cases h4; cases h6
  exact ⟨h3, h5⟩
theorem run_prows {A : Nat → Prop} {w : World} {M : Nat → Nat → Option Value} {l : List Rn} {cs rest : List Value} (h : Cells RnR A w cs l) : PRows M 2 (l.map enc) (cs ++ rest) := by
  intro i x hx
  rw [List.getElem?_map] at hx
  cases hr : l[i]? with
  | none => rw [hr] at hx; cases hx
  | some r =>
    rw [hr] at hx; injection hx with hx; subst hx
    obtain ⟨c, ⟨rfl, _⟩, hc⟩ := h.get hr
    refine ⟨rfl, fun j u hu => ?_⟩
    have key : ∀ (j : Nat) d, (rnEnc r)[j]? = some d → (cs ++ rest)[i * 2 + j]? = some d := fun j d hd => by
      have this : cs[i * 2 + j]? = some d := hc j d hd
      have hl := (List.getElem?_eq_some_iff.1 this).1
      rw [List.getElem?_append_left hl]; exact this
    match j, hu with
    | 0, hu => cases hu; exact ⟨_, key 0 _ rfl, .int _ _⟩
    | 1, hu => cases hu; exact ⟨_, key 1 _ rfl, .int _ _⟩
    | j + 2, hu => simp [enc, AV.cells] at hu

section
variable {K : Ctx} {w w' : World} {id T : Nat} {l : List Rn} {c : Value}
theorem own_down (hk : K.kind id = .row 2 l.length) (ho : OR K w id (.row T 2 (l.map enc))) (hv : VR K (.row id 2 l.length) c) (h64 : All64 l) : Own RnR T none' w c l ∧ ∀ b, rowOf c = some b ↔ K.cap id ≠ 0 ∧ K.blk id = b := by
  cases hv with
  | pure h => cases h
  | row id sz len c hk' h hp =>
    rw [hk] at h
    obtain ⟨_, ad, rfl, ha⟩ := h.resolve_left (by simp)
    obtain ⟨_, h1, h2, h3⟩ := ho
    simp at h1
    by_cases h0 : K.cap id = 0
    · refine ⟨⟨ad, _, rfl, h1, h2, .inl h0⟩, fun b => ?_⟩
      rw [h0]
      cases ad <;> simp [rowOf]
    · obtain rfl := ha h0
      obtain ⟨ds, h4, h5, h6⟩ := h3 h0
      refine ⟨⟨_, _, rfl, h1, h2, .inr ⟨K.blk id, ds.toList.take (K.off id), (ds.toList.drop (K.off id)).take (l.length * 2), (ds.toList.drop (K.off id)).drop (l.length * 2), ?_, ?_, ?_, ?_⟩⟩, fun b => ?_⟩
      · rw [List.length_take, Array.length_toList, Nat.min_eq_left (by omega)]
      · rw [h4, List.append_assoc, List.take_append_drop, List.take_append_drop]
      · show _ = _ * 2
        simp; omega
      · exact cells_run l _ fun i r hr => ⟨(prows_run h6 i r hr).1, (prows_run h6 i r hr).2, h64 r (List.mem_of_getElem? hr)⟩
      · simp [rowOf, h0]
theorem own_up {v : Value} (h : Own RnR T none' w v l) (B : Nat) : ∃ b cp o, (∀ k, rowOf v = some k ↔ cp ≠ 0 ∧ b = k) ∧ (cp = 0 → b = B) ∧ (∀ k, rowOf v = some k → ∃ cs, w.heap[k]? = some (.cells cs T (0, 0))) ∧
    ∀ (K : Ctx) (id : Nat), K.kind id = .row 2 l.length → K.cap id = cp → K.blk id = b → K.off id = o → OR K w id (.row T 2 (l.map enc)) ∧ VR K (.row id 2 l.length) v := by
  have ht := h.type
  obtain ⟨ad, cp, rfl, h1, h2, h3⟩ := h
  by_cases h0 : cp = 0
  · subst h0
    refine ⟨B, 0, 0, fun k => ?_, fun _ => rfl, ht, fun K id k1 k2 k3 k4 => ⟨⟨by decide, by rw [k2]; simpa using h1, by rw [k2]; exact h2, fun hn => absurd k2 hn⟩, .row _ _ _ _ (by rw [k1]; simp) (.inr ⟨.inl k1, ad, by rw [k2], fun hn => absurd k2 hn⟩) ⟨ad, 0, rfl, h1, h2, fun hn => absurd rfl hn⟩⟩⟩
    cases ad <;> simp [rowOf]
  · obtain ⟨b, pre, live, dead, rfl, hh, hd, hc⟩ := h3.resolve_left h0
    refine ⟨b, cp, pre.length, fun k => ?_, fun hn => absurd hn h0, ht, fun K id k1 k2 k3 k4 => ⟨⟨by decide, by rw [k2]; simpa using h1, by rw [k2]; exact h2, fun hn => ⟨_, by rw [k3]; exact hh, ?_, ?_⟩⟩, .row _ _ _ _ (by rw [k1]; simp) (.inr ⟨.inl k1, some ⟨b, pre.length, none⟩, by rw [k2], fun hn => by rw [k3, k4]⟩) ⟨_, cp, rfl, h1, h2, fun hn => ⟨_, rfl⟩⟩⟩⟩
    · simp [rowOf, h0]
    · have hl : live.length = l.length * 2 := hc.length
      have hd' : dead.length = (cp - l.length) * 2 := hd
      rw [k2, k4]; simp [hl, hd']; omega
    · rw [k4]
      show PRows _ _ _ (List.drop _ (pre ++ live ++ dead))
      rw [List.append_assoc, List.drop_left]
      exact run_prows hc

/-- A set that stands in memory. -/
theorem set_down (hR : Rel K (getO (setObjs l)) w) (h64 : All64 l) : ∃ fp, SetAt w (K.blk 0) fp l ∧ (∀ b, fp = some b ↔ K.cap 1 ≠ 0 ∧ K.blk 1 = b) := by
  obtain ⟨ds, h1, h2, h3⟩ := hR.obj 0
  obtain ⟨v, vs, e, h4, h5⟩ := h2.cons_inv
  rw [h5.nil_inv] at e
  have e1 : ds = #[v] := by cases ds; simp at e; subst e; rfl
  subst e1
  obtain ⟨h6, h7⟩ := own_down (T := 30) (by rw [hR.kinds]; simp [getO, setObjs, Obj.kind]) (hR.obj 1) h4 h64
  exact ⟨rowOf v, ⟨v, h1, h6, rfl⟩, h7⟩
theorem set_up {bs : Nat} {fp : Option Nat} (h : SetAt w bs fp l) (B : Nat) : ∃ v b cp o, w.heap[bs]? = some (.cells #[v] 62 (0, 0)) ∧ v.oneCell' = true ∧ (∀ k, fp = some k ↔ cp ≠ 0 ∧ b = k) ∧ (cp = 0 → b = B) ∧ (cp ≠ 0 → b ≠ bs) ∧ (cp ≠ 0 → b < w.heap.size) ∧
    ∀ (K : Ctx) (id : Nat), K.kind id = .row 2 l.length → K.cap id = cp → K.blk id = b → K.off id = o → OR K w id (.row 30 2 (l.map enc)) ∧ VR K (.row id 2 l.length) v := by
  have hne := h.fp_ne
  have hlt := h.fp_lt
  obtain ⟨v, hb, ho, rfl⟩ := h
  obtain ⟨b, cp, o, h1, h2, h3, h4⟩ := own_up ho B
  refine ⟨v, b, cp, o, hb, ?_, h1, h2, fun hc => hne b ((h1 b).2 ⟨hc, rfl⟩), fun hc => hlt b ((h1 b).2 ⟨hc, rfl⟩), h4⟩
  obtain ⟨ad, c, rfl, _⟩ := ho
  rfl
theorem own_set (hR : Rel K (getO (setObjs l)) w) (b : Nat) : K.own b ↔ b = 0 ∨ (b = 1 ∧ K.cap 1 ≠ 0) := by
  unfold Ctx.own
  rw [hR.kinds]
  match b with
  | 0 => simp [getO, setObjs, Obj.kind]
  | 1 => simp [getO, setObjs, Obj.kind]
  | n + 2 => simp [getO, setObjs, Obj.kind]
end

section
variable {f : FuncId} {l l' : List Rn} {us : List AV} {vs : List Value} {K : Ctx} {w w' : World}
/-- What leaves a set as it is. -/
theorem read_acalls (hE : Enters Try.prog f) (h64 : All64 l) (hus : ∀ K ds, VRs K us ds → ds = vs) (v : AV) (c : Value) (hvc : ∀ K, VR K v c)
    (h : ∀ w bs fp, SetAt w bs fp l → Calls Try.prog f (.pointer (some ⟨bs, 0, none⟩) :: vs).toArray w fun e w' => e = .returned c ∧ Keeps (fun _ => False) w w') : ACalls Try.prog f (.ptr 0 0 :: us) (setObjs l) v (setObjs l) := by
  refine ⟨hE, fun K w cs hR hcs => ?_⟩
  obtain ⟨p, ps, rfl, hp, hps⟩ := hcs.cons_inv
  obtain rfl := hus K ps hps
  obtain ⟨fp, hs, _⟩ := set_down hR h64
  have hp' : p = .pointer (some ⟨K.blk 0, 0, none⟩) := by
    cases hp with
    | pure h => cases h
    | ptr id off c hk h hp => exact h.resolve_left (by rw [hR.kinds]; simp [getO, setObjs, Obj.kind])
  subst hp'
  refine (h w _ fp hs).mono ?_
  rintro e w' ⟨rfl, hk⟩
  obtain ⟨r1, r2⟩ := hR.keep0 hk
  exact ⟨K, c, rfl, r1, hvc K, r2 _⟩
/-- What changes a set. -/
theorem turn_acalls (hE : Enters Try.prog f) (h64 : All64 l) (hus : ∀ K ds, VRs K us ds → ds = vs) (n : Int)
    (h : ∀ w bs fp, SetAt w bs fp l → Calls Try.prog f (.pointer (some ⟨bs, 0, none⟩) :: vs).toArray w (Turns w bs fp l' n)) : ACalls Try.prog f (.ptr 0 0 :: us) (setObjs l) (.int .u64 n) (setObjs l') := by
  refine ⟨hE, fun K w cs hR hcs => ?_⟩
  obtain ⟨p, ps, rfl, hp, hps⟩ := hcs.cons_inv
  obtain rfl := hus K ps hps
  obtain ⟨fp, hs, hfp⟩ := set_down hR h64
  have hp' : p = .pointer (some ⟨K.blk 0, 0, none⟩) := by
    cases hp with
    | pure h => cases h
    | ptr id off c hk h hp => exact h.resolve_left (by rw [hR.kinds]; simp [getO, setObjs, Obj.kind])
  subst hp'
  refine (h w _ fp hs).mono ?_
  rintro e w' ⟨rfl, fp', hs', hn, hk⟩
  obtain ⟨v, b, cp, o, hb, h1, hf', h0, hne, hlt, hup⟩ := set_up hs' w.heap.size
  have hown := own_set hR
  have hkf : Keeps K.foot w w' := hk.mono fun x _ hx => by
    rcases hx with rfl | hx
    · exact ⟨0, (hown 0).2 (.inl rfl), rfl⟩
    · obtain ⟨k1, k2⟩ := (hfp x).1 hx
      exact ⟨1, (hown 1).2 (.inr ⟨rfl, k1⟩), k2⟩
  let K' : Ctx := ⟨K.M, fun i => if i = 0 then K.blk 0 else b, fun i => if i = 0 then K.cap 0 else cp, fun i => if i = 0 then K.off 0 else o, fun i => (getO (setObjs l') i).kind⟩
  have hown' : ∀ i, K'.own i ↔ i = 0 ∨ (i = 1 ∧ cp ≠ 0) := by
    intro i
    unfold Ctx.own
    match i with
    | 0 => simp [K', getO, setObjs, Obj.kind]
    | 1 => simp [K', getO, setObjs, Obj.kind]
    | n + 2 => simp [K', getO, setObjs, Obj.kind]
  have hnew : cp ≠ 0 → (K.cap 1 ≠ 0 ∧ K.blk 1 = b) ∨ w.heap.size ≤ b := fun hc => by
    rcases hn b ((hf' b).2 ⟨hc, rfl⟩) with h | h
    · exact .inl ((hfp b).1 h)
    · exact .inr h
  have hsep : ∀ x o, K.foot x → K.M x o = none := by rintro x o ⟨i, hi, rfl⟩; exact hR.sep i o hi
  obtain ⟨u1, u2⟩ := hup K' 1 (by simp [K', getO, setObjs, Obj.kind]) (by simp [K']) (by simp [K']) (by simp [K'])
  refine ⟨K', _, rfl, ⟨fun i => rfl, fun x y u hu => ?_, fun i => ?_, fun i j hi hj hb' => ?_, fun i y hi => ?_⟩, .pure (.int _ _), ⟨fun _ _ _ h => h, fun _ _ _ h => .inl h, fun i hi hv => ?_, fun x hx => ?_, hkf⟩⟩
  · have hm := hR.mem x y u hu
    refine ⟨?_, hm.2⟩
    rw [kcell hkf x y (hR.mem_lt hu) fun hf => by rw [hsep x y hf] at hu; cases hu]
    exact hm.1
  · match i with
    | 0 => exact ⟨#[v], by simpa [K'] using hb, .cons u2 .nil, by simpa using h1⟩
    | 1 => exact u1
    | n + 2 => trivial
  · rcases (hown' i).1 hi with rfl | ⟨rfl, hc⟩ <;> rcases (hown' j).1 hj with rfl | ⟨rfl, hc'⟩
    · rfl
    · simp [K'] at hb'; exact absurd hb'.symm (hne hc')
    · simp [K'] at hb'; exact absurd hb' (hne hc)
    · rfl
  · rcases (hown' i).1 hi with rfl | ⟨rfl, hc⟩
    · exact hsep _ y ⟨0, (hown 0).2 (.inl rfl), rfl⟩
    · show K.M b y = none
      rcases hnew hc with ⟨k1, k2⟩ | k1
      · exact hsep _ y ⟨1, (hown 1).2 (.inr ⟨rfl, k1⟩), k2⟩
      · cases hm : K.M b y with
        | none => rfl
        | some u => have := hR.mem_lt hm; omega
  · rw [hR.kinds] at hv
    match i, hi with
    | 0, _ => exact ⟨rfl, rfl⟩
    | 1, _ => simp [getO, setObjs, Obj.kind] at hv
  · obtain ⟨i, hi, rfl⟩ := hx
    rcases (hown' i).1 hi with rfl | ⟨rfl, hc⟩
    · exact .inl ⟨0, (hown 0).2 (.inl rfl), rfl⟩
    · show K.foot b ∨ w.heap.size ≤ b
      rcases hnew hc with ⟨k1, k2⟩ | k1
      · exact .inl ⟨1, (hown 1).2 (.inr ⟨rfl, k1⟩), k2⟩
      · exact .inr k1

/-- Things behind, made anew. -/
theorem ctx_two (hR : Rel K (getO (setObjs l)) w) (F : Nat → Prop) (hF : ∀ i, F i → 2 ≤ i) (o : List X.Obj) (K' : Ctx) (hM : K'.M = K.M) (hk' : ∀ i, K'.kind i = (getO (setObjs l ++ o) i).kind) (hFo : ∀ i, ¬ F i → 2 ≤ i → (getO (setObjs l ++ o) i) = .hole)
    (h0 : ∀ i, ¬ F i → K'.blk i = K.blk i ∧ K'.cap i = K.cap i ∧ K'.off i = K.off i) (hk : Keeps (fun _ => False) w w') (hobj : ∀ i, F i → OR K' w' i (getO (setObjs l ++ o) i)) (hnew : ∀ i, F i → K'.own i → w.heap.size ≤ K'.blk i) (hinj : ∀ i j, F i → F j → K'.own i → K'.own j → K'.blk i = K'.blk j → i = j) :
    Rel K' (getO (setObjs l ++ o)) w' ∧ ∀ m, Grow m K w K' w' := by
  have hole : ∀ i, 2 ≤ i → K.kind i = .hole := by
    intro i hi
    rw [hR.kinds]
    match i, hi with
    | n + 2, _ => simp [getO, setObjs, Obj.kind]
  have same : ∀ i, i < 2 → getO (setObjs l ++ o) i = getO (setObjs l) i := by
    intro i hi
    match i, hi with
    | 0, _ => rfl
    | 1, _ => rfl
  have nF : ∀ i, i < 2 → ¬ F i := fun i hi hf => by have := hF i hf; omega
  have hg : ∀ i, ¬ F i → getO (setObjs l ++ o) i = getO (setObjs l) i := by
    intro i hi
    by_cases h2 : 2 ≤ i
    · rw [hFo i hi h2]
      match i, h2 with
      | n + 2, _ => simp [getO, setObjs]
    · exact same i (by omega)
  refine hR.change F ⟨fun b o v h => by rw [hM]; exact h, fun i hi => ?_⟩ (fun i hi => ⟨?_, (h0 i hi).1, (h0 i hi).2.1, (h0 i hi).2.2, hg i hi⟩) (hk.mono fun _ _ h => h.elim) (fun i _ => hk' i) (fun i hi hv => ?_) hobj (fun i hi ho => .inr (hnew i hi ho)) hinj (fun b o v h => by rw [hM] at h; exact .inl h)
  · have h2 : ¬ 2 ≤ i := fun h => hi (hole i h)
    obtain ⟨k1, k2, k3⟩ := h0 i (nF i (by omega))
    exact .inr ⟨k1, k2, k3, .inl (by rw [hk', hR.kinds, same i (by omega)])⟩
  · rw [hk', hR.kinds, hg i hi]
  · rw [hole i (hF i hi)] at hv; cases hv
/-- A set's runs, told. -/
theorem told_acalls (hE : Enters Try.prog f) (h64 : All64 l) (h : ∀ w bs fp, SetAt w bs fp l → Calls Try.prog f #[.pointer (some ⟨bs, 0, none⟩)] w (Told w l)) :
    ACalls Try.prog f [.ptr 0 0] (setObjs l) (.row 2 2 l.length) (setObjs l ++ [.row 30 2 (l.map enc)]) := by
  refine ⟨hE, fun K w cs hR hcs => ?_⟩
  obtain ⟨p, ps, rfl, hp, hps⟩ := hcs.cons_inv
  obtain rfl := hps.nil_inv
  obtain ⟨fp, hs, hfp⟩ := set_down hR h64
  have hp' : p = .pointer (some ⟨K.blk 0, 0, none⟩) := by
    cases hp with
    | pure h => cases h
    | ptr id off c hk h hp => exact h.resolve_left (by rw [hR.kinds]; simp [getO, setObjs, Obj.kind])
  subst hp'
  refine (h w _ fp hs).mono ?_
  rintro e w' ⟨v, rfl, ho, hn, hk⟩
  obtain ⟨b, cp, o, h1, h2, h3, hup⟩ := own_up (T := 30) ho w.heap.size
  let K' : Ctx := ⟨K.M, fun i => if i = 2 then b else K.blk i, fun i => if i = 2 then cp else K.cap i, fun i => if i = 2 then o else K.off i, fun i => (getO (setObjs l ++ [.row 30 2 (l.map enc)]) i).kind⟩
  obtain ⟨u1, u2⟩ := hup K' 2 (by simp [K', getO, setObjs, Obj.kind]) (by simp [K']) (by simp [K']) (by simp [K'])
  obtain ⟨r1, r2⟩ := ctx_two hR (fun i => i = 2) (fun i hi => by omega) [.row 30 2 (l.map enc)] K' rfl (fun i => rfl) (fun i hi h2 => by
      match i, hi, h2 with
      | 2, hi, _ => exact absurd rfl hi
      | n + 3, _, _ => simp [getO, setObjs]) (fun i hi => ⟨if_neg hi, if_neg hi, if_neg hi⟩) hk (by rintro i rfl; exact u1) (by
      rintro i rfl ho
      have hc : cp ≠ 0 := by unfold Ctx.own at ho; simpa [K', getO, setObjs, Obj.kind] using ho
      exact hn b ((h1 b).2 ⟨hc, rfl⟩)) (by rintro i j rfl rfl; intros; rfl)
  exact ⟨K', _, rfl, r1, u2, r2 _⟩
/-- A set's copy. -/
theorem copy_acalls (hE : Enters Try.prog f) (h64 : All64 l) (h : ∀ w bs fp, SetAt w bs fp l → Calls Try.prog f #[.pointer (some ⟨bs, 0, none⟩)] w fun e w' => ∃ b2 fp2, e = .returned (.pointer (some ⟨b2, 0, none⟩)) ∧ w.heap.size ≤ b2 ∧ (∀ b, fp2 = some b → w.heap.size ≤ b) ∧ SetAt w' b2 fp2 l ∧ Keeps (fun _ => False) w w') :
    ACalls Try.prog f [.ptr 0 0] (setObjs l) (.ptr 2 0) (setObjs l ++ [.vars 62 [.row 3 2 l.length], .row 30 2 (l.map enc)]) := by
  refine ⟨hE, fun K w cs hR hcs => ?_⟩
  obtain ⟨p, ps, rfl, hp, hps⟩ := hcs.cons_inv
  obtain rfl := hps.nil_inv
  obtain ⟨fp, hs, hfp⟩ := set_down hR h64
  have hp' : p = .pointer (some ⟨K.blk 0, 0, none⟩) := by
    cases hp with
    | pure h => cases h
    | ptr id off c hk h hp => exact h.resolve_left (by rw [hR.kinds]; simp [getO, setObjs, Obj.kind])
  subst hp'
  refine (h w _ fp hs).mono ?_
  rintro e w' ⟨b2, fp2, rfl, hn2, hn, hs', hk⟩
  obtain ⟨v, b, cp, o, hb, h1, hf', h0, hne, hlt, hup⟩ := set_up hs' w.heap.size
  let os : List X.Obj := [.vars 62 [.row 3 2 l.length], .row 30 2 (l.map enc)]
  let K' : Ctx := ⟨K.M, fun i => if i = 2 then b2 else if i = 3 then b else K.blk i, fun i => if i = 2 then 0 else if i = 3 then cp else K.cap i, fun i => if i = 2 then 0 else if i = 3 then o else K.off i, fun i => (getO (setObjs l ++ os) i).kind⟩
  obtain ⟨u1, u2⟩ := hup K' 3 (by simp [K', os, getO, setObjs, Obj.kind]) (by simp [K']) (by simp [K']) (by simp [K'])
  have hown3 : K'.own 3 → cp ≠ 0 := fun ho => by unfold Ctx.own at ho; simpa [K', os, getO, setObjs, Obj.kind] using ho
  obtain ⟨r1, r2⟩ := ctx_two hR (fun i => i = 2 ∨ i = 3) (fun i hi => by omega) os K' rfl (fun i => rfl) (fun i hi h2 => by
      match i, hi, h2 with
      | 2, hi, _ => exact absurd (.inl rfl) hi
      | 3, hi, _ => exact absurd (.inr rfl) hi
      | n + 4, _, _ => simp [getO, setObjs, os]) (fun i hi => by
        have h2 : i ≠ 2 := fun h => hi (.inl h)
        have h3 : i ≠ 3 := fun h => hi (.inr h)
        exact ⟨by simp [K', h2, h3], by simp [K', h2, h3], by simp [K', h2, h3]⟩) hk (by
      rintro i (rfl | rfl)
      · exact ⟨#[v], by simpa [K'] using hb, .cons u2 .nil, by simpa using h1⟩
      · exact u1) (by
      rintro i (rfl | rfl) ho
      · simpa [K'] using hn2
      · exact hn b ((hf' b).2 ⟨hown3 ho, rfl⟩)) (by
      rintro i j (rfl | rfl) (rfl | rfl) hi hj hb'
      · rfl
      · simp [K'] at hb'; exact absurd hb'.symm (hne (hown3 hj))
      · simp [K'] at hb'; exact absurd hb' (hne (hown3 hi))
      · rfl)
  exact ⟨K', _, rfl, r1, .ptr 2 0 _ (by simp [K', os, getO, setObjs, Obj.kind]) (.inr (by simp [K'])) ⟨_, rfl⟩, r2 _⟩
/-- What looks at nothing. -/
theorem plain_acalls (hE : Enters Try.prog f) (hus : ∀ K ds, VRs K us ds → ds = vs) (v : AV) (c : Value) (hvc : ∀ K, VR K v c)
    (h : ∀ w, Calls Try.prog f vs.toArray w fun e w' => e = .returned c ∧ Keeps (fun _ => False) w w') (objs : List X.Obj) : ACalls Try.prog f us objs v objs := by
  refine ⟨hE, fun K w cs hR hcs => ?_⟩
  obtain rfl := hus K cs hcs
  refine (h w).mono ?_
  rintro e w' ⟨rfl, hk⟩
  obtain ⟨r1, r2⟩ := hR.keep0 hk
  exact ⟨K, c, rfl, r1, hvc K, r2 _⟩
theorem new_acalls : ACalls Try.prog 15 [] [] (.ptr 0 0) (setObjs []) := by
  refine ⟨⟨_, Try.func15, rfl, rfl⟩, fun K w cs hR hcs => ?_⟩
  obtain rfl := hcs.nil_inv
  refine (new_calls w).mono ?_
  rintro e w' ⟨rfl, hs', hk⟩
  obtain ⟨v, b, cp, o, hb, h1, hf', h0, hne, hlt, hup⟩ := set_up hs' w.heap.size
  have hcp : cp = 0 := by
    by_cases h : cp = 0
    · exact h
    · exact absurd ((hf' b).2 ⟨h, rfl⟩) (by simp)
  subst hcp
  let K' : Ctx := ⟨K.M, fun i => if i = 0 then w.heap.size else if i = 1 then b else K.blk i, fun i => if i < 2 then 0 else K.cap i, fun i => if i < 2 then o else K.off i, fun i => (getO (setObjs []) i).kind⟩
  obtain ⟨u1, u2⟩ := hup K' 1 (by simp [K', getO, setObjs, Obj.kind]) (by simp [K']) (by simp [K']) (by simp [K'])
  have hle : K.le K' := ⟨fun _ _ _ h => h, fun i hi => absurd (by rw [hR.kinds]; rfl) hi⟩
  have hown : ∀ i, K'.own i → i = 0 := by
    intro i ho
    unfold Ctx.own at ho
    match i, ho with
    | 0, _ => rfl
    | 1, ho => simp [K', getO, setObjs, Obj.kind] at ho
    | n + 2, ho => simp [K', getO, setObjs, Obj.kind] at ho
  obtain ⟨r1, r2⟩ := hR.change (K' := K') (get' := getO (setObjs [])) (w' := w') (fun i => i < 2) hle (fun i hi => by
      have : getO (setObjs []) i = .hole := by
        match i, hi with
        | 0, hi => exact absurd (by decide) hi
        | 1, hi => exact absurd (by decide) hi
        | n + 2, _ => simp [getO, setObjs]
      have h2 : ¬ i < 2 := hi
      exact ⟨by rw [hR.kinds]; show (getO (setObjs []) i).kind = _; rw [this]; rfl, by simp only [K']; rw [if_neg (by omega), if_neg (by omega)], if_neg h2, if_neg h2, by rw [this]; rfl⟩) (hk.mono fun _ _ h => h.elim) (fun i _ => rfl) (fun i hi hv => by rw [hR.kinds] at hv; cases hv) (fun i hi => by
      match i, hi with
      | 0, _ => exact ⟨#[v], by simpa [K'] using hb, .cons u2 .nil, by simpa using h1⟩
      | 1, _ => exact u1) (fun i hi ho => by obtain rfl := hown i ho; exact .inr (by simp [K'])) (fun i j _ _ hi hj _ => by rw [hown i hi, hown j hj]) (fun b o v h => .inl h)
  exact ⟨K', _, rfl, r1, .ptr 0 0 _ (by simp [K', getO, setObjs, Obj.kind]) (.inr (by simp [K'])) ⟨_, rfl⟩, r2 _⟩

theorem int_inv (k : IntKind) (n : Int) : ∀ K ds, VRs K [.int k n] ds → ds = [Value.int k n] := by
  intro K ds h
  obtain ⟨c, cs, rfl, h1, h2⟩ := h.cons_inv
  rw [h1.int_inv, h2.nil_inv]
theorem encs_inv (r : Rn) : ∀ K ds, VRs K [enc r] ds → ds = [.agg #[.int .u64 r.f, .int .u64 r.t]] := by
  intro K ds h
  obtain ⟨c, cs, rfl, h1, h2⟩ := h.cons_inv
  rw [enc_inv h1, h2.nil_inv]
theorem nilp_inv {us : List AV} {vs : List Value} (h : ∀ K ds, VRs K us ds → ds = vs) : ∀ K ds, VRs K (.nilp :: us) ds → ds = .pointer none :: vs := by
  intro K ds hd
  obtain ⟨c, cs, rfl, h1, h2⟩ := hd.cons_inv
  rw [h1.nilp_inv, h K cs h2]

theorem Good.all {l : List Rn} (h : Good l) : All64 l := fun r hr => by
  have := h.each r hr
  exact ⟨.mk_u64 (by omega) (by omega), .mk_u64 (by omega) (by omega)⟩
section
variable {l : List Rn} (hg : Good l)
theorem add_ac (hg : Good l) {r : Rn} (hr : Run64 r) (hb : l.length ≤ 274877906944) : ACalls Try.prog 21 [.ptr 0 0, enc r] (setObjs l) (.int .u64 (countL (putL l r) - countL l)) (setObjs (putL l r)) :=
  turn_acalls ⟨_, Try.func21, rfl, rfl⟩ hg.all (encs_inv r) _ fun w bs fp hs => put_calls w bs fp l r hs hg hr hb
theorem drop_ac (hg : Good l) {r : Rn} (hr : Run64 r) (hb : l.length ≤ 274877906944) : ACalls Try.prog 18 [.ptr 0 0, enc r] (setObjs l) (.int .u64 (countL l - countL (cutL l r))) (setObjs (cutL l r)) :=
  turn_acalls ⟨_, Try.func18, rfl, rfl⟩ hg.all (encs_inv r) _ fun w bs fp hs => cut_calls w bs fp l r hs hg hr hb
theorem has_ac (hg : Good l) (n : Int) : ACalls Try.prog 27 [.ptr 0 0, .int .u64 n] (setObjs l) (.bool (Run.hasO (findR l n) n)) (setObjs l) :=
  read_acalls ⟨_, Try.func27, rfl, rfl⟩ hg.all (int_inv _ n) _ _ (fun K => .pure (.bool _)) fun w bs fp hs => has_calls w _ n _ (finds_set n hs hg.rises)
def nextA (o : Option Rn) (n : Int) : AV := match o with | none => .tup [.int .u64 0, .bool false] | some r => .tup [.int .u64 (max n r.f), .bool true]
theorem next_ac (hg : Good l) (n : Int) : ACalls Try.prog 12 [.ptr 0 0, .int .u64 n] (setObjs l) (nextA (findR l n) n) (setObjs l) :=
  read_acalls ⟨_, Try.func12, rfl, rfl⟩ hg.all (int_inv _ n) _ (nextV (findR l n) n) (fun K => by
    unfold nextA nextV
    cases findR l n with
    | none => exact VR.mkTup (.cons (.pure (.int _ _)) (.cons (.pure (.bool _)) .nil))
    | some r => exact VR.mkTup (.cons (.pure (.int _ _)) (.cons (.pure (.bool _)) .nil))) fun w bs fp hs => next_calls w _ n _ (finds_set n hs hg.rises)
theorem gap_ac (hg : Good l) (n : Int) : ACalls Try.prog 13 [.ptr 0 0, .int .u64 n] (setObjs l) (.int .u64 (gapO (findR l n) n)) (setObjs l) :=
  read_acalls ⟨_, Try.func13, rfl, rfl⟩ hg.all (int_inv _ n) _ _ (fun K => .pure (.int _ _)) fun w bs fp hs => gap_calls w _ n _ (finds_set n hs hg.rises)
theorem count_ac (hg : Good l) (hb : l.length ≤ 1099511627776) : ACalls Try.prog 25 [.ptr 0 0] (setObjs l) (.int .u64 (countL l)) (setObjs l) :=
  read_acalls ⟨_, Try.func25, rfl, rfl⟩ hg.all (fun K ds h => h.nil_inv) _ _ (fun K => .pure (.int _ _)) fun w bs fp hs => by
    have := count_calls w _ l (runs_calls w bs fp l hs hb)
    rwa [hg.wu_count] at this
theorem runs_ac (hg : Good l) (hb : l.length ≤ 1099511627776) : ACalls Try.prog 11 [.ptr 0 0] (setObjs l) (.row 2 2 l.length) (setObjs l ++ [.row 30 2 (l.map enc)]) :=
  told_acalls ⟨_, Try.func11, rfl, rfl⟩ hg.all fun w bs fp hs => runs_calls w bs fp l hs hb
theorem copy_ac (hg : Good l) (hb : l.length ≤ 1099511627776) : ACalls Try.prog 17 [.ptr 0 0] (setObjs l) (.ptr 2 0) (setObjs l ++ [.vars 62 [.row 3 2 l.length], .row 30 2 (l.map enc)]) :=
  copy_acalls ⟨_, Try.func17, rfl, rfl⟩ hg.all fun w bs fp hs => copy_calls w bs fp l hs hb
theorem alive_ac : ACalls Try.prog 14 [] [] (.bool true) [] :=
  plain_acalls ⟨_, Try.func14, rfl, rfl⟩ (fun K ds h => h.nil_inv) _ _ (fun K => .pure (.bool _)) (fun w => alive_calls w) []
end
end
end Go.Proofs.Ytaphhmefkfhepaa.Run
