/- Meet and Join as calls over things in memory. -/
import Derived.Test.YtaphhmefkfhepaaRunMu
import Derived.Test.YtaphhmefkfhepaaRunJn
import Derived.Test.YtaphhmefkfhepaaRunT
namespace Go.Proofs.Ytaphhmefkfhepaa.Run
open Go Go.RowKit Go.Proofs.Ytaphhmefkfhepaa.L Go.Proofs.Ytaphhmefkfhepaa.X
set_option linter.unusedVariables false
set_option linter.unusedSimpArgs false

section
variable {K : Ctx} {w w' : World} {objs : List X.Obj} {l : List Rn}
theorem getO_eq : ∀ (objs : List X.Obj) (i : Nat), getO objs i = (objs[i]?).getD .hole
  | [], _ => rfl
  | _ :: _, 0 => rfl
  | _ :: xs, n + 1 => getO_eq xs n
theorem getO_left {o : List X.Obj} {i : Nat} (h : i < objs.length) : getO (objs ++ o) i = getO objs i := by
  rw [getO_eq, getO_eq, List.getElem?_append_left h]
theorem getO_past {i : Nat} (h : objs.length ≤ i) : getO objs i = .hole := by
  rw [getO_eq, List.getElem?_eq_none h]; rfl
/-- Things behind, made anew. -/
theorem ctx_more (hR : Rel K (getO objs) w) (F : Nat → Prop) (hF : ∀ i, F i → objs.length ≤ i) (o : List X.Obj) (K' : Ctx) (hM : K'.M = K.M) (hk' : ∀ i, K'.kind i = (getO (objs ++ o) i).kind) (hFo : ∀ i, ¬ F i → objs.length ≤ i → (getO (objs ++ o) i) = .hole)
    (h0 : ∀ i, ¬ F i → K'.blk i = K.blk i ∧ K'.cap i = K.cap i ∧ K'.off i = K.off i) (hk : Keeps (fun _ => False) w w') (hobj : ∀ i, F i → OR K' w' i (getO (objs ++ o) i)) (hnew : ∀ i, F i → K'.own i → w.heap.size ≤ K'.blk i) (hinj : ∀ i j, F i → F j → K'.own i → K'.own j → K'.blk i = K'.blk j → i = j) :
    Rel K' (getO (objs ++ o)) w' ∧ ∀ m, Grow m K w K' w' := by
  have hole : ∀ i, objs.length ≤ i → K.kind i = .hole := by
    intro i hi
    rw [hR.kinds, getO_past hi]; rfl
  have nF : ∀ i, i < objs.length → ¬ F i := fun i hi hf => by have := hF i hf; omega
  have hg : ∀ i, ¬ F i → getO (objs ++ o) i = getO objs i := by
    intro i hi
    by_cases h2 : objs.length ≤ i
    · rw [hFo i hi h2, getO_past h2]
    · exact getO_left (by omega)
  refine hR.change F ⟨fun b o v h => by rw [hM]; exact h, fun i hi => ?_⟩ (fun i hi => ⟨?_, (h0 i hi).1, (h0 i hi).2.1, (h0 i hi).2.2, hg i hi⟩) (hk.mono fun _ _ h => h.elim) (fun i _ => hk' i) (fun i hi hv => ?_) hobj (fun i hi ho => .inr (hnew i hi ho)) hinj (fun b o v h => by rw [hM] at h; exact .inl h)
  · have h2 : ¬ objs.length ≤ i := fun h => hi (hole i h)
    obtain ⟨k1, k2, k3⟩ := h0 i (nF i (by omega))
    exact .inr ⟨k1, k2, k3, .inl (by rw [hk', hR.kinds, getO_left (by omega)])⟩
  · rw [hk', hR.kinds, hg i hi]
  · rw [hole i (hF i hi)] at hv; cases hv
/-- What answers a new set. -/
theorem newset_acalls {f : FuncId} {us : List AV} (hE : X.Enters Try.prog f) (n : Nat) (hn : n = objs.length) (h : ∀ K w (cs : List Value), Rel K (getO objs) w → VRs K us cs → Calls Try.prog f cs.toArray w (NewSet w l)) :
    ACalls Try.prog f us objs (.ptr n 0) (objs ++ [.vars 62 [.row (n + 1) 2 l.length], .row 30 2 (l.map enc)]) := by
  subst hn
  refine ⟨hE, fun K w cs hR hcs => ?_⟩
  refine (h K w cs hR hcs).mono ?_
  rintro e w' ⟨b2, fp2, rfl, hn2, hn, hs', hk⟩
  obtain ⟨v, b, cp, o, hb, h1, hf', h0, hne, hlt, hup⟩ := set_up hs' w.heap.size
  obtain ⟨n, hn0⟩ : ∃ n, n = objs.length := ⟨_, rfl⟩
  rw [← hn0]
  let os : List X.Obj := [.vars 62 [.row (n + 1) 2 l.length], .row 30 2 (l.map enc)]
  have g0 : getO (objs ++ os) n = .vars 62 [.row (n + 1) 2 l.length] := by rw [getO_eq, List.getElem?_append_right (by omega), show n - objs.length = 0 by omega]; rfl
  have g1 : getO (objs ++ os) (n + 1) = .row 30 2 (l.map enc) := by rw [getO_eq, List.getElem?_append_right (by omega), show n + 1 - objs.length = 1 by omega]; rfl
  let K' : Ctx := ⟨K.M, fun i => if i = n then b2 else if i = n + 1 then b else K.blk i, fun i => if i = n then 0 else if i = n + 1 then cp else K.cap i, fun i => if i = n then 0 else if i = n + 1 then o else K.off i, fun i => (getO (objs ++ os) i).kind⟩
  obtain ⟨u1, u2⟩ := hup K' (n + 1) (by show (getO (objs ++ os) (n + 1)).kind = _; rw [g1]; simp [Obj.kind]) (by simp [K']) (by simp [K']) (by simp [K'])
  have hown3 : K'.own (n + 1) → cp ≠ 0 := fun ho => by
    unfold Ctx.own at ho
    have e : K'.kind (n + 1) = (.row 2 l.length : Kind) := by show (getO (objs ++ os) (n + 1)).kind = _; rw [g1]; simp [Obj.kind]
    rw [e] at ho
    simpa [K'] using ho
  obtain ⟨r1, r2⟩ := ctx_more hR (fun i => i = n ∨ i = n + 1) (fun i hi => by omega) os K' rfl (fun i => rfl) (fun i hi h2 => by
      refine getO_past ?_
      have : i ≠ n := fun h => hi (.inl h)
      have : i ≠ n + 1 := fun h => hi (.inr h)
      simp [os]; omega) (fun i hi => by
        have h2 : i ≠ n := fun h => hi (.inl h)
        have h3 : i ≠ n + 1 := fun h => hi (.inr h)
        exact ⟨by simp [K', h2, h3], by simp [K', h2, h3], by simp [K', h2, h3]⟩) hk (by
      rintro i (rfl | rfl)
      · rw [g0]; exact ⟨#[v], by simpa [K'] using hb, .cons u2 .nil, by simpa using h1⟩
      · rw [g1]; exact u1) (by
      rintro i (rfl | rfl) ho
      · simpa [K'] using hn2
      · have := hn b ((hf' b).2 ⟨hown3 ho, rfl⟩); simpa [K'] using this) (by
      rintro i j (rfl | rfl) (rfl | rfl) hi hj hb'
      · rfl
      · simp [K'] at hb'; exact absurd hb'.symm (hne (hown3 hj))
      · simp [K'] at hb'; exact absurd hb' (hne (hown3 hi))
      · rfl)
  exact ⟨K', _, rfl, r1, .ptr n 0 _ (by show (getO (objs ++ os) n).kind ≠ _; rw [g0]; simp [Obj.kind]) (.inr (by simp [K'])) ⟨_, rfl⟩, r2 _⟩

theorem src_down {get : Nat → X.Obj} (hR : Rel K get w) (i j : Nat) (h0 : get i = .vars 62 [.row j 2 l.length]) (h1 : get j = .row 30 2 (l.map enc)) (h64 : All64 l) {c : Value} (hc : VR K (.ptr i 0) c) : ∃ pa, c = .pointer pa ∧ SrcAt w (.pointer pa) l := by
  have ho := hR.obj i
  rw [h0] at ho
  obtain ⟨ds, a1, a2, a3⟩ := ho
  obtain ⟨v, vs, e, h4, h5⟩ := a2.cons_inv
  rw [h5.nil_inv] at e
  have e1 : ds = #[v] := by cases ds; simp at e; subst e; rfl
  subst e1
  obtain ⟨h6, h7⟩ := own_down (T := 30) (by rw [hR.kinds, h1]; simp [Obj.kind]) (by have := hR.obj j; rwa [h1] at this) h4 h64
  have hp' : c = .pointer (some ⟨K.blk i, 0, none⟩) := by
    cases hc with
    | pure h => cases h
    | ptr id off c hk h hp => exact h.resolve_left (by rw [hR.kinds, h0]; simp [Obj.kind])
  exact ⟨_, hp', .inr ⟨_, _, rfl, v, a1, h6, rfl⟩⟩
theorem src_nil {c : Value} (hc : VR K .nilp c) (w : World) : ∃ pa, c = .pointer pa ∧ SrcAt w (.pointer pa) [] := ⟨none, hc.nilp_inv, .inl ⟨rfl, rfl⟩⟩
end

def setObjs2 (a b : List Rn) : List X.Obj := [.vars 62 [.row 1 2 a.length], .row 30 2 (a.map enc), .vars 62 [.row 3 2 b.length], .row 30 2 (b.map enc)]
section
variable {a b : List Rn} (ha : Good a) (hb : Good b) (na : a.length ≤ 1000) (nb : b.length ≤ 1000)
theorem meet_src (ha : Good a) (hb : Good b) (na : a.length ≤ 1000) (nb : b.length ≤ 1000) {w : World} {pa pb : Option Addr} (sa : SrcAt w (.pointer pa) a) (sb : SrcAt w (.pointer pb) b) : Calls Try.prog 30 #[.pointer pa, .pointer pb] w (NewSet w (metL a b)) :=
  meet_calls w pa pb a b sa sb na nb
theorem meet_two (ha : Good a) (hb : Good b) (na : a.length ≤ 1000) (nb : b.length ≤ 1000) : ACalls Try.prog 30 [.ptr 0 0, .ptr 2 0] (setObjs2 a b) (.ptr 4 0) (setObjs2 a b ++ [.vars 62 [.row 5 2 (metL a b).length], .row 30 2 ((metL a b).map enc)]) :=
  newset_acalls ⟨_, Try.func30, rfl, rfl⟩ 4 rfl fun K w cs hR hcs => by
    obtain ⟨c1, cs1, rfl, h1, h2⟩ := hcs.cons_inv
    obtain ⟨c2, cs2, rfl, h3, h4⟩ := h2.cons_inv
    rw [h4.nil_inv]
    obtain ⟨pa, rfl, sa⟩ := src_down hR 0 1 rfl rfl ha.all h1
    obtain ⟨pb, rfl, sb⟩ := src_down hR 2 3 rfl rfl hb.all h3
    exact meet_src ha hb na nb sa sb
theorem meet_self (ha : Good a) (na : a.length ≤ 1000) : ACalls Try.prog 30 [.ptr 0 0, .ptr 0 0] (setObjs a) (.ptr 2 0) (setObjs a ++ [.vars 62 [.row 3 2 (metL a a).length], .row 30 2 ((metL a a).map enc)]) :=
  newset_acalls ⟨_, Try.func30, rfl, rfl⟩ 2 rfl fun K w cs hR hcs => by
    obtain ⟨c1, cs1, rfl, h1, h2⟩ := hcs.cons_inv
    obtain ⟨c2, cs2, rfl, h3, h4⟩ := h2.cons_inv
    rw [h4.nil_inv]
    obtain ⟨pa, rfl, sa⟩ := src_down hR 0 1 rfl rfl ha.all h1
    obtain ⟨pb, rfl, sb⟩ := src_down hR 0 1 rfl rfl ha.all h3
    exact meet_src ha ha na na sa sb
theorem meet_none (ha : Good a) (na : a.length ≤ 1000) : ACalls Try.prog 30 [.ptr 0 0, .nilp] (setObjs a) (.ptr 2 0) (setObjs a ++ [.vars 62 [.row 3 2 (metL a []).length], .row 30 2 ((metL a []).map enc)]) :=
  newset_acalls ⟨_, Try.func30, rfl, rfl⟩ 2 rfl fun K w cs hR hcs => by
    obtain ⟨c1, cs1, rfl, h1, h2⟩ := hcs.cons_inv
    obtain ⟨c2, cs2, rfl, h3, h4⟩ := h2.cons_inv
    rw [h4.nil_inv]
    obtain ⟨pa, rfl, sa⟩ := src_down hR 0 1 rfl rfl ha.all h1
    obtain ⟨pb, rfl, sb⟩ := src_nil h3 w
    exact meet_src ha good_nil na (by simp) sa sb
theorem join_two (ha : Good a) (hb : Good b) (na : a.length ≤ 1000) (nb : b.length ≤ 1000) : ACalls Try.prog 31 [.ptr 0 0, .ptr 2 0] (setObjs2 a b) (.ptr 4 0) (setObjs2 a b ++ [.vars 62 [.row 5 2 (joinL a b).length], .row 30 2 ((joinL a b).map enc)]) :=
  newset_acalls ⟨_, Try.func31, rfl, rfl⟩ 4 rfl fun K w cs hR hcs => by
    obtain ⟨c1, cs1, rfl, h1, h2⟩ := hcs.cons_inv
    obtain ⟨c2, cs2, rfl, h3, h4⟩ := h2.cons_inv
    rw [h4.nil_inv]
    obtain ⟨pa, rfl, sa⟩ := src_down hR 0 1 rfl rfl ha.all h1
    obtain ⟨pb, rfl, sb⟩ := src_down hR 2 3 rfl rfl hb.all h3
    exact join_calls w pa pb a b sa sb ha.all hb.all na nb
theorem join_none (hb : Good b) (nb : b.length ≤ 1000) : ACalls Try.prog 31 [.nilp, .ptr 0 0] (setObjs b) (.ptr 2 0) (setObjs b ++ [.vars 62 [.row 3 2 (joinL [] b).length], .row 30 2 ((joinL [] b).map enc)]) :=
  newset_acalls ⟨_, Try.func31, rfl, rfl⟩ 2 rfl fun K w cs hR hcs => by
    obtain ⟨c1, cs1, rfl, h1, h2⟩ := hcs.cons_inv
    obtain ⟨c2, cs2, rfl, h3, h4⟩ := h2.cons_inv
    rw [h4.nil_inv]
    obtain ⟨pa, rfl, sa⟩ := src_nil h1 w
    obtain ⟨pb, rfl, sb⟩ := src_down hR 0 1 rfl rfl hb.all h3
    exact join_calls w pa pb [] b sa sb (fun r h => by cases h) hb.all (by simp) nb
end
end Go.Proofs.Ytaphhmefkfhepaa.Run
