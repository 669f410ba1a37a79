/- A library of no program: a law's arguments as abstract values; its end. -/
import Derived.Test.YtidgcfgkcidkiaaGs
import Derived.Test.YtidgcfgkcidkiaaLibF
namespace Go.Proofs.Ytidgcfgkcidkiaa.X
open Go Go.Proofs.Ytidgcfgkcidkiaa.L Go.RowKit Go.ChangeShapes Go.WideShapes Go.ChangeAt
set_option linter.unusedVariables false
set_option linter.unusedSimpArgs false

/-- All cells that stand in memory stay. -/
def memOf (w : World) (b o : Nat) : Option Value :=
  match w.cell? ⟨b, o, none⟩ with
  | some v => if v.oneCell' = true then some v else none
  | none => none
def ctx0 (w : World) : Ctx := ⟨memOf w, fun _ => 0, fun _ => 0, fun _ => 0, fun _ => .hole⟩
theorem memOf_some {w : World} {b o : Nat} {v : Value} (h : w.cell? ⟨b, o, none⟩ = some v) (h1 : v.oneCell' = true) : memOf w b o = some v := by
  unfold memOf; rw [h]; simp [h1]
theorem ctx0_rel (w : World) : Rel (ctx0 w) (getO []) w := by
  have ho : ∀ i, ¬ (ctx0 w).own i := fun i h => h
  refine ⟨fun i => rfl, fun b o v h => ?_, fun i => trivial, fun i j h => (ho i h).elim, fun i o h => (ho i h).elim⟩
  simp only [ctx0, memOf] at h
  split at h
  · rename_i u hu
    split at h
    · rename_i h1; injection h with h; subst h; exact ⟨hu, h1⟩
    · cases h
  · cases h
/-- What is read is an abstract value's cells. -/
def Reads {α : Type} (R : Rep α) (dec : α → AV) : Prop :=
  ∀ (A : Nat → Prop) (w : World) (cs : List Value) (x : α), R.K A w cs x → (dec x).cells.length = cs.length ∧ ∀ (j : Nat) (u : AV), (dec x).cells[j]? = some u → ∃ d, cs[j]? = some d ∧ PR (memOf w) u d
theorem reads_num (k : IntKind) : Reads (L.num k) (.int k ·) := by
  rintro A w cs x ⟨rfl, _⟩
  refine ⟨rfl, fun j u hu => ?_⟩
  match j, hu with
  | 0, hu => cases hu; exact ⟨_, rfl, .int _ _⟩
  | j + 1, hu => simp [AV.cells] at hu
theorem reads_bool : Reads boolR .bool := by
  rintro A w cs x ⟨rfl, _⟩
  refine ⟨rfl, fun j u hu => ?_⟩
  match j, hu with
  | 0, hu => cases hu; exact ⟨_, rfl, .bool _⟩
  | j + 1, hu => simp [AV.cells] at hu
theorem reads_pair {α β : Type} {R : Rep α} {S : Rep β} {f : α → AV} {g : β → AV} (hR : Reads R f) (hS : Reads S g) : Reads (pair R S) fun x => .agg ((f x.1).cells ++ (g x.2).cells) := by
  rintro A w cs x ⟨c1, c2, rfl, h1, h2⟩
  obtain ⟨l1, q1⟩ := hR A w c1 _ h1
  obtain ⟨l2, q2⟩ := hS A w c2 _ h2
  refine ⟨by show ((f x.1).cells ++ (g x.2).cells).length = _; rw [List.length_append, List.length_append, l1, l2], fun j u hu => ?_⟩
  replace hu : ((f x.1).cells ++ (g x.2).cells)[j]? = some u := hu
  by_cases hj : j < c1.length
  · rw [List.getElem?_append_left (by omega)] at hu
    obtain ⟨d, k1, k2⟩ := q1 j u hu
    exact ⟨d, by rw [List.getElem?_append_left hj]; exact k1, k2⟩
  · rw [List.getElem?_append_right (by omega), l1] at hu
    obtain ⟨d, k1, k2⟩ := q2 _ u hu
    exact ⟨d, by rw [List.getElem?_append_right (by omega)]; exact k1, k2⟩
theorem reads_iso {α β : Type} {R : Rep α} {f : α → AV} (h : β → α) (hR : Reads R f) : Reads (iso R h) fun x => f (h x) := fun A w cs x hK => hR A w cs (h x) hK
theorem reads_of {α : Type} {R : Rep α} {f g : α → AV} (hR : Reads R f) (h : ∀ x, f x = g x) : Reads R g := by
  have : f = g := funext h
  rwa [this] at hR
theorem reads_slice {α : Type} {R : Rep α} {dec : α → AV} (hpos : 0 < R.sz) (hR : Reads R dec) {A : Nat → Prop} {w : World} {v : Value} {l : List α} (h : SliceK R A w v l) : PR (memOf w) (.lst R.sz (l.map dec)) v := by
  obtain ⟨ad, c, rfl, h1, h2, h3⟩ := h
  have key : ∃ (b o : Nat) (f : Nat → Nat → Value), (l.map dec = [] ∨ ad = some ⟨b, o, none⟩) ∧ (∀ (i : Nat) x, (l.map dec)[i]? = some x → x.cells.length = R.sz) ∧
      ∀ (i : Nat) x (j : Nat) u, (l.map dec)[i]? = some x → x.cells[j]? = some u → memOf w b (o + i * R.sz + j) = some (f i j) ∧ PR (memOf w) u (f i j) := by
    rcases h3 with rfl | ⟨b, pre, live, rest, T, fz, rfl, _, hb, hc⟩
    · exact ⟨0, 0, fun _ _ => undef, .inl rfl, by simp, by simp⟩
    · have hel : ∀ (i : Nat) x, (l.map dec)[i]? = some x → ∃ y cs, l[i]? = some y ∧ x = dec y ∧ R.K A w cs y ∧ ∀ j u, cs[j]? = some u → live[i * R.sz + j]? = some u := by
        intro i x hx
        rw [List.getElem?_map] at hx
        cases hy : l[i]? with
        | none => rw [hy] at hx; cases hx
        | some y =>
          rw [hy] at hx; injection hx with hx; subst hx
          obtain ⟨cs, k1, k2⟩ := hc.get hy
          exact ⟨y, cs, rfl, rfl, k1, k2⟩
      refine ⟨b, pre.length, fun i j => (live[i * R.sz + j]?).getD undef, .inr rfl, fun i x hx => ?_, fun i x j u hx hu => ?_⟩
      · obtain ⟨y, cs, _, rfl, k1, _⟩ := hel i x hx
        rw [(hR A w cs y k1).1, R.len k1]
      · obtain ⟨y, cs, _, rfl, k1, k2⟩ := hel i x hx
        obtain ⟨d, k3, k4⟩ := (hR A w cs y k1).2 j u hu
        have k5 := k2 j d k3
        simp only [k5, Option.getD_some]
        refine ⟨memOf_some (cellOf hb _ ?_) (hc.one d (List.mem_of_getElem? k5)), k4⟩
        have hj := (List.getElem?_eq_some_iff.1 k5).1
        simp only [List.getElem?_toArray]
        rw [Nat.add_assoc, List.append_assoc, List.getElem?_append_right (by omega), Nat.add_sub_cancel_left, List.getElem?_append_left hj]; exact k5
  obtain ⟨b, o, f, k1, k2, k3⟩ := key
  have := PR.lst (M := memOf w) R.sz (l.map dec) ad c b o f hpos (by simpa using h1) h2 k1 k2 (fun i x j u hx hu => (k3 i x j u hx hu).1) (fun i x j u hx hu => (k3 i x j u hx hu).2)
  simpa using this
theorem reads_lst {α : Type} {R : Rep α} {dec : α → AV} (hpos : 0 < R.sz) (hR : Reads R dec) : Reads (slice R) fun l => .lst R.sz (l.map dec) := by
  rintro A w cs l ⟨v, rfl, h⟩
  refine ⟨rfl, fun j u hu => ?_⟩
  match j, hu with
  | 0, hu => cases hu; exact ⟨_, rfl, reads_slice hpos hR h⟩
  | j + 1, hu => simp [AV.cells] at hu
theorem reads_agg {α : Type} {R : Rep α} {dec : α → AV} (hR : Reads R dec) {A : Nat → Prop} {w : World} {cs : List AV} {vs : List Value} {x : α} (h : R.K A w vs x) (hd : dec x = .agg cs) : VR (ctx0 w) (dec x) (.agg vs.toArray) := by
  obtain ⟨h1, h2⟩ := hR A w vs x h
  rw [hd] at h1 h2 ⊢
  refine VR.mkAgg ⟨h1, fun i u d hu hd' => ?_⟩
  obtain ⟨d2, k1, k2⟩ := h2 i u hu
  rw [k1] at hd'
  injection hd' with hd'; subst hd'
  exact .pure k2
/-- A law that answers true. -/
theorem law_calls {P : Program} {f : FuncId} {us : List AV} {objs' : List Obj} (h : ACalls P f us [] (.bool true) objs') {w : World} {args : List Value} (ha : VRs (ctx0 w) us args) : Calls P f args.toArray w fun e w' => e = .returned (.bool true) ∧ Keeps (fun _ => False) w w' := by
  refine (h.2 (ctx0 w) w args (ctx0_rel w) ha).mono ?_
  rintro e w' ⟨K', c, rfl, h1, h2, h3⟩
  refine ⟨by rw [h2.bool_inv], h3.keeps.mono fun k _ hk => ?_⟩
  obtain ⟨id, h4, _⟩ := hk
  exact h4
end Go.Proofs.Ytidgcfgkcidkiaa.X
