/- A library of no program: lists of flat elements, between readings and abstract values. -/
import Derived.Test.YtidgcfgkcidkiaaGu
namespace Go.Proofs.Ytidgcfgkcidkiaa.X
open Go Go.Proofs.Ytidgcfgkcidkiaa.L Go.RowKit
set_option linter.unusedVariables false
set_option linter.unusedSimpArgs false

def nowhere : Nat → Prop := fun _ => False
/-- A reading of elements that stand in their cells whole. -/
structure FlatOf {α : Type} (R : Rep α) (dec : α → AV) (ev : α → List Value) : Prop where
  K : ∀ A w cs x, R.K A w cs x ↔ cs = ev x
  pos : 0 < R.sz
  cells : ∀ x, (dec x).cells.length = R.sz
  at_ : ∀ x (j : Nat) u, (dec x).cells[j]? = some u → ∃ d, (ev x)[j]? = some d ∧ ∀ M d', PR M u d' ↔ d' = d
section
variable {α : Type} {R : Rep α} {dec : α → AV} {ev : α → List Value} (F : FlatOf R dec ev)
theorem FlatOf.len (F : FlatOf R dec ev) (x : α) : (ev x).length = R.sz := R.len ((F.K (fun _ => False) default _ x).2 rfl)
theorem FlatOf.run (F : FlatOf R dec ev) {A : Nat → Prop} {w : World} : ∀ (l : List α) (D : List Value), (∀ (i : Nat) x, l[i]? = some x → ∀ (j : Nat) d, (ev x)[j]? = some d → D[i * R.sz + j]? = some d) → Cells R A w (D.take (l.length * R.sz)) l
  | [], D, h => by simp; exact .nil
  | x :: l, D, h => by
    have h0 := h 0 x rfl
    simp only [Nat.zero_mul, Nat.zero_add] at h0
    have hd : D.take R.sz = ev x := by
      apply List.ext_getElem?
      intro j
      rw [List.getElem?_take]
      split
      · rename_i hj
        have hj' : j < (ev x).length := by rw [F.len]; exact hj
        rw [List.getElem?_eq_getElem hj']
        exact h0 j _ (List.getElem?_eq_getElem hj')
      · rw [List.getElem?_eq_none (by rw [F.len]; omega)]
    have e : (x :: l).length * R.sz = R.sz + l.length * R.sz := by simp [Nat.succ_mul, Nat.add_comm]
    rw [e, List.take_add, hd]
    refine .cons ((F.K _ _ _ _).2 rfl) (F.run l (D.drop R.sz) fun i y hy j d hd => ?_)
    have := h (i + 1) y (by simpa using hy) j d hd
    rw [List.getElem?_drop]
    rw [Nat.succ_mul] at this
    rw [← this]; congr 1; omega
theorem FlatOf.prows (F : FlatOf R dec ev) {A : Nat → Prop} {w : World} {M : Nat → Nat → Option Value} {l : List α} {cs rest : List Value} (h : Cells R A w cs l) : PRows M R.sz (l.map dec) (cs ++ rest) := by
  intro i x hx
  rw [List.getElem?_map] at hx
  cases hr : l[i]? with
  | none => rw [hr] at hx; cases hx
  | some r =>
    rw [hr] at hx; injection hx with hx; subst hx
    obtain ⟨c, hk, hc⟩ := h.get hr
    obtain rfl := (F.K _ _ _ _).1 hk
    refine ⟨F.cells r, fun j u hu => ?_⟩
    obtain ⟨d, h1, h2⟩ := F.at_ r j u hu
    have := hc j d h1
    have hl := (List.getElem?_eq_some_iff.1 this).1
    exact ⟨d, by rw [List.getElem?_append_left hl]; exact this, (h2 M d).2 rfl⟩
theorem FlatOf.down (F : FlatOf R dec ev) {K : Ctx} {get : Nat → X.Obj} {w : World} (hR : Rel K get w) {l : List α} {c : Value} (hv : VR K (.lst R.sz (l.map dec)) c) : SliceK R anyA w c l := by
  cases hv with
  | pure h =>
    cases h with
    | lst sz xs ad cp b o f hsz hc hm had hl hM hp =>
      simp only [List.length_map] at hc ⊢
      refine ⟨ad, cp, rfl, hc, hm, ?_⟩
      by_cases h0 : l = []
      · exact .inl h0
      · obtain rfl := had.resolve_left (by simp [h0])
        have cell : ∀ (i : Nat) r, l[i]? = some r → ∀ (j : Nat) d, (ev r)[j]? = some d → w.cell? ⟨b, o + i * R.sz + j, none⟩ = some d := by
          intro i r hr j d hd
          have e : (l.map dec)[i]? = some (dec r) := by simp [hr]
          have hj : j < (dec r).cells.length := by rw [F.cells, ← F.len r]; exact (List.getElem?_eq_some_iff.1 hd).1
          obtain ⟨u, hu⟩ : ∃ u, (dec r).cells[j]? = some u := ⟨_, List.getElem?_eq_getElem hj⟩
          obtain ⟨d', h1, h2⟩ := F.at_ r j u hu
          rw [hd] at h1; injection h1 with h1; subst h1
          have k1 := hM i _ j u e hu
          have q1 := (h2 _ _).1 (hp i _ j u e hu)
          rw [q1] at k1
          exact (hR.mem _ _ _ k1).1
        have hpos := List.length_pos_iff.2 h0
        have lst : ∀ i, i < l.length → ∀ j, j < R.sz → ∃ d, w.cell? ⟨b, o + i * R.sz + j, none⟩ = some d := fun i hi j hj => by
          have hr : l[i]? = some l[i] := List.getElem?_eq_getElem hi
          have hj' : j < (ev l[i]).length := by rw [F.len]; exact hj
          exact ⟨_, cell i _ hr j _ (List.getElem?_eq_getElem hj')⟩
        obtain ⟨d0, hd0⟩ := lst 0 hpos 0 F.pos
        obtain ⟨cs, T, fz, hb, _⟩ := cell_block hd0
        have hat : ∀ (j : Nat) v, w.cell? ⟨b, o + j, none⟩ = some v → (cs.toList.drop o)[j]? = some v := by
          intro j v hv
          rw [cell_of_row w _ _ cs T fz hb] at hv
          rw [List.getElem?_drop]; simpa using hv
        have hlen : o + l.length * R.sz ≤ cs.size := by
          obtain ⟨d, hd⟩ := lst (l.length - 1) (by omega) (R.sz - 1) (by have := F.pos; omega)
          rw [cell_of_row w _ _ cs T fz hb] at hd
          have h1 := (Array.getElem?_eq_some_iff.1 hd).1
          have h2 : l.length * R.sz = (l.length - 1) * R.sz + R.sz := by
            conv => lhs; rw [show l.length = (l.length - 1) + 1 by omega, Nat.succ_mul]
          have := F.pos
          omega
        refine .inr ⟨b, cs.toList.take o, (cs.toList.drop o).take (l.length * R.sz), (cs.toList.drop o).drop (l.length * R.sz), T, fz, ?_, trivial, ?_, ?_⟩
        · rw [List.length_take, Array.length_toList, Nat.min_eq_left (by omega)]
        · rw [hb, List.append_assoc, List.take_append_drop, List.take_append_drop]
        · exact F.run l _ fun i r hr j d hd => hat _ _ (by have := cell i r hr j d hd; rw [Nat.add_assoc] at this; exact this)
theorem FlatOf.up (F : FlatOf R dec ev) {w : World} {T : TypeId} {l : List α} {v : Value} (h : Own R T nowhere w v l) (B : Nat) : ∃ b cp o, (∀ k, rowOf v = some k ↔ cp ≠ 0 ∧ b = k) ∧ (cp = 0 → b = B) ∧
    ∀ (K : Ctx) (id : Nat), K.kind id = .row R.sz l.length → K.cap id = cp → K.blk id = b → K.off id = o → OR K w id (.row T R.sz (l.map dec)) ∧ VR K (.row id R.sz l.length) v := by
  obtain ⟨ad, cp, rfl, h1, h2, h3⟩ := h
  by_cases h0 : cp = 0
  · subst h0
    refine ⟨B, 0, 0, fun k => ?_, fun _ => rfl, fun K id k1 k2 k3 k4 => ⟨⟨F.pos, by rw [k2]; simpa using h1, by rw [k2]; exact h2, fun hn => absurd k2 hn⟩, .row _ _ _ _ (by rw [k1]; simp) (.inr ⟨.inl k1, ad, by rw [k2], fun hn => absurd k2 hn⟩) ⟨ad, 0, rfl, h1, h2, fun hn => absurd rfl hn⟩⟩⟩
    cases ad <;> simp [rowOf]
  · obtain ⟨b, pre, live, dead, rfl, hh, hd, hc⟩ := h3.resolve_left h0
    refine ⟨b, cp, pre.length, fun k => ?_, fun hn => absurd hn h0, fun K id k1 k2 k3 k4 => ⟨⟨F.pos, by rw [k2]; simpa using h1, by rw [k2]; exact h2, fun hn => ⟨_, by rw [k3]; exact hh, ?_, ?_⟩⟩, .row _ _ _ _ (by rw [k1]; simp) (.inr ⟨.inl k1, some ⟨b, pre.length, none⟩, by rw [k2], fun hn => by rw [k3, k4]⟩) ⟨_, cp, rfl, h1, h2, fun hn => ⟨_, rfl⟩⟩⟩⟩
    · simp [rowOf, h0]
    · have hl := hc.length
      rw [k2, k4]
      simp only [List.size_toArray, List.length_append, hl, hd]
      rw [Nat.add_assoc, ← Nat.add_mul]
      congr 2; omega
    · rw [k4]
      show PRows _ _ _ (List.drop _ (pre ++ live ++ dead))
      rw [List.append_assoc, List.drop_left]
      exact F.prows hc
/-- What answers a new row. -/
theorem FlatOf.newrow (F : FlatOf R dec ev) {P : Program} {f : FuncId} {us : List AV} {T : TypeId} {l : List α} (hE : Enters P f)
    (h : ∀ K w (cs : List Value), Rel K (getO []) w → VRs K us cs → Calls P f cs.toArray w fun e w' => ∃ v', e = .returned v' ∧ Own R T nowhere w' v' l ∧ (∀ b, rowOf v' = some b → w.heap.size ≤ b) ∧ Keeps (fun _ => False) w w') :
    ACalls P f us [] (.row 0 R.sz l.length) [.row T R.sz (l.map dec)] := by
  refine ⟨hE, fun K w cs hR hcs => ?_⟩
  refine (h K w cs hR hcs).mono ?_
  rintro e w' ⟨v', rfl, ho, hn, hk⟩
  obtain ⟨b, cp, o, h1, h3, hup⟩ := F.up ho w.heap.size
  let o1 : X.Obj := .row T R.sz (l.map dec)
  obtain ⟨u1, u2⟩ := hup (K.put 0 o1.kind b cp o) 0 (by rw [put_kind]; simp [o1, Obj.kind]) put_cap put_blk put_off
  have hhole : K.kind 0 = .hole := by rw [hR.kinds]; rfl
  obtain ⟨r1, r2⟩ := hR.change (K' := K.put 0 o1.kind b cp o) (get' := getO [o1]) (w' := w') (fun i => i = 0) ⟨fun _ _ _ h => h, fun i hi => by
      by_cases h0 : i = 0
      · subst h0; exact absurd hhole hi
      · exact .inr (by simp [Ctx.put, h0])⟩ (fun i hi => ⟨by simp [Ctx.put, hi], by simp [Ctx.put, hi], by simp [Ctx.put, hi], by simp [Ctx.put, hi], by
        match i, hi with
        | 0, hi => exact absurd rfl hi
        | n + 1, _ => simp [getO]⟩) (hk.mono fun _ _ h => h.elim) (by rintro i rfl; rw [put_kind]; rfl) (by rintro i rfl hv; rw [hhole] at hv; cases hv) (by rintro i rfl; exact u1) (by
      rintro i rfl ho
      have hc : cp ≠ 0 := by unfold Ctx.own at ho; rw [put_kind, put_cap] at ho; simpa [o1, Obj.kind] using ho
      rw [put_blk]
      exact .inr (hn b ((h1 b).2 ⟨hc, rfl⟩))) (by rintro i j rfl rfl; intros; rfl) (fun b o v h => .inl h)
  exact ⟨_, _, rfl, r1, u2, r2 _⟩
end
/-- Numbers as elements. -/
def numE (k : IntKind) : Rep Int := flat 1 (fun x => [.int k x]) (fun _ => True) (fun _ => rfl) (by intro x u hu; simp at hu; subst hu; rfl)
theorem numE_flat (k : IntKind) : FlatOf (numE k) (.int k ·) (fun x => [.int k x]) where
  K := fun A w cs x => ⟨fun h => h.1, fun h => ⟨h, trivial⟩⟩
  pos := Nat.one_pos
  cells := fun x => rfl
  at_ := by
    intro x j u hu
    match j, hu with
    | 0, hu => cases hu; exact ⟨_, rfl, fun M d => ⟨fun h => by cases h; rfl, fun h => by subst h; exact .int _ _⟩⟩
    | j + 1, hu => simp [AV.cells] at hu
theorem Own.toFlat {α : Type} {R : Rep α} {dec : α → AV} {ev : α → List Value} (F : FlatOf R dec ev) {T : TypeId} {A : Nat → Prop} {w : World} {v : Value} {l : List α} (h : Own R T A w v l) : Own R T nowhere w v l := by
  obtain ⟨ad, c, rfl, h1, h2, h3⟩ := h
  refine ⟨ad, c, rfl, h1, h2, ?_⟩
  rcases h3 with h3 | ⟨b, pre, live, dead, rfl, hh, hd, hc⟩
  · exact .inl h3
  · refine .inr ⟨b, pre, live, dead, rfl, hh, hd, ?_⟩
    clear hh hd h1 h2
    induction hc with
    | nil => exact .nil
    | cons h _ ih => exact .cons ((F.K _ _ _ _).2 ((F.K _ _ _ _).1 h)) ih
end Go.Proofs.Ytidgcfgkcidkiaa.X
