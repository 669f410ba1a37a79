/- A library of no program: memory goes on: the general law. -/
import Derived.Test.YtidgcfgkcidkiaaGg
import Derived.Test.YtidgcfgkcidkiaaLibE
namespace Go.Proofs.Ytidgcfgkcidkiaa.X
open Go Go.Proofs.Ytidgcfgkcidkiaa.L
set_option linter.unusedVariables false
set_option linter.unusedSimpArgs false

section
variable {K K' : Ctx} {get get' : Nat → Obj} {w w' : World} {P : Program}

theorem PRows.mono {M M' : Nat → Nat → Option Value} (hM : ∀ b o v, M b o = some v → M' b o = some v) {sz : Nat} {xs : List AV} {ds : List Value} (h : PRows M sz xs ds) : PRows M' sz xs ds :=
  fun i x hx => ⟨(h i x hx).1, fun j u hu => let ⟨d, h1, h2⟩ := (h i x hx).2 j u hu; ⟨d, h1, h2.mono hM⟩⟩
theorem own_kind {id : Nat} (hk : K'.kind id = K.kind id) (hc : K'.cap id = K.cap id) : K'.own id ↔ K.own id := by unfold Ctx.own; rw [hk, hc]
theorem OR.mono {id : Nat} {o : Obj} (hK : K.kind id = o.kind) (hle : K.le K') (hb : K'.blk id = K.blk id) (hc : K'.cap id = K.cap id) (hof : K'.off id = K.off id) (hw : K.own id → w'.heap[K.blk id]? = w.heap[K.blk id]?) (h : OR K w id o) : OR K' w' id o := by
  cases o with
  | hole => trivial
  | gone => trivial
  | vars T cs =>
    obtain ⟨ds, h1, h2, h3⟩ := h
    exact ⟨ds, by rw [hb, hw (by unfold Ctx.own; rw [hK]; trivial)]; exact h1, h2.mono hle, h3⟩
  | row T sz xs =>
    obtain ⟨h0, h1, h2, h3⟩ := h
    refine ⟨h0, by rw [hc]; exact h1, by rw [hc]; exact h2, fun hne => ?_⟩
    rw [hc] at hne
    obtain ⟨ds, h4, h5, h6⟩ := h3 hne
    exact ⟨ds, by rw [hb, hw (by unfold Ctx.own; rw [hK]; exact hne)]; exact h4, by rw [hc, hof]; exact h5, by rw [hof]; exact h6.mono hle.mem⟩
  | frz T sz xs =>
    obtain ⟨h0, h1, h2, h3⟩ := h
    refine ⟨h0, by rw [hc]; exact h1, by rw [hc]; exact h2, fun i x hx => ⟨(h3 i x hx).1, fun j u hu => ?_⟩⟩
    obtain ⟨d, h4, h5⟩ := (h3 i x hx).2 j u hu
    exact ⟨d, by rw [hb, hof]; exact hle.mem _ _ _ h4, h5.mono hle.mem⟩
theorem Rel.own_lt (h : Rel K get w) {id : Nat} (ho : K.own id) : K.blk id < w.heap.size := by
  have hk := h.kinds id
  have hobj := h.obj id
  unfold Ctx.own at ho
  rw [hk] at ho
  cases hg : get id with
  | vars T cs => rw [hg] at hobj; obtain ⟨ds, h1, _⟩ := hobj; exact lt_of_heap h1
  | row T sz xs =>
    rw [hg] at hobj ho
    obtain ⟨_, _, _, h3⟩ := hobj
    obtain ⟨ds, h1, _⟩ := h3 ho
    exact lt_of_heap h1
  | _ => rw [hg] at ho; exact ho.elim
theorem Rel.mem_lt (h : Rel K get w) {b o : Nat} {v : Value} (hv : K.M b o = some v) : b < w.heap.size := by
  obtain ⟨c, T, f, hb, _⟩ := cell_block (h.mem b o v hv).1
  exact lt_of_heap hb

theorem Rel.change (h : Rel K get w) (F : Nat → Prop) (hle : K.le K')
    (hsame : ∀ i, ¬ F i → K'.kind i = K.kind i ∧ K'.blk i = K.blk i ∧ K'.cap i = K.cap i ∧ K'.off i = K.off i ∧ get' i = get i)
    (hkeep : Keeps (fun b => ∃ j, F j ∧ K.own j ∧ K.blk j = b) w w')
    (hkind : ∀ i, F i → K'.kind i = (get' i).kind)
    (hvar : ∀ i, F i → K.kind i = .var → K'.kind i = .var)
    (hobj : ∀ i, F i → OR K' w' i (get' i))
    (hown : ∀ i, F i → K'.own i → (∃ j, F j ∧ K.own j ∧ K.blk j = K'.blk i) ∨ w.heap.size ≤ K'.blk i)
    (hinj : ∀ i j, F i → F j → K'.own i → K'.own j → K'.blk i = K'.blk j → i = j)
    (hM : ∀ b o v, K'.M b o = some v → K.M b o = some v ∨ (((∃ j, F j ∧ K.own j ∧ K.blk j = b) ∨ w.heap.size ≤ b) ∧ w'.cell? ⟨b, o, none⟩ = some v ∧ v.oneCell' = true ∧ ∀ i, F i → K'.own i → K'.blk i ≠ b)) :
    Rel K' get' w' ∧ ∀ m, Grow m K w K' w' := by
  classical
  have hso : ∀ i, ¬ F i → (K'.own i ↔ K.own i) := fun i hi => own_kind (hsame i hi).1 (hsame i hi).2.2.1
  refine ⟨⟨fun i => ?_, fun b o v hv => ?_, fun i => ?_, fun i j hi hj hb => ?_, fun i o hi => ?_⟩, fun m => ⟨hle.mem, fun b o v hv => ?_, fun i _ hi => ?_, fun b hb => ?_, hkeep.mono ?_⟩⟩
  · by_cases hi : F i
    · exact hkind i hi
    · rw [(hsame i hi).1, (hsame i hi).2.2.2.2]; exact h.kinds i
  · rcases hM b o v hv with h1 | ⟨_, h2, h3, _⟩
    · obtain ⟨h2, h3⟩ := h.mem b o v h1
      refine ⟨?_, h3⟩
      rw [← h2]
      refine World.cell?_of_block (w := w) (hkeep.block b (h.mem_lt h1) ?_)
      rintro ⟨j, _, hj, rfl⟩
      rw [h.sep j o hj] at h1; cases h1
    · exact ⟨h2, h3⟩
  · by_cases hi : F i
    · exact hobj i hi
    · obtain ⟨h1, h2, h3, h3', h4⟩ := hsame i hi
      rw [h4]
      refine (h.obj i).mono (h.kinds i) hle h2 h3 h3' fun ho => hkeep.block _ (h.own_lt ho) ?_
      rintro ⟨j, hj, hoj, hb⟩
      exact hi (h.inj j i hoj ho hb ▸ hj)
  · by_cases hFi : F i <;> by_cases hFj : F j
    · exact hinj i j hFi hFj hi hj hb
    · have hj' := (hso j hFj).1 hj
      rw [(hsame j hFj).2.1] at hb
      rcases hown i hFi hi with ⟨k, hk, hok, hkb⟩ | hf
      · exact absurd (h.inj k j hok hj' (hkb.trans hb) ▸ hk) hFj
      · have := h.own_lt hj'; omega
    · have hi' := (hso i hFi).1 hi
      rw [(hsame i hFi).2.1] at hb
      rcases hown j hFj hj with ⟨k, hk, hok, hkb⟩ | hf
      · exact absurd (h.inj k i hok hi' (hkb.trans hb.symm) ▸ hk) hFi
      · have := h.own_lt hi'; omega
    · rw [(hsame i hFi).2.1, (hsame j hFj).2.1] at hb
      exact h.inj i j ((hso i hFi).1 hi) ((hso j hFj).1 hj) hb
  · cases hv : K'.M (K'.blk i) o with
    | none => rfl
    | some v =>
      exfalso
      by_cases hFi : F i
      · rcases hM _ _ _ hv with h1 | ⟨_, _, _, h4⟩
        · rcases hown i hFi hi with ⟨k, hk, hok, hkb⟩ | hf
          · rw [← hkb, h.sep k o hok] at h1; cases h1
          · have := h.mem_lt h1; omega
        · exact h4 i hFi hi rfl
      · have hi' := (hso i hFi).1 hi
        rw [(hsame i hFi).2.1] at hv
        rcases hM _ _ _ hv with h1 | ⟨h1, _, _, _⟩
        · rw [h.sep i o hi'] at h1; cases h1
        · rcases h1 with ⟨j, hj, hoj, hb⟩ | hf
          · exact hFi (h.inj j i hoj hi' hb ▸ hj)
          · have := h.own_lt hi'; omega
  · rcases hM b o v hv with h1 | ⟨h1, _⟩
    · exact .inl h1
    · rcases h1 with ⟨j, _, hoj, hb⟩ | h1
      · exact .inr (.inl ⟨j, hoj, hb⟩)
      · exact .inr (.inr h1)
  · by_cases hF : F i
    · refine ⟨hvar i hF hi, ?_⟩
      rcases hle.at_ i (by rw [hi]; simp) with h1 | h1
      · rw [hvar i hF hi] at h1; cases h1
      · exact h1.1
    · exact ⟨(hsame i hF).1.trans hi, (hsame i hF).2.1⟩
  · obtain ⟨i, hi, rfl⟩ := hb
    by_cases hF : F i
    · rcases hown i hF hi with ⟨j, _, hoj, hb⟩ | h1
      · exact .inl ⟨j, hoj, hb⟩
      · exact .inr h1
    · exact .inl ⟨i, (hso i hF).1 hi, (hsame i hF).2.1.symm⟩
  · rintro b _ ⟨j, _, hoj, hb⟩
    exact ⟨j, hoj, hb⟩

theorem Grow.trans {m : Nat} {K'' : Ctx} {w'' : World} (h : Grow m K w K' w') (k : Grow m K' w' K'' w'') : Grow m K w K'' w'' := by
  refine ⟨fun b o v hv => k.mem b o v (h.mem b o v hv), fun b o v hv => ?_, fun id hid hk => ?_, fun b hb => ?_, h.keeps.trans k.keeps fun b hb hf => ?_⟩
  · rcases k.new b o v hv with h1 | h1 | h1
    · exact h.new b o v h1
    · exact .inr (h.foot b h1)
    · exact .inr (.inr (Nat.le_trans h.keeps.size h1))
  · obtain ⟨h1, h2⟩ := h.var id hid hk
    obtain ⟨h3, h4⟩ := k.var id hid h1
    exact ⟨h3, h4.trans h2⟩
  · rcases k.foot b hb with h1 | h1
    · exact h.foot b h1
    · exact .inr (Nat.le_trans h.keeps.size h1)
  · exact (h.foot b hf).resolve_right (by omega)
theorem Grow.refl (m : Nat) (K : Ctx) (w : World) : Grow m K w K w := ⟨fun _ _ _ h => h, fun _ _ _ h => .inl h, fun _ _ h => ⟨h, rfl⟩, fun _ h => .inl h, Keeps.refl _ _⟩
theorem Ctx.le_refl (K : Ctx) : K.le K := ⟨fun _ _ _ h => h, fun _ _ => .inr ⟨rfl, rfl, rfl, .inl rfl⟩⟩
theorem Ctx.le_trans {K K' K'' : Ctx} (h : K.le K') (h' : K'.le K'') : K.le K'' := by
  refine ⟨fun b o v hv => h'.mem b o v (h.mem b o v hv), fun i hi => ?_⟩
  rcases h.at_ i hi with h1 | ⟨h1, h2, h2', h3⟩
  · rcases h'.at_ i (by rw [h1]; simp) with k1 | ⟨_, _, _, k3⟩
    · exact .inl k1
    · rcases k3 with k3 | ⟨sz, n, k3, _⟩
      · exact .inl (k3.trans h1)
      · rw [h1] at k3; cases k3
  · have hi' : K'.kind i ≠ .hole := by rcases h3 with h3 | ⟨sz, n, _, h3⟩ <;> rw [h3]; exact hi; simp
    rcases h'.at_ i hi' with k1 | ⟨k1, k2, k2', k3⟩
    · exact .inl k1
    · refine .inr ⟨k1.trans h1, k2.trans h2, k2'.trans h2', ?_⟩
      rcases h3 with h3 | ⟨sz, n, h3, h4⟩
      · rw [h3] at k3; exact k3
      · rcases k3 with k3 | ⟨sz', n', k3, _⟩
        · exact .inr ⟨sz, n, h3, k3.trans h4⟩
        · rw [h4] at k3; cases k3

/-- One thing anew. -/
def Ctx.put (K : Ctx) (id : Nat) (k : Kind) (b c f : Nat) : Ctx :=
  { K with blk := fun i => if i = id then b else K.blk i, cap := fun i => if i = id then c else K.cap i, off := fun i => if i = id then f else K.off i, kind := fun i => if i = id then k else K.kind i }
def putG (get : Nat → Obj) (id : Nat) (o : Obj) : Nat → Obj := fun i => if i = id then o else get i
def updG (get : Nat → Obj) : List (Nat × Obj) → Nat → Obj
  | [] => get
  | (n, o) :: r => updG (putG get n o) r
section
variable {id b c f : Nat} {k : Kind} {o : Obj}
theorem put_off : (K.put id k b c f).off id = f := by simp [Ctx.put]
theorem put_kind : (K.put id k b c f).kind id = k := by simp [Ctx.put]
theorem put_blk : (K.put id k b c f).blk id = b := by simp [Ctx.put]
theorem put_cap : (K.put id k b c f).cap id = c := by simp [Ctx.put]
theorem putG_same : putG get id o id = o := by simp [putG]
/-- One thing is made, or changed in its place. -/
theorem Rel.put (h : Rel K get w) (hw : Keeps (fun x => K.own id ∧ K.blk id = x) w w')
    (hk : K.kind id = .hole ∨ o = .gone ∧ K.kind id ≠ .var ∨ (o.kind = K.kind id ∧ b = K.blk id ∧ c = K.cap id ∧ f = K.off id))
    (hn : K.kind id = .hole → w.heap.size ≤ b)
    (hobj : OR (K.put id o.kind b c f) w' id o) : Rel (K.put id o.kind b c f) (putG get id o) w' ∧ K.le (K.put id o.kind b c f) ∧ ∀ m, Grow m K w (K.put id o.kind b c f) w' := by
  have hle : K.le (K.put id o.kind b c f) := by
    refine ⟨fun _ _ _ h => h, fun i hi => ?_⟩
    by_cases he : i = id
    · subst he
      rw [put_kind, put_blk, put_cap, put_off]
      rcases hk with h1 | ⟨rfl, _⟩ | ⟨h1, h2, h3, h4⟩
      · exact absurd h1 hi
      · exact .inl rfl
      · exact .inr ⟨h2, h3, h4, .inl h1⟩
    · exact .inr (by simp [Ctx.put, he])
  have := h.change (K' := K.put id o.kind b c f) (get' := putG get id o) (w' := w') (fun i => i = id) hle (fun i hi => by simp [Ctx.put, putG, hi]) (hw.mono fun x _ ⟨h1, h2⟩ => ⟨id, rfl, h1, h2⟩) (by rintro i rfl; rw [put_kind, putG_same])
    (by
      rintro i rfl hv
      rw [put_kind]
      rcases hk with h1 | ⟨_, h2⟩ | ⟨h1, _⟩
      · rw [hv] at h1; cases h1
      · exact absurd hv h2
      · exact h1.trans hv)
    (by rintro i rfl; rw [putG_same]; exact hobj)
    (by
      rintro i rfl ho
      rw [put_blk]
      rcases hk with h1 | ⟨rfl, _⟩ | ⟨h1, h2, h3, _⟩
      · exact .inr (hn h1)
      · unfold Ctx.own at ho; rw [put_kind] at ho; exact ho.elim
      · refine .inl ⟨i, rfl, ?_, h2.symm⟩
        unfold Ctx.own at ho ⊢
        rw [put_kind, put_cap, h1, h3] at ho
        exact ho)
    (by rintro i j rfl rfl; intros; rfl)
    (fun b o v hv => .inl hv)
  exact ⟨this.1, hle, this.2⟩
end
end
end Go.Proofs.Ytidgcfgkcidkiaa.X
