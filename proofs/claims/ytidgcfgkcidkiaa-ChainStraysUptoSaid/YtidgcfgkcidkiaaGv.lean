/- Readings whose bulk is bounded (for the statements of bounded bulk); a struct by its fields. -/
import Derived.Test.YtidgcfgkcidkiaaRows
import Derived.Test.YtidgcfgkcidkiaaGu
import Derived.OpenShut
namespace Go.Proofs.Ytidgcfgkcidkiaa.X
open Go Go.Proofs.Ytidgcfgkcidkiaa.L Go.RowKit Go.ChangeShapes Go.WideShapes Go.ChangeAt
set_option linter.unusedVariables false
set_option linter.unusedSimpArgs false

section
variable {P : Program}
/-- What reads at a type stands as a reading says, and weighs no more than what was read. -/
def OpensB (P : Program) {α : Type} (R : Rep α) (T : TypeId) (wt : α → Nat) : Prop :=
  ∀ (H : Type) (enc : TypeId × Value → H) (w : World) (fuel : Nat) (cs : List Value) (x : DataW H × List MemPlace), DataW.trod enc P w 0 (fun _ => true) true fuel T cs = some x → ∃ y, R.K anyA w cs y ∧ wt y ≤ Rows.uptoBulk x.1
theorem bulk_pos {H : Type} (d : DataW H) : 1 ≤ Rows.uptoBulk d := by
  cases d with
  | lit l => cases l <;> simp [Rows.uptoBulk]
  | _ => simp [Rows.uptoBulk]
theorem OpensB.of {α : Type} {R : Rep α} {T : TypeId} (h : Opens P R T) : OpensB P R T fun _ => 1 := by
  intro H enc w fuel cs x hx
  obtain ⟨y, hy⟩ := h enc w fuel cs x hx
  exact ⟨y, hy, bulk_pos _⟩
theorem OpensB.num {T : TypeId} {k : IntKind} (ht : P.underlying T = some (.int k)) : OpensB P (L.num k) T fun _ => 1 := OpensB.of (opens_num ht)
theorem OpensB.bool {T : TypeId} (ht : P.underlying T = some .bool) : OpensB P boolR T fun _ => 1 := OpensB.of (opens_bool ht)
def wtL {α : Type} (wt : α → Nat) (l : List α) : Nat := (l.map wt).sum + 1
theorem wtL_len {α : Type} {wt : α → Nat} (h : ∀ x, 1 ≤ wt x) (l : List α) : l.length + 1 ≤ wtL wt l := by
  unfold wtL
  induction l with
  | nil => simp
  | cons x l ih => have := h x; simp only [List.map_cons, List.sum_cons, List.length_cons]; omega
theorem wtL_mem {α : Type} {wt : α → Nat} {l : List α} {x : α} (h : x ∈ l) : wt x + 1 ≤ wtL wt l := by
  unfold wtL
  induction l with
  | nil => cases h
  | cons y l ih =>
    simp only [List.map_cons, List.sum_cons]
    rcases List.mem_cons.1 h with rfl | h
    · omega
    · have := ih h; omega
theorem wt_range {H α : Type} {wt : α → Nat} {f : Nat → α} {D : Nat → DataW H} : ∀ (l : List Nat), (∀ i ∈ l, wt (f i) ≤ Rows.uptoBulk (D i)) → ((l.map f).map wt).sum ≤ Rows.uptoBulkAll (l.map D)
  | [], _ => by simp
  | i :: l, h => by
    have h1 := h i (by simp)
    have h2 := wt_range l fun j hj => h j (by simp [hj])
    simp only [List.map_cons, List.sum_cons, Rows.uptoBulkAll]
    omega
theorem opensB_slice {α : Type} {R : Rep α} {T e : TypeId} {wt : α → Nat} (ht : P.underlying T = some (.slice e)) (hs : P.cellsOf e = R.sz) (hpos : 0 < R.sz) (ho : OpensB P R e wt) : OpensB P (slice R) T (wtL wt) := by
  intro H enc w fuel cs x h
  rcases Deep.open_slice ht h with ⟨rfl, rfl⟩ | ⟨a, len, cap, m, n, D, Pl, rfl, hb, hl, hm, hmm, rfl, hx⟩
  · exact ⟨[], ⟨_, rfl, none, 0, rfl, Nat.le_refl _, Nat.zero_le _, .inl rfl⟩, by simp [wtL, Rows.uptoBulk]⟩
  · simp only [if_true] at hmm
    subst hmm
    by_cases h0 : len = 0
    · subst h0
      exact ⟨[], ⟨_, rfl, some a, m, rfl, hl, hm, .inl rfl⟩, by simpa [wtL] using bulk_pos _⟩
    · have hex : ∀ i, ∃ y, i < len → (∃ cs', R.K anyA w cs' y ∧ ∀ j, j < R.sz → w.cell? (a.add (i * R.sz + j)) = cs'[j]?) ∧ wt y ≤ Rows.uptoBulk (D i) := by
        intro i
        by_cases hi : i < len
        · obtain ⟨cs', h1, h2⟩ := hx i (by omega)
          obtain ⟨y, hy, hw⟩ := ho H enc w n cs' _ h2
          refine ⟨y, fun _ => ⟨⟨cs', hy, fun j hj => ?_⟩, hw⟩⟩
          obtain ⟨_, hlen, hcell⟩ := World.cells?_some h1
          rw [hs] at hcell hlen
          have := hcell j hj
          rw [← this]
          congr 1
          unfold Addr.add
          by_cases ha : i * R.sz = 0
          · rw [if_pos ha, ha, Nat.zero_add]
          · rw [if_neg ha, if_neg (by omega)]
            by_cases hj0 : j = 0
            · subst hj0; rw [if_pos rfl]; rfl
            · rw [if_neg hj0]; simp [Nat.add_assoc]
        · obtain ⟨cs', h1, h2⟩ := hx 0 (by omega)
          obtain ⟨y, hy, _⟩ := ho H enc w n cs' _ h2
          exact ⟨y, fun h => absurd h hi⟩
      obtain ⟨f, hf'⟩ := Classical.axiomOfChoice hex
      have hf : ∀ i, i < len → ∃ cs', R.K anyA w cs' (f i) ∧ ∀ j, j < R.sz → w.cell? (a.add (i * R.sz + j)) = cs'[j]? := fun i hi => (hf' i hi).1
      obtain ⟨cs0, hK0, hc0⟩ := hf 0 (by omega)
      have hl0 := R.len hK0
      have hsp : a.spot = none := by
        have h1 := hc0 0 hpos
        rw [List.getElem?_eq_getElem (by omega)] at h1
        have := cell_spot h1
        unfold Addr.add at this
        simpa using this
      have hall : ∀ i j, i < len → j < R.sz → ∃ u, w.cell? ⟨a.block, a.off + (i * R.sz + j), none⟩ = some u ∧ ∃ cs', R.K anyA w cs' (f i) ∧ cs'[j]? = some u := by
        intro i j hi hj
        obtain ⟨cs', hK, hc⟩ := hf i hi
        have hl := R.len hK
        have h1 := hc j hj
        rw [addr_add_eq a _ hsp, List.getElem?_eq_getElem (by omega)] at h1
        exact ⟨_, h1, cs', hK, List.getElem?_eq_getElem (by omega)⟩
      obtain ⟨u0, hu0, _⟩ := hall 0 0 (by omega) hpos
      obtain ⟨c, T', fz, hblk, _⟩ := cell_block hu0
      have hcl : a.off + len * R.sz ≤ c.size := by
        obtain ⟨u, hu, _⟩ := hall (len - 1) (R.sz - 1) (by omega) (by omega)
        rw [cell_of_row w _ _ c T' fz hblk] at hu
        have := (Array.getElem?_eq_some_iff.1 hu).1
        have e : (len - 1) * R.sz + R.sz = len * R.sz := by rw [← Nat.succ_mul]; congr 1; omega
        omega
      refine ⟨(List.range len).map f, ⟨_, rfl, some a, m, by simp, by simpa using hl, hm, .inr ⟨a.block, c.toList.take a.off, (c.toList.drop a.off).take (len * R.sz), (c.toList.drop a.off).drop (len * R.sz), T', fz, ?_, trivial, ?_, ?_⟩⟩, ?_⟩
      · rw [List.length_take, Array.length_toList, Nat.min_eq_left (by omega)]; cases a; simp at hsp; subst hsp; rfl
      · rw [hblk, List.append_assoc, List.take_append_drop, List.take_append_drop]
      · refine cells_of_list len _ f fun i hi => ?_
        obtain ⟨cs', hK, hc⟩ := hf i hi
        refine ⟨cs', hK, fun j hj => ?_⟩
        rw [← hc j hj, addr_add_eq a _ hsp, cell_of_row w _ _ c T' fz hblk, List.getElem?_drop, Array.getElem?_toList]
      · have := wt_range (wt := wt) (f := f) (D := D) (List.range len) fun i hi => (hf' i (List.mem_range.1 hi)).2
        simp only [wtL, Rows.uptoBulk]
        omega

/-- Fields, from a place on. -/
def FieldsB (P : Program) {α : Type} (fs : List Field) (off : Nat) (R : Rep α) (wt : α → Nat) : Prop :=
  ∀ (H : Type) (enc : TypeId × Value → H) (w : World) (cs : List Value) (xs : List (DataW H)), cs.length = off + R.sz → (∀ (i : Nat) f, fs[i]? = some f → ∃ n ps x, xs[i]? = some x ∧ DataW.trod enc P w 0 (fun _ => true) true n f.type ((cs.drop f.offset).take (P.cellsOf f.type)) = some (x, ps)) →
    ∃ y, R.K anyA w (cs.drop off) y ∧ wt y ≤ Rows.uptoBulkAll xs
theorem FieldsB.one {α : Type} {f : Field} {off : Nat} {R : Rep α} {wt : α → Nat} (ho : OpensB P R f.type wt) (h1 : f.offset = off) (h2 : P.cellsOf f.type = R.sz) : FieldsB P [f] off R wt := by
  intro H enc w cs xs hl hx
  obtain ⟨n, ps, x, e1, e2⟩ := hx 0 f rfl
  obtain ⟨y, h3, h4⟩ := ho H enc w n _ _ e2
  rw [h1, h2, List.take_of_length_le (by rw [List.length_drop]; omega)] at h3
  refine ⟨y, h3, ?_⟩
  cases xs with
  | nil => cases e1
  | cons z xs =>
    injection e1 with e1
    subst e1
    simp only [Rows.uptoBulkAll]
    simp only at h4
    omega
theorem FieldsB.cons {α β : Type} {f : Field} {fs : List Field} {off : Nat} {R : Rep α} {S : Rep β} {wt : α → Nat} {wu : β → Nat} (ho : OpensB P R f.type wt) (h1 : f.offset = off) (h2 : P.cellsOf f.type = R.sz) (h : FieldsB P fs (off + R.sz) S wu) : FieldsB P (f :: fs) off (pair R S) fun x => wt x.1 + wu x.2 := by
  intro H enc w cs xs hl hx
  replace hl : cs.length = off + (R.sz + S.sz) := hl
  obtain ⟨n, ps, x, e1, e2⟩ := hx 0 f rfl
  obtain ⟨y, h3, h4⟩ := ho H enc w n _ _ e2
  rw [h1, h2] at h3
  cases xs with
  | nil => cases e1
  | cons z xs =>
    injection e1 with e1
    subst e1
    obtain ⟨y2, k1, k2⟩ := h H enc w cs xs (by omega) fun i g hg => hx (i + 1) g hg
    refine ⟨(y, y2), ⟨_, _, ?_, h3, k1⟩, ?_⟩
    · rw [← List.drop_drop, List.take_append_drop]
    · simp only [Rows.uptoBulkAll]
      simp only at h4
      omega
theorem opensB_struct {α : Type} {T : TypeId} {fs : Array Field} {R : Rep α} {wt : α → Nat} (ht : P.underlying T = some (.struct fs)) (hs : P.cellsOf T = R.sz) (h : FieldsB P fs.toList 0 R wt) : OpensB P R T fun x => wt x + 1 := by
  intro H enc w fuel cs x hx
  obtain ⟨xs, n, _, rfl, hl, hlen, hf⟩ := DataW.trod_struct ht hx
  obtain ⟨y, h1, h2⟩ := h H enc w cs (xs.map (·.1)) (by omega) fun i f hi => by
    have hi' : fs[i]? = some f := by simpa using hi
    have := hf i f hi'
    have hi2 : i < fs.size := (Array.getElem?_eq_some_iff.1 hi').1
    rw [List.getElem?_eq_getElem (by omega : i < xs.length)] at this
    exact ⟨n, xs[i].2, xs[i].1, by rw [List.getElem?_map, List.getElem?_eq_getElem (by omega : i < xs.length)]; rfl, this⟩
  refine ⟨y, h1, ?_⟩
  simp only [Rows.uptoBulk]
  omega
theorem opensB_two {α : Type} {T e : TypeId} {R : Rep α} {wt : α → Nat} (ht : P.underlying T = some (.array 2 e)) (hs : P.cellsOf T = R.sz + R.sz) (he : P.cellsOf e = R.sz) (ho : OpensB P R e wt) : OpensB P (pair R R) T fun x => wt x.1 + wt x.2 := by
  intro H enc w fuel cs x hx
  obtain ⟨xs, n, _, rfl, hl, hlen, hf⟩ := DataW.trod_array ht hx
  match xs, hlen with
  | [x0, x1], _ =>
    have h0 := hf 0 (by omega)
    have h1 := hf 1 (by omega)
    rw [he] at h0 h1
    obtain ⟨y0, k0, b0⟩ := ho H enc w n _ x0 h0
    obtain ⟨y1, k1, b1⟩ := ho H enc w n _ x1 h1
    refine ⟨(y0, y1), ⟨_, _, ?_, k0, k1⟩, ?_⟩
    · rw [Nat.zero_mul, Nat.one_mul, List.drop_zero]
      have e : (cs.drop R.sz).take R.sz = cs.drop R.sz := List.take_of_length_le (by rw [List.length_drop]; omega)
      rw [e, List.take_append_drop]
    · simp only [List.map_cons, List.map_nil, Rows.uptoBulk, Rows.uptoBulkAll]
      omega
theorem OpensB.iso {α β : Type} {R : Rep α} {T : TypeId} {wt : α → Nat} {wu : β → Nat} {f : β → α} (h : OpensB P R T wt) (g : α → β) (hg : ∀ x, f (g x) = x) (hw : ∀ x, wu (g x) ≤ wt x) : OpensB P (iso R f) T wu := by
  intro H enc w fuel cs x hx
  obtain ⟨y, h1, h2⟩ := h H enc w fuel cs x hx
  refine ⟨g y, ?_, Nat.le_trans (hw y) h2⟩
  show R.K anyA w cs (f (g y))
  rw [hg]
  exact h1
/-- A struct that is an argument. -/
theorem agg_arg {H : Type} {enc : TypeId × Value → H} {α : Type} {R : Rep α} {T : TypeId} {wt : α → Nat} (ho : OpensB P R T wt) (h1 : R.sz ≠ 1) {w : World} {v : Value} {d : DataW H} {ps : List MemPlace}
    (h : DataW.Trod enc P w 0 (fun _ => true) true T v d ps) : ∃ cs y, v = .agg cs.toArray ∧ R.K anyA w cs y ∧ wt y ≤ Rows.uptoBulk d := by
  obtain ⟨fuel, hf⟩ := h
  obtain ⟨y, h2, h3⟩ := ho H enc w fuel _ _ hf
  exact ⟨_, y, agg_of_cells rfl (by rw [R.len h2]; exact h1), h2, h3⟩
end
end Go.Proofs.Ytidgcfgkcidkiaa.X
