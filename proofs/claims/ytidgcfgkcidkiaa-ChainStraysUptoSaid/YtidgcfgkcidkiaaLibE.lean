/- A library of no program: what an argument that reads as data holds; how a law's row is closed. -/
import Derived.Test.YtidgcfgkcidkiaaLibD
import Derived.Deep.Slices
import Derived.Carry
namespace Go.Proofs.Ytidgcfgkcidkiaa.L
open Go Go.RowKit Go.ChangeShapes Go.WideShapes Go.ChangeAt
set_option linter.unusedVariables false
set_option linter.unusedSimpArgs false

def anyA : Nat → Prop := fun _ => True

/-- What reads at a type stands as a reading says. -/
def Opens (P : Program) {α : Type} (R : Rep α) (T : TypeId) : Prop :=
  ∀ {H : Type} (enc : TypeId × Value → H) (w : World) (fuel : Nat) (cs : List Value) (x : DataW H × List MemPlace), DataW.trod enc P w 0 (fun _ => true) true fuel T cs = some x → ∃ y, R.K anyA w cs y

section
variable {P : Program}

theorem opens_num {T : TypeId} {k : IntKind} (ht : P.underlying T = some (.int k)) : Opens P (num k) T := by
  intro H enc w fuel cs x h
  cases fuel with
  | zero => simp [DataW.trod] at h
  | succ n =>
    unfold DataW.trod at h
    rw [ht] at h
    match cs, h with
    | [.int k' m], h =>
      simp only at h
      split at h
      · rename_i hh
        obtain ⟨rfl, hw⟩ := hh
        exact ⟨m, rfl, ⟨hw⟩⟩
      · cases h
theorem opens_bool {T : TypeId} (ht : P.underlying T = some .bool) : Opens P boolR T := by
  intro H enc w fuel cs x h
  cases fuel with
  | zero => simp [DataW.trod] at h
  | succ n =>
    unfold DataW.trod at h
    rw [ht] at h
    match cs, h with
    | [.bool b], h => exact ⟨b, rfl, trivial⟩

/-- The fields of a struct, one by one. -/
theorem open_fields {H : Type} {enc : TypeId × Value → H} {w : World} {fuel : Nat} {T : TypeId} {fs : Array Field} {cs : List Value} {x : DataW H × List MemPlace} (ht : P.underlying T = some (.struct fs)) (h : DataW.trod enc P w 0 (fun _ => true) true fuel T cs = some x) :
    cs.length = P.cellsOf T ∧ ∀ (i : Nat) (f : Field), fs[i]? = some f → ∃ n y, DataW.trod enc P w 0 (fun _ => true) true n f.type ((cs.drop f.offset).take (P.cellsOf f.type)) = some y := by
  obtain ⟨xs, n, _, rfl, hl, hlen, hf⟩ := DataW.trod_struct ht h
  refine ⟨hl, fun i f hi => ?_⟩
  have := hf i f (by simpa using hi)
  have hi2 : i < fs.size := (Array.getElem?_eq_some_iff.1 hi).1
  have hx : i < xs.length := by rw [hlen]; simpa using hi2
  rw [List.getElem?_eq_getElem hx] at this
  exact ⟨n, _, this⟩

theorem addr_add_eq (a : Addr) (n : Nat) (h : a.spot = none) : a.add n = ⟨a.block, a.off + n, none⟩ := by
  unfold Addr.add
  split
  · rename_i h0; subst h0; cases a; simp at h; subst h; rfl
  · rfl
theorem cell_spot {w : World} {a : Addr} {v : Value} (h : w.cell? a = some v) : a.spot = none := by
  unfold World.cell? at h
  split at h
  · split at h
    · cases h
    · rename_i hs; simpa using hs
  · cases h
theorem cell_block {w : World} {b o : Nat} {v : Value} (h : w.cell? ⟨b, o, none⟩ = some v) : ∃ c T f, w.heap[b]? = some (.cells c T f) ∧ c[o]? = some v := by
  unfold World.cell? at h
  split at h
  · rename_i c T f hb
    exact ⟨c, T, f, hb, by simpa using h⟩
  · cases h

theorem cells_of_list {α : Type} {R : Rep α} {A : Nat → Prop} {w : World} (n : Nat) (L : List Value) (f : Nat → α) (h : ∀ i, i < n → ∃ cs, R.K A w cs (f i) ∧ ∀ j, j < R.sz → L[i * R.sz + j]? = cs[j]?) : Cells R A w (L.take (n * R.sz)) ((List.range n).map f) := by
  induction n with
  | zero => simp; exact .nil
  | succ n ih =>
    obtain ⟨cs, hK, hc⟩ := h n (by omega)
    rw [List.range_succ, List.map_append]
    have e : L.take ((n + 1) * R.sz) = L.take (n * R.sz) ++ cs := by
      rw [Nat.succ_mul, List.take_add]
      congr 1
      apply List.ext_getElem?
      intro j
      rw [List.getElem?_take]
      have hl := R.len hK
      split
      · rename_i hj; rw [List.getElem?_drop, hc j hj]
      · rw [List.getElem?_eq_none (by omega)]
    rw [e]
    exact (ih fun i hi => h i (by omega)).append (Cells.single hK)

theorem opens_slice {α : Type} {R : Rep α} {T e : TypeId} (ht : P.underlying T = some (.slice e)) (hs : P.cellsOf e = R.sz) (hpos : 0 < R.sz) (ho : Opens P R e) : Opens P (slice R) T := by
  intro H enc w fuel cs x h
  rcases Deep.open_slice ht h with ⟨rfl, _⟩ | ⟨a, len, cap, m, n, D, Pl, rfl, hb, hl, hm, hmm, _, hx⟩
  · exact ⟨[], _, rfl, none, 0, rfl, Nat.le_refl _, Nat.zero_le _, .inl rfl⟩
  · simp only [if_true] at hmm
    subst hmm
    by_cases h0 : len = 0
    · subst h0
      exact ⟨[], _, rfl, some a, m, rfl, hl, hm, .inl rfl⟩
    · have hex : ∀ i, ∃ y, i < len → ∃ cs', R.K anyA w cs' y ∧ ∀ j, j < R.sz → w.cell? (a.add (i * R.sz + j)) = cs'[j]? := by
        intro i
        by_cases hi : i < len
        · obtain ⟨cs', h1, h2⟩ := hx i (by omega)
          obtain ⟨y, hy⟩ := ho enc w n cs' _ h2
          refine ⟨y, fun _ => ⟨cs', hy, fun j hj => ?_⟩⟩
          obtain ⟨_, hlen, hcell⟩ := World.cells?_some h1
          rw [hs] at hcell hlen
          have := hcell j hj
          rw [← this]
          congr 1
          unfold Addr.add
          by_cases ha : i * R.sz = 0
          · rw [if_pos ha, ha, Nat.zero_add]
          · rw [if_neg ha, if_neg (by omega)]
            by_cases hj0 : j = 0
            · subst hj0; rw [if_pos rfl]; rfl
            · rw [if_neg hj0]; simp [Nat.add_assoc]
        · obtain ⟨cs', h1, h2⟩ := hx 0 (by omega)
          obtain ⟨y, hy⟩ := ho enc w n cs' _ h2
          exact ⟨y, fun h => absurd h hi⟩
      obtain ⟨f, hf⟩ := Classical.axiomOfChoice hex
      obtain ⟨cs0, hK0, hc0⟩ := hf 0 (by omega)
      have hl0 := R.len hK0
      have hsp : a.spot = none := by
        have h1 := hc0 0 hpos
        rw [List.getElem?_eq_getElem (by omega)] at h1
        have := cell_spot h1
        unfold Addr.add at this
        simpa using this
      have hall : ∀ i j, i < len → j < R.sz → ∃ u, w.cell? ⟨a.block, a.off + (i * R.sz + j), none⟩ = some u ∧ ∃ cs', R.K anyA w cs' (f i) ∧ cs'[j]? = some u := by
        intro i j hi hj
        obtain ⟨cs', hK, hc⟩ := hf i hi
        have hl := R.len hK
        have h1 := hc j hj
        rw [addr_add_eq a _ hsp, List.getElem?_eq_getElem (by omega)] at h1
        exact ⟨_, h1, cs', hK, List.getElem?_eq_getElem (by omega)⟩
      obtain ⟨u0, hu0, _⟩ := hall 0 0 (by omega) hpos
      obtain ⟨c, T', fz, hblk, _⟩ := cell_block hu0
      have hcl : a.off + len * R.sz ≤ c.size := by
        obtain ⟨u, hu, _⟩ := hall (len - 1) (R.sz - 1) (by omega) (by omega)
        rw [cell_of_row w _ _ c T' fz hblk] at hu
        have := (Array.getElem?_eq_some_iff.1 hu).1
        have e : (len - 1) * R.sz + R.sz = len * R.sz := by rw [← Nat.succ_mul]; congr 1; omega
        omega
      refine ⟨(List.range len).map f, _, rfl, some a, m, by simp, by simpa using hl, hm, .inr ⟨a.block, c.toList.take a.off, (c.toList.drop a.off).take (len * R.sz), (c.toList.drop a.off).drop (len * R.sz), T', fz, ?_, trivial, ?_, ?_⟩⟩
      · rw [List.length_take, Array.length_toList, Nat.min_eq_left (by omega)]; cases a; simp at hsp; subst hsp; rfl
      · rw [hblk, List.append_assoc, List.take_append_drop, List.take_append_drop]
      · refine cells_of_list len _ f fun i hi => ?_
        obtain ⟨cs', hK, hc⟩ := hf i hi
        refine ⟨cs', hK, fun j hj => ?_⟩
        rw [← hc j hj, addr_add_eq a _ hsp, cell_of_row w _ _ c T' fz hblk, List.getElem?_drop, Array.getElem?_toList]

theorem agg_of_cells {v : Value} {cs : List Value} (h : v.cells.toList = cs) (hn : cs.length ≠ 1) : v = .agg cs.toArray := by
  cases v <;> first | (simp [Value.cells] at h; subst h; rfl) | (simp [Value.cells] at h; subst h; simp at hn)
theorem trodAll_below {H : Type} {enc : TypeId × Value → H} (hl : laidOutB P = true) {W W' : World} (hb : Below W.heap.size W W') : ∀ (ts : List TypeId) (vs : List Value) (ds : List (DataW H)) (ps : List MemPlace), (∀ t ∈ ts, P.readableRec t = true ∧ t < P.types.size) →
    DataW.TrodAll enc P W 0 (fun _ => true) true ts vs ds ps → (∀ x ∈ ps, x.block < W.heap.size) → DataW.TrodAll enc P W' 0 (fun b => decide (b < W.heap.size)) true ts vs ds ps
  | [], [], [], ps, _, h, _ => h
  | t :: ts, v :: vs, d :: ds, ps, hr, h, hlt => by
    obtain ⟨p, q, h1, h2, rfl⟩ := h
    exact ⟨p, q, Below.trod hl (hr t (by simp)).1 (hr t (by simp)).2 h1 hb fun x hx => hlt x (by simp [hx]), trodAll_below hl hb ts vs ds q (fun t ht => hr t (by simp [ht])) h2 fun x hx => hlt x (by simp [hx]), rfl⟩

/-- The end of a law's row: it returns true, and old memory is as it was. -/
theorem law_post {H : Type} {enc : TypeId × Value → H} {f : Func} {s : ChangeSpec} (tb : TypeId) (hbool : P.underlying tb = some .bool) (hres : f.resultTypes = #[tb]) (hvars : s.vars = []) (hl : laidOutB P = true) (hr0 : (f.params.toList.all fun t => P.readableRec t && decide (t < P.types.size)) = true)
    {W W' : World} {args : Array Value} {ds gs : List (DataW H)} {before : List MemPlace} (hW : DataW.Whole enc P f.params.toList s.vars false W args.toList ds gs before) (hspec : gs = [] → s.fn H (ds ++ gs) = { results := [.lit (.bool true)], args := ds }) (hk : Keeps (fun _ => False) W W') :
    ∃ v, (Ending.returned (.bool true) = .returned v) ∧ s.post enc P f false true false false W args v W' := by
  have hr : ∀ t ∈ f.params.toList, P.readableRec t = true ∧ t < P.types.size := fun t ht => by have := List.all_eq_true.1 hr0 t ht; simpa using this
  have hb := hk.below
  have hlt := hW.lt
  have hW' := hW
  obtain ⟨p, q, hA, hV, rfl, hfz, hnd⟩ := hW
  rw [hvars] at hV
  obtain ⟨rfl, rfl⟩ := trodVars_none hV
  refine ⟨_, rfl, ds, [], _, [], p, [], hW', ?_, ?_, ?_, hb.frame _, fun h => by cases h⟩
  · rw [hspec rfl, hres]
    exact trodAll_mk1 (shut_bool hbool true)
  · rw [hspec rfl]
    exact trodAll_below hl hb _ _ _ _ hr hA fun x hx => hlt x (by simp [hx])
  · rw [hspec rfl, hvars]
    rfl
end
end Go.Proofs.Ytidgcfgkcidkiaa.L
