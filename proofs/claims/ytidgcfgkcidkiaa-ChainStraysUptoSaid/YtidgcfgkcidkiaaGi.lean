/- A library of no program: loads, stores, new memory, append. -/
import Derived.Test.YtidgcfgkcidkiaaGh
import Derived.Great.BuildSlice
namespace Go.Proofs.Ytidgcfgkcidkiaa.X
open Go Go.Proofs.Ytidgcfgkcidkiaa.L Go.RowKit
set_option linter.unusedVariables false
set_option linter.unusedSimpArgs false

section
variable {P : Program} {K : Ctx} {e : Nat → Option AV} {get : Nat → Obj} {a : Act} {w : World}

theorem PR.one {M : Nat → Nat → Option Value} {u : AV} {c : Value} (h : PR M u c) : c.oneCell' = true := by cases h <;> rfl
theorem VR.pure_of {u : AV} {c : Value} (h : VR K u c) (hs : u.shar = true) : PR K.M u c := by
  cases h with
  | pure h => exact h
  | _ => simp [AV.shar] at hs
theorem booV_sound {v v' : AV} {g g' : List Gd} {ob : List Prop} (h : booV v g = some (v', ob, g')) (ho : AllP ob) : v' = v := by
  unfold booV at h
  split at h
  · exact boo_sound h ho
  · cases h; rfl

/-- A load out of cells. -/
theorem load_at {T : TypeId} {off b o : Nat} {cs : List AV} {L : List Value} {v : AV} (hL : VRs K cs L) (hc : ∀ j d, L[j]? = some d → w.cell? ⟨b, o + j, none⟩ = some d) (hp : partA P T off cs = some v) :
    ∃ c, (Instr.loadAt T (.pointer (some ⟨b, o + off, none⟩))).run P w = .ok c w ∧ VR K v c := by
  obtain ⟨c, l, hv, hl, hn, ht, i, hi⟩ := partA_sound hp hL
  refine ⟨c, ?_, hv⟩
  have hcell : ∀ j d, l[j]? = some d → w.cell? ((⟨b, o + off, none⟩ : Addr).add j) = some d := by
    intro j d hd
    rw [← hl, List.getElem?_take] at hd
    split at hd
    · rw [List.getElem?_drop] at hd
      rw [addr_mid, Nat.add_assoc]
      exact hc _ d hd
    · cases hd
  rcases ht with ⟨ht, rfl⟩ | ⟨ht, rfl⟩
  · have := run_loadCells_list (P := P) w ⟨b, o + off, none⟩ l hcell
    rw [hn] at this
    simp [Instr.loadAt, Instr.sureAddr, loadVar, isAgg_run ht, size_run hi, this]
  · have := hcell 0 c rfl
    rw [addr_mid, Nat.add_zero] at this
    simp [Instr.loadAt, Instr.sureAddr, loadVar, isAgg_run ht, this]

theorem RelS.kind (hS : RelS K e get a w) (id : Nat) : K.kind id = (get id).kind := hS.rel.kinds id
/-- The cells of one element of a row. -/
theorem row_el {M : Nat → Nat → Option Value} {sz : Nat} {xs : List AV} {ds : List Value} (h : PRows M sz xs ds) {i : Nat} {x : AV} (hx : xs[i]? = some x) (hM : ∀ b o v, M b o = some v → K.M b o = some v) :
    ∃ L, VRs K x.cells L ∧ L.length = sz ∧ ∀ j d, L[j]? = some d → ds[i * sz + j]? = some d := by
  obtain ⟨hl, hc⟩ := h i x hx
  refine ⟨(ds.drop (i * sz)).take sz, ⟨?_, fun j u d hu hd => ?_⟩, ?_, fun j d hd => ?_⟩
  · rw [hl]
    by_cases h0 : sz = 0
    · subst h0; simp
    · obtain ⟨d, h1, _⟩ := hc (sz - 1) _ (List.getElem?_eq_getElem (by omega))
      have := (List.getElem?_eq_some_iff.1 h1).1
      rw [List.length_take, List.length_drop]; omega
  · obtain ⟨d', h1, h2⟩ := hc j u hu
    rw [List.getElem?_take] at hd
    split at hd
    · rw [List.getElem?_drop, h1] at hd
      injection hd with hd; subst hd
      exact .pure (h2.mono hM)
    · cases hd
  · by_cases h0 : sz = 0
    · subst h0; simp
    · obtain ⟨d, h1, _⟩ := hc (sz - 1) _ (List.getElem?_eq_getElem (by omega))
      have := (List.getElem?_eq_some_iff.1 h1).1
      rw [List.length_take, List.length_drop]; omega
  · rw [List.getElem?_take] at hd
    split at hd
    · rwa [List.getElem?_drop] at hd
    · cases hd
theorem loadA_sound (hS : RelS K e get a w) {T : TypeId} {x : AV} {c : Value} {g g' : List Gd} {E : Eff} {ob : List Prop} (hx : VR K x c) (h : loadA P e get T x g = some (E, ob, g')) (ho : AllP ob) :
    ∃ v r, E.v = some v ∧ E.wr = [] ∧ (Instr.loadAt T c).run P w = .ok r w ∧ VR K v r := by
  unfold loadA at h
  split at h
  · rename_i id off
    split at h
    · rename_i T' cs hg
      split at h
      · rename_i v hp
        split at h
        · rename_i v' o g1 hb
          cases h
          obtain rfl := booV_sound hb ho
          have hk : K.kind id = .var := by rw [hS.kind, hg]; rfl
          obtain ⟨ds, h1, h2, h3⟩ := by have := hS.rel.obj id; rw [hg] at this; exact this
          cases hx with
          | pure h => cases h
          | ptr id off c hk' hc hp' =>
            rw [hk] at hc
            obtain rfl := hc.resolve_left (by simp)
            obtain ⟨r, h4, h5⟩ := load_at (w := w) (b := K.blk id) (o := 0) h2 (fun j d hd => by rw [Nat.zero_add]; exact cellOf h1 j (by simpa using hd)) hp
            rw [Nat.zero_add] at h4
            exact ⟨_, r, rfl, rfl, h4, h5⟩
        · cases h
      · cases h
    · cases h
  · rename_i id sz i off
    have key : ∀ (s : Nat) (xs : List AV), (match elA xs i g, Nat.beq s sz with
      | some (x, o, g), true => match partA P T off x.cells with
        | some v => (match booV v g with | some (v, o', g) => some ((⟨some v, [id], [], 0⟩ : Eff), o ++ o', g) | none => none)
        | none => none
      | _, _ => none) = some (E, ob, g') → (∀ x, xs[i]? = some x → ∃ L, VRs K x.cells L ∧ ∀ j d, L[j]? = some d → w.cell? ⟨K.blk id, K.off id + i * s + j, none⟩ = some d) → (K.kind id ≠ .gone) →
      ∃ v r, E.v = some v ∧ E.wr = [] ∧ (Instr.loadAt T c).run P w = .ok r w ∧ VR K v r := by
      intro s xs h hcell hng
      split at h
      · rename_i x o g1 he hs
        split at h
        · rename_i v hp
          split at h
          · rename_i v' o' g2 hb
            cases h
            rw [AllP.append_iff] at ho
            obtain rfl := booV_sound hb ho.2
            have hxs := elA_sound he ho.1
            obtain rfl := beq_eq' hs
            obtain ⟨L, h1, h2⟩ := hcell x hxs
            cases hx with
            | pure h => cases h
            | ept id sz i off c hk' hc hp' =>
              obtain ⟨n, _, _, rfl⟩ := hc.resolve_left hng
              obtain ⟨r, h4, h5⟩ := load_at (w := w) (b := K.blk id) (o := K.off id + i * s) h1 h2 hp
              exact ⟨_, r, rfl, rfl, h4, h5⟩
          · cases h
        · cases h
      · cases h
    split at h
    · rename_i T' s xs hg
      have hob := hS.rel.obj id
      rw [hg] at hob
      obtain ⟨h0, h1, h2, h3⟩ := hob
      refine key s xs h (fun x hxs => ?_) (by rw [hS.kind, hg]; simp [Obj.kind])
      have hne : K.cap id ≠ 0 := by have := (List.getElem?_eq_some_iff.1 hxs).1; omega
      obtain ⟨ds, h4, h5, h6⟩ := h3 hne
      obtain ⟨L, l1, l2, l3⟩ := row_el (K := K) h6 hxs fun _ _ _ h => h
      exact ⟨L, l1, fun j d hd => cellOf h4 _ (by have := l3 j d hd; rw [List.getElem?_drop, ← Nat.add_assoc] at this; simpa using this)⟩
    · rename_i T' s xs hg
      have hob := hS.rel.obj id
      rw [hg] at hob
      obtain ⟨h0, h1, h2, h3⟩ := hob
      refine key s xs h (fun x hxs => ?_) (by rw [hS.kind, hg]; simp [Obj.kind])
      obtain ⟨l1, l2⟩ := h3 i x hxs
      have hd : ∀ (j : Nat) (u : AV), x.cells[j]? = some u → ∃ d, ((List.range x.cells.length).map fun j => (K.M (K.blk id) (K.off id + i * s + j)).getD undef)[j]? = some d ∧ K.M (K.blk id) (K.off id + i * s + j) = some d ∧ PR K.M u d := by
        intro j u hu
        obtain ⟨d, m1, m2⟩ := l2 j u hu
        refine ⟨d, ?_, m1, m2⟩
        have hj := (List.getElem?_eq_some_iff.1 hu).1
        rw [List.getElem?_map, List.getElem?_range hj]
        simp [m1]
      refine ⟨(List.range x.cells.length).map fun j => (K.M (K.blk id) (K.off id + i * s + j)).getD undef, ⟨by simp, fun j u d hu hd' => ?_⟩, fun j d hd' => ?_⟩
      · obtain ⟨d2, n1, n2, n3⟩ := hd j u hu
        rw [n1] at hd'; injection hd' with hd'; subst hd'
        exact .pure n3
      · have hj := (List.getElem?_eq_some_iff.1 hd').1
        simp at hj
        obtain ⟨d2, n1, n2, n3⟩ := hd j _ (List.getElem?_eq_getElem hj)
        rw [n1] at hd'; injection hd' with hd'; subst hd'
        exact (hS.rel.mem _ _ _ n2).1
    · cases h
  · rename_i sz xs i off
    split at h
    · rename_i x o g1 he
      split at h
      · rename_i v hp
        split at h
        · rename_i v' o' g2 hb
          cases h
          rw [AllP.append_iff] at ho
          obtain rfl := booV_sound hb ho.2
          have hxs := elA_sound he ho.1
          cases hx with
          | pure h => cases h
          | lpt sz xs i off ad n c hx hi =>
            cases hx with
            | lst sz xs ad' c b o f hsz hc hm had hl hM h =>
              have hne : xs ≠ [] := by rintro rfl; simp at hi
              obtain h9 := had.resolve_left hne
              injection h9 with h9; subst h9
              have hlx := hl i x hxs
              refine ⟨v', ?_⟩
              have h1 : VRs K x.cells ((List.range x.cells.length).map fun j => f i j) := by
                refine ⟨by simp, fun j u d hu hd => ?_⟩
                have hj := (List.getElem?_eq_some_iff.1 hu).1
                rw [List.getElem?_map, List.getElem?_range hj] at hd
                injection hd with hd; subst hd
                exact .pure (h i x j u hxs hu)
              obtain ⟨r, h4, h5⟩ := load_at (w := w) (b := b) (o := o + i * sz) h1 (fun j d hd => by
                have hj := (List.getElem?_eq_some_iff.1 hd).1
                simp at hj
                rw [List.getElem?_map, List.getElem?_range hj] at hd
                injection hd with hd; subst hd
                exact (hS.rel.mem _ _ _ (hM i x j _ hxs (List.getElem?_eq_getElem hj))).1) hp
              exact ⟨r, rfl, rfl, h4, h5⟩
        · cases h
      · cases h
    · cases h
  · cases h

theorem heap_same {b : Nat} (cs : Array Value) (T : TypeId) (h : w.heap[b]? = some (.cells cs T (0, 0))) : b < w.heap.size := lt_of_heap h
/-- What holds behind an operation. -/
def Then (P : Program) (K : Ctx) (get : Nat → Obj) (a : Act) (w : World) (o : Oper) (E : Eff) (next : Act → World → Prop) : Prop :=
  ∀ K' w' c, Rel K' (updG get E.wr) w' → K.le K' → (∀ m, Grow m K w K' w') → (∀ v, E.v = some v → VR K' v c) → next (a.put o.dst c) w'

theorem then_value {o : Oper} {E : Eff} {next : Act → World → Prop} {Q : Exit → Act → World → Prop} (hn : Then P K get a w o E next) {K' : Ctx} {w' : World} {c : Value} (hr : (execOp a.eval o).run P w = .ok (.value c) w') (h1 : Rel K' (updG get E.wr) w') (h2 : K.le K') (h3 : ∀ m, Grow m K w K' w') (h4 : ∀ v, E.v = some v → VR K' v c) : o.wp P a w next Q := by
  unfold Oper.wp; rw [hr]; exact hn K' w' c h1 h2 h3 h4
theorem then_skip {o : Oper} {E : Eff} {next : Act → World → Prop} {Q : Exit → Act → World → Prop} (hn : Then P K get a w o E next) {K' : Ctx} {w' : World} (hr : (execOp a.eval o).run P w = .ok .skip w') (h1 : Rel K' (updG get E.wr) w') (h2 : K.le K') (h3 : ∀ m, Grow m K w K' w') (h4 : E.v = none) : o.wp P a w next Q := by
  unfold Oper.wp; rw [hr]; exact hn K' w' undef h1 h2 h3 (fun v hv => by rw [h4] at hv; cases hv)

theorem putG_self {id : Nat} {o : Obj} (h : get id = o) : putG get id o = get := by
  funext i; unfold putG; split
  · rename_i hi; rw [hi, h]
  · rfl

theorem drop_lay {α : Type} (L vs : List α) (o q : Nat) (h : o + q + vs.length ≤ L.length) : (L.take (o + q) ++ vs ++ L.drop (o + q + vs.length)).drop o = (L.drop o).take q ++ vs ++ (L.drop o).drop (q + vs.length) := by
  rw [List.append_assoc, List.drop_append_of_le_length (by simp; omega), List.drop_take, Nat.add_sub_cancel_left, List.drop_drop, List.append_assoc, Nat.add_assoc]
theorem mkEl_cells {x x' : AV} {cs : List AV} (h : mkEl x cs = some x') : x'.cells = cs := by
  unfold mkEl at h
  split at h
  · cases h; rfl
  · split at h
    · cases h
    · rename_i hc
      cases h
      cases x' <;> first | rfl | simp [AV.isAgg] at hc
  · cases h
theorem storeA_sound (hS : RelS K e get a w) {o : Oper} {next : Act → World → Prop} {Q : Exit → Act → World → Prop} {T : TypeId} {xo yo : Operand} (hop : o.op = .store T xo yo) {x y : AV} {g g' : List Gd} {E : Eff} {ob : List Prop} (hx : VR K x (a.eval xo)) (hy : VR K y (a.eval yo)) (h : storeA P get T x y g = some (E, ob, g')) (ho : AllP ob)
    (hn : Then P K get a w o E next) : o.wp P a w next Q := by
  unfold storeA at h
  split at h
  · rename_i ie hi hl
    have hlen := lenB_iff.1 hl
    split at h
    · rename_i id off
      split at h
      · rename_i T' cs hg hcell
        split at h
        · rename_i cs' hs
          cases h
          obtain ⟨hc1, hc2⟩ := hy.cells hcell
          have hk : K.kind id = .var := by rw [hS.kind, hg]; rfl
          obtain ⟨ds, h1, h2, h3⟩ := by have := hS.rel.obj id; rw [hg] at this; exact this
          obtain ⟨hs1, hs2⟩ := setN_eq _ _ _ _ hs
          have hsz : (a.eval yo).cells.size = P.cellsOf T := by have := hc1.1; simp at this; omega
          have haddr : a.eval xo = .pointer (some ⟨K.blk id, off, none⟩) := by
            generalize a.eval xo = c at hx
            cases hx with
            | pure h => cases h
            | ptr id off c hk' hc hp' => rw [hk] at hc; exact hc.resolve_left (by simp)
          have hst := run_storeCells_at P (K.blk id) off T' (a.eval yo).cells.toList 0 ds w h1 (by have := h2.1; simp at this ⊢; have := hc1.1; simp at this; omega) hc2
          simp only [Nat.add_zero] at hst
          have hrun : (execOp a.eval o).run P w = .ok .skip (w.setRow (K.blk id) (ds.toList.take off ++ (a.eval yo).cells.toList ++ ds.toList.drop (off + (a.eval yo).cells.toList.length)).toArray) := by
            simp [execOp, hop, Instr.storeAt, haddr, Instr.sureAddr, storeVar, size_run hi, hsz, hst]
          obtain ⟨r1, r2, r3⟩ := hS.rel.put (id := id) (o := .vars T' cs') (b := K.blk id) (c := K.cap id) (f := K.off id) (w' := w.setRow (K.blk id) (ds.toList.take off ++ (a.eval yo).cells.toList ++ ds.toList.drop (off + (a.eval yo).cells.toList.length)).toArray)
            ((Keeps.refl _ _).setRow (.inl ⟨by unfold Ctx.own; rw [hk]; trivial, rfl⟩) _) (.inr (.inr ⟨hk.symm, rfl, rfl, rfl⟩)) (fun h => by rw [hk] at h; cases h) (by
              refine ⟨(ds.toList.take off ++ (a.eval yo).cells.toList ++ ds.toList.drop (off + (a.eval yo).cells.toList.length)).toArray, ?_, ?_, ?_⟩
              · rw [put_blk]; exact setRow_heap w _ _ _ _ _ h1
              · show VRs _ _ (ds.toList.take off ++ (a.eval yo).cells.toList ++ ds.toList.drop (off + (a.eval yo).cells.toList.length))
                refine VRs.mono (K := K) (K' := K.put id (Obj.vars T' cs').kind (K.blk id) (K.cap id) (K.off id)) ⟨fun _ _ _ h => h, fun i hi => ?_⟩ (h2.setN hc1 hs)
                by_cases he : i = id
                · subst he; rw [put_kind, put_blk, put_cap, put_off]; exact .inr ⟨rfl, rfl, rfl, .inl hk.symm⟩
                · exact .inr (by simp [Ctx.put, he])
              · intro u hu
                simp only [List.mem_append] at hu
                rcases hu with (hu | hu) | hu
                · exact h3 u (List.mem_of_mem_take hu)
                · exact hc2 u hu
                · exact h3 u (List.mem_of_mem_drop hu))
          exact then_skip hn hrun r1 r2 r3 rfl
        · cases h
      · cases h
    · rename_i id s i off
      split at h
      · rename_i T' sz xs hg hshar
        split at h
        · rename_i x0 o1 g1 he hs0
          split at h
          · rename_i cs' hs
            split at h
            · rename_i x' hm
              cases h
              obtain rfl := beq_eq' hs0
              have hcell : allB AV.cell y.cells = true := allB_iff.2 fun u hu => by
                have := allB_iff.1 hshar u hu
                cases u <;> first | rfl | simp [AV.shar] at this
              obtain ⟨hc1, hc2⟩ := hy.cells hcell
              have hxs := elA_sound he ho
              have hilt := (List.getElem?_eq_some_iff.1 hxs).1
              have hk : K.kind id = .row s xs.length := by rw [hS.kind, hg]; rfl
              have hob := hS.rel.obj id
              rw [hg] at hob
              obtain ⟨p0, p1, p2, p3⟩ := hob
              have hne : K.cap id ≠ 0 := by omega
              obtain ⟨ds, h1, h2, h3⟩ := p3 hne
              obtain ⟨hs1, hs2⟩ := setN_eq _ _ _ _ hs
              obtain ⟨hx0, hx1⟩ := h3 i x0 hxs
              have hcx := mkEl_cells hm
              have hsz : (a.eval yo).cells.size = P.cellsOf T := by have := hc1.1; simp at this; omega
              have haddr : a.eval xo = .pointer (some ⟨K.blk id, K.off id + i * s + off, none⟩) := by
                generalize a.eval xo = c at hx
                cases hx with
                | pure h => cases h
                | ept id sz i off c hk' hc hp' => rw [hk] at hc; obtain ⟨n, _, _, hc⟩ := hc.resolve_left (by simp); exact hc
              have hylen : y.cells.length = (a.eval yo).cells.toList.length := hc1.1
              have hpos : (i + 1) * s ≤ K.cap id * s := Nat.mul_le_mul_right _ (by omega)
              rw [Nat.succ_mul] at hpos
              have hst := run_storeCells_at P (K.blk id) (K.off id + i * s + off) T' (a.eval yo).cells.toList 0 ds w h1 (by rw [h2, Nat.add_zero, ← hylen]; omega) hc2
              simp only [Nat.add_zero] at hst
              have hrun : (execOp a.eval o).run P w = .ok .skip (w.setRow (K.blk id) (ds.toList.take (K.off id + i * s + off) ++ (a.eval yo).cells.toList ++ ds.toList.drop (K.off id + i * s + off + (a.eval yo).cells.toList.length)).toArray) := by
                simp [execOp, hop, Instr.storeAt, haddr, Instr.sureAddr, storeVar, size_run hi, hsz, hst]
              obtain ⟨r1, r2, r3⟩ := hS.rel.put (id := id) (o := .row T' s (xs.set i x')) (b := K.blk id) (c := K.cap id) (f := K.off id) (w' := w.setRow (K.blk id) (ds.toList.take (K.off id + i * s + off) ++ (a.eval yo).cells.toList ++ ds.toList.drop (K.off id + i * s + off + (a.eval yo).cells.toList.length)).toArray)
                ((Keeps.refl _ _).setRow (.inl ⟨by unfold Ctx.own; rw [hk]; exact hne, rfl⟩) _) (.inr (.inr ⟨by rw [hk]; simp [Obj.kind], rfl, rfl, rfl⟩)) (fun h => by rw [hk] at h; cases h) (by
                  refine ⟨p0, by rw [put_cap]; simpa using p1, by rw [put_cap]; exact p2, fun _ => ⟨(ds.toList.take (K.off id + i * s + off) ++ (a.eval yo).cells.toList ++ ds.toList.drop (K.off id + i * s + off + (a.eval yo).cells.toList.length)).toArray, ?_, ?_, ?_⟩⟩
                  · rw [put_blk]; exact setRow_heap w _ _ _ _ _ h1
                  · rw [put_cap, put_off]; simp; omega
                  · rw [put_off, Nat.add_assoc (K.off id)]
                    show PRows _ _ _ (List.drop _ (ds.toList.take (K.off id + (i * s + off)) ++ (a.eval yo).cells.toList ++ ds.toList.drop (K.off id + (i * s + off) + (a.eval yo).cells.toList.length)))
                    rw [drop_lay _ _ _ _ (by simp; omega)]
                    have hD : (ds.toList.drop (K.off id)).length = K.cap id * s := by simp; omega
                    generalize hDD : ds.toList.drop (K.off id) = D at h3 hx1 hD
                    have hne' : ∀ (k : Nat) (d : Value), k < i * s + off ∨ i * s + off + (a.eval yo).cells.toList.length ≤ k → D[k]? = some d → (D.take (i * s + off) ++ (a.eval yo).cells.toList ++ D.drop (i * s + off + (a.eval yo).cells.toList.length))[k]? = some d := by
                      intro k d hk hd
                      rcases hk with hk | hk
                      · rw [List.append_assoc, List.getElem?_append_left (by simp; omega), List.getElem?_take, if_pos hk]; exact hd
                      · rw [List.getElem?_append_right (by simp; omega), List.getElem?_drop]
                        have : (D.take (i * s + off) ++ (a.eval yo).cells.toList).length = i * s + off + (a.eval yo).cells.toList.length := by simp; omega
                        rw [this, show i * s + off + (a.eval yo).cells.toList.length + (k - (i * s + off + (a.eval yo).cells.toList.length)) = k by omega]; exact hd
                    intro k x1 hx1'
                    rw [List.getElem?_set] at hx1'
                    by_cases hki : i = k
                    · subst hki
                      rw [if_pos rfl, if_pos hilt] at hx1'
                      injection hx1' with hx1'; subst hx1'
                      rw [hcx]
                      refine ⟨by rw [hs1]; simp; omega, fun j u hu => ?_⟩
                      rw [hs1] at hu
                      by_cases hj1 : j < off
                      · rw [List.append_assoc, List.getElem?_append_left (by simp; omega), List.getElem?_take, if_pos hj1] at hu
                        obtain ⟨d, d1, d2⟩ := hx1 j u hu
                        exact ⟨d, hne' _ d (.inl (by omega)) d1, d2⟩
                      · by_cases hj2 : j < off + y.cells.length
                        · rw [List.getElem?_append_left (by simp; omega), List.getElem?_append_right (by simp; omega)] at hu
                          have e1 : (x0.cells.take off).length = off := by simp; omega
                          rw [e1] at hu
                          obtain ⟨d, d1, d2⟩ := hc1.at_ hu
                          refine ⟨d, ?_, d2.pure_of (allB_iff.1 hshar u (List.mem_of_getElem? hu))⟩
                          rw [List.append_assoc, List.getElem?_append_right (by simp; omega), List.getElem?_append_left (by simp; omega)]
                          have e2 : (D.take (i * s + off)).length = i * s + off := by simp; omega
                          rw [e2, show i * s + j - (i * s + off) = j - off by omega]
                          simpa using d1
                        · rw [List.getElem?_append_right (by simp; omega)] at hu
                          have e1 : (x0.cells.take off ++ y.cells).length = off + y.cells.length := by simp; omega
                          rw [e1, List.getElem?_drop, show off + y.cells.length + (j - (off + y.cells.length)) = j by omega] at hu
                          obtain ⟨d, d1, d2⟩ := hx1 j u hu
                          exact ⟨d, hne' _ d (.inr (by omega)) d1, d2⟩
                    · rw [if_neg hki] at hx1'
                      obtain ⟨q1, q2⟩ := h3 k x1 hx1'
                      refine ⟨q1, fun j u hu => ?_⟩
                      obtain ⟨d, d1, d2⟩ := q2 j u hu
                      have hjs : j < s := by rw [← q1]; exact (List.getElem?_eq_some_iff.1 hu).1
                      refine ⟨d, hne' _ d ?_ d1, d2⟩
                      rcases Nat.lt_or_gt_of_ne hki with hki | hki
                      · have := Nat.mul_le_mul_right s hki
                        rw [Nat.succ_mul] at this
                        exact .inr (by omega)
                      · have := Nat.mul_le_mul_right s hki
                        rw [Nat.succ_mul] at this
                        exact .inl (by omega))
              exact then_skip hn hrun r1 r2 r3 rfl
            · cases h
          · cases h
        · cases h
      · cases h
    · cases h
  · cases h
end
end Go.Proofs.Ytidgcfgkcidkiaa.X
