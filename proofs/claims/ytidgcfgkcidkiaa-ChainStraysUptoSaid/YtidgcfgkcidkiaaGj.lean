/- A library of no program: new memory. -/
import Derived.Test.YtidgcfgkcidkiaaGi
namespace Go.Proofs.Ytidgcfgkcidkiaa.X
open Go Go.Proofs.Ytidgcfgkcidkiaa.L Go.RowKit
set_option linter.unusedVariables false
set_option linter.unusedSimpArgs false

section
variable {P : Program} {K : Ctx} {e : Nat → Option AV} {get : Nat → Obj} {a : Act} {w : World}

/-- A variable is made. -/
theorem new_vars (hS : RelS K e get a w) {o : Oper} {next : Act → World → Prop} {Q : Exit → Act → World → Prop} {base : Nat} {T : TypeId} {cs : List AV} {ds : Array Value} (hb : get base = .hole) (hc : VRs K cs ds.toList) (h1 : ∀ u ∈ ds.toList, u.oneCell' = true)
    (hr : (execOp a.eval o).run P w = .ok (.value (.pointer (some ⟨w.heap.size, 0, none⟩))) (w.alloc (.cells ds T)))
    (hn : Then P K get a w o ⟨some (.ptr base 0), [], [(base, .vars T cs)], 1⟩ next) : o.wp P a w next Q := by
  have hk : K.kind base = .hole := by rw [hS.kind, hb]; rfl
  have hle : K.le (K.put base (Obj.vars T cs).kind w.heap.size 0 0) := ⟨fun _ _ _ h => h, fun i hi => by
    by_cases he : i = base
    · subst he; exact absurd hk hi
    · exact .inr (by simp [Ctx.put, he])⟩
  obtain ⟨r1, r2, r3⟩ := hS.rel.put (id := base) (o := .vars T cs) (b := w.heap.size) (c := 0) (f := 0) (w' := w.alloc (.cells ds T)) ((Keeps.refl _ _).alloc _) (.inl hk) (fun _ => Nat.le_refl _)
    ⟨ds, by rw [put_blk]; exact heap_alloc_new w _, hc.mono hle, h1⟩
  exact then_value hn hr r1 r2 r3 (by rintro v ⟨rfl⟩; exact .ptr _ _ _ (by rw [put_kind]; simp [Obj.kind]) (.inr (by rw [put_blk])) ⟨_, rfl⟩)
theorem cst1_cell {v : Value} {u : AV} (h : cst1 v = some u) : u.cell = true ∧ u.shar = true ∧ v.oneCell' = true := by
  unfold cst1 at h
  split at h <;> cases h <;> exact ⟨rfl, rfl, rfl⟩
theorem cstL_cell : ∀ (vs : List Value) (us : List AV), cstL vs = some us → (∀ u ∈ us, u.cell = true ∧ u.shar = true) ∧ ∀ v ∈ vs, v.oneCell' = true
  | [], us, h => by cases h; simp
  | v :: vs, us, h => by
    simp only [cstL] at h
    split at h
    · rename_i u hu
      split at h
      · rename_i ws hws
        cases h
        obtain ⟨h1, h2⟩ := cstL_cell vs ws hws
        obtain ⟨k1, k2, k3⟩ := cst1_cell hu
        exact ⟨by simp only [List.mem_cons, forall_eq_or_imp]; exact ⟨⟨k1, k2⟩, h1⟩, by simp only [List.mem_cons, forall_eq_or_imp]; exact ⟨k3, h2⟩⟩
      · cases h
    · cases h
theorem cst_cells {v : Value} {u : AV} (h : cst v = some u) : VRs K u.cells v.cells.toList ∧ (∀ x ∈ u.cells, x.shar = true) := by
  unfold cst at h
  split at h
  · rename_i cs
    split at h
    · rename_i us hus
      cases h
      exact ⟨cstL_sound _ _ hus, fun x hx => ((cstL_cell _ _ hus).1 x hx).2⟩
    · cases h
  · rename_i hna
    obtain ⟨k1, k2, k3⟩ := cst1_cell h
    have e1 : u.cells = [u] := by cases u <;> first | rfl | simp [AV.cell] at k1
    have e2 : v.cells.toList = [v] := by cases v <;> first | rfl | simp [Value.oneCell'] at k3
    rw [e1, e2]
    exact ⟨.cons (cst1_sound h) .nil, by simpa using k2⟩
theorem alloc_sound (hS : RelS K e get a w) {o : Oper} {next : Act → World → Prop} {Q : Exit → Act → World → Prop} {base : Nat} {T : TypeId} {cs : List AV} (hop : o.op = .alloc T) (hb : get base = .hole) (hz : zerosA P T = some cs)
    (hn : Then P K get a w o ⟨some (.ptr base 0), [], [(base, .vars T cs)], 1⟩ next) : o.wp P a w next Q := by
  unfold zerosA at hz
  split at hz
  · rename_i i hi
    split at hz
    · rename_i v hv
      refine new_vars hS hb (cstL_sound _ _ hz) (cstL_cell _ _ hz).2 ?_ hn
      simp [execOp, hop, Instr.alloc, zeroValue, typeInfo, hi, hv, newVar, newRow]
    · cases hz
  · cases hz
theorem box_sound (hS : RelS K e get a w) {o : Oper} {next : Act → World → Prop} {Q : Exit → Act → World → Prop} {base : Nat} {T : TypeId} {x : Operand} {v : AV} (hop : o.op = .box T x) (hb : get base = .hole) (hv : opv e x = some v) (hc : allB AV.cell v.cells = true)
    (hn : Then P K get a w o ⟨some (.ptr base 0), [], [(base, .vars T v.cells)], 1⟩ next) : o.wp P a w next Q := by
  obtain ⟨h1, h2⟩ := (opv_sound hS hv).cells hc
  refine new_vars hS hb h1 h2 ?_ hn
  simp [execOp, hop, Instr.box, newVar, newRow]

/-- A row is made. -/
theorem new_row (hS : RelS K e get a w) {o : Oper} {next : Act → World → Prop} {Q : Exit → Act → World → Prop} {base n m sz : Nat} {T : TypeId} {xs : List AV} {ds : Array Value} (hb : get base = .hole) (hx : PRows K.M sz xs ds.toList) (h0 : 0 < sz) (hl : xs.length = n) (hnm : n ≤ m) (hm : m ≤ maxLen) (hd : ds.size = m * sz)
    (hr : (execOp a.eval o).run P w = .ok (.value (.slice (some ⟨w.heap.size, 0, none⟩) n m)) (w.alloc (.cells ds T)))
    (hn : Then P K get a w o ⟨some (.row base sz n), [], [(base, .row T sz xs)], 1⟩ next) : o.wp P a w next Q := by
  have hk : K.kind base = .hole := by rw [hS.kind, hb]; rfl
  obtain ⟨r1, r2, r3⟩ := hS.rel.put (id := base) (o := .row T sz xs) (b := w.heap.size) (c := m) (f := 0) (w' := w.alloc (.cells ds T)) ((Keeps.refl _ _).alloc _) (.inl hk) (fun _ => Nat.le_refl _)
    ⟨h0, by rw [put_cap]; omega, by rw [put_cap]; exact hm, fun _ => ⟨ds, by rw [put_blk]; exact heap_alloc_new w _, by rw [put_cap, put_off, Nat.zero_add]; exact hd, by rw [put_off]; exact hx⟩⟩
  exact then_value hn hr r1 r2 r3 (by
    rintro v ⟨rfl⟩
    refine .row _ _ _ _ (by rw [put_kind]; simp [Obj.kind]) (.inr ⟨.inl (by rw [put_kind, Obj.kind, hl]), _, by rw [put_cap], fun _ => by rw [put_blk, put_off]⟩) ⟨_, _, rfl, hnm, hm, fun _ => ⟨_, rfl⟩⟩)

/-- An element is set. -/
theorem PRows.setE {M : Nat → Nat → Option Value} {sz i : Nat} {xs : List AV} {ds vs : List Value} {y : AV} (h : PRows M sz xs ds) (hi : i < xs.length) (hd : xs.length * sz ≤ ds.length) (hy : y.cells.length = sz) (hv : vs.length = sz) (hp : ∀ (j : Nat) (u : AV) (d : Value), y.cells[j]? = some u → vs[j]? = some d → PR M u d) :
    PRows M sz (xs.set i y) (ds.take (i * sz) ++ vs ++ ds.drop (i * sz + vs.length)) := by
  have hpos : (i + 1) * sz ≤ xs.length * sz := Nat.mul_le_mul_right _ (by omega)
  rw [Nat.succ_mul] at hpos
  have hne' : ∀ (k : Nat) (d : Value), k < i * sz ∨ i * sz + vs.length ≤ k → ds[k]? = some d → (ds.take (i * sz) ++ vs ++ ds.drop (i * sz + vs.length))[k]? = some d := by
    intro k d hk hd
    rcases hk with hk | hk
    · rw [List.append_assoc, List.getElem?_append_left (by simp; omega), List.getElem?_take, if_pos hk]; exact hd
    · rw [List.getElem?_append_right (by simp; omega), List.getElem?_drop]
      have : (ds.take (i * sz) ++ vs).length = i * sz + vs.length := by simp; omega
      rw [this, show i * sz + vs.length + (k - (i * sz + vs.length)) = k by omega]; exact hd
  intro k x1 hx1
  rw [List.getElem?_set] at hx1
  by_cases hki : i = k
  · subst hki
    rw [if_pos rfl, if_pos hi] at hx1
    injection hx1 with hx1; subst hx1
    refine ⟨hy, fun j u hu => ?_⟩
    have hj := (List.getElem?_eq_some_iff.1 hu).1
    have hd' : vs[j]? = some (vs[j]'(by omega)) := List.getElem?_eq_getElem (by omega)
    refine ⟨_, ?_, hp j u _ hu hd'⟩
    rw [List.append_assoc, List.getElem?_append_right (by simp; omega), List.getElem?_append_left (by simp; omega)]
    have e2 : (ds.take (i * sz)).length = i * sz := by simp; omega
    rw [e2, Nat.add_sub_cancel_left]; exact hd'
  · rw [if_neg hki] at hx1
    obtain ⟨q1, q2⟩ := h k x1 hx1
    refine ⟨q1, fun j u hu => ?_⟩
    obtain ⟨d, d1, d2⟩ := q2 j u hu
    have hjs : j < sz := by rw [← q1]; exact (List.getElem?_eq_some_iff.1 hu).1
    refine ⟨d, hne' _ d ?_ d1, d2⟩
    rcases Nat.lt_or_gt_of_ne hki with hki | hki
    · have := Nat.mul_le_mul_right sz hki
      rw [Nat.succ_mul] at this
      exact .inr (by omega)
    · have := Nat.mul_le_mul_right sz hki
      rw [Nat.succ_mul] at this
      exact .inl (by omega)
theorem setN_one {α : Type} {l r : List α} {i : Nat} {y : α} (h : setN l i [y] = some r) : r = l.set i y ∧ i < l.length := by
  obtain ⟨h1, h2⟩ := setN_eq _ _ _ _ h
  simp at h2
  refine ⟨?_, by omega⟩
  rw [h1, List.set_eq_take_append_cons_drop, if_pos (by omega)]
  simp
theorem elsA_sound (hS : RelS K e get a w) {sz : Nat} : ∀ (parts : List (Nat × Operand)) (xs r : List AV) (ds : Array Value), elsA P e sz xs parts = some r → PRows K.M sz xs ds.toList → ds.size = xs.length * sz →
    ∃ ds', Instr.fill (fun i => some (i * sz, sz)) ds (parts.map fun x => (x.1, a.eval x.2)) = some ds' ∧ PRows K.M sz r ds'.toList ∧ ds'.size = ds.size ∧ r.length = xs.length
  | [], xs, r, ds, h, hd, hl => by cases h; exact ⟨ds, rfl, hd, rfl, rfl⟩
  | (i, x) :: ps, xs, r, ds, h, hd, hl => by
    simp only [elsA] at h
    split at h
    · rename_i v hv
      split at h
      · rename_i hlen hsh
        split at h
        · rename_i c hs
          have hv' := opv_sound hS hv
          have hcell : allB AV.cell v.cells = true := allB_iff.2 fun u hu => by
            have := allB_iff.1 hsh u hu
            cases u <;> first | rfl | simp [AV.shar] at this
          obtain ⟨h1, _⟩ := hv'.cells hcell
          obtain ⟨rfl, hi⟩ := setN_one hs
          have h3 := lenB_iff.1 hlen
          have h4 : (a.eval x).cells.toList.length = sz := by rw [← h1.1]; exact h3
          have h4' : (a.eval x).cells.size = sz := by simpa using h4
          have hpos : (i + 1) * sz ≤ xs.length * sz := Nat.mul_le_mul_right _ (by omega)
          rw [Nat.succ_mul] at hpos
          have e1 : ((a.eval x).cells.zipIdx.foldl (fun cs (c, j) => cs.setIfInBounds (i * sz + j) c) ds).toList = ds.toList.take (i * sz) ++ (a.eval x).cells.toList ++ ds.toList.drop (i * sz + (a.eval x).cells.toList.length) := by
            rw [← Array.foldl_toList, Array.toList_zipIdx]
            simpa using fold_seg (a.eval x).cells.toList (i * sz) 0 ds (by rw [h4]; omega)
          have e2 : ((a.eval x).cells.zipIdx.foldl (fun cs (c, j) => cs.setIfInBounds (i * sz + j) c) ds).size = ds.size := by
            rw [← Array.length_toList, e1]; simp; omega
          obtain ⟨ds', hf, hr, hsz, hrl⟩ := elsA_sound hS ps _ r _ h (by
            rw [e1]
            exact PRows.setE hd hi (by simp; omega) h3 h4 fun j u d hu hd => (h1.2 j u d hu hd).pure_of (allB_iff.1 hsh u (List.mem_of_getElem? hu))) (by rw [e2, hl]; simp)
          refine ⟨ds', ?_, hr, hsz.trans e2, by rw [hrl]; simp⟩
          simp only [List.map_cons, Instr.fill]
          rw [if_neg (by simp [h4']; omega)]
          exact hf
        · cases h
      · cases h
    · cases h
/-- Zeros. -/
theorem zeros_rows {n m sz : Nat} {z : AV} {zv : Value} (h : cst zv = some z) (hz : z.cells.length = sz) (hnm : n ≤ m) (h0 : 0 < sz) : PRows K.M sz (List.replicate n z) ((Array.range (m * sz)).map (zv.cells[· % zv.cells.size]!)).toList := by
  obtain ⟨h1, h2⟩ := cst_cells (K := K) h
  have hs : zv.cells.size = sz := by have := h1.1; simp at this; omega
  intro i x hx
  rw [List.getElem?_replicate] at hx
  split at hx
  · rename_i hi
    injection hx with hx; subst hx
    refine ⟨hz, fun j u hu => ?_⟩
    have hj := (List.getElem?_eq_some_iff.1 hu).1
    obtain ⟨d, d1, d2⟩ := h1.at_ hu
    refine ⟨d, ?_, d2.pure_of (h2 u (List.mem_of_getElem? hu))⟩
    have hpos : (i + 1) * sz ≤ m * sz := Nat.mul_le_mul_right _ (by omega)
    rw [Nat.succ_mul] at hpos
    have hlt : i * sz + j < m * sz := by omega
    simp only [Array.toList_map, Array.toList_range, List.getElem?_map, List.getElem?_range hlt, Option.map_some]
    have e : (i * sz + j) % zv.cells.size = j := by rw [hs, Nat.mul_comm, Nat.mul_add_mod]; exact Nat.mod_eq_of_lt (by omega)
    rw [e]
    have hd : zv.cells[j]? = some d := by simpa using d1
    rw [getElem!_pos zv.cells j (by omega)]
    rw [Array.getElem?_eq_getElem (by omega)] at hd
    exact hd
  · cases hx
theorem zeroA_inv {T : TypeId} {z : AV} (h : zeroA P T = some z) : ∃ i v, P.info? T = some i ∧ i.zero = some v ∧ cst v = some z ∧ z.cells.length = i.size := by
  unfold zeroA at h
  split at h
  · rename_i i hi
    split at h
    · rename_i v hv
      split at h
      · rename_i z' hz
        split at h
        · rename_i hl
          cases h
          exact ⟨i, v, hi, hv, hz, lenB_iff.1 hl⟩
        · cases h
      · cases h
    · cases h
  · cases h
theorem buildSlice_sound (hS : RelS K e get a w) {o : Oper} {next : Act → World → Prop} {Q : Exit → Act → World → Prop} {base len : Nat} {T el : TypeId} {parts : Array (Nat × Operand)} {i : TypeInfo} {z : AV} {xs : List AV} (hop : o.op = .buildSlice T len parts) (hb : get base = .hole)
    (hu : P.underlying T = some (.slice el)) (hi : P.info? el = some i) (hz : zeroA P el = some z) (h0 : 0 < i.size) (hsm : len * i.size ≤ 16777216) (hx : elsA P e i.size (List.replicate len z) parts.toList = some xs)
    (hn : Then P K get a w o ⟨some (.row base i.size len), [], [(base, .row el i.size xs)], 1⟩ next) : o.wp P a w next Q := by
  obtain ⟨i', v, hi', hv, hc, hzl⟩ := zeroA_inv hz
  rw [hi] at hi'; injection hi' with hi'; subst hi'
  by_cases hl0 : len = 0
  · subst hl0
    have hxs : xs = [] ∧ parts.toList = [] := by
      cases hp : parts.toList with
      | nil => rw [hp] at hx; cases hx; exact ⟨rfl, rfl⟩
      | cons p ps =>
        rw [hp] at hx
        simp only [elsA] at hx
        split at hx
        · split at hx
          · split at hx
            · rename_i c hs
              have := (setN_one hs).2
              simp at this
            · cases hx
          · cases hx
        · cases hx
    obtain ⟨rfl, hp⟩ := hxs
    have hp' : parts = #[] := by cases parts; simp at hp; subst hp; rfl
    subst hp'
    refine new_row (m := 0) (ds := #[]) hS hb (fun i x hx => by simp at hx) h0 rfl (Nat.le_refl _) (Nat.zero_le _) (by simp) ?_ hn
    simp [execOp, hop, Instr.buildSlice, run_underlying hu, sizeOf, typeInfo, hi, Instr.fill, newRow]
    congr 2; apply Array.ext'; simp
  · obtain ⟨ds', hf, hr, hsz, hrl⟩ := elsA_sound hS parts.toList _ xs ((Array.range (len * i.size)).map (v.cells[· % v.cells.size]!)) hx (zeros_rows hc hzl (Nat.le_refl _) h0) (by simp)
    have hpos : ¬ len * i.size = 0 := by
      have := Nat.mul_pos (Nat.pos_of_ne_zero hl0) h0; omega
    have hrun := run_buildSlice (P := P) w T el len (parts.map fun (i, x) => (i, a.eval x)) ds' i v hu hi hv (by omega) hpos (by rw [Array.toList_map]; exact hf)
    refine new_row (m := len) (ds := ds') hS hb hr h0 (by rw [hrl]; simp) (Nat.le_refl _) ?_ (by rw [hsz]; simp) ?_ hn
    · have := Nat.le_mul_of_pos_right len h0
      simp only [maxLen]; omega
    · simp only [execOp, hop, Sem.run_bind, hrun, Result.andThen_ok, Sem.run_pure]
theorem makeSlice_sound (hS : RelS K e get a w) {o : Oper} {next : Act → World → Prop} {Q : Exit → Act → World → Prop} {base n m : Nat} {T el : TypeId} {l c : Operand} {i : TypeInfo} {z : AV} {k k' : IntKind} (hop : o.op = .makeSlice T l c) (hb : get base = .hole)
    (hu : P.underlying T = some (.slice el)) (hi : P.info? el = some i) (hz : zeroA P el = some z) (h0 : 0 < i.size) (hl : a.eval l = .int k (n : Int)) (hc' : a.eval c = .int k' (m : Int)) (hnm : n ≤ m) (hm : m ≤ 140737488355328) (hm2 : m * i.bytes ≤ 140737488355328)
    (hn : Then P K get a w o ⟨some (.row base i.size n), [], [(base, .row el i.size (List.replicate n z))], 1⟩ next) : o.wp P a w next Q := by
  obtain ⟨i', v, hi', hv, hc, hzl⟩ := zeroA_inv hz
  rw [hi] at hi'; injection hi' with hi'; subst hi'
  have e1 : IntKind.i64.wrap (n : Int) = n := by simp [IntKind.wrap, IntKind.bits, IntKind.signed]; omega
  have e2 : IntKind.i64.wrap (m : Int) = m := by simp [IntKind.wrap, IntKind.bits, IntKind.signed]; omega
  have e3 : ((i.bytes : Int) * (m : Int)) = ((m * i.bytes : Nat) : Int) := by rw [Nat.mul_comm]; simp
  have e4 : ¬ ((m : Int) < 0) := by omega
  have e5 : ¬ ((i.bytes : Int) * (m : Int) > 281474976710656) := by rw [e3]; omega
  have e6 : ¬ ((n : Int) < 0) := by omega
  have e7 : ¬ ((n : Int) > (m : Int)) := by omega
  refine new_row (m := m) (ds := (Array.range (m * i.size)).map (v.cells[· % v.cells.size]!)) hS hb (zeros_rows hc hzl hnm h0) h0 (by simp) hnm (by simp only [maxLen]; omega) (by simp) ?_ hn
  by_cases hm0 : m = 0
  · subst hm0
    obtain rfl : n = 0 := by omega
    simp [execOp, hop, Instr.makeSlice, run_underlying hu, hl, hc', asInt, asIntOf, typeInfo, hi, sizeOf, newRow, IntKind.wrap, IntKind.bits, IntKind.signed]
    congr 2; apply Array.ext'; simp
  · have hp : ¬ m * i.size = 0 := by have := Nat.mul_pos (Nat.pos_of_ne_zero hm0) h0; omega
    simp [execOp, hop, Instr.makeSlice, run_underlying hu, hl, hc', asInt, asIntOf, typeInfo, hi, sizeOf, newRow, e1, e2, e4, e5, e6, e7, hp, zeroValue, hv]
end
end Go.Proofs.Ytidgcfgkcidkiaa.X
