/- slices.Sort, slices.Compact at ints, as calls over rows. -/
import Derived.Test.YtidgcfgkcidkiaaChK
import Derived.Test.YtidgcfgkcidkiaaChD
namespace Go.Proofs.Ytidgcfgkcidkiaa.Ch
open Go Go.RowKit Go.Proofs Go.Proofs.Ytidgcfgkcidkiaa.L Go.Proofs.Ytidgcfgkcidkiaa.X
set_option linter.unusedVariables false
set_option linter.unusedSimpArgs false

def sortL (l : List Int) : List Int := l.mergeSort fun x y => decide (x ≤ y)
theorem sort_calls (blk off cap : Nat) (zs : List Int) (w : World) (hH : Go.Sort.Holds (Value.int .i64) w blk off zs.toArray) (hblk : blk < w.heap.size) (hsz : zs.length < 4611686018427387904) :
    Calls Try.prog 40 #[.slice (some ⟨blk, off, none⟩) zs.length cap] w fun e w' => e = .returned (.tuple #[]) ∧ ∃ n os, w' = Go.Sort.grow (Go.Sort.putRow (Value.int .i64) (Go.Sort.ahead w n) blk off (sortL zs).toArray) os :=
  calls_of_every_depth fun D => AnyS.slices_Sort_int_alone sortLays D blk off cap zs w hH hblk hsz
theorem sort0_calls (p : Option Addr) (cap : Nat) (w : World) : Calls Try.prog 40 #[.slice p 0 cap] w fun e w' => e = .returned (.tuple #[]) ∧ w' = w :=
  Any.slices_Sort_int_none sortLays p cap w
theorem sortL_length (l : List Int) : (sortL l).length = l.length := by unfold sortL; exact List.length_mergeSort _
theorem heap_at {w : World} {g n off : Nat} {os : Array Go.Obj} {cur : Array Value} {e : TypeId} {fr : Nat × Nat} (d : Array Int) (hb : w.heap[g]? = some (.cells cur e fr)) :
    (Go.Sort.grow (Go.Sort.putRow (Value.int .i64) (Go.Sort.ahead w n) g off d) os).heap[g]? = some (.cells (Go.Sort.putCells (Value.int .i64) off d cur) e fr) := by
  have hg : g < w.heap.size := (Array.getElem?_eq_some_iff.1 hb).1
  rw [Go.Sort.heap_grow_old _ _ (by simpa using hg)]
  simp [Go.Sort.putRow, Go.Sort.mapBlock, Go.Sort.ahead, Array.getElem?_modify, hb, Go.Sort.onCells]
theorem keeps_sorted {w : World} {g n off : Nat} {os : Array Go.Obj} (d : Array Int) : Keeps (fun b => b = g) w (Go.Sort.grow (Go.Sort.putRow (Value.int .i64) (Go.Sort.ahead w n) g off d) os) := by
  refine ⟨rfl, rfl, rfl, by simp, fun k hk hne => ?_⟩
  rw [Go.Sort.heap_grow_old _ _ (by simpa using hk)]
  have : g ≠ k := fun e => hne e.symm
  simp [Go.Sort.putRow, Go.Sort.mapBlock, Go.Sort.ahead, Array.getElem?_modify, this]
theorem sort_tu (l : List Int) (hb : l.length ≤ 1099511627776) : ATurn Try.prog 40 [.row 0 1 l.length] 3 1 (l.map intA) ((sortL l).map intA) (.tup []) := by
  refine ⟨⟨_, Try.func40, rfl, rfl⟩, fun K w cs hR hcs => ?_⟩
  obtain ⟨c, cs', rfl, hc, h2⟩ := hcs.cons_inv
  rw [h2.nil_inv]
  have hk0 : K.kind 0 = .row 1 l.length := by rw [hR.kinds]; simp [getO, X.Obj.kind]
  obtain ⟨_, o1, o2, o3⟩ := hR.obj 0
  simp only [List.length_map] at o1
  cases hc with
  | pure h => cases h
  | row id sz len c hk h hp =>
    rw [hk0] at h
    obtain ⟨_, ad, rfl, ha⟩ := h.resolve_left (by simp)
    by_cases hl : l = []
    · subst hl
      refine (sort0_calls ad (K.cap 0) w).mono ?_
      rintro e w' ⟨rfl, rfl⟩
      exact ⟨_, rfl, by rw [show sortL [] = [] by simp [sortL]]; exact hR, Keeps.refl _ _, fun _ => .mkTup .nil⟩
    · have hpos := List.length_pos_iff.2 hl
      have hcap : K.cap 0 ≠ 0 := by omega
      obtain rfl := ha hcap
      obtain ⟨ds, g1, g2, g3⟩ := o3 hcap
      have hH : Go.Sort.Holds (Value.int .i64) w (K.blk 0) (K.off 0) l.toArray := by
        intro j hj
        have hj' : j < l.length := by simpa using hj
        obtain ⟨_, q⟩ := g3 j (intA l[j]) (by simp [List.getElem?_eq_getElem hj'])
        obtain ⟨d, q1, q2⟩ := q 0 (intA l[j]) rfl
        cases q2
        refine ⟨?_, freeOf g1 _⟩
        rw [List.getElem?_drop] at q1
        simp only [Nat.mul_one, Nat.add_zero, Array.getElem?_toList] at q1
        rw [cellOf g1 _ q1]
        simp [hj']
      refine (sort_calls (K.blk 0) (K.off 0) (K.cap 0) l w hH (lt_of_heap g1) (by omega)).mono ?_
      rintro e w' ⟨rfl, n, os, rfl⟩
      have hw1 := heap_at (n := n) (os := os) (off := K.off 0) (sortL l).toArray g1
      have hkeep := keeps_sorted (w := w) (g := K.blk 0) (n := n) (os := os) (off := K.off 0) (sortL l).toArray
      have hown : K.own 0 := by unfold Ctx.own; rw [hk0]; exact hcap
      obtain ⟨r1, r2⟩ := hR.change (K' := K) (get' := getO [.row 3 1 ((sortL l).map intA)]) (fun i => i = 0) (Ctx.le_refl K) (fun i hi => ⟨rfl, rfl, rfl, rfl, by
          match i, hi with
          | 0, hi => exact absurd rfl hi
          | i + 1, _ => simp [getO]⟩) (hkeep.mono fun b _ hb => ⟨0, rfl, hown, hb.symm⟩) (by rintro i rfl; rw [hk0]; simp [getO, X.Obj.kind, sortL_length]) (by rintro i rfl hv; rw [hk0] at hv; cases hv) (by
          rintro i rfl
          refine ⟨by decide, by simpa [sortL_length] using o1, o2, fun _ => ⟨_, hw1, by simpa [Go.Sort.putCells] using g2, fun i x hx => ?_⟩⟩
          rw [List.getElem?_map] at hx
          cases hy : (sortL l)[i]? with
          | none => rw [hy] at hx; cases hx
          | some y =>
            rw [hy] at hx; injection hx with hx; subst hx
            have hi : i < (sortL l).length := (List.getElem?_eq_some_iff.1 hy).1
            refine ⟨rfl, fun j u hu => ?_⟩
            match j, hu with
            | 0, hu =>
              cases hu
              refine ⟨.int .i64 y, ?_, .int _ _⟩
              have hs := sortL_length l
              have hlt : K.off 0 + i < ds.size := by omega
              rw [List.getElem?_drop, Nat.mul_one, Nat.add_zero, Array.getElem?_toList]
              simp only [Go.Sort.putCells, Array.getElem?_mapIdx, Array.getElem?_eq_getElem hlt, Option.map_some]
              rw [if_pos ⟨by omega, by simpa using hi⟩, show K.off 0 + i - K.off 0 = i by omega]
              have : (sortL l).toArray[i]! = y := by
                rw [getElem!_pos (sortL l).toArray i (by simpa using hi)]
                simpa using (List.getElem?_eq_some_iff.1 hy).2
              rw [this]
            | j + 1, hu => simp [intA, AV.cells] at hu) (by rintro i rfl _; exact .inl ⟨0, rfl, hown, rfl⟩) (by rintro i j rfl rfl; intros; rfl) (fun b o v h => .inl h)
      exact ⟨_, rfl, r1, (r2 0).keeps, fun _ => .mkTup .nil⟩
theorem compactUpTo_length (d : Array Int) : ∀ m, (Go.Lib.compactUpTo d m).length ≤ m
  | 0 => by simp [Go.Lib.compactUpTo]
  | m + 1 => by
    rw [Go.Lib.compactUpTo_succ, List.length_append]
    have := compactUpTo_length d m
    split <;> simp <;> omega
theorem compact_length (l : List Int) : (Go.Lib.compact l).length ≤ l.length := compactUpTo_length _ _
/-- A row that comes back shorter, in its place. -/
theorem shorter {K : Ctx} {w w' : World} {l xs : List AV} {T T2 : TypeId} (hR : Rel K (getO [.row T 1 l]) w) (hk : K.cap 0 ≠ 0 → Keeps (fun b => b = K.blk 0) w w') (hk0 : K.cap 0 = 0 → w' = w) (hx : xs.length ≤ K.cap 0)
    (ho : K.cap 0 ≠ 0 → ∃ ds, w'.heap[K.blk 0]? = some (.cells ds T2 (0, 0)) ∧ ds.size = K.off 0 + K.cap 0 * 1 ∧ PRows K.M 1 xs (ds.toList.drop (K.off 0))) :
    ∃ K', Rel K' (getO [.gone, .row T2 1 xs]) w' ∧ (∀ m, Grow m K w K' w') ∧ K'.kind 1 = .row 1 xs.length ∧ K'.cap 1 = K.cap 0 ∧ K'.blk 1 = K.blk 0 ∧ K'.off 1 = K.off 0 := by
  have hkd : K.kind 0 = .row 1 l.length := by rw [hR.kinds]; simp [getO, X.Obj.kind]
  have hkh : ∀ i, 1 ≤ i → K.kind i = .hole := fun i hi => by
    rw [hR.kinds]
    match i, hi with
    | i + 1, _ => simp [getO, X.Obj.kind]
  obtain ⟨_, o1, o2, o3⟩ := hR.obj 0
  let K' : Ctx := ⟨K.M, fun i => if i = 1 then K.blk 0 else K.blk i, fun i => if i = 1 then K.cap 0 else K.cap i, fun i => if i = 1 then K.off 0 else K.off i, fun i => (getO [.gone, .row T2 1 xs] i).kind⟩
  have own0 : K.own 0 ↔ K.cap 0 ≠ 0 := by unfold Ctx.own; rw [hkd]
  have own1 : ∀ i, K'.own i → i = 1 ∧ K.cap 0 ≠ 0 := by
    intro i hi
    unfold Ctx.own at hi
    match i, hi with
    | 0, hi => simp [K', getO, X.Obj.kind] at hi
    | 1, hi => simpa [K', getO, X.Obj.kind] using hi
    | i + 2, hi => simp [K', getO, X.Obj.kind] at hi
  obtain ⟨r1, r2⟩ := hR.change (K' := K') (get' := getO [.gone, .row T2 1 xs]) (w' := w') (fun i => i = 0 ∨ i = 1) ⟨fun _ _ _ h => h, fun i hi => by
      match i, hi with
      | 0, _ => exact .inl (by simp [K', getO, X.Obj.kind])
      | i + 1, hi => exact absurd (hkh (i + 1) (by omega)) hi⟩ (fun i hi => by
      have h0 : i ≠ 0 := fun h => hi (.inl h)
      have h1 : i ≠ 1 := fun h => hi (.inr h)
      match i, h0, h1 with
      | i + 2, _, _ => exact ⟨by rw [hkh _ (by omega)]; simp [K', getO, X.Obj.kind], by simp [K'], by simp [K'], by simp [K'], by simp [getO]⟩) (by
      by_cases hc : K.cap 0 = 0
      · rw [hk0 hc]; exact Keeps.refl _ _
      · exact (hk hc).mono fun b _ hb => ⟨0, .inl rfl, own0.2 hc, hb.symm⟩) (fun i _ => rfl) (by
      rintro i (rfl | rfl) hv
      · rw [hkd] at hv; cases hv
      · rw [hkh 1 (by omega)] at hv; cases hv) (by
      rintro i (rfl | rfl)
      · trivial
      · exact ⟨by decide, by simpa [K'] using hx, by simpa [K'] using o2, fun hc => by simpa [K'] using ho (by simpa [K'] using hc)⟩) (by
      rintro i _ hi
      obtain ⟨rfl, hc⟩ := own1 i hi
      exact .inl ⟨0, .inl rfl, own0.2 hc, by simp [K']⟩) (by
      rintro i j _ _ hi hj _
      rw [(own1 i hi).1, (own1 j hj).1]) (fun b o v h => .inl h)
  exact ⟨K', r1, r2, by simp [K', getO, X.Obj.kind], by simp [K'], by simp [K'], by simp [K']⟩
theorem compact_ac (l : List Int) (hb : l.length ≤ 1099511627776) : ACalls Try.prog 41 [.row 0 1 l.length] [.row 3 1 (l.map intA)] (.row 1 1 (Go.Lib.compact l).length) [.gone, .row 3 1 ((Go.Lib.compact l).map intA)] := by
  refine ⟨⟨_, Try.func41, rfl, rfl⟩, fun K w cs hR hcs => ?_⟩
  obtain ⟨c, cs', rfl, hc, h2⟩ := hcs.cons_inv
  rw [h2.nil_inv]
  have hk0 : K.kind 0 = .row 1 l.length := by rw [hR.kinds]; simp [getO, X.Obj.kind]
  obtain ⟨_, o1, o2, o3⟩ := hR.obj 0
  simp only [List.length_map] at o1
  have hm := compact_length l
  cases hc with
  | pure h => cases h
  | row id sz len c hk h hp =>
    rw [hk0] at h
    obtain ⟨_, ad, rfl, ha⟩ := h.resolve_left (by simp)
    by_cases hl : l = []
    · subst hl
      have hce : Go.Lib.compact ([] : List Int) = [] := List.eq_nil_of_length_eq_zero (by simpa using hm)
      refine (Any.slices_Compact_int_empty compactLays ad (K.cap 0) w).mono ?_
      rintro e w' ⟨rfl, rfl⟩
      rw [hce]
      obtain ⟨K', r1, r2, k1, k2, k3, k4⟩ := shorter (xs := ([] : List AV)) (T2 := 3) hR (fun _ => Keeps.refl _ _) (fun _ => rfl) (by simp) (fun hc => by
        obtain ⟨ds, g1, g2, g3⟩ := o3 hc
        exact ⟨ds, g1, g2, fun i x hx => by simp at hx⟩)
      exact ⟨K', _, rfl, r1, .row 1 1 0 _ (by rw [k1]; simp) (.inr ⟨.inl k1, ad, by rw [k2], fun hn => by rw [k3, k4]; exact ha (by rwa [k2] at hn)⟩) ⟨ad, K.cap 0, rfl, by simp, o2, fun hn => ⟨_, ha hn⟩⟩, r2 _⟩
    · have hpos := List.length_pos_iff.2 hl
      have hcap : K.cap 0 ≠ 0 := by omega
      obtain rfl := ha hcap
      obtain ⟨ds, g1, g2, g3⟩ := o3 hcap
      have hH : Go.Sort.Holds (Value.int .i64) w (K.blk 0) (K.off 0) l.toArray := by
        intro j hj
        have hj' : j < l.length := by simpa using hj
        obtain ⟨_, q⟩ := g3 j (intA l[j]) (by simp [List.getElem?_eq_getElem hj'])
        obtain ⟨d, q1, q2⟩ := q 0 (intA l[j]) rfl
        cases q2
        refine ⟨?_, freeOf g1 _⟩
        rw [List.getElem?_drop] at q1
        simp only [Nat.mul_one, Nat.add_zero, Array.getElem?_toList] at q1
        rw [cellOf g1 _ q1]
        simp [hj']
      refine (Any.slices_Compact_int compactLays (K.blk 0) (K.off 0) (K.cap 0) l w hH (by omega) o1).mono ?_
      rintro e w' ⟨rfl, n, rfl⟩
      generalize hd : (Go.Lib.compact l ++ List.replicate (l.length - (Go.Lib.compact l).length) 0).toArray = d
      have hw1 := heap_at (n := n) (os := #[]) (off := K.off 0) d g1
      have hkeep := keeps_sorted (w := w) (g := K.blk 0) (n := n) (os := #[]) (off := K.off 0) d
      rw [Go.Sort.grow_empty] at hw1 hkeep
      obtain ⟨K', r1, r2, k1, k2, k3, k4⟩ := shorter (xs := (Go.Lib.compact l).map intA) (T2 := 3) hR (fun _ => hkeep) (fun h => absurd h hcap) (by rw [List.length_map]; omega) (fun _ => by
        refine ⟨_, hw1, by simpa [Go.Sort.putCells] using g2, fun i x hx => ?_⟩
        rw [List.getElem?_map] at hx
        cases hy : (Go.Lib.compact l)[i]? with
        | none => rw [hy] at hx; cases hx
        | some y =>
          rw [hy] at hx; injection hx with hx; subst hx
          have hi : i < (Go.Lib.compact l).length := (List.getElem?_eq_some_iff.1 hy).1
          refine ⟨rfl, fun j u hu => ?_⟩
          match j, hu with
          | 0, hu =>
            cases hu
            refine ⟨.int .i64 y, ?_, .int _ _⟩
            have hlt : K.off 0 + i < ds.size := by omega
            have hds : d.size = l.length := by rw [← hd, List.size_toArray, List.length_append, List.length_replicate]; omega
            rw [List.getElem?_drop, Nat.mul_one, Nat.add_zero, Array.getElem?_toList]
            simp only [Go.Sort.putCells, Array.getElem?_mapIdx, Array.getElem?_eq_getElem hlt, Option.map_some]
            rw [if_pos ⟨by omega, by omega⟩, show K.off 0 + i - K.off 0 = i by omega]
            have : d[i]! = y := by
              rw [getElem!_pos d i (by omega)]
              subst hd
              rw [List.getElem_toArray, List.getElem_append_left hi]
              exact (List.getElem?_eq_some_iff.1 hy).2
            rw [this]
          | j + 1, hu => simp [intA, AV.cells] at hu)
      rw [List.length_map] at k1
      exact ⟨K', _, rfl, r1, .row 1 1 _ _ (by rw [k1]; simp) (.inr ⟨.inl k1, _, by rw [k2], fun hn => by rw [k3, k4]⟩) ⟨_, K.cap 0, rfl, by omega, o2, fun hn => ⟨_, rfl⟩⟩, r2 _⟩
end Go.Proofs.Ytidgcfgkcidkiaa.Ch
