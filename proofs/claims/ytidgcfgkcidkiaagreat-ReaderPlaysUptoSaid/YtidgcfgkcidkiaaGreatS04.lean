/- Texts of one proof, laid together: ChK, ChL, ChM, ChN, ChO, ChP, ChQ, ChS, Da, Db, Dc, Dd, De. -/
import Derived.Test.YtidgcfgkcidkiaaGreatS03
import Derived.Test.YtidgcfgkcidkiaaGreatProg
import Derived.Shelf.Slices.In.SortAlone
import Derived.Shelf.Slices.In.SortNone
import Derived.Shelf.Slices.CompactI
import Derived.WideShapes
namespace Go.Proofs.YtidgcfgkcidkiaaGreat.Ch
open Go Go.RowKit Go.Proofs Go.Shelf
set_option linter.unusedVariables false
def sortLays_ren : Ren := ⟨fun x => match x with | 189 => 144 | 125 => 152 | 257 => 151 | 128 => 163 | 129 => 134 | 294 => 154 | 295 => 155 | 296 => 156 | 297 => 157 | 298 => 158 | 299 => 159 | 216 => 160 | 300 => 161 | 301 => 162 | 328 => 164 | 329 => 165 | 330 => 166 | 331 => 167 | 332 => 168 | 215 => 169 | 343 => 170 | n => n, fun x => match x with | 28 => 46 | 3 => 3 | 46 => 98 | 0 => 0 | 51 => 171 | 53 => 22 | 4 => 4 | 183 => 164 | 182 => 163 | 131 => 168 | 5 => 5 | 9 => 9 | 218 => 172 | 222 => 176 | 228 => 178 | 229 => 179 | n => n, fun n => n⟩
theorem sortLays : Lays.n189 Tryz.prog sortLays_ren where
  mixed := by kernel_rfl
  f125 := Tryz.func152.trans (congrArg some rfl)
  f128 := Tryz.func163.trans (congrArg some rfl)
  f129 := Tryz.func134.trans (congrArg some rfl)
  f189 := Tryz.func144.trans (congrArg some rfl)
  f215 := Tryz.func169.trans (congrArg some rfl)
  f216 := Tryz.func160.trans (congrArg some rfl)
  f257 := Tryz.func151.trans (congrArg some rfl)
  f294 := Tryz.func154.trans (congrArg some rfl)
  f295 := Tryz.func155.trans (congrArg some rfl)
  f296 := Tryz.func156.trans (congrArg some rfl)
  f297 := Tryz.func157.trans (congrArg some rfl)
  f298 := Tryz.func158.trans (congrArg some rfl)
  f299 := Tryz.func159.trans (congrArg some rfl)
  f300 := Tryz.func161.trans (congrArg some rfl)
  f301 := Tryz.func162.trans (congrArg some rfl)
  f328 := Tryz.func164.trans (congrArg some rfl)
  f329 := Tryz.func165.trans (congrArg some rfl)
  f330 := Tryz.func166.trans (congrArg some rfl)
  f331 := Tryz.func167.trans (congrArg some rfl)
  f332 := Tryz.func168.trans (congrArg some rfl)
  f343 := Tryz.func170.trans (congrArg some rfl)
  t0 := Tryz.underlying0
  a0 := Tryz.isAgg0
  z0 := Tryz.sizeOf0
  v0 := Tryz.zeroValue0
  t3 := Tryz.underlying3
  a3 := Tryz.isAgg3
  z3 := Tryz.sizeOf3
  v3 := Tryz.zeroValue3
  t4 := Tryz.underlying4
  a4 := Tryz.isAgg4
  z4 := Tryz.sizeOf4
  v4 := Tryz.zeroValue4
  t5 := Tryz.underlying5
  a5 := Tryz.isAgg5
  z5 := Tryz.sizeOf5
  v5 := Tryz.zeroValue5
  t9 := Tryz.underlying9
  a9 := Tryz.isAgg9
  z9 := Tryz.sizeOf9
  v9 := Tryz.zeroValue9
  t28 := Tryz.underlying46
  a28 := Tryz.isAgg46
  z28 := Tryz.sizeOf46
  v28 := Tryz.zeroValue46
  t46 := Tryz.underlying98
  a46 := Tryz.isAgg98
  z46 := Tryz.sizeOf98
  v46 := Tryz.zeroValue98
  t51 := Tryz.underlying171
  a51 := Tryz.isAgg171
  z51 := Tryz.sizeOf171
  v51 := Tryz.zeroValue171
  t53 := Tryz.underlying22
  a53 := Tryz.isAgg22
  z53 := Tryz.sizeOf22
  v53 := Tryz.zeroValue22
  t131 := Tryz.underlying168
  a131 := Tryz.isAgg168
  z131 := Tryz.sizeOf168
  v131 := Tryz.zeroValue168
  t182 := Tryz.underlying163
  a182 := Tryz.isAgg163
  z182 := Tryz.sizeOf163
  v182 := Tryz.zeroValue163
  t183 := Tryz.underlying164
  a183 := Tryz.isAgg164
  z183 := Tryz.sizeOf164
  v183 := Tryz.zeroValue164
  t218 := Tryz.underlying172
  a218 := Tryz.isAgg172
  z218 := Tryz.sizeOf172
  v218 := Tryz.zeroValue172
  t222 := Tryz.underlying176
  a222 := Tryz.isAgg176
  z222 := Tryz.sizeOf176
  v222 := Tryz.zeroValue176
  t228 := Tryz.underlying178
  a228 := Tryz.isAgg178
  z228 := Tryz.sizeOf178
  v228 := Tryz.zeroValue178
  t229 := Tryz.underlying179
  a229 := Tryz.isAgg179
  z229 := Tryz.sizeOf179
  v229 := Tryz.zeroValue179
def compactLays_ren : Ren := ⟨fun x => match x with | 20 => 149 | n => n, fun x => match x with | 22 => 46 | 3 => 3 | 4 => 4 | 0 => 0 | n => n, fun n => n⟩
theorem compactLays : Lays2.n20 Tryz.prog compactLays_ren where
  mixed := by kernel_rfl
  f20 := Tryz.func149.trans (congrArg some rfl)
  t0 := Tryz.underlying0
  a0 := Tryz.isAgg0
  z0 := Tryz.sizeOf0
  v0 := Tryz.zeroValue0
  t3 := Tryz.underlying3
  a3 := Tryz.isAgg3
  z3 := Tryz.sizeOf3
  v3 := Tryz.zeroValue3
  t4 := Tryz.underlying4
  a4 := Tryz.isAgg4
  z4 := Tryz.sizeOf4
  v4 := Tryz.zeroValue4
  t22 := Tryz.underlying46
  a22 := Tryz.isAgg46
  z22 := Tryz.sizeOf46
  v22 := Tryz.zeroValue46
  i3 := by kernel_rfl
end Go.Proofs.YtidgcfgkcidkiaaGreat.Ch
namespace Go.Proofs.YtidgcfgkcidkiaaGreat.Ch
open Go Go.RowKit Go.Proofs Go.Proofs.YtidgcfgkcidkiaaGreat.L Go.Proofs.YtidgcfgkcidkiaaGreat.X
set_option linter.unusedVariables false
set_option linter.unusedSimpArgs false
def sortL (l : List Int) : List Int := l.mergeSort fun x y => decide (x ≤ y)
theorem sort_calls (blk off cap : Nat) (zs : List Int) (w : World) (hH : Go.Sort.Holds (Value.int .i64) w blk off zs.toArray) (hblk : blk < w.heap.size) (hsz : zs.length < 4611686018427387904) :
    Calls Tryz.prog 144 #[.slice (some ⟨blk, off, none⟩) zs.length cap] w fun e w' => e = .returned (.tuple #[]) ∧ ∃ n os, w' = Go.Sort.grow (Go.Sort.putRow (Value.int .i64) (Go.Sort.ahead w n) blk off (sortL zs).toArray) os :=
  calls_of_every_depth fun D => AnyS.slices_Sort_int_alone sortLays D blk off cap zs w hH hblk hsz
theorem sort0_calls (p : Option Addr) (cap : Nat) (w : World) : Calls Tryz.prog 144 #[.slice p 0 cap] w fun e w' => e = .returned (.tuple #[]) ∧ w' = w :=
  Any.slices_Sort_int_none sortLays p cap w
theorem sortL_length (l : List Int) : (sortL l).length = l.length := by unfold sortL; exact List.length_mergeSort _
theorem heap_at {w : World} {g n off : Nat} {os : Array Go.Obj} {cur : Array Value} {e : TypeId} {fr : Nat × Nat} (d : Array Int) (hb : w.heap[g]? = some (.cells cur e fr)) :
    (Go.Sort.grow (Go.Sort.putRow (Value.int .i64) (Go.Sort.ahead w n) g off d) os).heap[g]? = some (.cells (Go.Sort.putCells (Value.int .i64) off d cur) e fr) := by
  have hg : g < w.heap.size := (Array.getElem?_eq_some_iff.1 hb).1
  rw [Go.Sort.heap_grow_old _ _ (by simpa using hg)]
  simp [Go.Sort.putRow, Go.Sort.mapBlock, Go.Sort.ahead, Array.getElem?_modify, hb, Go.Sort.onCells]
theorem keeps_sorted {w : World} {g n off : Nat} {os : Array Go.Obj} (d : Array Int) : Keeps (fun b => b = g) w (Go.Sort.grow (Go.Sort.putRow (Value.int .i64) (Go.Sort.ahead w n) g off d) os) := by
  refine ⟨rfl, rfl, rfl, by simp, fun k hk hne => ?_⟩
  rw [Go.Sort.heap_grow_old _ _ (by simpa using hk)]
  have : g ≠ k := fun e => hne e.symm
  simp [Go.Sort.putRow, Go.Sort.mapBlock, Go.Sort.ahead, Array.getElem?_modify, this]
theorem sort_tu (l : List Int) (hb : l.length ≤ 1099511627776) : ATurn Tryz.prog 144 [.row 0 1 l.length] 3 1 (l.map intA) ((sortL l).map intA) (.tup []) := by
  refine ⟨⟨_, Tryz.func144, rfl, rfl⟩, fun K w cs hR hcs => ?_⟩
  obtain ⟨c, cs', rfl, hc, h2⟩ := hcs.cons_inv
  rw [h2.nil_inv]
  have hk0 : K.kind 0 = .row 1 l.length := by rw [hR.kinds]; simp [getO, X.Obj.kind]
  obtain ⟨_, o1, o2, o3⟩ := hR.obj 0
  simp only [List.length_map] at o1
  cases hc with
  | pure h => cases h
  | row id sz len c hk h hp =>
    rw [hk0] at h
    obtain ⟨_, ad, rfl, ha⟩ := h.resolve_left (by simp)
    by_cases hl : l = []
    · subst hl
      refine (sort0_calls ad (K.cap 0) w).mono ?_
      rintro e w' ⟨rfl, rfl⟩
      exact ⟨_, rfl, by rw [show sortL [] = [] by simp [sortL]]; exact hR, Keeps.refl _ _, fun _ => .mkTup .nil⟩
    · have hpos := List.length_pos_iff.2 hl
      have hcap : K.cap 0 ≠ 0 := by omega
      obtain rfl := ha hcap
      obtain ⟨ds, g1, g2, g3⟩ := o3 hcap
      have hH : Go.Sort.Holds (Value.int .i64) w (K.blk 0) (K.off 0) l.toArray := by
        intro j hj
        have hj' : j < l.length := by simpa using hj
        obtain ⟨_, q⟩ := g3 j (intA l[j]) (by simp [List.getElem?_eq_getElem hj'])
        obtain ⟨d, q1, q2⟩ := q 0 (intA l[j]) rfl
        cases q2
        refine ⟨?_, freeOf g1 _⟩
        rw [List.getElem?_drop] at q1
        simp only [Nat.mul_one, Nat.add_zero, Array.getElem?_toList] at q1
        rw [cellOf g1 _ q1]
        simp [hj']
      refine (sort_calls (K.blk 0) (K.off 0) (K.cap 0) l w hH (lt_of_heap g1) (by omega)).mono ?_
      rintro e w' ⟨rfl, n, os, rfl⟩
      have hw1 := heap_at (n := n) (os := os) (off := K.off 0) (sortL l).toArray g1
      have hkeep := keeps_sorted (w := w) (g := K.blk 0) (n := n) (os := os) (off := K.off 0) (sortL l).toArray
      have hown : K.own 0 := by unfold Ctx.own; rw [hk0]; exact hcap
      obtain ⟨r1, r2⟩ := hR.change (K' := K) (get' := getO [.row 3 1 ((sortL l).map intA)]) (fun i => i = 0) (Ctx.le_refl K) (fun i hi => ⟨rfl, rfl, rfl, rfl, by
          match i, hi with
          | 0, hi => exact absurd rfl hi
          | i + 1, _ => simp [getO]⟩) (hkeep.mono fun b _ hb => ⟨0, rfl, hown, hb.symm⟩) (by rintro i rfl; rw [hk0]; simp [getO, X.Obj.kind, sortL_length]) (by rintro i rfl hv; rw [hk0] at hv; cases hv) (by
          rintro i rfl
          refine ⟨by decide, by simpa [sortL_length] using o1, o2, fun _ => ⟨_, hw1, by simpa [Go.Sort.putCells] using g2, fun i x hx => ?_⟩⟩
          rw [List.getElem?_map] at hx
          cases hy : (sortL l)[i]? with
          | none => rw [hy] at hx; cases hx
          | some y =>
            rw [hy] at hx; injection hx with hx; subst hx
            have hi : i < (sortL l).length := (List.getElem?_eq_some_iff.1 hy).1
            refine ⟨rfl, fun j u hu => ?_⟩
            match j, hu with
            | 0, hu =>
              cases hu
              refine ⟨.int .i64 y, ?_, .int _ _⟩
              have hs := sortL_length l
              have hlt : K.off 0 + i < ds.size := by omega
              rw [List.getElem?_drop, Nat.mul_one, Nat.add_zero, Array.getElem?_toList]
              simp only [Go.Sort.putCells, Array.getElem?_mapIdx, Array.getElem?_eq_getElem hlt, Option.map_some]
              rw [if_pos ⟨by omega, by simpa using hi⟩, show K.off 0 + i - K.off 0 = i by omega]
              have : (sortL l).toArray[i]! = y := by
                rw [getElem!_pos (sortL l).toArray i (by simpa using hi)]
                simpa using (List.getElem?_eq_some_iff.1 hy).2
              rw [this]
            | j + 1, hu => simp [intA, AV.cells] at hu) (by rintro i rfl _; exact .inl ⟨0, rfl, hown, rfl⟩) (by rintro i j rfl rfl; intros; rfl) (fun b o v h => .inl h)
      exact ⟨_, rfl, r1, (r2 0).keeps, fun _ => .mkTup .nil⟩
theorem compactUpTo_length (d : Array Int) : ∀ m, (Go.Lib.compactUpTo d m).length ≤ m
  | 0 => by simp [Go.Lib.compactUpTo]
  | m + 1 => by
    rw [Go.Lib.compactUpTo_succ, List.length_append]
    have := compactUpTo_length d m
    split <;> simp <;> omega
theorem compact_length (l : List Int) : (Go.Lib.compact l).length ≤ l.length := compactUpTo_length _ _
/-- A row that comes back shorter, in its place. -/
theorem shorter {K : Ctx} {w w' : World} {l xs : List AV} {T T2 : TypeId} (hR : Rel K (getO [.row T 1 l]) w) (hk : K.cap 0 ≠ 0 → Keeps (fun b => b = K.blk 0) w w') (hk0 : K.cap 0 = 0 → w' = w) (hx : xs.length ≤ K.cap 0)
    (ho : K.cap 0 ≠ 0 → ∃ ds, w'.heap[K.blk 0]? = some (.cells ds T2 (0, 0)) ∧ ds.size = K.off 0 + K.cap 0 * 1 ∧ PRows K.M 1 xs (ds.toList.drop (K.off 0))) :
    ∃ K', Rel K' (getO [.gone, .row T2 1 xs]) w' ∧ (∀ m, Grow m K w K' w') ∧ K'.kind 1 = .row 1 xs.length ∧ K'.cap 1 = K.cap 0 ∧ K'.blk 1 = K.blk 0 ∧ K'.off 1 = K.off 0 := by
  have hkd : K.kind 0 = .row 1 l.length := by rw [hR.kinds]; simp [getO, X.Obj.kind]
  have hkh : ∀ i, 1 ≤ i → K.kind i = .hole := fun i hi => by
    rw [hR.kinds]
    match i, hi with
    | i + 1, _ => simp [getO, X.Obj.kind]
  obtain ⟨_, o1, o2, o3⟩ := hR.obj 0
  let K' : Ctx := ⟨K.M, fun i => if i = 1 then K.blk 0 else K.blk i, fun i => if i = 1 then K.cap 0 else K.cap i, fun i => if i = 1 then K.off 0 else K.off i, fun i => (getO [.gone, .row T2 1 xs] i).kind⟩
  have own0 : K.own 0 ↔ K.cap 0 ≠ 0 := by unfold Ctx.own; rw [hkd]
  have own1 : ∀ i, K'.own i → i = 1 ∧ K.cap 0 ≠ 0 := by
    intro i hi
    unfold Ctx.own at hi
    match i, hi with
    | 0, hi => simp [K', getO, X.Obj.kind] at hi
    | 1, hi => simpa [K', getO, X.Obj.kind] using hi
    | i + 2, hi => simp [K', getO, X.Obj.kind] at hi
  obtain ⟨r1, r2⟩ := hR.change (K' := K') (get' := getO [.gone, .row T2 1 xs]) (w' := w') (fun i => i = 0 ∨ i = 1) ⟨fun _ _ _ h => h, fun i hi => by
      match i, hi with
      | 0, _ => exact .inl (by simp [K', getO, X.Obj.kind])
      | i + 1, hi => exact absurd (hkh (i + 1) (by omega)) hi⟩ (fun i hi => by
      have h0 : i ≠ 0 := fun h => hi (.inl h)
      have h1 : i ≠ 1 := fun h => hi (.inr h)
      match i, h0, h1 with
      | i + 2, _, _ => exact ⟨by rw [hkh _ (by omega)]; simp [K', getO, X.Obj.kind], by simp [K'], by simp [K'], by simp [K'], by simp [getO]⟩) (by
      by_cases hc : K.cap 0 = 0
      · rw [hk0 hc]; exact Keeps.refl _ _
      · exact (hk hc).mono fun b _ hb => ⟨0, .inl rfl, own0.2 hc, hb.symm⟩) (fun i _ => rfl) (by
      rintro i (rfl | rfl) hv
      · rw [hkd] at hv; cases hv
      · rw [hkh 1 (by omega)] at hv; cases hv) (by
      rintro i (rfl | rfl)
      · trivial
      · exact ⟨by decide, by simpa [K'] using hx, by simpa [K'] using o2, fun hc => by simpa [K'] using ho (by simpa [K'] using hc)⟩) (by
      rintro i _ hi
      obtain ⟨rfl, hc⟩ := own1 i hi
      exact .inl ⟨0, .inl rfl, own0.2 hc, by simp [K']⟩) (by
      rintro i j _ _ hi hj _
      rw [(own1 i hi).1, (own1 j hj).1]) (fun b o v h => .inl h)
  exact ⟨K', r1, r2, by simp [K', getO, X.Obj.kind], by simp [K'], by simp [K'], by simp [K']⟩
theorem compact_ac (l : List Int) (hb : l.length ≤ 1099511627776) : ACalls Tryz.prog 149 [.row 0 1 l.length] [.row 3 1 (l.map intA)] (.row 1 1 (Go.Lib.compact l).length) [.gone, .row 3 1 ((Go.Lib.compact l).map intA)] := by
  refine ⟨⟨_, Tryz.func149, rfl, rfl⟩, fun K w cs hR hcs => ?_⟩
  obtain ⟨c, cs', rfl, hc, h2⟩ := hcs.cons_inv
  rw [h2.nil_inv]
  have hk0 : K.kind 0 = .row 1 l.length := by rw [hR.kinds]; simp [getO, X.Obj.kind]
  obtain ⟨_, o1, o2, o3⟩ := hR.obj 0
  simp only [List.length_map] at o1
  have hm := compact_length l
  cases hc with
  | pure h => cases h
  | row id sz len c hk h hp =>
    rw [hk0] at h
    obtain ⟨_, ad, rfl, ha⟩ := h.resolve_left (by simp)
    by_cases hl : l = []
    · subst hl
      have hce : Go.Lib.compact ([] : List Int) = [] := List.eq_nil_of_length_eq_zero (by simpa using hm)
      refine (Any.slices_Compact_int_empty compactLays ad (K.cap 0) w).mono ?_
      rintro e w' ⟨rfl, rfl⟩
      rw [hce]
      obtain ⟨K', r1, r2, k1, k2, k3, k4⟩ := shorter (xs := ([] : List AV)) (T2 := 3) hR (fun _ => Keeps.refl _ _) (fun _ => rfl) (by simp) (fun hc => by
        obtain ⟨ds, g1, g2, g3⟩ := o3 hc
        exact ⟨ds, g1, g2, fun i x hx => by simp at hx⟩)
      exact ⟨K', _, rfl, r1, .row 1 1 0 _ (by rw [k1]; simp) (.inr ⟨.inl k1, ad, by rw [k2], fun hn => by rw [k3, k4]; exact ha (by rwa [k2] at hn)⟩) ⟨ad, K.cap 0, rfl, by simp, o2, fun hn => ⟨_, ha hn⟩⟩, (r2 _).toC⟩
    · have hpos := List.length_pos_iff.2 hl
      have hcap : K.cap 0 ≠ 0 := by omega
      obtain rfl := ha hcap
      obtain ⟨ds, g1, g2, g3⟩ := o3 hcap
      have hH : Go.Sort.Holds (Value.int .i64) w (K.blk 0) (K.off 0) l.toArray := by
        intro j hj
        have hj' : j < l.length := by simpa using hj
        obtain ⟨_, q⟩ := g3 j (intA l[j]) (by simp [List.getElem?_eq_getElem hj'])
        obtain ⟨d, q1, q2⟩ := q 0 (intA l[j]) rfl
        cases q2
        refine ⟨?_, freeOf g1 _⟩
        rw [List.getElem?_drop] at q1
        simp only [Nat.mul_one, Nat.add_zero, Array.getElem?_toList] at q1
        rw [cellOf g1 _ q1]
        simp [hj']
      refine (Any.slices_Compact_int compactLays (K.blk 0) (K.off 0) (K.cap 0) l w hH (by omega) o1).mono ?_
      rintro e w' ⟨rfl, n, rfl⟩
      generalize hd : (Go.Lib.compact l ++ List.replicate (l.length - (Go.Lib.compact l).length) 0).toArray = d
      have hw1 := heap_at (n := n) (os := #[]) (off := K.off 0) d g1
      have hkeep := keeps_sorted (w := w) (g := K.blk 0) (n := n) (os := #[]) (off := K.off 0) d
      rw [Go.Sort.grow_empty] at hw1 hkeep
      obtain ⟨K', r1, r2, k1, k2, k3, k4⟩ := shorter (xs := (Go.Lib.compact l).map intA) (T2 := 3) hR (fun _ => hkeep) (fun h => absurd h hcap) (by rw [List.length_map]; omega) (fun _ => by
        refine ⟨_, hw1, by simpa [Go.Sort.putCells] using g2, fun i x hx => ?_⟩
        rw [List.getElem?_map] at hx
        cases hy : (Go.Lib.compact l)[i]? with
        | none => rw [hy] at hx; cases hx
        | some y =>
          rw [hy] at hx; injection hx with hx; subst hx
          have hi : i < (Go.Lib.compact l).length := (List.getElem?_eq_some_iff.1 hy).1
          refine ⟨rfl, fun j u hu => ?_⟩
          match j, hu with
          | 0, hu =>
            cases hu
            refine ⟨.int .i64 y, ?_, .int _ _⟩
            have hlt : K.off 0 + i < ds.size := by omega
            have hds : d.size = l.length := by rw [← hd, List.size_toArray, List.length_append, List.length_replicate]; omega
            rw [List.getElem?_drop, Nat.mul_one, Nat.add_zero, Array.getElem?_toList]
            simp only [Go.Sort.putCells, Array.getElem?_mapIdx, Array.getElem?_eq_getElem hlt, Option.map_some]
            rw [if_pos ⟨by omega, by omega⟩, show K.off 0 + i - K.off 0 = i by omega]
            have : d[i]! = y := by
              rw [getElem!_pos d i (by omega)]
              subst hd
              rw [List.getElem_toArray, List.getElem_append_left hi]
              exact (List.getElem?_eq_some_iff.1 hy).2
            rw [this]
          | j + 1, hu => simp [intA, AV.cells] at hu)
      rw [List.length_map] at k1
      exact ⟨K', _, rfl, r1, .row 1 1 _ _ (by rw [k1]; simp) (.inr ⟨.inl k1, _, by rw [k2], fun hn => by rw [k3, k4]⟩) ⟨_, K.cap 0, rfl, by omega, o2, fun hn => ⟨_, rfl⟩⟩, (r2 _).toC⟩
end Go.Proofs.YtidgcfgkcidkiaaGreat.Ch
namespace Go.Proofs.YtidgcfgkcidkiaaGreat.Ch
open Go Go.RowKit Go.Proofs.YtidgcfgkcidkiaaGreat.L Go.Proofs.YtidgcfgkcidkiaaGreat.X
set_option linter.unusedVariables false
set_option linter.unusedSimpArgs false
def fineB (s : SegD) : Bool := decide (s.at_ < 1048576) && (lenB s.chains.length 4 && (!s.chains.any longB && (!(sortL (catL s.chains)).any outB && decide (((Go.Lib.compact (sortL (catL s.chains))).length : Int) = (catL s.chains).length))))
theorem fine_ac (s : SegD) (hb : (catL s.chains).length ≤ 1000000000000) (hl : s.chains.length ≤ 1000000000000) : ACalls Tryz.prog 125 [encS s] [] (.bool (fineB s)) [] := by
  have c1 := concat_ac s.chains (by omega) (by omega)
  have c2 := sort_tu (catL s.chains) (by omega)
  have hs : (sortL (catL s.chains)).length = (catL s.chains).length := sortL_length _
  have c3 := within_chains (s.chains.map encU) 4
  rw [List.length_map] at c3
  have c4 := has_chains s.chains hl
  have c5 := has_units (sortL (catL s.chains)) (by omega)
  have c6 := compact_ac (sortL (catL s.chains)) (by omega)
  rw [hs] at c6
  by_cases h1 : s.at_ < 1048576
  · cases h2 : lenB s.chains.length 4 with
    | false =>
      rw [h2] at c3
      rw [show fineB s = false by simp [fineB, h1, h2]]
      refine acallsK mixed Tryz.func125 rfl [0, 1, 2, 3] 1000 ([.call [] false false (.row 0 1 (catL s.chains).length) [.row 3 1 ((catL s.chains).map intA)], .tu 1 ((sortL (catL s.chains)).map intA) (.tup []), .t, .call [] false true (.bool false) []]) [] [] (v1 := .bool false) (objs1 := []) (ob := [ACalls Tryz.prog 143 [.lst 1 (List.map encU s.chains)] [] (.row 0 1 (List.length (catL s.chains))) [.row 3 1 (List.map intA (catL s.chains))],
 List.length (List.map intA (sortL (catL s.chains))) = List.length (List.map intA (catL s.chains)),
 ATurn Tryz.prog 144 [.row 0 1 (List.length (catL s.chains))] 3 1 (List.map intA (catL s.chains)) (List.map intA (sortL (catL s.chains))) (.tup []),
 decide (s.at_ < (1048576 : Int)) = true,
 ACalls Tryz.prog 145 [.lst 1 (List.map encU s.chains), .int .i64 4] [] (.bool false) []]) (by kernel_rfl) (by first | exact rfl | exact ⟨rfl, rfl⟩ | (simp [encS, h1, h2, hs]; done)) ⟨?q25_1, ?z0, ?q25_2, ?z1, ?q25_3, trivial⟩
      case z0|z1 => first | exact rfl | (simp [encS, h1, h2, hs] <;> omega) | omega
      · exact c1
      · exact c2
      · exact c3
    | true =>
      rw [h2] at c3
      cases h3 : s.chains.any longB with
      | true =>
        rw [h3] at c4
        rw [show fineB s = false by simp [fineB, h1, h2, h3]]
        refine acallsK mixed Tryz.func125 rfl [0, 1, 2, 3] 1000 ([.call [] false false (.row 0 1 (catL s.chains).length) [.row 3 1 ((catL s.chains).map intA)], .tu 1 ((sortL (catL s.chains)).map intA) (.tup []), .t, .call [] false true (.bool true) [], .call [] false true (.bool true) []]) [] [] (v1 := .bool false) (objs1 := []) (ob := [ACalls Tryz.prog 143 [.lst 1 (List.map encU s.chains)] [] (.row 0 1 (List.length (catL s.chains))) [.row 3 1 (List.map intA (catL s.chains))],
 List.length (List.map intA (sortL (catL s.chains))) = List.length (List.map intA (catL s.chains)),
 ATurn Tryz.prog 144 [.row 0 1 (List.length (catL s.chains))] 3 1 (List.map intA (catL s.chains)) (List.map intA (sortL (catL s.chains))) (.tup []),
 decide (s.at_ < (1048576 : Int)) = true,
 ACalls Tryz.prog 145 [.lst 1 (List.map encU s.chains), .int .i64 4] [] (.bool true) [],
 ACalls Tryz.prog 146 [.lst 1 (List.map encU s.chains), .fn 147 []] [] (.bool true) []]) (by kernel_rfl) (by first | exact rfl | exact ⟨rfl, rfl⟩ | (simp [encS, h1, h2, hs]; done)) ⟨?q35_1, ?z2, ?q35_2, ?z3, ?q35_3, ?q35_4, trivial⟩
        case z2|z3 => first | exact rfl | (simp [encS, h1, h2, hs] <;> omega) | omega
        · exact c1
        · exact c2
        · exact c3
        · exact c4
      | false =>
        rw [h3] at c4
        cases h4 : (sortL (catL s.chains)).any outB with
        | true =>
          rw [h4] at c5
          rw [show fineB s = false by simp only [fineB, h1, h2, h3, h4]; simp]
          refine acallsK mixed Tryz.func125 rfl [0, 1, 2, 3] 1000 ([.call [] false false (.row 0 1 (catL s.chains).length) [.row 3 1 ((catL s.chains).map intA)], .tu 1 ((sortL (catL s.chains)).map intA) (.tup []), .t, .call [] false true (.bool true) [], .call [] false true (.bool false) [], .call [] false true (.bool true) []]) [] [] (v1 := .bool false) (objs1 := []) (ob := [ACalls Tryz.prog 143 [.lst 1 (List.map encU s.chains)] [] (.row 0 1 (List.length (catL s.chains))) [.row 3 1 (List.map intA (catL s.chains))],
 List.length (List.map intA (sortL (catL s.chains))) = List.length (List.map intA (catL s.chains)),
 ATurn Tryz.prog 144 [.row 0 1 (List.length (catL s.chains))] 3 1 (List.map intA (catL s.chains)) (List.map intA (sortL (catL s.chains))) (.tup []),
 decide (s.at_ < (1048576 : Int)) = true,
 ACalls Tryz.prog 145 [.lst 1 (List.map encU s.chains), .int .i64 4] [] (.bool true) [],
 ACalls Tryz.prog 146 [.lst 1 (List.map encU s.chains), .fn 147 []] [] (.bool false) [],
 ACalls Tryz.prog 104 [.lst 1 (List.map intA (sortL (catL s.chains))), .fn 123 []] [] (.bool true) []]) (by kernel_rfl) (by first | exact rfl | exact ⟨rfl, rfl⟩ | (simp [encS, h1, h2, hs]; done)) ⟨?q46_1, ?z4, ?q46_2, ?z5, ?q46_3, ?q46_4, ?q46_5, trivial⟩
          case z4|z5 => first | exact rfl | (simp [encS, h1, h2, hs] <;> omega) | omega
          · exact c1
          · exact c2
          · exact c3
          · exact c4
          · exact c5
        | false =>
          rw [h4] at c5
          rw [show fineB s = decide (((Go.Lib.compact (sortL (catL s.chains))).length : Int) = (catL s.chains).length) by simp only [fineB, h1, h2, h3, h4]; simp]
          by_cases h5 : ((Go.Lib.compact (sortL (catL s.chains))).length : Int) = (catL s.chains).length
          · rw [show decide (((Go.Lib.compact (sortL (catL s.chains))).length : Int) = (catL s.chains).length) = true by simp only [h5]; simp]
            refine acallsK mixed Tryz.func125 rfl [0, 1, 2, 3] 1000 ([.call [] false false (.row 0 1 (catL s.chains).length) [.row 3 1 ((catL s.chains).map intA)], .tu 1 ((sortL (catL s.chains)).map intA) (.tup []), .t, .call [] false true (.bool true) [], .call [] false true (.bool false) [], .call [] false true (.bool false) [], .call [1] false false (.row 1 1 (Go.Lib.compact (sortL (catL s.chains))).length) [.gone, .row 3 1 ((Go.Lib.compact (sortL (catL s.chains))).map intA)], .n (Go.Lib.compact (sortL (catL s.chains))).length, .call [] false false (.row 0 1 (catL s.chains).length) [.row 3 1 ((catL s.chains).map intA)], .n (catL s.chains).length, .t]) [] [] (v1 := .bool true) (objs1 := []) (ob := [ACalls Tryz.prog 143 [.lst 1 (List.map encU s.chains)] [] (.row 0 1 (List.length (catL s.chains))) [.row 3 1 (List.map intA (catL s.chains))],
 List.length (List.map intA (sortL (catL s.chains))) = List.length (List.map intA (catL s.chains)),
 ATurn Tryz.prog 144 [.row 0 1 (List.length (catL s.chains))] 3 1 (List.map intA (catL s.chains)) (List.map intA (sortL (catL s.chains))) (.tup []),
 decide (s.at_ < (1048576 : Int)) = true,
 ACalls Tryz.prog 145 [.lst 1 (List.map encU s.chains), .int .i64 4] [] (.bool true) [],
 ACalls Tryz.prog 146 [.lst 1 (List.map encU s.chains), .fn 147 []] [] (.bool false) [],
 ACalls Tryz.prog 104 [.lst 1 (List.map intA (sortL (catL s.chains))), .fn 123 []] [] (.bool false) [],
 ACalls Tryz.prog 149 [.row 0 1 (List.length (catL s.chains))] [.row 3 1 (List.map intA (sortL (catL s.chains)))] (.row 1 1 (List.length (Lib.compact (sortL (catL s.chains))))) [.gone, .row 3 1 (List.map intA (Lib.compact (sortL (catL s.chains))))],
 (↑(List.length (Lib.compact (sortL (catL s.chains)))) : Int) = (↑(List.length (Lib.compact (sortL (catL s.chains)))) : Int),
 ACalls Tryz.prog 143 [.lst 1 (List.map encU s.chains)] [] (.row 0 1 (List.length (catL s.chains))) [.row 3 1 (List.map intA (catL s.chains))],
 ((catL s.chains).length : Int) = ((catL s.chains).length : Int),
 ((↑(List.length (Lib.compact (sortL (catL s.chains)))) : Int) == ((catL s.chains).length : Int)) = true]) (by kernel_rfl) (by first | exact rfl | exact ⟨rfl, rfl⟩ | (simp [encS, h1, h2, hs, h5]; done) | (exact decide_eq_true h5)) ⟨?q57_1, ?z6, ?q57_2, ?z7, ?q57_3, ?q57_4, ?q57_5, ?q57_6, ?z8, ?q57_7, ?z9, ?z10, trivial⟩
            case z6|z7|z8|z9|z10 => first | exact rfl | (simp [encS, h1, h2, hs, h5] <;> omega) | omega | (exact decide_eq_true h5)
            · exact c1
            · exact c2
            · exact c3
            · exact c4
            · exact c5
            · exact c6
            · exact c1
          · rw [show decide (((Go.Lib.compact (sortL (catL s.chains))).length : Int) = (catL s.chains).length) = false from decide_eq_false h5]
            refine acallsK mixed Tryz.func125 rfl [0, 1, 2, 3] 1000 ([.call [] false false (.row 0 1 (catL s.chains).length) [.row 3 1 ((catL s.chains).map intA)], .tu 1 ((sortL (catL s.chains)).map intA) (.tup []), .t, .call [] false true (.bool true) [], .call [] false true (.bool false) [], .call [] false true (.bool false) [], .call [1] false false (.row 1 1 (Go.Lib.compact (sortL (catL s.chains))).length) [.gone, .row 3 1 ((Go.Lib.compact (sortL (catL s.chains))).map intA)], .n (Go.Lib.compact (sortL (catL s.chains))).length, .call [] false false (.row 0 1 (catL s.chains).length) [.row 3 1 ((catL s.chains).map intA)], .n (catL s.chains).length, .f]) [] [] (v1 := .bool false) (objs1 := []) (ob := [ACalls Tryz.prog 143 [.lst 1 (List.map encU s.chains)] [] (.row 0 1 (List.length (catL s.chains))) [.row 3 1 (List.map intA (catL s.chains))],
 List.length (List.map intA (sortL (catL s.chains))) = List.length (List.map intA (catL s.chains)),
 ATurn Tryz.prog 144 [.row 0 1 (List.length (catL s.chains))] 3 1 (List.map intA (catL s.chains)) (List.map intA (sortL (catL s.chains))) (.tup []),
 decide (s.at_ < (1048576 : Int)) = true,
 ACalls Tryz.prog 145 [.lst 1 (List.map encU s.chains), .int .i64 4] [] (.bool true) [],
 ACalls Tryz.prog 146 [.lst 1 (List.map encU s.chains), .fn 147 []] [] (.bool false) [],
 ACalls Tryz.prog 104 [.lst 1 (List.map intA (sortL (catL s.chains))), .fn 123 []] [] (.bool false) [],
 ACalls Tryz.prog 149 [.row 0 1 (List.length (catL s.chains))] [.row 3 1 (List.map intA (sortL (catL s.chains)))] (.row 1 1 (List.length (Lib.compact (sortL (catL s.chains))))) [.gone, .row 3 1 (List.map intA (Lib.compact (sortL (catL s.chains))))],
 (↑(List.length (Lib.compact (sortL (catL s.chains)))) : Int) = (↑(List.length (Lib.compact (sortL (catL s.chains)))) : Int),
 ACalls Tryz.prog 143 [.lst 1 (List.map encU s.chains)] [] (.row 0 1 (List.length (catL s.chains))) [.row 3 1 (List.map intA (catL s.chains))],
 ((catL s.chains).length : Int) = ((catL s.chains).length : Int),
 ((↑(List.length (Lib.compact (sortL (catL s.chains)))) : Int) == ((catL s.chains).length : Int)) = false]) (by kernel_rfl) (by first | exact rfl | exact ⟨rfl, rfl⟩ | (simp [encS, h1, h2, hs]; done) | (exact decide_eq_false h5)) ⟨?q66_1, ?z11, ?q66_2, ?z12, ?q66_3, ?q66_4, ?q66_5, ?q66_6, ?z13, ?q66_7, ?z14, ?z15, trivial⟩
            case z11|z12|z13|z14|z15 => first | exact rfl | (simp [encS, h1, h2, hs] <;> omega) | omega | (exact decide_eq_false h5)
            · exact c1
            · exact c2
            · exact c3
            · exact c4
            · exact c5
            · exact c6
            · exact c1
  · rw [show fineB s = false by simp [fineB, h1]]
    refine acallsK mixed Tryz.func125 rfl [0, 1, 2, 3] 1000 ([.call [] false false (.row 0 1 (catL s.chains).length) [.row 3 1 ((catL s.chains).map intA)], .tu 1 ((sortL (catL s.chains)).map intA) (.tup []), .f]) [] [] (v1 := .bool false) (objs1 := []) (ob := [ACalls Tryz.prog 143 [.lst 1 (List.map encU s.chains)] [] (.row 0 1 (List.length (catL s.chains))) [.row 3 1 (List.map intA (catL s.chains))],
 List.length (List.map intA (sortL (catL s.chains))) = List.length (List.map intA (catL s.chains)),
 ATurn Tryz.prog 144 [.row 0 1 (List.length (catL s.chains))] 3 1 (List.map intA (catL s.chains)) (List.map intA (sortL (catL s.chains))) (.tup []),
 decide (s.at_ < (1048576 : Int)) = false]) (by kernel_rfl) (by first | exact rfl | exact ⟨rfl, rfl⟩ | (simp [encS, h1, hs]; done)) ⟨?q75_1, ?z16, ?q75_2, ?z17, trivial⟩
    case z16|z17 => first | exact rfl | (simp [encS, h1, hs] <;> omega) | omega
    · exact c1
    · exact c2
end Go.Proofs.YtidgcfgkcidkiaaGreat.Ch
namespace Go.Proofs.YtidgcfgkcidkiaaGreat.Ch
open Go Go.RowKit Go.Proofs.YtidgcfgkcidkiaaGreat.L Go.Proofs.YtidgcfgkcidkiaaGreat.X
set_option linter.unusedVariables false
set_option linter.unusedSimpArgs false
def restB : Option Int → List SegD → Bool
  | _, [] => true
  | none, s :: r => fineB s && restB (some s.at_) r
  | some a, s :: r => fineB s && (!decide (s.at_ ≤ a) && restB (some s.at_) r)
def prevL (l : LayD) : Nat → Option Int
  | 0 => none
  | k + 1 => (l.segs[k]?).map (·.at_)
def SegD.ok (s : SegD) : Prop := (catL s.chains).length ≤ 1000000000000 ∧ s.chains.length ≤ 1000000000000
theorem segs_loop (l : LayD) (hs : ∀ s ∈ l.segs, s.ok) (hb : l.segs.length ≤ 1000000000000) : ∀ (n k : Nat), l.segs.length = k + n →
    (restB (prevL l k) (l.segs.drop k) = true ∧ ALoop Tryz.prog 0 Tryz.f93.ntmps (loopB Tryz.f93 0) ⟨[(35, .int .i64 k), (34, .int .i64 l.segs.length), (33, .lst 2 (l.segs.map encS)), (1, .ptr 0 0)], [.vars 25 (celL l)]⟩ (.exit 0) ⟨[], []⟩) ∨
    (restB (prevL l k) (l.segs.drop k) = false ∧ ALoop Tryz.prog 0 Tryz.f93.ntmps (loopB Tryz.f93 0) ⟨[(35, .int .i64 k), (34, .int .i64 l.segs.length), (33, .lst 2 (l.segs.map encS)), (1, .ptr 0 0)], [.vars 25 (celL l)]⟩ .ret ⟨[(2, .bool false)], []⟩)
  | 0, k, h => by
    refine .inl ⟨by rw [List.drop_of_length_le (by omega)]; cases prevL l k <;> rfl, ?_⟩
    refine aloopK mixed [0, 1, 2, 3, 4, 31, 33, 34, 35, 36, 58] 1000 ([.go, .f]) [] [] (S1 := { env := [], objs := [] }) (ob := [decide ((↑k : Int) < (l.segs.length : Int)) = false]) (by kernel_rfl) (by first | exact rfl | exact ⟨rfl, rfl⟩ | (simp []; done)) ⟨(by first | exact rfl | (simp []; done) | (simp []; omega) | omega), trivial⟩
  | n + 1, k, h => by
    obtain ⟨s, hx⟩ := get_of (l := l.segs) (k := k) (by omega)
    have hf := fine_ac s (hs s (List.mem_of_getElem? hx)).1 (hs s (List.mem_of_getElem? hx)).2
    rw [drop_of hx]
    have hp : prevL l (k + 1) = some s.at_ := by simp [prevL, hx]
    have ih := segs_loop l hs hb n (k + 1) (by omega)
    rw [hp] at ih
    cases h1 : fineB s with
    | false =>
      rw [h1] at hf
      refine .inr ⟨by cases prevL l k <;> simp [restB, h1], ?_⟩
      refine aloopK mixed [0, 1, 2, 3, 4, 31, 33, 34, 35, 36, 58] 1000 ([.go, .t, .ix k, .el (encS s), .call [] false true (.bool false) []]) [2] [] (S1 := { env := [(2, .bool false)], objs := [] }) (ob := [decide ((↑k : Int) < (l.segs.length : Int)) = true,
 k < List.length (List.map encS l.segs),
 (↑k : Int) = (↑k : Int),
 (List.map encS l.segs)[k]? = some (.agg [.int .u64 s.at_, .lst (nat_lit 1) (List.map encU s.chains)]),
 ACalls Tryz.prog 125 [.agg [.int .u64 s.at_, .lst 1 (List.map encU s.chains)]] [] (.bool false) []]) (by kernel_rfl) (by first | exact rfl | exact ⟨rfl, rfl⟩ | (simp [hx, encS]; done)) ⟨?z0, ?z1, ?z2, ?z3, ?q32_1, trivial⟩
      case z0|z1|z2|z3 => first | exact rfl | (simp [hx, encS] <;> omega) | omega
      exact hf
    | true =>
      rw [h1] at hf
      by_cases hk : k = 0
      · subst hk
        rw [show prevL l 0 = none from rfl, show restB none (s :: l.segs.drop (0 + 1)) = restB (some s.at_) (l.segs.drop (0 + 1)) by simp [restB, h1]]
        obtain ⟨i1, i2⟩ | ⟨i1, i2⟩ := ih
        · refine .inl ⟨i1, ?_⟩
          refine aloopK mixed [0, 1, 2, 3, 4, 31, 33, 34, 35, 36, 58] 1000 ([.go, .t, .ix 0, .el (encS s), .call [] false true (.bool true) [], .f, .n ((0 + 1 : Nat) : Int), .lp [35, 34, 33, 1] [0] (.exit 0) ⟨[], []⟩]) [] [] (S1 := { env := [], objs := [] }) (ob := [decide ((↑(0 : Nat) : Int) < (l.segs.length : Int)) = true,
 nat_lit 0 < List.length (List.map encS l.segs),
 (↑(0 : Nat) : Int) = (↑(nat_lit 0) : Int),
 (List.map encS l.segs)[nat_lit 0]? = some (.agg [.int .u64 s.at_, .lst (nat_lit 1) (List.map encU s.chains)]),
 ACalls Tryz.prog 125 [.agg [.int .u64 s.at_, .lst 1 (List.map encU s.chains)]] [] (.bool true) [],
 decide ((↑(0 : Nat) : Int) > (0 : Int)) = false,
 IntKind.i64.wrap ((↑(0 : Nat) : Int) + (1 : Int)) = (↑((0 : Nat) + (1 : Nat)) : Int),
 ALoop Tryz.prog 0 60 (loopB Tryz.f93 0) { env := [(35, .int .i64 (↑(0 + 1) : Int)), (34, .int .i64 (l.segs.length : Int)), (33, .lst 2 (List.map encS l.segs)), (1, .ptr 0 0)], objs := [.vars 25 [.int .u64 l.epoch, .lst 2 (List.map encS l.segs), .int .i64 l.seq]] } (Ex.exit 0) { env := [], objs := [] }]) (by kernel_rfl) (by first | exact rfl | exact ⟨rfl, rfl⟩ | (simp [hx, encS]; done)) ⟨?z4, ?z5, ?z6, ?z7, ?q41_1, ?z8, ?z9, ?q41_2, trivial⟩
          case z4|z5|z6|z7|z8|z9 => first | exact rfl | (simp [hx, encS] <;> omega) | omega
          · exact hf
          · exact i2
        · refine .inr ⟨i1, ?_⟩
          refine aloopK mixed [0, 1, 2, 3, 4, 31, 33, 34, 35, 36, 58] 1000 ([.go, .t, .ix 0, .el (encS s), .call [] false true (.bool true) [], .f, .n ((0 + 1 : Nat) : Int), .lp [35, 34, 33, 1] [0] .ret ⟨[(2, .bool false)], []⟩]) [2] [] (S1 := { env := [(2, .bool false)], objs := [] }) (ob := [decide ((↑(0 : Nat) : Int) < (l.segs.length : Int)) = true,
 nat_lit 0 < List.length (List.map encS l.segs),
 (↑(0 : Nat) : Int) = (↑(nat_lit 0) : Int),
 (List.map encS l.segs)[nat_lit 0]? = some (.agg [.int .u64 s.at_, .lst (nat_lit 1) (List.map encU s.chains)]),
 ACalls Tryz.prog 125 [.agg [.int .u64 s.at_, .lst 1 (List.map encU s.chains)]] [] (.bool true) [],
 decide ((↑(0 : Nat) : Int) > (0 : Int)) = false,
 IntKind.i64.wrap ((↑(0 : Nat) : Int) + (1 : Int)) = (↑((0 : Nat) + (1 : Nat)) : Int),
 ALoop Tryz.prog 0 60 (loopB Tryz.f93 0) { env := [(35, .int .i64 (↑(0 + 1) : Int)), (34, .int .i64 (l.segs.length : Int)), (33, .lst 2 (List.map encS l.segs)), (1, .ptr 0 0)], objs := [.vars 25 [.int .u64 l.epoch, .lst 2 (List.map encS l.segs), .int .i64 l.seq]] } Ex.ret { env := [(2, .bool false)], objs := [] }]) (by kernel_rfl) (by first | exact rfl | exact ⟨rfl, rfl⟩ | (simp [hx, encS]; done)) ⟨?z10, ?z11, ?z12, ?z13, ?q45_1, ?z14, ?z15, ?q45_2, trivial⟩
          case z10|z11|z12|z13|z14|z15 => first | exact rfl | (simp [hx, encS] <;> omega) | omega
          · exact hf
          · exact i2
      · obtain ⟨j, rfl⟩ : ∃ j, k = j + 1 := ⟨k - 1, by omega⟩
        obtain ⟨s1, hy⟩ := get_of (l := l.segs) (k := j) (by omega)
        have hq : prevL l (j + 1) = some s1.at_ := by simp [prevL, hy]
        rw [hq]
        have hw : IntKind.wrap .i64 (((j + 1 : Nat) : Int) - 1) = (j : Int) := by
          have : (j : Int) ≤ 1000000000000 := by omega
          simp [IntKind.wrap, IntKind.bits, IntKind.signed]; omega
        by_cases h2 : s.at_ ≤ s1.at_
        · refine .inr ⟨by simp [restB, h1, h2], ?_⟩
          refine aloopK mixed [0, 1, 2, 3, 4, 31, 33, 34, 35, 36, 58] 1000 ([.go, .t, .ix (j + 1), .el (encS s), .call [] false true (.bool true) [], .t, .n (j : Int), .ix j, .el (encS s1), .t]) [2] [] (S1 := { env := [(2, .bool false)], objs := [] }) (ob := [decide ((↑(j + (1 : Nat)) : Int) < (l.segs.length : Int)) = true,
 j + (1 : Nat) < List.length (List.map encS l.segs),
 (↑(j + (1 : Nat)) : Int) = (↑(j + (1 : Nat)) : Int),
 (List.map encS l.segs)[j + (1 : Nat)]? = some (.agg [.int .u64 s.at_, .lst (nat_lit 1) (List.map encU s.chains)]),
 ACalls Tryz.prog 125 [.agg [.int .u64 s.at_, .lst 1 (List.map encU s.chains)]] [] (.bool true) [],
 decide ((↑(j + (1 : Nat)) : Int) > (0 : Int)) = true,
 IntKind.i64.wrap ((↑(j + (1 : Nat)) : Int) - (1 : Int)) = (↑j : Int),
 j < List.length (List.map encS l.segs),
 (↑j : Int) = (↑j : Int),
 (List.map encS l.segs)[j]? = some (.agg [.int .u64 s1.at_, .lst (nat_lit 1) (List.map encU s1.chains)]),
 decide (s.at_ ≤ s1.at_) = true]) (by kernel_rfl) (by first | exact rfl | exact ⟨rfl, rfl⟩ | (simp [hx, hy, encS, h2]; done) | (first | exact hw | omega)) ⟨?z16, ?z17, ?z18, ?z19, ?q57_1, ?z20, ?z21, ?z22, ?z23, ?z24, ?z25, trivial⟩
          case z16|z17|z18|z19|z20|z21|z22|z23|z24|z25 => first | exact rfl | (simp [hx, hy, encS, h2] <;> omega) | omega | (first | exact hw | omega)
          exact hf
        · rw [show restB (some s1.at_) (s :: l.segs.drop (j + 1 + 1)) = restB (some s.at_) (l.segs.drop (j + 1 + 1)) by simp [restB, h1, h2]]
          obtain ⟨i1, i2⟩ | ⟨i1, i2⟩ := ih
          · refine .inl ⟨i1, ?_⟩
            refine aloopK mixed [0, 1, 2, 3, 4, 31, 33, 34, 35, 36, 58] 1000 ([.go, .t, .ix (j + 1), .el (encS s), .call [] false true (.bool true) [], .t, .n (j : Int), .ix j, .el (encS s1), .f, .n ((j + 1 + 1 : Nat) : Int), .lp [35, 34, 33, 1] [0] (.exit 0) ⟨[], []⟩]) [] [] (S1 := { env := [], objs := [] }) (ob := [decide ((↑(j + (1 : Nat)) : Int) < (l.segs.length : Int)) = true,
 j + (1 : Nat) < List.length (List.map encS l.segs),
 (↑(j + (1 : Nat)) : Int) = (↑(j + (1 : Nat)) : Int),
 (List.map encS l.segs)[j + (1 : Nat)]? = some (.agg [.int .u64 s.at_, .lst (nat_lit 1) (List.map encU s.chains)]),
 ACalls Tryz.prog 125 [.agg [.int .u64 s.at_, .lst 1 (List.map encU s.chains)]] [] (.bool true) [],
 decide ((↑(j + (1 : Nat)) : Int) > (0 : Int)) = true,
 IntKind.i64.wrap ((↑(j + (1 : Nat)) : Int) - (1 : Int)) = (↑j : Int),
 j < List.length (List.map encS l.segs),
 (↑j : Int) = (↑j : Int),
 (List.map encS l.segs)[j]? = some (.agg [.int .u64 s1.at_, .lst (nat_lit 1) (List.map encU s1.chains)]),
 decide (s.at_ ≤ s1.at_) = false,
 IntKind.i64.wrap ((↑(j + (1 : Nat)) : Int) + (1 : Int)) = (↑(j + (1 : Nat) + (1 : Nat)) : Int),
 ALoop Tryz.prog 0 60 (loopB Tryz.f93 0) { env := [(35, .int .i64 (↑(j + 1 + 1) : Int)), (34, .int .i64 (l.segs.length : Int)), (33, .lst 2 (List.map encS l.segs)), (1, .ptr 0 0)], objs := [.vars 25 [.int .u64 l.epoch, .lst 2 (List.map encS l.segs), .int .i64 l.seq]] } (Ex.exit 0) { env := [], objs := [] }]) (by kernel_rfl) (by first | exact rfl | exact ⟨rfl, rfl⟩ | (simp [hx, hy, encS, h2]; done) | (first | exact hw | omega | exact wrap64 (by omega))) ⟨?z26, ?z27, ?z28, ?z29, ?q62_1, ?z30, ?z31, ?z32, ?z33, ?z34, ?z35, ?z36, ?q62_2, trivial⟩
            case z26|z27|z28|z29|z30|z31|z32|z33|z34|z35|z36 => first | exact rfl | (simp [hx, hy, encS, h2] <;> omega) | omega | (first | exact hw | omega | exact wrap64 (by omega))
            · exact hf
            · exact i2
          · refine .inr ⟨i1, ?_⟩
            refine aloopK mixed [0, 1, 2, 3, 4, 31, 33, 34, 35, 36, 58] 1000 ([.go, .t, .ix (j + 1), .el (encS s), .call [] false true (.bool true) [], .t, .n (j : Int), .ix j, .el (encS s1), .f, .n ((j + 1 + 1 : Nat) : Int), .lp [35, 34, 33, 1] [0] .ret ⟨[(2, .bool false)], []⟩]) [2] [] (S1 := { env := [(2, .bool false)], objs := [] }) (ob := [decide ((↑(j + (1 : Nat)) : Int) < (l.segs.length : Int)) = true,
 j + (1 : Nat) < List.length (List.map encS l.segs),
 (↑(j + (1 : Nat)) : Int) = (↑(j + (1 : Nat)) : Int),
 (List.map encS l.segs)[j + (1 : Nat)]? = some (.agg [.int .u64 s.at_, .lst (nat_lit 1) (List.map encU s.chains)]),
 ACalls Tryz.prog 125 [.agg [.int .u64 s.at_, .lst 1 (List.map encU s.chains)]] [] (.bool true) [],
 decide ((↑(j + (1 : Nat)) : Int) > (0 : Int)) = true,
 IntKind.i64.wrap ((↑(j + (1 : Nat)) : Int) - (1 : Int)) = (↑j : Int),
 j < List.length (List.map encS l.segs),
 (↑j : Int) = (↑j : Int),
 (List.map encS l.segs)[j]? = some (.agg [.int .u64 s1.at_, .lst (nat_lit 1) (List.map encU s1.chains)]),
 decide (s.at_ ≤ s1.at_) = false,
 IntKind.i64.wrap ((↑(j + (1 : Nat)) : Int) + (1 : Int)) = (↑(j + (1 : Nat) + (1 : Nat)) : Int),
 ALoop Tryz.prog 0 60 (loopB Tryz.f93 0) { env := [(35, .int .i64 (↑(j + 1 + 1) : Int)), (34, .int .i64 (l.segs.length : Int)), (33, .lst 2 (List.map encS l.segs)), (1, .ptr 0 0)], objs := [.vars 25 [.int .u64 l.epoch, .lst 2 (List.map encS l.segs), .int .i64 l.seq]] } Ex.ret { env := [(2, .bool false)], objs := [] }]) (by kernel_rfl) (by first | exact rfl | exact ⟨rfl, rfl⟩ | (simp [hx, hy, encS, h2]; done) | (first | exact hw | omega | exact wrap64 (by omega))) ⟨?z37, ?z38, ?z39, ?z40, ?q66_1, ?z41, ?z42, ?z43, ?z44, ?z45, ?z46, ?z47, ?q66_2, trivial⟩
            case z37|z38|z39|z40|z41|z42|z43|z44|z45|z46|z47 => first | exact rfl | (simp [hx, hy, encS, h2] <;> omega) | omega | (first | exact hw | omega | exact wrap64 (by omega))
            · exact hf
            · exact i2

def firstB : List SegD → Bool
  | [] => false
  | s :: _ => decide (s.at_ = 0)
def rightL (l : LayD) : Bool := decide (1 ≤ l.epoch) && (decide (l.epoch ≤ 1048576) && (!outB l.seq && (lenB l.segs.length 4 && (firstB l.segs && restB none l.segs))))
theorem rightL_ac (l : LayD) (hs : ∀ s ∈ l.segs, s.ok) (hb : l.segs.length ≤ 1000000000000) : ACalls Tryz.prog 93 [encL l] [] (.bool (rightL l)) [] := by
  have c1 := outside_ac l.seq
  have c2 := within_seg (l.segs.map encS) 4
  rw [List.length_map] at c2
  have c3 := segs_loop l hs hb l.segs.length 0 (by omega)
  rw [List.drop_zero, show prevL l 0 = none from rfl] at c3
  by_cases h1 : l.epoch < 1
  · rw [show rightL l = false by simp [rightL]; omega]
    refine acallsK mixed Tryz.func93 rfl [0, 1, 2, 3, 4, 31, 33, 34, 35, 36, 58] 1000 ([.t]) [] [] (v1 := .bool false) (objs1 := []) (ob := [decide (l.epoch < (1 : Int)) = true]) (by kernel_rfl) (by first | exact rfl | exact ⟨rfl, rfl⟩ | (simp [encL, h1]; done)) ⟨(by first | exact rfl | (simp [encL, h1]; done) | (simp [encL, h1]; omega) | omega), trivial⟩
  · by_cases h2 : l.epoch ≤ 1048576
    · cases h3 : outB l.seq with
      | true =>
        rw [h3] at c1
        rw [show rightL l = false by simp [rightL, h3]]
        refine acallsK mixed Tryz.func93 rfl [0, 1, 2, 3, 4, 31, 33, 34, 35, 36, 58] 1000 ([.f, .f, .call [] false true (.bool true) []]) [] [] (v1 := .bool false) (objs1 := []) (ob := [decide (l.epoch < (1 : Int)) = false,
 decide (l.epoch > (1048576 : Int)) = false,
 ACalls Tryz.prog 123 [.int .i64 l.seq] [] (.bool true) []]) (by kernel_rfl) (by first | exact rfl | exact ⟨rfl, rfl⟩ | (simp [encL, h1, h2]; done) | (omega)) ⟨?z0, ?z1, ?q88_1, trivial⟩
        case z0|z1 => first | exact rfl | (simp [encL, h1, h2] <;> omega) | omega | (omega)
        exact c1
      | false =>
        rw [h3] at c1
        cases h4 : lenB l.segs.length 4 with
        | false =>
          rw [h4] at c2
          rw [show rightL l = false by simp [rightL, h4]]
          refine acallsK mixed Tryz.func93 rfl [0, 1, 2, 3, 4, 31, 33, 34, 35, 36, 58] 1000 ([.f, .f, .call [] false true (.bool false) [], .call [] false true (.bool false) []]) [] [] (v1 := .bool false) (objs1 := []) (ob := [decide (l.epoch < (1 : Int)) = false,
 decide (l.epoch > (1048576 : Int)) = false,
 ACalls Tryz.prog 123 [.int .i64 l.seq] [] (.bool false) [],
 ACalls Tryz.prog 124 [.lst 2 (List.map encS l.segs), .int .i64 4] [] (.bool false) []]) (by kernel_rfl) (by first | exact rfl | exact ⟨rfl, rfl⟩ | (simp [encL, h1, h2]; done) | (omega)) ⟨?z2, ?z3, ?q96_1, ?q96_2, trivial⟩
          case z2|z3 => first | exact rfl | (simp [encL, h1, h2] <;> omega) | omega | (omega)
          · exact c1
          · exact c2
        | true =>
          rw [h4] at c2
          have hpos : 0 < l.segs.length := by simp [lenB] at h4; exact h4.1
          obtain ⟨s0, hx⟩ := get_of hpos
          have hfB : firstB l.segs = decide (s0.at_ = 0) := by
            cases hl : l.segs with
            | nil => rw [hl] at hx; cases hx
            | cons a r => rw [hl] at hx; injection hx with hx; rw [← hx]; rfl
          by_cases h5 : s0.at_ = 0
          · rw [show rightL l = restB none l.segs by simp [rightL, h3, h4, hfB, h5, h2]; omega]
            obtain ⟨i1, i2⟩ | ⟨i1, i2⟩ := c3
            · rw [i1]
              refine acallsK mixed Tryz.func93 rfl [0, 1, 2, 3, 4, 31, 33, 34, 35, 36, 58] 1000 ([.f, .f, .call [] false true (.bool false) [], .call [] false true (.bool true) [], .ix 0, .el (encS s0), .f, .n l.segs.length, .lp [35, 34, 33, 1] [0] (.exit 0) ⟨[], []⟩]) [] [] (v1 := .bool true) (objs1 := []) (ob := [decide (l.epoch < (1 : Int)) = false,
 decide (l.epoch > (1048576 : Int)) = false,
 ACalls Tryz.prog 123 [.int .i64 l.seq] [] (.bool false) [],
 ACalls Tryz.prog 124 [.lst 2 (List.map encS l.segs), .int .i64 4] [] (.bool true) [],
 nat_lit 0 < List.length (List.map encS l.segs),
 (0 : Int) = (↑(nat_lit 0) : Int),
 (List.map encS l.segs)[nat_lit 0]? = some (.agg [.int .u64 s0.at_, .lst (nat_lit 1) (List.map encU s0.chains)]),
 (s0.at_ != (0 : Int)) = false,
 ((List.map encS l.segs).length : Int) = (l.segs.length : Int),
 ALoop Tryz.prog 0 60 (loopB Tryz.f93 0) { env := [(35, .int .i64 0), (34, .int .i64 (l.segs.length : Int)), (33, .lst 2 (List.map encS l.segs)), (1, .ptr 0 0)], objs := [.vars 25 [.int .u64 l.epoch, .lst 2 (List.map encS l.segs), .int .i64 l.seq]] } (Ex.exit 0) { env := [], objs := [] }]) (by kernel_rfl) (by first | exact rfl | exact ⟨rfl, rfl⟩ | (simp [encL, h1, h2, hx, encS, h5]; done) | (omega)) ⟨?z4, ?z5, ?q111_1, ?q111_2, ?z6, ?z7, ?z8, ?z9, ?z10, ?q111_3, trivial⟩
              case z4|z5|z6|z7|z8|z9|z10 => first | exact rfl | (simp [encL, h1, h2, hx, encS, h5] <;> omega) | omega | (omega)
              · exact c1
              · exact c2
              · exact i2
            · rw [i1]
              refine acallsK mixed Tryz.func93 rfl [0, 1, 2, 3, 4, 31, 33, 34, 35, 36, 58] 1000 ([.f, .f, .call [] false true (.bool false) [], .call [] false true (.bool true) [], .ix 0, .el (encS s0), .f, .n l.segs.length, .lp [35, 34, 33, 1] [0] .ret ⟨[(2, .bool false)], []⟩]) [] [] (v1 := .bool false) (objs1 := []) (ob := [decide (l.epoch < (1 : Int)) = false,
 decide (l.epoch > (1048576 : Int)) = false,
 ACalls Tryz.prog 123 [.int .i64 l.seq] [] (.bool false) [],
 ACalls Tryz.prog 124 [.lst 2 (List.map encS l.segs), .int .i64 4] [] (.bool true) [],
 nat_lit 0 < List.length (List.map encS l.segs),
 (0 : Int) = (↑(nat_lit 0) : Int),
 (List.map encS l.segs)[nat_lit 0]? = some (.agg [.int .u64 s0.at_, .lst (nat_lit 1) (List.map encU s0.chains)]),
 (s0.at_ != (0 : Int)) = false,
 ((List.map encS l.segs).length : Int) = (l.segs.length : Int),
 ALoop Tryz.prog 0 60 (loopB Tryz.f93 0) { env := [(35, .int .i64 0), (34, .int .i64 (l.segs.length : Int)), (33, .lst 2 (List.map encS l.segs)), (1, .ptr 0 0)], objs := [.vars 25 [.int .u64 l.epoch, .lst 2 (List.map encS l.segs), .int .i64 l.seq]] } Ex.ret { env := [(2, .bool false)], objs := [] }]) (by kernel_rfl) (by first | exact rfl | exact ⟨rfl, rfl⟩ | (simp [encL, h1, h2, hx, encS, h5]; done) | (omega)) ⟨?z11, ?z12, ?q116_1, ?q116_2, ?z13, ?z14, ?z15, ?z16, ?z17, ?q116_3, trivial⟩
              case z11|z12|z13|z14|z15|z16|z17 => first | exact rfl | (simp [encL, h1, h2, hx, encS, h5] <;> omega) | omega | (omega)
              · exact c1
              · exact c2
              · exact i2
          · rw [show rightL l = false by simp [rightL, hfB, h5]]
            refine acallsK mixed Tryz.func93 rfl [0, 1, 2, 3, 4, 31, 33, 34, 35, 36, 58] 1000 ([.f, .f, .call [] false true (.bool false) [], .call [] false true (.bool true) [], .ix 0, .el (encS s0), .t]) [] [] (v1 := .bool false) (objs1 := []) (ob := [decide (l.epoch < (1 : Int)) = false,
 decide (l.epoch > (1048576 : Int)) = false,
 ACalls Tryz.prog 123 [.int .i64 l.seq] [] (.bool false) [],
 ACalls Tryz.prog 124 [.lst 2 (List.map encS l.segs), .int .i64 4] [] (.bool true) [],
 nat_lit 0 < List.length (List.map encS l.segs),
 (0 : Int) = (↑(nat_lit 0) : Int),
 (List.map encS l.segs)[nat_lit 0]? = some (.agg [.int .u64 s0.at_, .lst (nat_lit 1) (List.map encU s0.chains)]),
 (s0.at_ != (0 : Int)) = true]) (by kernel_rfl) (by first | exact rfl | exact ⟨rfl, rfl⟩ | (simp [encL, h1, h2, hx, encS, h5]; done) | (omega)) ⟨?z18, ?z19, ?q121_1, ?q121_2, ?z20, ?z21, ?z22, ?z23, trivial⟩
            case z18|z19|z20|z21|z22|z23 => first | exact rfl | (simp [encL, h1, h2, hx, encS, h5] <;> omega) | omega | (omega)
            · exact c1
            · exact c2
    · rw [show rightL l = false by simp [rightL]; omega]
      refine acallsK mixed Tryz.func93 rfl [0, 1, 2, 3, 4, 31, 33, 34, 35, 36, 58] 1000 ([.f, .t]) [] [] (v1 := .bool false) (objs1 := []) (ob := [decide (l.epoch < (1 : Int)) = false,
 decide (l.epoch > (1048576 : Int)) = true]) (by kernel_rfl) (by first | exact rfl | exact ⟨rfl, rfl⟩ | (simp [encL, h1]; done) | (omega)) ⟨?z24, ?z25, trivial⟩
      case z24|z25 => first | exact rfl | (simp [encL, h1] <;> omega) | omega | (omega)
end Go.Proofs.YtidgcfgkcidkiaaGreat.Ch
namespace Go.Proofs.YtidgcfgkcidkiaaGreat.Ch
open Go Go.RowKit Go.Proofs.YtidgcfgkcidkiaaGreat.L Go.Proofs.YtidgcfgkcidkiaaGreat.X
set_option linter.unusedVariables false
set_option linter.unusedSimpArgs false
def segIx (l : List SegD) (a : Int) : Nat → Nat
  | 0 => 0
  | n + 1 => match l[n + 1]? with | some s => if s.at_ ≤ a then n + 1 else segIx l a n | none => 0
theorem segIx_spec {l : List SegD} {a : Int} (hf : firstB l = true) (ha : 0 ≤ a) : ∀ k, k < l.length → ∃ s, l[segIx l a k]? = some s ∧ s.at_ ≤ a
  | 0, h => by
    cases l with
    | nil => cases hf
    | cons s r => exact ⟨s, rfl, by simp [firstB] at hf; omega⟩
  | n + 1, h => by
    obtain ⟨s, hx⟩ := get_of h
    unfold segIx
    rw [hx]
    dsimp only
    split
    · rename_i h1; exact ⟨s, hx, h1⟩
    · exact segIx_spec hf ha n (by omega)
theorem seg_loop (l : LayD) (a : Int) (hf : firstB l.segs = true) (ha : 0 ≤ a) (hb : l.segs.length ≤ 1000000000000) : ∀ k, k < l.segs.length →
    ALoop Tryz.prog 0 Tryz.f78.ntmps (loopB Tryz.f78 0) ⟨[(5, .int .i64 k), (2, .ptr 0 0), (1, .int .u64 a)], [.vars 25 (celL l)]⟩ (.exit 0) ⟨[(5, .int .i64 (segIx l.segs a k))], []⟩
  | 0, h => by
    obtain ⟨s, hx, h1⟩ := segIx_spec hf ha 0 h
    rw [show segIx l.segs a 0 = 0 from rfl] at hx ⊢
    refine aloopK mixed [0, 1, 2, 4, 5, 12, 24] 1000 ([.go, .ix 0, .el (encS s), .f]) [5] [] (S1 := { env := [(5, .int .i64 (↑0 : Int))], objs := [] }) (ob := [nat_lit 0 < List.length (List.map encS l.segs),
 (↑(0 : Nat) : Int) = (↑(nat_lit 0) : Int),
 (List.map encS l.segs)[nat_lit 0]? = some (.agg [.int .u64 s.at_, .lst (nat_lit 1) (List.map encU s.chains)]),
 decide (s.at_ > a) = false]) (by kernel_rfl) (by first | exact rfl | exact ⟨rfl, rfl⟩ | (simp [hx, encS]; done)) ⟨?z0, ?z1, ?z2, ?z3, trivial⟩
    case z0|z1|z2|z3 => first | exact rfl | (simp [hx, encS] <;> omega) | omega
  | k + 1, h => by
    obtain ⟨s, hx⟩ := get_of h
    by_cases h1 : s.at_ ≤ a
    · rw [show segIx l.segs a (k + 1) = k + 1 by simp [segIx, hx, h1]]
      refine aloopK mixed [0, 1, 2, 4, 5, 12, 24] 1000 ([.go, .ix (k + 1), .el (encS s), .f]) [5] [] (S1 := { env := [(5, .int .i64 (↑(k + 1) : Int))], objs := [] }) (ob := [k + (1 : Nat) < List.length (List.map encS l.segs),
 (↑(k + (1 : Nat)) : Int) = (↑(k + (1 : Nat)) : Int),
 (List.map encS l.segs)[k + (1 : Nat)]? = some (.agg [.int .u64 s.at_, .lst (nat_lit 1) (List.map encU s.chains)]),
 decide (s.at_ > a) = false]) (by kernel_rfl) (by first | exact rfl | exact ⟨rfl, rfl⟩ | (simp [hx, encS]; done) | (omega)) ⟨?z4, ?z5, ?z6, ?z7, trivial⟩
      case z4|z5|z6|z7 => first | exact rfl | (simp [hx, encS] <;> omega) | omega | (omega)
    · rw [show segIx l.segs a (k + 1) = segIx l.segs a k by simp [segIx, hx, h1]]
      have ih := seg_loop l a hf ha hb k (by omega)
      have hw : IntKind.wrap .i64 (((k + 1 : Nat) : Int) - 1) = (k : Int) := by
        have : (k : Int) ≤ 1000000000000 := by omega
        simp [IntKind.wrap, IntKind.bits, IntKind.signed]; omega
      refine aloopK mixed [0, 1, 2, 4, 5, 12, 24] 1000 ([.go, .ix (k + 1), .el (encS s), .t, .n (k : Int), .lp [5, 2, 1] [0] (.exit 0) ⟨[(5, .int .i64 (segIx l.segs a k))], []⟩]) [5] [] (S1 := { env := [(5, .int .i64 (↑(segIx l.segs a k) : Int))], objs := [] }) (ob := [k + (1 : Nat) < List.length (List.map encS l.segs),
 (↑(k + (1 : Nat)) : Int) = (↑(k + (1 : Nat)) : Int),
 (List.map encS l.segs)[k + (1 : Nat)]? = some (.agg [.int .u64 s.at_, .lst (nat_lit 1) (List.map encU s.chains)]),
 decide (s.at_ > a) = true,
 IntKind.i64.wrap ((↑(k + (1 : Nat)) : Int) - (1 : Int)) = (↑k : Int),
 ALoop Tryz.prog 0 28 (loopB Tryz.f78 0) { env := [(5, .int .i64 (↑k : Int)), (2, .ptr 0 0), (1, .int .u64 a)], objs := [.vars 25 [.int .u64 l.epoch, .lst 2 (List.map encS l.segs), .int .i64 l.seq]] } (Ex.exit 0) { env := [(5, .int .i64 (↑(segIx l.segs a k) : Int))], objs := [] }]) (by kernel_rfl) (by first | exact rfl | exact ⟨rfl, rfl⟩ | (simp [hx, encS]; done) | (first | exact hw | omega)) ⟨?z8, ?z9, ?z10, ?z11, ?z12, ?q40_1, trivial⟩
      case z8|z9|z10|z11|z12 => first | exact rfl | (simp [hx, encS] <;> omega) | omega | (first | exact hw | omega)
      exact ih
theorem seg_no (l : LayD) (a : Int) (hs : ∀ s ∈ l.segs, s.ok) (hb : l.segs.length ≤ 1000000000000) (h : rightL l = false ∨ 1048576 ≤ a) : ACalls Tryz.prog 78 [encL l, .int .u64 a] [] (.int .i64 (-1)) [] := by
  have c1 := rightL_ac l hs hb
  cases h1 : rightL l with
  | false =>
    rw [h1] at c1
    refine acallsK mixed Tryz.func78 rfl [0, 1, 2, 4, 5, 12, 24] 1000 ([.call [] false true (.bool false) []]) [] [] (ob := [_]) (by kernel_rfl) ⟨rfl, rfl⟩ ⟨c1, trivial⟩
  | true =>
    rw [h1] at c1
    have h2 : 1048576 ≤ a := by rcases h with h | h; · rw [h1] at h; cases h
                                · exact h
    refine acallsK mixed Tryz.func78 rfl [0, 1, 2, 4, 5, 12, 24] 1000 ([.call [] false true (.bool true) [], .t]) [] [] (ob := [_,
 decide (a ≥ (1048576 : Int)) = true]) (by kernel_rfl) ⟨rfl, rfl⟩ ⟨c1, (by first | exact rfl | (simp [encL]; done) | (simp [encL]; omega) | omega), trivial⟩
theorem rightL_first {l : LayD} (h : rightL l = true) : firstB l.segs = true ∧ 0 < l.segs.length ∧ l.segs.length ≤ 4 := by
  simp [rightL, lenB] at h
  exact ⟨h.2.2.2.2.1, h.2.2.2.1.1, by omega⟩
theorem seg_yes (l : LayD) (a : Int) (hs : ∀ s ∈ l.segs, s.ok) (hb : l.segs.length ≤ 1000000000000) (h : rightL l = true) (ha : 0 ≤ a) (h2 : a < 1048576) : ACalls Tryz.prog 78 [encL l, .int .u64 a] [] (.int .i64 (segIx l.segs a (l.segs.length - 1))) [] := by
  have c1 := rightL_ac l hs hb
  rw [h] at c1
  obtain ⟨f1, f2, f3⟩ := rightL_first h
  have c2 := seg_loop l a f1 ha hb (l.segs.length - 1) (by omega)
  have hw : IntKind.wrap .i64 ((l.segs.length : Int) - 1) = ((l.segs.length - 1 : Nat) : Int) := by
    rw [show ((l.segs.length : Int) - 1) = ((l.segs.length - 1 : Nat) : Int) by omega]
    have : ((l.segs.length - 1 : Nat) : Int) ≤ 1000000000000 := by omega
    have : 0 ≤ ((l.segs.length - 1 : Nat) : Int) := by omega
    generalize ((l.segs.length - 1 : Nat) : Int) = q at *
    simp [IntKind.wrap, IntKind.bits, IntKind.signed]; omega
  refine acallsK mixed Tryz.func78 rfl [0, 1, 2, 4, 5, 12, 24] 1000 ([.call [] false true (.bool true) [], .f, .n l.segs.length, .n ((l.segs.length - 1 : Nat) : Int), .lp [5, 2, 1] [0] (.exit 0) ⟨[(5, .int .i64 (segIx l.segs a (l.segs.length - 1)))], []⟩]) [] [] (ob := [_,
 decide (a ≥ (1048576 : Int)) = false,
 ((List.map encS l.segs).length : Int) = (l.segs.length : Int),
 IntKind.i64.wrap ((l.segs.length : Int) - (1 : Int)) = (↑(List.length l.segs - (1 : Nat)) : Int),
 _]) (by kernel_rfl) ⟨rfl, rfl⟩ ⟨c1, ?z0, ?z1, ?z2, c2, trivial⟩
  case z0|z1|z2 => first | exact rfl | (simp [encL, h2] <;> omega) | omega | (first | omega | exact hw)
theorem chain_no (l : LayD) (a : Int) (hs : ∀ s ∈ l.segs, s.ok) (hb : l.segs.length ≤ 1000000000000) (h : rightL l = false ∨ 1048576 ≤ a) : ACalls Tryz.prog 43 [encL l, .int .u64 a] [] .nils [] := by
  have c1 := seg_no l a hs hb h
  refine acallsK mixed Tryz.func43 rfl [0, 1, 2, 4, 5, 6, 11] 1000 ([.call [] false true (.int .i64 (-1)) [], .t]) [] [] (ob := [_,
 decide ((-1 : Int) < (0 : Int)) = true]) (by kernel_rfl) ⟨rfl, rfl⟩ ⟨c1, (by first | exact rfl | (simp [encL]; done) | (simp [encL]; omega) | omega), trivial⟩

theorem restB_mem : ∀ (l : List SegD) (p : Option Int) (h : restB p l = true), ∀ s ∈ l, fineB s = true
  | [], _, _, s, hs => by cases hs
  | x :: r, p, h, s, hs => by
    have h1 : fineB x = true ∧ restB (some x.at_) r = true := by
      cases p <;> simp [restB] at h
      · exact h
      · exact ⟨h.1, h.2.2⟩
    rcases List.mem_cons.1 hs with rfl | hs
    · exact h1.1
    · exact restB_mem r _ h1.2 s hs
/-- What is known of a chain. -/
structure Units (u : List Int) : Prop where
  pos : 0 < u.length
  most : u.length ≤ 4
  all : ∀ x ∈ u, 0 ≤ x ∧ x < 32
theorem fine_chain {s : SegD} {u : List Int} (h : fineB s = true) (hu : u ∈ s.chains) : Units u := by
  simp only [fineB, Bool.and_eq_true, Bool.not_eq_true'] at h
  obtain ⟨_, _, h3, h4, _⟩ := h
  have h5 : longB u = false := by
    cases hl : longB u with
    | false => rfl
    | true => rw [← h3]; symm; exact List.any_eq_true.2 ⟨u, hu, hl⟩
  simp [longB, lenB] at h5
  refine ⟨h5.1, by omega, fun x hx => ?_⟩
  have hm : x ∈ sortL (catL s.chains) := by
    unfold sortL
    rw [List.mem_mergeSort]
    exact List.mem_flatten.2 ⟨u, hu, hx⟩
  have : outB x = false := by
    cases hl : outB x with
    | false => rfl
    | true => rw [← h4]; symm; exact List.any_eq_true.2 ⟨x, hm, hl⟩
  simp [outB, inB] at this
  exact this
theorem fine_len {s : SegD} (h : fineB s = true) : 0 < s.chains.length ∧ s.chains.length ≤ 4 ∧ s.at_ < 1048576 := by
  simp [fineB, lenB] at h
  omega
def chainS (s : SegD) (a : Int) : Option (List Int) := s.chains[(a - s.at_).toNat % s.chains.length]?
def chainL (l : LayD) (a : Int) : Option (List Int) := (l.segs[segIx l.segs a (l.segs.length - 1)]?).bind (chainS · a)
theorem chain_yes (l : LayD) (a : Int) (hs : ∀ s ∈ l.segs, s.ok ∧ 0 ≤ s.at_) (hb : l.segs.length ≤ 1000000000000) (h : rightL l = true) (ha : 0 ≤ a) (h2 : a < 1048576) :
    ∃ u, chainL l a = some u ∧ Units u ∧ ACalls Tryz.prog 43 [encL l, .int .u64 a] [] (.row 0 1 u.length) [.row 3 1 (u.map intA)] := by
  have c1 := seg_yes l a (fun s h => (hs s h).1) hb h ha h2
  obtain ⟨f1, f2, f3⟩ := rightL_first h
  obtain ⟨s, hx, hle⟩ := segIx_spec f1 ha (l.segs.length - 1) (by omega)
  have hsm := List.mem_of_getElem? hx
  have hfine : fineB s = true := by
    simp only [rightL, Bool.and_eq_true] at h
    exact restB_mem _ _ h.2.2.2.2.2 s hsm
  obtain ⟨g1, g2, g3⟩ := fine_len hfine
  have h0 := (hs s hsm).2
  have hlt : (a - s.at_).toNat % s.chains.length < s.chains.length := Nat.mod_lt _ g1
  obtain ⟨u, hy⟩ := get_of hlt
  have hum := List.mem_of_getElem? hy
  have hU := fine_chain hfine hum
  have c2 := clone_int_ac u (by have := hU.most; omega)
  refine ⟨u, by simp [chainL, hx, chainS, hy], hU, ?_⟩
  have hi := segIx l.segs a (l.segs.length - 1)
  generalize segIx l.segs a (l.segs.length - 1) = k at c1 hx
  have hk : k < l.segs.length := (List.getElem?_eq_some_iff.1 hx).1
  have w1 : IntKind.wrap .u64 (a - s.at_) = a - s.at_ := by simp [IntKind.wrap, IntKind.bits, IntKind.signed]; omega
  have w2 : IntKind.wrap .u64 (s.chains.length : Int) = (s.chains.length : Int) := by
    have : (s.chains.length : Int) ≤ 4 := by omega
    have : 0 ≤ (s.chains.length : Int) := by omega
    simp [IntKind.wrap, IntKind.bits, IntKind.signed]; omega
  have w3 : (a - s.at_).tmod (s.chains.length : Int) = (((a - s.at_).toNat % s.chains.length : Nat) : Int) := by
    obtain ⟨d, hd⟩ : ∃ d : Nat, a - s.at_ = d := ⟨(a - s.at_).toNat, by omega⟩
    rw [hd, Int.toNat_natCast, Int.ofNat_tmod]
  have w4 : (s.chains.length : Int) ≠ 0 := by omega
  refine acallsK mixed Tryz.func43 rfl [0, 1, 2, 4, 5, 6, 11] 1000 ([.call [] false true (.int .i64 k) [], .f, .ix k, .el (encS s), .n (a - s.at_), .n s.chains.length, .n s.chains.length, .n ((((a - s.at_).toNat % s.chains.length : Nat)) : Int), .ix ((a - s.at_).toNat % s.chains.length), .el (encU u), .call [] false false (.row 0 1 u.length) [.row 3 1 (u.map intA)]]) [] [2] (ob := [_,
 decide ((↑k : Int) < (0 : Int)) = false,
 k < List.length (List.map encS l.segs),
 (↑k : Int) = (↑k : Int),
 (List.map encS l.segs)[k]? = some (.agg [.int .u64 s.at_, .lst (nat_lit 1) (List.map encU s.chains)]),
 IntKind.u64.wrap (a - s.at_) = a - s.at_,
 ((List.map encU s.chains).length : Int) = (s.chains.length : Int),
 IntKind.u64.wrap (s.chains.length : Int) = (s.chains.length : Int),
 (s.chains.length : Int) ≠ (0 : Int),
 Int.tmod (a - s.at_) (s.chains.length : Int) = (↑(Int.toNat (a - s.at_) % List.length s.chains) : Int),
 Int.toNat (a - s.at_) % List.length s.chains < List.length (List.map encU s.chains),
 (↑(Int.toNat (a - s.at_) % List.length s.chains) : Int) = (↑(Int.toNat (a - s.at_) % List.length s.chains) : Int),
 (List.map encU s.chains)[Int.toNat (a - s.at_) % List.length s.chains]? = some (.lst (nat_lit 1) (List.map intA u)),
 _]) (by kernel_rfl) ⟨rfl, rfl⟩ ⟨c1, ?z0, ?z1, ?z2, ?z3, ?z4, ?z5, ?z6, ?z7, ?z8, ?z9, ?z10, ?z11, c2, trivial⟩
  case z0|z1|z2|z3|z4|z5|z6|z7|z8|z9|z10|z11 => first | exact rfl | (simp [encL, hx, hy, encS, encU] <;> omega) | omega | (first | exact w1 | exact w2 | exact w3 | exact w4 | exact hlt | omega)
end Go.Proofs.YtidgcfgkcidkiaaGreat.Ch
namespace Go.Proofs.YtidgcfgkcidkiaaGreat.Ch
open Go Go.RowKit Go.Proofs.YtidgcfgkcidkiaaGreat.L Go.Proofs.YtidgcfgkcidkiaaGreat.X
set_option linter.unusedVariables false
set_option linter.unusedSimpArgs false
/-- What New asks. -/
structure Asks (cl id : Int) (l : LayD) (a : Int) (c : CellD) : Prop where
  cl0 : 0 ≤ cl
  cl1 : cl < 4
  id0 : 0 ≤ id
  id1 : id < 1048576
  lay : rightL l = true
  at_ : a < 1048576
  cell : rightC c = true
/-- A settler that is new. -/
def fresh (cl id : Int) (l : LayD) (a : Int) (c : CellD) (u : List Int) : SetD := ⟨cl, id, l.epoch, a, c, u, 0, false, false, 0, 0, 0, []⟩
def LayD.ok (l : LayD) : Prop := (∀ s ∈ l.segs, s.ok ∧ 0 ≤ s.at_) ∧ l.segs.length ≤ 1000000000000
theorem new_yes (cl id : Int) (l : LayD) (a : Int) (c : CellD) (hl : l.ok) (ha : 0 ≤ a) (h1 : c.data.length ≤ 1099511627776) (h2 : c.backs.length ≤ 1099511627776) (h : Asks cl id l a c) :
    ∃ u, chainL l a = some u ∧ Units u ∧ ACalls Tryz.prog 8 [.int .i64 cl, .int .i64 id, encL l, .int .u64 a, encC c] [] (.tup [.ptr 0 0, .int .i64 0]) (setO (fresh cl id l a c u)) := by
  obtain ⟨u, hu, hU, c1⟩ := chain_yes l a hl.1 hl.2 h.lay ha h.at_
  have c2 := right_ac c
  rw [h.cell] at c2
  have c3 := copied_ac c h1 h2
  have g1 := h.cl0
  have g2 := h.cl1
  have g3 := h.id0
  have g4 := h.id1
  have g5 := hU.pos
  have g6 : ((u.length : Int) == 0) = false := by rw [beq_eq_false_iff_ne]; omega
  refine ⟨u, hu, hU, ?_⟩
  refine acallsK mixed Tryz.func8 rfl [0, 1, 2, 3, 4, 7, 9, 10, 11, 12, 39] 1000 ([.call [] true false (.row 0 1 u.length) [.row 3 1 (u.map intA)], .f, .f, .f, .f, .n u.length, .f, .call [] false true (.bool true) [], .call [] true false (encC c) [], .mkc 3 14 50 22]) [] [3, 4] (ob := [_,
 decide (cl < (0 : Int)) = false,
 decide (cl ≥ (4 : Int)) = false,
 decide (id < (0 : Int)) = false,
 decide (id > (1048575 : Int)) = false,
 ((List.map intA u).length : Int) = (u.length : Int),
 ((u.length : Int) == (0 : Int)) = false,
 _,
 _]) (by kernel_rfl) ⟨rfl, rfl⟩ ⟨c1, ?z0, ?z1, ?z2, ?z3, ?z4, ?z5, c2, c3, trivial⟩
  case z0|z1|z2|z3|z4|z5 => first | exact rfl | (simp [encL, g1, g2, g3, g4, fresh, setO, celS, encC, celC] <;> omega) | omega | (first | omega | exact g6)
end Go.Proofs.YtidgcfgkcidkiaaGreat.Ch
namespace Go.Proofs.YtidgcfgkcidkiaaGreat.Ch
open Go Go.RowKit Go.Proofs.YtidgcfgkcidkiaaGreat.L Go.Proofs.YtidgcfgkcidkiaaGreat.X
set_option linter.unusedVariables false
set_option linter.unusedSimpArgs false
theorem fits10_ac (m : MsgD) : ∃ b, ACalls Tryz.prog 10 [encM m] [] (.bool b) [] := by
  obtain ⟨b1, c1⟩ := fits07_ac m.cell
  obtain ⟨b2, c2⟩ := fits09_ac m.lay
  cases b1 with
  | false =>
    refine ⟨false, ?_⟩
    refine acallsK mixed Tryz.func10 rfl [0, 1, 2, 3, 4] 1000 ([.call [] false true (.bool false) [], .call [] false true (.bool b2) []]) [] [] (v1 := .bool false) (objs1 := []) (ob := [ACalls Tryz.prog 24 [(encC m.cell)] [] (.bool false) [],
 ACalls Tryz.prog 28 [(encL m.lay)] [] (.bool b2) []]) (by kernel_rfl) (by first | exact rfl | exact ⟨rfl, rfl⟩ | (simp [encM]; done)) ⟨?q35_1, ?q35_2, trivial⟩
    · exact c1
    · exact c2
  | true =>
    cases b2 with
    | false =>
      refine ⟨false, ?_⟩
      refine acallsK mixed Tryz.func10 rfl [0, 1, 2, 3, 4] 1000 ([.call [] false true (.bool true) [], .call [] false true (.bool false) []]) [] [] (v1 := .bool false) (objs1 := []) (ob := [ACalls Tryz.prog 24 [(encC m.cell)] [] (.bool true) [],
 ACalls Tryz.prog 28 [(encL m.lay)] [] (.bool false) []]) (by kernel_rfl) (by first | exact rfl | exact ⟨rfl, rfl⟩ | (simp [encM]; done)) ⟨?q42_1, ?q42_2, trivial⟩
      · exact c1
      · exact c2
    | true =>
      by_cases h1 : m.streams.length ≤ 30
      · by_cases h2 : m.backs.length ≤ 30
        · refine ⟨true, ?_⟩
          refine acallsK mixed Tryz.func10 rfl [0, 1, 2, 3, 4] 1000 ([.call [] false true (.bool true) [], .call [] false true (.bool true) [], .n m.streams.length, .t, .n m.backs.length, .t]) [] [] (v1 := .bool true) (objs1 := []) (ob := [ACalls Tryz.prog 24 [(encC m.cell)] [] (.bool true) [],
 ACalls Tryz.prog 28 [(encL m.lay)] [] (.bool true) [],
 ((List.map intA m.streams).length : Int) = (m.streams.length : Int),
 decide ((m.streams.length : Int) ≤ (30 : Int)) = true,
 ((List.map encB m.backs).length : Int) = (m.backs.length : Int),
 decide ((m.backs.length : Int) ≤ (30 : Int)) = true]) (by kernel_rfl) (by first | exact rfl | exact ⟨rfl, rfl⟩ | (simp [encM, h1, h2]; done) | (omega)) ⟨?q49_1, ?q49_2, ?z0, ?z1, ?z2, ?z3, trivial⟩
          case z0|z1|z2|z3 => first | exact rfl | (simp [encM, h1, h2] <;> omega) | omega | (omega)
          · exact c1
          · exact c2
        · refine ⟨false, ?_⟩
          refine acallsK mixed Tryz.func10 rfl [0, 1, 2, 3, 4] 1000 ([.call [] false true (.bool true) [], .call [] false true (.bool true) [], .n m.streams.length, .t, .n m.backs.length, .f]) [] [] (v1 := .bool false) (objs1 := []) (ob := [ACalls Tryz.prog 24 [(encC m.cell)] [] (.bool true) [],
 ACalls Tryz.prog 28 [(encL m.lay)] [] (.bool true) [],
 ((List.map intA m.streams).length : Int) = (m.streams.length : Int),
 decide ((m.streams.length : Int) ≤ (30 : Int)) = true,
 ((List.map encB m.backs).length : Int) = (m.backs.length : Int),
 decide ((m.backs.length : Int) ≤ (30 : Int)) = false]) (by kernel_rfl) (by first | exact rfl | exact ⟨rfl, rfl⟩ | (simp [encM, h1, h2]; done) | (omega)) ⟨?q53_1, ?q53_2, ?z4, ?z5, ?z6, ?z7, trivial⟩
          case z4|z5|z6|z7 => first | exact rfl | (simp [encM, h1, h2] <;> omega) | omega | (omega)
          · exact c1
          · exact c2
      · refine ⟨false, ?_⟩
        refine acallsK mixed Tryz.func10 rfl [0, 1, 2, 3, 4] 1000 ([.call [] false true (.bool true) [], .call [] false true (.bool true) [], .n m.streams.length, .f]) [] [] (v1 := .bool false) (objs1 := []) (ob := [ACalls Tryz.prog 24 [(encC m.cell)] [] (.bool true) [],
 ACalls Tryz.prog 28 [(encL m.lay)] [] (.bool true) [],
 ((List.map intA m.streams).length : Int) = (m.streams.length : Int),
 decide ((m.streams.length : Int) ≤ (30 : Int)) = false]) (by kernel_rfl) (by first | exact rfl | exact ⟨rfl, rfl⟩ | (simp [encM, h1]; done) | (omega)) ⟨?q57_1, ?q57_2, ?z8, ?z9, trivial⟩
        case z8|z9 => first | exact rfl | (simp [encM, h1] <;> omega) | omega | (omega)
        · exact c1
        · exact c2
def nextS (s : SetD) (u : Int) : SetD := wrote { s with at_ := s.at_ + 1, writes := 0 } u
theorem next_ac (s : SetD) {u : Int} (hu : s.chain[s.at_ + 1]? = some u) (hb : s.chain.length ≤ 1000000000000) (h1 : s.cell.data.length ≤ 1099511627776) (h2 : s.cell.backs.length ≤ 1099511627776) (h3 : s.out.length ≤ 1000) : ACalls Tryz.prog 56 [.ptr 0 0] (setO s) (.tup []) (setO (nextS s u)) := by
  have hl : s.at_ + 1 < s.chain.length := (List.getElem?_eq_some_iff.1 hu).1
  have q := write_ac { s with at_ := s.at_ + 1, writes := 0 } hu h1 h2 h3 (by simp) (by simp)
  refine acallsK mixed Tryz.func56 rfl [0, 18] 1000 ([.n ((s.at_ + 1 : Nat) : Int), .n s.chain.length, .f, .call [0, 1] false false (.tup []) (setO (nextS s u))]) [] [0, 3] (ob := [IntKind.i64.wrap ((↑s.at_ : Int) + (1 : Int)) = (↑(s.at_ + (1 : Nat)) : Int),
 ((List.map intA s.chain).length : Int) = (s.chain.length : Int),
 ((↑(s.at_ + (1 : Nat)) : Int) == (s.chain.length : Int)) = false,
 ACalls Tryz.prog 49 [.ptr 0 0] [.vars 86 [.int .i64 s.client, .int .i64 s.id, .int .u64 s.epoch, .int .u64 s.a, .int .i64 s.cell.kind, .lst 1 (List.map byteA s.cell.data), .lst 3 (List.map encB s.cell.backs), .lst 1 (List.map intA s.chain), .int .i64 (↑(s.at_ + 1) : Int), .bool s.started, .bool s.over, .int .i64 s.e, .int .i64 s.ticks, .int .i64 0, .row 1 22 (List.length s.out)], .row 50 22 s.out] (.tup []) [.vars 86 (celS (nextS s u) ++ [.row 1 22 (List.length (nextS s u).out)]), .row 50 22 (nextS s u).out]]) (by kernel_rfl) ⟨rfl, rfl⟩ ⟨?z0, ?z1, ?z2, ?q64_1, trivial⟩
  case z0|z1|z2 => first | exact rfl | (simp [celS, setO, nextS, wrote] <;> omega) | omega | (first | omega | exact wrap64 (by omega))
  · exact q
end Go.Proofs.YtidgcfgkcidkiaaGreat.Ch
namespace Go.Proofs.YtidgcfgkcidkiaaGreat.Ch
open Go Go.RowKit Go.Proofs.YtidgcfgkcidkiaaGreat.L Go.Proofs.YtidgcfgkcidkiaaGreat.X
set_option linter.unusedVariables false
set_option linter.unusedSimpArgs false
theorem ACalls.weak {P : Program} {f : FuncId} {us vs : List AV} {objs objs' : List X.Obj} {v : AV} (h : ACalls P f vs objs v objs') (hw : ∀ K ds, VRs K us ds → VRs K vs ds) : ACalls P f us objs v objs' :=
  ⟨h.1, fun K w cs hR hc => h.2 K w cs hR (hw K cs hc)⟩
theorem nils_lst {K : Ctx} {c : Value} (sz : Nat) (hsz : 0 < sz) (h : VR K .nils c) : VR K (.lst sz []) c := by
  rw [nils_inv h]
  have := PR.lst (M := K.M) sz [] none 0 0 0 (fun _ _ => undef) hsz (by simp) (by simp) (.inl rfl) (by simp) (by simp) (by simp)
  exact .pure (by simpa using this)
theorem nilcell {K : Ctx} {k : Int} {c : Value} (h : VR K (.agg [.int .i64 k, .nils, .nils]) c) : VR K (encC ⟨k, [], []⟩) c := by
  obtain ⟨ds, rfl, hd⟩ := h.agg_inv
  refine VR.mkAgg ⟨hd.1, fun i u d hu hd' => ?_⟩
  match i, hu with
  | 0, hu => injection hu with hu; subst hu; exact hd.2 0 _ d rfl hd'
  | 1, hu => injection hu with hu; subst hu; exact nils_lst 1 (by decide) (hd.2 1 _ d rfl hd')
  | 2, hu => injection hu with hu; subst hu; exact nils_lst 3 (by decide) (hd.2 2 _ d rfl hd')
def lA : LayD := ⟨2, [⟨0, [[4, 6]]⟩], 0⟩
theorem rightA : rightL lA = true := by
  have h : sortL [4, 6] = [4, 6] := by unfold sortL; exact List.mergeSort_of_pairwise (by simp)
  have h2 : fineB ⟨0, [[4, 6]]⟩ = true := by
    unfold fineB
    simp only [catL, List.flatten_cons, List.flatten_nil, List.append_nil, h]
    decide
  simp [rightL, lA, restB, firstB, lenB, outB, inB, h2]
end Go.Proofs.YtidgcfgkcidkiaaGreat.Ch
namespace Go.Proofs.YtidgcfgkcidkiaaGreat.Ch
open Go Go.RowKit Go.Proofs.YtidgcfgkcidkiaaGreat.L Go.Proofs.YtidgcfgkcidkiaaGreat.X
set_option linter.unusedVariables false
set_option linter.unusedSimpArgs false
def Bytes (l : List Int) : Prop := ∀ n ∈ l, 0 ≤ n ∧ n < 256
def bytesOf (l : List Int) : ByteArray := ⟨(l.map fun n => UInt8.ofNat n.toNat).toArray⟩
theorem bytes_st {l : List Int} (h : Bytes l) : l.map byteA = (bytesOf l).data.toList.map fun b => AV.int .u8 (b.toNat : Int) := by
  simp only [bytesOf, List.map_map]
  refine List.map_congr_left fun n hn => ?_
  have := h n hn
  have e : n.toNat < 256 := by omega
  simp only [byteA, Function.comp, UInt8.toNat_ofNat', Nat.mod_eq_of_lt e]
  congr 1
  omega
theorem bytes_inj {a b : List Int} (ha : Bytes a) (hb : Bytes b) (h : bytesOf a = bytesOf b) : a = b := by
  have h1 := bytes_st ha
  rw [h, ← bytes_st hb] at h1
  have : ∀ {a b : List Int}, a.map byteA = b.map byteA → a = b := by
    intro a
    induction a with
    | nil => intro b h; cases b with | nil => rfl | cons _ _ => cases h
    | cons x a ih => intro b h; cases b with
      | nil => cases h
      | cons y b => simp only [List.map_cons, List.cons.injEq, byteA, AV.int.injEq, true_and] at h; rw [h.1, ih h.2]
  exact this h1
theorem bytes_eq {a b : List Int} (ha : Bytes a) (hb : Bytes b) : ((bytesOf a).toList == (bytesOf b).toList) = (a == b) := by
  rw [ByteArray.toList_eq, ByteArray.toList_eq]
  rw [Bool.eq_iff_iff, beq_iff_eq, beq_iff_eq]
  exact ⟨fun h => bytes_inj ha hb (Go.WideShapes.bytes_inj h), fun h => by rw [h]⟩
theorem bytesEqual_ac (a b : List Int) (ha : Bytes a) (hb : Bytes b) : ACalls Tryz.prog 94 [.lst 1 (a.map byteA), .lst 1 (b.map byteA)] [] (.bool (a == b)) [] := by
  have q := bytes_eq ha hb
  have q1 := bytes_st ha
  have q2 := bytes_st hb
  cases h : a == b with
  | true =>
    rw [h] at q
    refine acallsK mixed Tryz.func94 rfl [0, 1, 4] 1000 ([.st (bytesOf a), .st (bytesOf b), .t]) [] [] (ob := [List.map byteA a = List.map (fun b => .int .u8 (↑(UInt8.toNat b) : Int)) (Array.toList (ByteArray.data (bytesOf a))),
 List.map byteA b = List.map (fun b => .int .u8 (↑(UInt8.toNat b) : Int)) (Array.toList (ByteArray.data (bytesOf b))),
 (ByteArray.toList (bytesOf a) == ByteArray.toList (bytesOf b)) = true]) (by kernel_rfl) ⟨rfl, rfl⟩ ⟨?z0, ?z1, ?z2, trivial⟩
    case z0|z1|z2 => first | exact rfl | (simp [] <;> omega) | omega | (first | exact q1 | exact q2 | exact q)
  | false =>
    rw [h] at q
    refine acallsK mixed Tryz.func94 rfl [0, 1, 4] 1000 ([.st (bytesOf a), .st (bytesOf b), .f]) [] [] (ob := [List.map byteA a = List.map (fun b => .int .u8 (↑(UInt8.toNat b) : Int)) (Array.toList (ByteArray.data (bytesOf a))),
 List.map byteA b = List.map (fun b => .int .u8 (↑(UInt8.toNat b) : Int)) (Array.toList (ByteArray.data (bytesOf b))),
 (ByteArray.toList (bytesOf a) == ByteArray.toList (bytesOf b)) = false]) (by kernel_rfl) ⟨rfl, rfl⟩ ⟨?z3, ?z4, ?z5, trivial⟩
    case z3|z4|z5 => first | exact rfl | (simp [] <;> omega) | omega | (first | exact q1 | exact q2 | exact q)
instance : DecidableEq BackD := fun x y => decidable_of_iff (x.s = y.s ∧ x.a = y.a ∧ x.b = y.b) ⟨fun h => by cases x; cases y; simp only at h; rw [h.1, h.2.1, h.2.2], fun h => by rw [h]; exact ⟨rfl, rfl, rfl⟩⟩
theorem drop_eq {α : Type} {a b : List α} {k : Nat} {x y : α} (hx : a[k]? = some x) (hy : b[k]? = some y) : a.drop k = b.drop k ↔ x = y ∧ a.drop (k + 1) = b.drop (k + 1) := by
  rw [drop_of hx, drop_of hy, List.cons.injEq]
theorem equalB_loop (a b : List BackD) (hb : a.length ≤ 1000000000000) (h1 : a.length = b.length) : ∀ (n k : Nat), a.length = k + n →
    (a.drop k = b.drop k → ALoop Tryz.prog 0 Tryz.f95.ntmps (loopB Tryz.f95 0) ⟨[(13, .int .i64 k), (12, .int .i64 a.length), (0, .lst 3 (a.map encB)), (1, .lst 3 (b.map encB))], []⟩ (.exit 0) ⟨[], []⟩) ∧
    (¬ a.drop k = b.drop k → ALoop Tryz.prog 0 Tryz.f95.ntmps (loopB Tryz.f95 0) ⟨[(13, .int .i64 k), (12, .int .i64 a.length), (0, .lst 3 (a.map encB)), (1, .lst 3 (b.map encB))], []⟩ .ret ⟨[(4, .bool false)], []⟩)
  | 0, k, h => by
    refine ⟨fun _ => ?_, fun hne => ?_⟩
    · refine aloopK mixed [0, 1, 4, 5, 10, 12, 13, 14, 24] 1000 ([.go, .f]) [] [] (S1 := { env := [], objs := [] }) (ob := [decide ((↑k : Int) < (a.length : Int)) = false]) (by kernel_rfl) (by first | exact rfl | exact ⟨rfl, rfl⟩ | (simp []; done)) ⟨(by first | exact rfl | (simp []; done) | (simp []; omega) | omega), trivial⟩
    · exact absurd (by rw [List.drop_eq_nil_of_le (by omega), List.drop_eq_nil_of_le (by omega)]) hne
  | n + 1, k, h => by
    obtain ⟨x, hx⟩ := get_of (l := a) (k := k) (by omega)
    obtain ⟨y, hy⟩ := get_of (l := b) (k := k) (by omega)
    have ih := equalB_loop a b hb h1 n (k + 1) (by omega)
    rw [drop_eq hx hy]
    have hk : k < a.length := by omega
    have hw : IntKind.i64.wrap ((k : Int) + 1) = ((k + 1 : Nat) : Int) := wrap64 (by omega)
    by_cases hxy : x = y
    · subst hxy
      have e : (((x.s == x.s) && ((x.a == x.a) && (x.b == x.b))) : Bool) = true := by simp
      refine ⟨fun hq => ?_, fun hq => ?_⟩
      · have ih := ih.1 hq.2
        refine aloopK mixed [0, 1, 4, 5, 10, 12, 13, 14, 24] 1000 ([.go, .t, .ix k, .el (encB x), .ix k, .el (encB x), .f, .n ((k + 1 : Nat) : Int), .lp [13, 12, 0, 1] [] (.exit 0) ⟨[], []⟩]) [] [] (S1 := { env := [], objs := [] }) (ob := [decide ((↑k : Int) < (a.length : Int)) = true,
 k < List.length (List.map encB a),
 (↑k : Int) = (↑k : Int),
 (List.map encB a)[k]? = some (.agg [.int .i64 x.s, .int .u64 x.a, .int .u64 x.b]),
 k < List.length (List.map encB b),
 (↑k : Int) = (↑k : Int),
 (List.map encB b)[k]? = some (.agg [.int .i64 x.s, .int .u64 x.a, .int .u64 x.b]),
 (!(x.s == x.s && (x.a == x.a && (x.b == x.b && true) && true))) = false,
 IntKind.i64.wrap ((↑k : Int) + (1 : Int)) = (↑(k + (1 : Nat)) : Int),
 ALoop Tryz.prog 0 26 (loopB Tryz.f95 0) { env := [(13, .int .i64 (↑(k + 1) : Int)), (12, .int .i64 (a.length : Int)), (0, .lst 3 (List.map encB a)), (1, .lst 3 (List.map encB b))], objs := [] } (Ex.exit 0) { env := [], objs := [] }]) (by kernel_rfl) (by first | exact rfl | exact ⟨rfl, rfl⟩ | (simp [hx, hy, encB, hw, hk, h1]; done)) ⟨?z0, ?z1, ?z2, ?z3, ?z4, ?z5, ?z6, ?z7, ?z8, ?q67_1, trivial⟩
        case z0|z1|z2|z3|z4|z5|z6|z7|z8 => first | exact rfl | (simp [hx, hy, encB, hw, hk, h1] <;> omega) | omega
        exact ih
      · have ih := ih.2 fun h => hq ⟨rfl, h⟩
        refine aloopK mixed [0, 1, 4, 5, 10, 12, 13, 14, 24] 1000 ([.go, .t, .ix k, .el (encB x), .ix k, .el (encB x), .f, .n ((k + 1 : Nat) : Int), .lp [13, 12, 0, 1] [] .ret ⟨[(4, .bool false)], []⟩]) [4] [] (S1 := { env := [(4, .bool false)], objs := [] }) (ob := [decide ((↑k : Int) < (a.length : Int)) = true,
 k < List.length (List.map encB a),
 (↑k : Int) = (↑k : Int),
 (List.map encB a)[k]? = some (.agg [.int .i64 x.s, .int .u64 x.a, .int .u64 x.b]),
 k < List.length (List.map encB b),
 (↑k : Int) = (↑k : Int),
 (List.map encB b)[k]? = some (.agg [.int .i64 x.s, .int .u64 x.a, .int .u64 x.b]),
 (!(x.s == x.s && (x.a == x.a && (x.b == x.b && true) && true))) = false,
 IntKind.i64.wrap ((↑k : Int) + (1 : Int)) = (↑(k + (1 : Nat)) : Int),
 ALoop Tryz.prog 0 26 (loopB Tryz.f95 0) { env := [(13, .int .i64 (↑(k + 1) : Int)), (12, .int .i64 (a.length : Int)), (0, .lst 3 (List.map encB a)), (1, .lst 3 (List.map encB b))], objs := [] } Ex.ret { env := [(4, .bool false)], objs := [] }]) (by kernel_rfl) (by first | exact rfl | exact ⟨rfl, rfl⟩ | (simp [hx, hy, encB, hw, hk, h1]; done)) ⟨?z9, ?z10, ?z11, ?z12, ?z13, ?z14, ?z15, ?z16, ?z17, ?q70_1, trivial⟩
        case z9|z10|z11|z12|z13|z14|z15|z16|z17 => first | exact rfl | (simp [hx, hy, encB, hw, hk, h1] <;> omega) | omega
        exact ih
    · have h2 : x.s = y.s → x.a = y.a → ¬ x.b = y.b := fun e1 e2 e3 => hxy (by cases x; cases y; simp only at e1 e2 e3; rw [e1, e2, e3])
      refine ⟨fun hq => absurd hq.1 hxy, fun _ => ?_⟩
      refine aloopK mixed [0, 1, 4, 5, 10, 12, 13, 14, 24] 1000 ([.go, .t, .ix k, .el (encB x), .ix k, .el (encB y), .t]) [4] [] (S1 := { env := [(4, .bool false)], objs := [] }) (ob := [decide ((↑k : Int) < (a.length : Int)) = true,
 k < List.length (List.map encB a),
 (↑k : Int) = (↑k : Int),
 (List.map encB a)[k]? = some (.agg [.int .i64 x.s, .int .u64 x.a, .int .u64 x.b]),
 k < List.length (List.map encB b),
 (↑k : Int) = (↑k : Int),
 (List.map encB b)[k]? = some (.agg [.int .i64 y.s, .int .u64 y.a, .int .u64 y.b]),
 (!(x.s == y.s && (x.a == y.a && (x.b == y.b && true) && true))) = true]) (by kernel_rfl) (by first | exact rfl | exact ⟨rfl, rfl⟩ | (simp [hx, hy, encB, hk, h1]; done) | ((simp; exact h2))) ⟨?z18, ?z19, ?z20, ?z21, ?z22, ?z23, ?z24, ?z25, trivial⟩
      case z18|z19|z20|z21|z22|z23|z24|z25 => first | exact rfl | (simp [hx, hy, encB, hk, h1] <;> omega) | omega | ((simp; exact h2))
theorem equalB (a b : List BackD) (hb : a.length ≤ 1000000000000) : ACalls Tryz.prog 95 [.lst 3 (a.map encB), .lst 3 (b.map encB)] [] (.bool (decide (a = b))) [] := by
  by_cases h1 : a.length = b.length
  · have h := equalB_loop a b hb h1 a.length 0 (by omega)
    by_cases hab : a = b
    · have h := h.1 hab
      rw [decide_eq_true hab]
      refine acallsK mixed Tryz.func95 rfl [0, 1, 4, 5, 10, 12, 13, 14, 24] 1000 ([.n a.length, .n b.length, .f, .n a.length, .lp [13, 12, 0, 1] [] (.exit 0) ⟨[], []⟩]) [] [] (v1 := .bool true) (objs1 := []) (ob := [((List.map encB a).length : Int) = (a.length : Int),
 ((List.map encB b).length : Int) = (b.length : Int),
 ((a.length : Int) != (b.length : Int)) = false,
 ((List.map encB a).length : Int) = (a.length : Int),
 ALoop Tryz.prog 0 26 (loopB Tryz.f95 0) { env := [(13, .int .i64 0), (12, .int .i64 (a.length : Int)), (0, .lst 3 (List.map encB a)), (1, .lst 3 (List.map encB b))], objs := [] } (Ex.exit 0) { env := [], objs := [] }]) (by kernel_rfl) (by first | exact rfl | exact ⟨rfl, rfl⟩ | (simp [h1]; done)) ⟨?z0, ?z1, ?z2, ?z3, ?q81_1, trivial⟩
      case z0|z1|z2|z3 => first | exact rfl | (simp [h1] <;> omega) | omega
      exact h
    · have h := h.2 hab
      rw [decide_eq_false hab]
      refine acallsK mixed Tryz.func95 rfl [0, 1, 4, 5, 10, 12, 13, 14, 24] 1000 ([.n a.length, .n b.length, .f, .n a.length, .lp [13, 12, 0, 1] [] .ret ⟨[(4, .bool false)], []⟩]) [] [] (v1 := .bool false) (objs1 := []) (ob := [((List.map encB a).length : Int) = (a.length : Int),
 ((List.map encB b).length : Int) = (b.length : Int),
 ((a.length : Int) != (b.length : Int)) = false,
 ((List.map encB a).length : Int) = (a.length : Int),
 ALoop Tryz.prog 0 26 (loopB Tryz.f95 0) { env := [(13, .int .i64 0), (12, .int .i64 (a.length : Int)), (0, .lst 3 (List.map encB a)), (1, .lst 3 (List.map encB b))], objs := [] } Ex.ret { env := [(4, .bool false)], objs := [] }]) (by kernel_rfl) (by first | exact rfl | exact ⟨rfl, rfl⟩ | (simp [h1]; done)) ⟨?z4, ?z5, ?z6, ?z7, ?q85_1, trivial⟩
      case z4|z5|z6|z7 => first | exact rfl | (simp [h1] <;> omega) | omega
      exact h
  · rw [decide_eq_false fun h => h1 (by rw [h])]
    refine acallsK mixed Tryz.func95 rfl [0, 1, 4, 5, 10, 12, 13, 14, 24] 1000 ([.n a.length, .n b.length, .t]) [] [] (v1 := .bool false) (objs1 := []) (ob := [((List.map encB a).length : Int) = (a.length : Int),
 ((List.map encB b).length : Int) = (b.length : Int),
 ((a.length : Int) != (b.length : Int)) = true]) (by kernel_rfl) (by first | exact rfl | exact ⟨rfl, rfl⟩ | (simp [h1]; done)) ⟨?z8, ?z9, ?z10, trivial⟩
    case z8|z9|z10 => first | exact rfl | (simp [h1] <;> omega) | omega
end Go.Proofs.YtidgcfgkcidkiaaGreat.Ch
namespace Go.Proofs.YtidgcfgkcidkiaaGreat.Ch
open Go Go.RowKit Go.Proofs.YtidgcfgkcidkiaaGreat.L Go.Proofs.YtidgcfgkcidkiaaGreat.X
set_option linter.unusedVariables false
set_option linter.unusedSimpArgs false
structure CellD.ok (c : CellD) : Prop where
  by_ : Bytes c.data
  d : c.data.length ≤ 1000000000000
  b : c.backs.length ≤ 1000000000000

def sameC (a b : CellD) : Bool := if ¬ a.kind = b.kind then false else if (a.data == b.data) = false then false else if decide (a.backs = b.backs) = false then false else true
theorem sameC_e0 (a b : CellD) (ha : a.ok) (hb : b.ok) (h1 : ¬ a.kind = b.kind) : ACalls Tryz.prog 54 [encC a, encC b] [] (.bool (sameC a b)) [] := by
  rw [show sameC a b = false by unfold sameC; rw [if_pos h1]]
  refine acallsK mixed Tryz.func54 rfl [0, 1, 2, 3, 4] 1000 ([.f]) [] [] (ob := [(a.kind == b.kind) = false]) (by kernel_rfl) ⟨rfl, rfl⟩ ⟨(by first | exact rfl | (simp [encC, celC, h1]; done) | (simp [encC, celC, h1]; omega) | omega | (omega)), trivial⟩
theorem sameC_e1 (a b : CellD) (ha : a.ok) (hb : b.ok) (h1 : ¬ (¬ a.kind = b.kind)) (h2 : (a.data == b.data) = false) : ACalls Tryz.prog 54 [encC a, encC b] [] (.bool (sameC a b)) [] := by
  have q1 := bytesEqual_ac a.data b.data ha.by_ hb.by_
  rw [h2] at q1
  rw [show sameC a b = false by unfold sameC; rw [if_neg h1, if_pos h2]]
  refine acallsK mixed Tryz.func54 rfl [0, 1, 2, 3, 4] 1000 ([.t, .call [] false true (.bool false) []]) [] [] (ob := [(a.kind == b.kind) = true,
 ACalls Tryz.prog 94 [.lst 1 (List.map byteA a.data), .lst 1 (List.map byteA b.data)] [] (.bool false) []]) (by kernel_rfl) ⟨rfl, rfl⟩ ⟨(by first | exact rfl | (simp [encC, celC, h1, h2]; done) | (simp [encC, celC, h1, h2]; omega) | omega | (omega)), ?q23_1, trivial⟩
  · exact q1
theorem sameC_e2 (a b : CellD) (ha : a.ok) (hb : b.ok) (h1 : ¬ (¬ a.kind = b.kind)) (h2 : (a.data == b.data) = true) (h3 : decide (a.backs = b.backs) = false) : ACalls Tryz.prog 54 [encC a, encC b] [] (.bool (sameC a b)) [] := by
  have q1 := bytesEqual_ac a.data b.data ha.by_ hb.by_
  have q2 := equalB a.backs b.backs ha.b
  rw [h2] at q1
  rw [h3] at q2
  rw [show sameC a b = false by unfold sameC; rw [if_neg h1, if_neg (by rw [h2]; decide), if_pos h3]]
  refine acallsK mixed Tryz.func54 rfl [0, 1, 2, 3, 4] 1000 ([.t, .call [] false true (.bool true) [], .call [] false true (.bool false) []]) [] [] (ob := [(a.kind == b.kind) = true,
 _,
 _]) (by kernel_rfl) ⟨rfl, rfl⟩ ⟨(by first | exact rfl | (simp [encC, celC, h1, h2, h3]; done) | (simp [encC, celC, h1, h2, h3]; omega) | omega | (omega)), q1, q2, trivial⟩
theorem sameC_e3 (a b : CellD) (ha : a.ok) (hb : b.ok) (h1 : ¬ (¬ a.kind = b.kind)) (h2 : (a.data == b.data) = true) (h3 : decide (a.backs = b.backs) = true) : ACalls Tryz.prog 54 [encC a, encC b] [] (.bool (sameC a b)) [] := by
  have q1 := bytesEqual_ac a.data b.data ha.by_ hb.by_
  have q2 := equalB a.backs b.backs ha.b
  rw [h2] at q1
  rw [h3] at q2
  rw [show sameC a b = true by unfold sameC; rw [if_neg h1, if_neg (by rw [h2]; decide), if_neg (by rw [h3]; decide)]]
  refine acallsK mixed Tryz.func54 rfl [0, 1, 2, 3, 4] 1000 ([.t, .call [] false true (.bool true) [], .call [] false true (.bool true) []]) [] [] (ob := [(a.kind == b.kind) = true,
 _,
 _]) (by kernel_rfl) ⟨rfl, rfl⟩ ⟨(by first | exact rfl | (simp [encC, celC, h1, h2, h3]; done) | (simp [encC, celC, h1, h2, h3]; omega) | omega | (omega)), q1, q2, trivial⟩
theorem sameC_ac (a b : CellD) (ha : a.ok) (hb : b.ok) : ACalls Tryz.prog 54 [encC a, encC b] [] (.bool (sameC a b)) [] := by
  by_cases h1 : ¬ a.kind = b.kind
  · exact sameC_e0 a b ha hb h1
  cases h2 : (a.data == b.data) with
  | false => exact sameC_e1 a b ha hb h1 h2
  | true =>
    cases h3 : decide (a.backs = b.backs) with
    | false => exact sameC_e2 a b ha hb h1 h2 h3
    | true =>
      exact sameC_e3 a b ha hb h1 h2 h3
def cell0 : CellD := ⟨0, [], []⟩
theorem cell0_ok : cell0.ok := ⟨(by intro n h; cases h), (by simp [cell0]), (by simp [cell0])⟩
theorem noCell_ac (c : CellD) (hc : c.ok) : ACalls Tryz.prog 91 [encC c] [] (.bool (sameC c cell0)) [] := by
  have q : ACalls Tryz.prog 54 [encC c, nilC] [] (.bool (sameC c cell0)) [] := ACalls.weak (sameC_ac c cell0 hc cell0_ok) fun K ds h => by
    refine ⟨h.1, fun i v d hv hd => ?_⟩
    match i, hv with
    | 0, hv => exact h.2 0 _ d hv hd
    | 1, hv => injection hv with hv; subst hv; exact nilcell (h.2 1 _ d rfl hd)
  refine acallsK mixed Tryz.func91 rfl [0, 1, 2] 1000 ([.call [] false true (.bool (sameC c cell0)) []]) [] [] (ob := [_]) (by kernel_rfl) ⟨rfl, rfl⟩ ⟨q, trivial⟩
theorem equalF_ac (l : List SegD) (g : FuncId) : ACalls Tryz.prog 139 [.lst 2 (l.map encS), .nils, .fn g []] [] (.bool (decide (l.length = 0))) [] := by
  by_cases h : l.length = 0
  · rw [decide_eq_true h]
    refine acallsK mixed Tryz.func139 rfl [0, 1, 2, 6, 7, 8, 9, 14, 15, 16, 17, 18, 30] 1000 ([.n l.length, .f, .n l.length, .go, .f]) [] [] (ob := [((List.map encS l).length : Int) = (l.length : Int),
 ((l.length : Int) != (0 : Int)) = false,
 ((List.map encS l).length : Int) = (l.length : Int),
 decide ((0 : Int) < (l.length : Int)) = false]) (by kernel_rfl) ⟨rfl, rfl⟩ ⟨?z0, ?z1, ?z2, ?z3, trivial⟩
    case z0|z1|z2|z3 => first | exact rfl | (simp [h] <;> omega) | omega
  · rw [decide_eq_false h]
    refine acallsK mixed Tryz.func139 rfl [0, 1, 2, 6, 7, 8, 9, 14, 15, 16, 17, 18, 30] 1000 ([.n l.length, .t]) [] [] (ob := [((List.map encS l).length : Int) = (l.length : Int),
 ((l.length : Int) != (0 : Int)) = true]) (by kernel_rfl) ⟨rfl, rfl⟩ ⟨?z4, ?z5, trivial⟩
    case z4|z5 => first | exact rfl | (simp [h] <;> omega) | omega
def noLayB (l : LayD) : Bool := if ¬ l.epoch = 0 then false else if ¬ l.seq = 0 then false else if decide (l.segs.length = 0) = false then false else true
theorem noLayB_e0 (l : LayD) (h1 : ¬ l.epoch = 0) : ACalls Tryz.prog 122 [encL l, nilL] [] (.bool (noLayB l)) [] := by
  rw [show noLayB l = false by unfold noLayB; rw [if_pos h1]]
  refine acallsK mixed Tryz.func122 rfl [0, 1, 2, 3, 4] 1000 ([.f]) [] [] (ob := [(l.epoch == (0 : Int)) = false]) (by kernel_rfl) ⟨rfl, rfl⟩ ⟨(by first | exact rfl | (simp [encL, celL, nilL, h1]; done) | (simp [encL, celL, nilL, h1]; omega) | omega | (omega)), trivial⟩
theorem noLayB_e1 (l : LayD) (h1 : ¬ (¬ l.epoch = 0)) (h2 : ¬ l.seq = 0) : ACalls Tryz.prog 122 [encL l, nilL] [] (.bool (noLayB l)) [] := by
  rw [show noLayB l = false by unfold noLayB; rw [if_neg h1, if_pos h2]]
  refine acallsK mixed Tryz.func122 rfl [0, 1, 2, 3, 4] 1000 ([.t, .f]) [] [] (ob := [(l.epoch == (0 : Int)) = true,
 (l.seq == (0 : Int)) = false]) (by kernel_rfl) ⟨rfl, rfl⟩ ⟨?z0, ?z1, trivial⟩
  case z0|z1 => first | exact rfl | (simp [encL, celL, nilL, h1, h2] <;> omega) | omega | (omega)
theorem noLayB_e2 (l : LayD) (h1 : ¬ (¬ l.epoch = 0)) (h2 : ¬ (¬ l.seq = 0)) (h3 : decide (l.segs.length = 0) = false) : ACalls Tryz.prog 122 [encL l, nilL] [] (.bool (noLayB l)) [] := by
  have q := equalF_ac l.segs 140
  rw [h3] at q
  rw [show noLayB l = false by unfold noLayB; rw [if_neg h1, if_neg h2, if_pos h3]]
  refine acallsK mixed Tryz.func122 rfl [0, 1, 2, 3, 4] 1000 ([.t, .t, .call [] false true (.bool false) []]) [] [] (ob := [(l.epoch == (0 : Int)) = true,
 (l.seq == (0 : Int)) = true,
 ACalls Tryz.prog 139 [.lst 2 (List.map encS l.segs), .nils, .fn 140 []] [] (.bool false) []]) (by kernel_rfl) ⟨rfl, rfl⟩ ⟨?z0, ?z1, ?q82_1, trivial⟩
  case z0|z1 => first | exact rfl | (simp [encL, celL, nilL, h1, h2, h3] <;> omega) | omega | (omega)
  · exact q
theorem noLayB_e3 (l : LayD) (h1 : ¬ (¬ l.epoch = 0)) (h2 : ¬ (¬ l.seq = 0)) (h3 : decide (l.segs.length = 0) = true) : ACalls Tryz.prog 122 [encL l, nilL] [] (.bool (noLayB l)) [] := by
  have q := equalF_ac l.segs 140
  rw [h3] at q
  rw [show noLayB l = true by unfold noLayB; rw [if_neg h1, if_neg h2, if_neg (by rw [h3]; decide)]]
  refine acallsK mixed Tryz.func122 rfl [0, 1, 2, 3, 4] 1000 ([.t, .t, .call [] false true (.bool true) []]) [] [] (ob := [(l.epoch == (0 : Int)) = true,
 (l.seq == (0 : Int)) = true,
 ACalls Tryz.prog 139 [.lst 2 (List.map encS l.segs), .nils, .fn 140 []] [] (.bool true) []]) (by kernel_rfl) ⟨rfl, rfl⟩ ⟨?z0, ?z1, ?q88_1, trivial⟩
  case z0|z1 => first | exact rfl | (simp [encL, celL, nilL, h1, h2, h3] <;> omega) | omega | (omega)
  · exact q
theorem noLayB_ac (l : LayD) : ACalls Tryz.prog 122 [encL l, nilL] [] (.bool (noLayB l)) [] := by
  by_cases h1 : ¬ l.epoch = 0
  · exact noLayB_e0 l h1
  by_cases h2 : ¬ l.seq = 0
  · exact noLayB_e1 l h1 h2
  cases h3 : decide (l.segs.length = 0) with
  | false => exact noLayB_e2 l h1 h2 h3
  | true =>
    exact noLayB_e3 l h1 h2 h3
theorem noLayout_ac (l : LayD) : ACalls Tryz.prog 92 [encL l] [] (.bool (noLayB l)) [] := by
  have q := noLayB_ac l
  refine acallsK mixed Tryz.func92 rfl [0, 1, 2] 1000 ([.call [] false true (.bool (noLayB l)) []]) [] [] (ob := [_]) (by kernel_rfl) ⟨rfl, rfl⟩ ⟨q, trivial⟩
def placeB (r n : Int) : Bool := if r = 1 then inB n 32 else if r = 2 then inB n 32 else if r = 3 then inB n 3 else if r = 4 then inB n 4 else false
theorem place_ac (r n : Int) : ACalls Tryz.prog 86 [.agg [.int .i64 r, .int .i64 n]] [] (.bool (placeB r n)) [] := by
  have q1 := within_ac n 32
  have q2 := within_ac n 3
  have q3 := within_ac n 4
  by_cases h1 : r = 1
  · rw [show placeB r n = inB n 32 by unfold placeB; rw [if_pos h1]]
    refine acallsK mixed Tryz.func86 rfl [0, 1, 2, 4, 5, 11, 16] 1000 ([.t, .call [] false true (.bool (inB n 32)) []]) [] [] (v1 := .bool (inB n 32)) (objs1 := []) (ob := [(r == (1 : Int)) = true,
 ACalls Tryz.prog 87 [.int .i64 n, .int .i64 32] [] (.bool (inB n 32)) []]) (by kernel_rfl) (by first | exact rfl | exact ⟨rfl, rfl⟩ | (simp [h1]; done)) ⟨(by first | exact rfl | (simp [h1]; done) | (simp [h1]; omega) | omega), ?q110_1, trivial⟩
    exact q1
  · by_cases h2 : r = 2
    · rw [show placeB r n = inB n 32 by unfold placeB; rw [if_neg h1, if_pos h2]]
      refine acallsK mixed Tryz.func86 rfl [0, 1, 2, 4, 5, 11, 16] 1000 ([.f, .t, .call [] false true (.bool (inB n 32)) []]) [] [] (v1 := .bool (inB n 32)) (objs1 := []) (ob := [(r == (1 : Int)) = false,
 (r == (2 : Int)) = true,
 ACalls Tryz.prog 87 [.int .i64 n, .int .i64 32] [] (.bool (inB n 32)) []]) (by kernel_rfl) (by first | exact rfl | exact ⟨rfl, rfl⟩ | (simp [h2]; done)) ⟨?z0, ?z1, ?q114_1, trivial⟩
      case z0|z1 => first | exact rfl | (simp [h2] <;> omega) | omega
      exact q1
    · by_cases h3 : r = 3
      · rw [show placeB r n = inB n 3 by unfold placeB; rw [if_neg h1, if_neg h2, if_pos h3]]
        refine acallsK mixed Tryz.func86 rfl [0, 1, 2, 4, 5, 11, 16] 1000 ([.f, .f, .t, .call [] false true (.bool (inB n 3)) []]) [] [] (v1 := .bool (inB n 3)) (objs1 := []) (ob := [(r == (1 : Int)) = false,
 (r == (2 : Int)) = false,
 (r == (3 : Int)) = true,
 ACalls Tryz.prog 87 [.int .i64 n, .int .i64 3] [] (.bool (inB n 3)) []]) (by kernel_rfl) (by first | exact rfl | exact ⟨rfl, rfl⟩ | (simp [h3]; done)) ⟨?z2, ?z3, ?z4, ?q118_1, trivial⟩
        case z2|z3|z4 => first | exact rfl | (simp [h3] <;> omega) | omega
        exact q2
      · by_cases h4 : r = 4
        · rw [show placeB r n = inB n 4 by unfold placeB; rw [if_neg h1, if_neg h2, if_neg h3, if_pos h4]]
          refine acallsK mixed Tryz.func86 rfl [0, 1, 2, 4, 5, 11, 16] 1000 ([.f, .f, .f, .t, .call [] false true (.bool (inB n 4)) []]) [] [] (v1 := .bool (inB n 4)) (objs1 := []) (ob := [(r == (1 : Int)) = false,
 (r == (2 : Int)) = false,
 (r == (3 : Int)) = false,
 (r == (4 : Int)) = true,
 ACalls Tryz.prog 87 [.int .i64 n, .int .i64 4] [] (.bool (inB n 4)) []]) (by kernel_rfl) (by first | exact rfl | exact ⟨rfl, rfl⟩ | (simp [h4]; done)) ⟨?z5, ?z6, ?z7, ?z8, ?q122_1, trivial⟩
          case z5|z6|z7|z8 => first | exact rfl | (simp [h4] <;> omega) | omega
          exact q3
        · rw [show placeB r n = false by unfold placeB; rw [if_neg h1, if_neg h2, if_neg h3, if_neg h4]]
          refine acallsK mixed Tryz.func86 rfl [0, 1, 2, 4, 5, 11, 16] 1000 ([.f, .f, .f, .f]) [] [] (v1 := .bool false) (objs1 := []) (ob := [(r == (1 : Int)) = false,
 (r == (2 : Int)) = false,
 (r == (3 : Int)) = false,
 (r == (4 : Int)) = false]) (by kernel_rfl) (by first | exact rfl | exact ⟨rfl, rfl⟩ | (simp [h1, h2, h3, h4]; done)) ⟨?z9, ?z10, ?z11, ?z12, trivial⟩
          case z9|z10|z11|z12 => first | exact rfl | (simp [h1, h2, h3, h4] <;> omega) | omega
def ballotB (r c : Int) : Bool := if inB r 65536 = false then false else if inB c 4 = false then false else true
theorem ballotB_e0 (r c : Int) (h1 : inB r 65536 = false) : ACalls Tryz.prog 88 [.agg [.int .i64 r, .int .i64 c]] [] (.bool (ballotB r c)) [] := by
  have q1 := within_ac r 65536
  rw [h1] at q1
  rw [show ballotB r c = false by unfold ballotB; rw [if_pos h1]]
  refine acallsK mixed Tryz.func88 rfl [0, 1, 2] 1000 ([.call [] false true (.bool false) []]) [] [] (ob := [ACalls Tryz.prog 87 [.int .i64 r, .int .i64 65536] [] (.bool false) []]) (by kernel_rfl) ⟨rfl, rfl⟩ ⟨?q132_1, trivial⟩
  · exact q1
theorem ballotB_e1 (r c : Int) (h1 : inB r 65536 = true) (h2 : inB c 4 = false) : ACalls Tryz.prog 88 [.agg [.int .i64 r, .int .i64 c]] [] (.bool (ballotB r c)) [] := by
  have q1 := within_ac r 65536
  have q2 := within_ac c 4
  rw [h1] at q1
  rw [h2] at q2
  rw [show ballotB r c = false by unfold ballotB; rw [if_neg (by rw [h1]; decide), if_pos h2]]
  refine acallsK mixed Tryz.func88 rfl [0, 1, 2] 1000 ([.call [] false true (.bool true) [], .call [] false true (.bool false) []]) [] [] (ob := [_,
 _]) (by kernel_rfl) ⟨rfl, rfl⟩ ⟨q1, q2, trivial⟩
theorem ballotB_e2 (r c : Int) (h1 : inB r 65536 = true) (h2 : inB c 4 = true) : ACalls Tryz.prog 88 [.agg [.int .i64 r, .int .i64 c]] [] (.bool (ballotB r c)) [] := by
  have q1 := within_ac r 65536
  have q2 := within_ac c 4
  rw [h1] at q1
  rw [h2] at q2
  rw [show ballotB r c = true by unfold ballotB; rw [if_neg (by rw [h1]; decide), if_neg (by rw [h2]; decide)]]
  refine acallsK mixed Tryz.func88 rfl [0, 1, 2] 1000 ([.call [] false true (.bool true) [], .call [] false true (.bool true) []]) [] [] (ob := [_,
 _]) (by kernel_rfl) ⟨rfl, rfl⟩ ⟨q1, q2, trivial⟩
theorem ballotB_ac (r c : Int) : ACalls Tryz.prog 88 [.agg [.int .i64 r, .int .i64 c]] [] (.bool (ballotB r c)) [] := by
  cases h1 : inB r 65536 with
  | false => exact ballotB_e0 r c h1
  | true =>
    cases h2 : inB c 4 with
    | false => exact ballotB_e1 r c h1 h2
    | true =>
      exact ballotB_e2 r c h1 h2
/-- A number that is wrong behind another. -/
def badI (last n : Int) : Bool := decide (n ≤ last) || decide (16 ≤ n)
def riseV (b : Nat) : AV := .fn 121 [.ptr b 0]
theorem rise1_ac (last n : Int) : ACalls Tryz.prog 121 [.int .i64 n, .ptr 0 0] [.vars 3 [.int .i64 last]] (.bool (badI last n)) [.vars 3 [.int .i64 n]] := by
  by_cases h1 : n ≤ last
  · rw [show badI last n = true by simp [badI, h1]]
    refine acallsK mixed Tryz.func121 rfl [0, 1, 3, 4] 1000 ([.t]) [] [0] (ob := [decide (n ≤ last) = true]) (by kernel_rfl) ⟨rfl, rfl⟩ ⟨(by first | exact rfl | (simp [h1]; done) | (simp [h1]; omega) | omega), trivial⟩
  · by_cases h2 : 16 ≤ n
    · rw [show badI last n = true by simp [badI, h2]]
      refine acallsK mixed Tryz.func121 rfl [0, 1, 3, 4] 1000 ([.f, .t]) [] [0] (ob := [decide (n ≤ last) = false,
 decide (n ≥ (16 : Int)) = true]) (by kernel_rfl) ⟨rfl, rfl⟩ ⟨?z0, ?z1, trivial⟩
      case z0|z1 => first | exact rfl | (simp [h1, h2] <;> omega) | omega | (omega)
    · rw [show badI last n = false by simp [badI, h1, h2]]
      refine acallsK mixed Tryz.func121 rfl [0, 1, 3, 4] 1000 ([.f, .f]) [] [0] (ob := [decide (n ≤ last) = false,
 decide (n ≥ (16 : Int)) = false]) (by kernel_rfl) ⟨rfl, rfl⟩ ⟨?z2, ?z3, trivial⟩
      case z2|z3 => first | exact rfl | (simp [h1, h2] <;> omega) | omega | (omega)
def scanI : Int → List Int → Bool
  | v, [] => false
  | v, x :: l => badI v x || scanI x l
theorem rise_loop (l : List Int) (hb : l.length ≤ 1000000000000) : ∀ (n k : Nat) (v : Int), l.length = k + n → ∃ w,
    (scanI v (l.drop k) = false ∧ ALoop Tryz.prog 1 Tryz.f127.ntmps (loopB Tryz.f127 0) ⟨[(8, .int .i64 k), (7, .int .i64 l.length), (0, .lst 1 (l.map intA)), (1, riseV 0)], [.vars 3 [.int .i64 v]]⟩ (.exit 0) ⟨[], [.vars 3 [.int .i64 w]]⟩) ∨
    (scanI v (l.drop k) = true ∧ ∃ i : Nat, ALoop Tryz.prog 1 Tryz.f127.ntmps (loopB Tryz.f127 0) ⟨[(8, .int .i64 k), (7, .int .i64 l.length), (0, .lst 1 (l.map intA)), (1, riseV 0)], [.vars 3 [.int .i64 v]]⟩ .ret ⟨[(4, .int .i64 i)], [.vars 3 [.int .i64 w]]⟩)
  | 0, k, v, h => by
    refine ⟨v, .inl ⟨by rw [List.drop_of_length_le (by omega)]; rfl, ?_⟩⟩
    refine aloopK mixed [0, 1, 4, 5, 7, 8, 9, 16] 1000 ([.go, .f]) [] [0] (S1 := { env := [], objs := [.vars 3 [.int .i64 v]] }) (ob := [decide ((↑k : Int) < (l.length : Int)) = false]) (by kernel_rfl) (by first | exact rfl | exact ⟨rfl, rfl⟩ | (simp []; done)) ⟨(by first | exact rfl | (simp []; done) | (simp []; omega) | omega), trivial⟩
  | n + 1, k, v, h => by
    obtain ⟨x, hx⟩ := get_of (l := l) (k := k) (by omega)
    have hc := rise1_ac v x
    rw [drop_of hx]
    cases hbad : badI v x with
    | true =>
      rw [hbad] at hc
      refine ⟨x, .inr ⟨by simp [scanI, hbad], k, ?_⟩⟩
      refine aloopK mixed [0, 1, 4, 5, 7, 8, 9, 16] 1000 ([.go, .t, .ix k, .el (intA x), .call [0] false false (.bool true) [.vars 3 [.int .i64 x]]]) [4] [0] (S1 := { env := [(4, .int .i64 (↑k : Int))], objs := [.vars 3 [.int .i64 x]] }) (ob := [decide ((↑k : Int) < (l.length : Int)) = true,
 k < List.length (List.map intA l),
 (↑k : Int) = (↑k : Int),
 (List.map intA l)[k]? = some (.int .i64 x),
 ACalls Tryz.prog 121 [.int .i64 x, .ptr 0 0] [.vars 3 [.int .i64 v]] (.bool true) [.vars 3 [.int .i64 x]]]) (by kernel_rfl) (by first | exact rfl | exact ⟨rfl, rfl⟩ | (simp [hx, intA]; done)) ⟨?z0, ?z1, ?z2, ?z3, ?q189_1, trivial⟩
      case z0|z1|z2|z3 => first | exact rfl | (simp [hx, intA] <;> omega) | omega
      exact hc
    | false =>
      rw [hbad] at hc
      obtain ⟨w, ⟨ih1, ih⟩ | ⟨ih1, i, ih⟩⟩ := rise_loop l hb n (k + 1) x (by omega)
      · refine ⟨w, .inl ⟨by simp [scanI, hbad, ih1], ?_⟩⟩
        refine aloopK mixed [0, 1, 4, 5, 7, 8, 9, 16] 1000 ([.go, .t, .ix k, .el (intA x), .call [0] false false (.bool false) [.vars 3 [.int .i64 x]], .n ((k + 1 : Nat) : Int), .lp [8, 7, 0, 1] [0] (.exit 0) ⟨[], [.vars 3 [.int .i64 w]]⟩]) [] [0] (S1 := { env := [], objs := [.vars 3 [.int .i64 w]] }) (ob := [decide ((↑k : Int) < (l.length : Int)) = true,
 k < List.length (List.map intA l),
 (↑k : Int) = (↑k : Int),
 (List.map intA l)[k]? = some (.int .i64 x),
 ACalls Tryz.prog 121 [.int .i64 x, .ptr 0 0] [.vars 3 [.int .i64 v]] (.bool false) [.vars 3 [.int .i64 x]],
 IntKind.i64.wrap ((↑k : Int) + (1 : Int)) = (↑(k + (1 : Nat)) : Int),
 ALoop Tryz.prog 1 19 (loopB Tryz.f127 0) { env := [(8, .int .i64 (↑(k + 1) : Int)), (7, .int .i64 (l.length : Int)), (0, .lst 1 (List.map intA l)), (1, .fn 121 [.ptr 0 0])], objs := [.vars 3 [.int .i64 x]] } (Ex.exit 0) { env := [], objs := [.vars 3 [.int .i64 w]] }]) (by kernel_rfl) (by first | exact rfl | exact ⟨rfl, rfl⟩ | (simp [hx, intA]; done) | (first | omega | exact wrap64 (by omega))) ⟨?z4, ?z5, ?z6, ?z7, ?q195_1, ?z8, ?q195_2, trivial⟩
        case z4|z5|z6|z7|z8 => first | exact rfl | (simp [hx, intA] <;> omega) | omega | (first | omega | exact wrap64 (by omega))
        · exact hc
        · exact ih
      · refine ⟨w, .inr ⟨by simp [scanI, hbad, ih1], i, ?_⟩⟩
        refine aloopK mixed [0, 1, 4, 5, 7, 8, 9, 16] 1000 ([.go, .t, .ix k, .el (intA x), .call [0] false false (.bool false) [.vars 3 [.int .i64 x]], .n ((k + 1 : Nat) : Int), .lp [8, 7, 0, 1] [0] .ret ⟨[(4, .int .i64 i)], [.vars 3 [.int .i64 w]]⟩]) [4] [0] (S1 := { env := [(4, .int .i64 (↑i : Int))], objs := [.vars 3 [.int .i64 w]] }) (ob := [decide ((↑k : Int) < (l.length : Int)) = true,
 k < List.length (List.map intA l),
 (↑k : Int) = (↑k : Int),
 (List.map intA l)[k]? = some (.int .i64 x),
 ACalls Tryz.prog 121 [.int .i64 x, .ptr 0 0] [.vars 3 [.int .i64 v]] (.bool false) [.vars 3 [.int .i64 x]],
 IntKind.i64.wrap ((↑k : Int) + (1 : Int)) = (↑(k + (1 : Nat)) : Int),
 ALoop Tryz.prog 1 19 (loopB Tryz.f127 0) { env := [(8, .int .i64 (↑(k + 1) : Int)), (7, .int .i64 (l.length : Int)), (0, .lst 1 (List.map intA l)), (1, .fn 121 [.ptr 0 0])], objs := [.vars 3 [.int .i64 x]] } Ex.ret { env := [(4, .int .i64 (↑i : Int))], objs := [.vars 3 [.int .i64 w]] }]) (by kernel_rfl) (by first | exact rfl | exact ⟨rfl, rfl⟩ | (simp [hx, intA]; done) | (first | omega | exact wrap64 (by omega))) ⟨?z9, ?z10, ?z11, ?z12, ?q199_1, ?z13, ?q199_2, trivial⟩
        case z9|z10|z11|z12|z13 => first | exact rfl | (simp [hx, intA] <;> omega) | omega | (first | omega | exact wrap64 (by omega))
        · exact hc
        · exact ih
theorem scan_ac (l : List Int) (hb : l.length ≤ 1000000000000) (v : Int) : ∃ w, ACalls Tryz.prog 104 [.lst 1 (l.map intA), riseV 0] [.vars 3 [.int .i64 v]] (.bool (scanI v l)) [.vars 3 [.int .i64 w]] := by
  obtain ⟨w, ⟨ih1, ih⟩ | ⟨ih1, i, ih⟩⟩ := rise_loop l hb l.length 0 v (by omega)
  · rw [List.drop_zero] at ih1
    have hi : ACalls Tryz.prog 127 [.lst 1 (l.map intA), riseV 0] [.vars 3 [.int .i64 v]] (.int .i64 (-1)) [.vars 3 [.int .i64 w]] := by
      refine acallsK mixed Tryz.func127 rfl [0, 1, 4, 5, 7, 8, 9, 16] 1000 ([.n l.length, .lp [8, 7, 0, 1] [0] (.exit 0) ⟨[], [.vars 3 [.int .i64 w]]⟩]) [0] [0] (v1 := .int .i64 (-1)) (objs1 := [.vars 3 [.int .i64 w]]) (ob := [((List.map intA l).length : Int) = (l.length : Int),
 ALoop Tryz.prog 1 19 (loopB Tryz.f127 0) { env := [(8, .int .i64 0), (7, .int .i64 (l.length : Int)), (0, .lst 1 (List.map intA l)), (1, .fn 121 [.ptr 0 0])], objs := [.vars 3 [.int .i64 v]] } (Ex.exit 0) { env := [], objs := [.vars 3 [.int .i64 w]] }]) (by kernel_rfl) (by first | exact rfl | exact ⟨rfl, rfl⟩ | (simp []; done)) ⟨(by first | exact rfl | (simp []; done) | (simp []; omega) | omega), ?q206_1, trivial⟩
      exact ih
    refine ⟨w, ?_⟩
    rw [ih1]
    refine acallsK mixed Tryz.func104 rfl [0, 1, 4] 1000 ([.call [0] false false (.int .i64 (-1)) [.vars 3 [.int .i64 w]], .f]) [0] [0] (v1 := .bool false) (objs1 := [.vars 3 [.int .i64 w]]) (ob := [ACalls Tryz.prog 127 [.lst 1 (List.map intA l), .fn 121 [.ptr 0 0]] [.vars 3 [.int .i64 v]] (.int .i64 (-1)) [.vars 3 [.int .i64 w]],
 decide ((-1 : Int) ≥ (0 : Int)) = false]) (by kernel_rfl) (by first | exact rfl | exact ⟨rfl, rfl⟩ | (simp []; done)) ⟨?q210_1, (by first | exact rfl | (simp []; done) | (simp []; omega) | omega), trivial⟩
    exact hi
  · rw [List.drop_zero] at ih1
    have hi : ACalls Tryz.prog 127 [.lst 1 (l.map intA), riseV 0] [.vars 3 [.int .i64 v]] (.int .i64 i) [.vars 3 [.int .i64 w]] := by
      refine acallsK mixed Tryz.func127 rfl [0, 1, 4, 5, 7, 8, 9, 16] 1000 ([.n l.length, .lp [8, 7, 0, 1] [0] .ret ⟨[(4, .int .i64 i)], [.vars 3 [.int .i64 w]]⟩]) [0] [0] (v1 := .int .i64 (↑i : Int)) (objs1 := [.vars 3 [.int .i64 w]]) (ob := [((List.map intA l).length : Int) = (l.length : Int),
 ALoop Tryz.prog 1 19 (loopB Tryz.f127 0) { env := [(8, .int .i64 0), (7, .int .i64 (l.length : Int)), (0, .lst 1 (List.map intA l)), (1, .fn 121 [.ptr 0 0])], objs := [.vars 3 [.int .i64 v]] } Ex.ret { env := [(4, .int .i64 (↑i : Int))], objs := [.vars 3 [.int .i64 w]] }]) (by kernel_rfl) (by first | exact rfl | exact ⟨rfl, rfl⟩ | (simp []; done)) ⟨(by first | exact rfl | (simp []; done) | (simp []; omega) | omega), ?q214_1, trivial⟩
      exact ih
    refine ⟨w, ?_⟩
    rw [ih1]
    refine acallsK mixed Tryz.func104 rfl [0, 1, 4] 1000 ([.call [0] false false (.int .i64 i) [.vars 3 [.int .i64 w]], .t]) [0] [0] (v1 := .bool true) (objs1 := [.vars 3 [.int .i64 w]]) (ob := [ACalls Tryz.prog 127 [.lst 1 (List.map intA l), .fn 121 [.ptr 0 0]] [.vars 3 [.int .i64 v]] (.int .i64 (↑i : Int)) [.vars 3 [.int .i64 w]],
 decide ((↑i : Int) ≥ (0 : Int)) = true]) (by kernel_rfl) (by first | exact rfl | exact ⟨rfl, rfl⟩ | (simp []; done)) ⟨?q218_1, (by first | exact rfl | (simp []; done) | (simp []; omega) | omega), trivial⟩
    exact hi
def riseB (l : List Int) : Bool := !scanI (-1) l
theorem riseB_ac (l : List Int) (hb : l.length ≤ 1000000000000) : ACalls Tryz.prog 89 [.lst 1 (l.map intA)] [] (.bool (riseB l)) [] := by
  obtain ⟨w, q⟩ := scan_ac l hb (-1)
  unfold riseB
  refine acallsK mixed Tryz.func89 rfl [0, 2, 3] 1000 ([.call [0] false false (.bool (scanI (-1) l)) [.vars 3 [.int .i64 w]]]) [] [] (ob := [_]) (by kernel_rfl) ⟨rfl, rfl⟩ ⟨q, trivial⟩
def oneC (b : BackD) : CellD := ⟨1, [], [b]⟩
theorem oneC_ac (b : BackD) : ACalls Tryz.prog 44 [.agg [.int .i64 1, .nils, .lst 3 [encB b]]] [] (.bool (rightC (oneC b))) [] := ACalls.weak (right_ac (oneC b)) fun K ds h => by
  refine ⟨h.1, fun i v d hv hd => ?_⟩
  match i, hv with
  | 0, hv =>
    injection hv with hv
    subst hv
    obtain ⟨ds2, rfl, hd2⟩ := (h.2 0 _ d rfl hd).agg_inv
    refine VR.mkAgg ⟨hd2.1, fun j u d2 hu hd3 => ?_⟩
    match j, hu with
    | 0, hu => exact hd2.2 0 _ d2 hu hd3
    | 1, hu => injection hu with hu; subst hu; exact nils_lst 1 (by decide) (hd2.2 1 _ d2 rfl hd3)
    | 2, hu => exact hd2.2 2 _ d2 hu hd3
end Go.Proofs.YtidgcfgkcidkiaaGreat.Ch
namespace Go.Proofs.YtidgcfgkcidkiaaGreat.Ch
open Go Go.RowKit Go.Proofs.YtidgcfgkcidkiaaGreat.L Go.Proofs.YtidgcfgkcidkiaaGreat.X
set_option linter.unusedVariables false
set_option linter.unusedSimpArgs false
def sA_ (b : BackD) : AV := .int .i64 b.s
theorem take_map {l : List BackD} {k : Nat} {x : BackD} (h : l[k]? = some x) : (l.take (k + 1)).map sA_ = (l.take k).map sA_ ++ [.int .i64 x.s] := by
  rw [List.take_add_one, h]; simp [sA_]
theorem backs_loop (l : List BackD) (hb : l.length ≤ 1000000000000) : ∀ (n k : Nat), l.length = k + n →
    ((l.drop k).all (fun b => rightC (oneC b)) = true → ALoop Tryz.prog 0 Tryz.f90.ntmps (loopB Tryz.f90 0) ⟨[(8, .int .i64 k), (7, .int .i64 l.length), (6, .lst 3 (l.map encB)), (3, .row 0 1 k)], [.row 3 1 ((l.take k).map sA_)]⟩ (.exit 0) ⟨[(3, .row 0 1 l.length)], [.row 3 1 (l.map sA_)]⟩) ∧
    ((l.drop k).all (fun b => rightC (oneC b)) = false → ALoop Tryz.prog 0 Tryz.f90.ntmps (loopB Tryz.f90 0) ⟨[(8, .int .i64 k), (7, .int .i64 l.length), (6, .lst 3 (l.map encB)), (3, .row 0 1 k)], [.row 3 1 ((l.take k).map sA_)]⟩ .ret ⟨[(2, .bool false)], []⟩)
  | 0, k, h => by
    refine ⟨fun _ => ?_, fun hne => ?_⟩
    · have hk : k = l.length := by omega
      subst hk
      rw [List.take_length]
      refine aloopK mixed [0, 2, 3, 5, 6, 7, 8, 9, 21] 1000 ([.go, .f]) [3] [0] (S1 := { env := [(3, .row 0 1 (List.length l))], objs := [.row 3 1 (List.map sA_ l)] }) (ob := [decide ((l.length : Int) < (l.length : Int)) = false]) (by kernel_rfl) (by first | exact rfl | exact ⟨rfl, rfl⟩ | (simp []; done)) ⟨(by first | exact rfl | (simp []; done) | (simp []; omega) | omega), trivial⟩
    · rw [List.drop_of_length_le (by omega)] at hne; cases hne
  | n + 1, k, h => by
    obtain ⟨x, hx⟩ := get_of (l := l) (k := k) (by omega)
    have ih := backs_loop l hb n (k + 1) (by omega)
    have hk : k < l.length := by omega
    have hk2 : (l.take k).length = k := by rw [List.length_take]; omega
    have hw : IntKind.i64.wrap ((k : Int) + 1) = ((k + 1 : Nat) : Int) := wrap64 (by omega)
    have hsz : ((List.map sA_ (l.take k)).length + 1) * 8 ≤ 140737488355328 := by rw [List.length_map, hk2]; omega
    have q := oneC_ac x
    have ht := take_map hx
    have hk3 : ((l.take (k + 1)).map sA_).length = k + 1 := by rw [List.length_map, List.length_take]; omega
    rw [drop_of hx, List.all_cons]
    cases hr : rightC (oneC x) with
    | false =>
      rw [hr] at q
      refine ⟨fun h => (by cases h), fun _ => ?_⟩
      refine aloopK mixed [0, 2, 3, 5, 6, 7, 8, 9, 21] 1000 ([.go, .t, .ix k, .el (encB x), .ls ((l.take (k + 1)).map sA_), .call [] false true (.bool false) []]) [2] [] (S1 := { env := [(2, .bool false)], objs := [] }) (ob := [decide ((↑k : Int) < (l.length : Int)) = true,
 k < List.length (List.map encB l),
 (↑k : Int) = (↑k : Int),
 (List.map encB l)[k]? = some (.agg [.int .i64 x.s, .int .u64 x.a, .int .u64 x.b]),
 (List.length (List.map sA_ (List.take k l)) + (1 : Nat)) * (8 : Nat) ≤ (140737488355328 : Nat),
 List.map sA_ (List.take k l) ++ [.int .i64 x.s] = List.map sA_ (List.take (k + (1 : Nat)) l),
 ACalls Tryz.prog 44 [.agg [.int .i64 1, .nils, .lst 3 [.agg [.int .i64 x.s, .int .u64 x.a, .int .u64 x.b]]]] [] (.bool false) []]) (by kernel_rfl) (by first | exact rfl | exact ⟨rfl, rfl⟩ | (simp [hx, hk2, encB, ht]; done) | (first | exact hsz | exact ht.symm | omega)) ⟨?z0, ?z1, ?z2, ?z3, ?z4, ?z5, ?q35_1, trivial⟩
      case z0|z1|z2|z3|z4|z5 => first | exact rfl | (simp [hx, hk2, encB, ht] <;> omega) | omega | (first | exact hsz | exact ht.symm | omega)
      exact q
    | true =>
      rw [hr] at q
      refine ⟨fun hq => ?_, fun hq => ?_⟩
      · have ih := ih.1 hq
        refine aloopK mixed [0, 2, 3, 5, 6, 7, 8, 9, 21] 1000 ([.go, .t, .ix k, .el (encB x), .ls ((l.take (k + 1)).map sA_), .call [] false true (.bool true) [], .n ((k + 1 : Nat) : Int), .lp [8, 7, 6, 3] [3] (.exit 0) ⟨[(3, .row 0 1 l.length)], [.row 3 1 (l.map sA_)]⟩]) [3] [0] (S1 := { env := [(3, .row 0 1 (List.length l))], objs := [.row 3 1 (List.map sA_ l)] }) (ob := [decide ((↑k : Int) < (l.length : Int)) = true,
 k < List.length (List.map encB l),
 (↑k : Int) = (↑k : Int),
 (List.map encB l)[k]? = some (.agg [.int .i64 x.s, .int .u64 x.a, .int .u64 x.b]),
 (List.length (List.map sA_ (List.take k l)) + (1 : Nat)) * (8 : Nat) ≤ (140737488355328 : Nat),
 List.map sA_ (List.take k l) ++ [.int .i64 x.s] = List.map sA_ (List.take (k + (1 : Nat)) l),
 ACalls Tryz.prog 44 [.agg [.int .i64 1, .nils, .lst 3 [.agg [.int .i64 x.s, .int .u64 x.a, .int .u64 x.b]]]] [] (.bool true) [],
 IntKind.i64.wrap ((↑k : Int) + (1 : Int)) = (↑(k + (1 : Nat)) : Int),
 ALoop Tryz.prog 0 25 (loopB Tryz.f90 0) { env := [(8, .int .i64 (↑(k + 1) : Int)), (7, .int .i64 (l.length : Int)), (6, .lst 3 (List.map encB l)), (3, .row 0 1 (List.length (List.map sA_ (List.take (k + 1) l))))], objs := [.row 3 1 (List.map sA_ (List.take (k + 1) l))] } (Ex.exit 0) { env := [(3, .row 0 1 (List.length l))], objs := [.row 3 1 (List.map sA_ l)] }]) (by kernel_rfl) (by first | exact rfl | exact ⟨rfl, rfl⟩ | (simp [hx, hk2, encB, ht, hw]; done) | (first | exact hsz | exact ht.symm | omega)) ⟨?z6, ?z7, ?z8, ?z9, ?z10, ?z11, ?q41_1, ?z12, ?q41_2, trivial⟩
        case z6|z7|z8|z9|z10|z11|z12 => first | exact rfl | (simp [hx, hk2, encB, ht, hw] <;> omega) | omega | (first | exact hsz | exact ht.symm | omega)
        · exact q
        · rw [hk3]; exact ih
      · have ih := ih.2 hq
        refine aloopK mixed [0, 2, 3, 5, 6, 7, 8, 9, 21] 1000 ([.go, .t, .ix k, .el (encB x), .ls ((l.take (k + 1)).map sA_), .call [] false true (.bool true) [], .n ((k + 1 : Nat) : Int), .lp [8, 7, 6, 3] [3] .ret ⟨[(2, .bool false)], []⟩]) [2] [] (S1 := { env := [(2, .bool false)], objs := [] }) (ob := [decide ((↑k : Int) < (l.length : Int)) = true,
 k < List.length (List.map encB l),
 (↑k : Int) = (↑k : Int),
 (List.map encB l)[k]? = some (.agg [.int .i64 x.s, .int .u64 x.a, .int .u64 x.b]),
 (List.length (List.map sA_ (List.take k l)) + (1 : Nat)) * (8 : Nat) ≤ (140737488355328 : Nat),
 List.map sA_ (List.take k l) ++ [.int .i64 x.s] = List.map sA_ (List.take (k + (1 : Nat)) l),
 ACalls Tryz.prog 44 [.agg [.int .i64 1, .nils, .lst 3 [.agg [.int .i64 x.s, .int .u64 x.a, .int .u64 x.b]]]] [] (.bool true) [],
 IntKind.i64.wrap ((↑k : Int) + (1 : Int)) = (↑(k + (1 : Nat)) : Int),
 ALoop Tryz.prog 0 25 (loopB Tryz.f90 0) { env := [(8, .int .i64 (↑(k + 1) : Int)), (7, .int .i64 (l.length : Int)), (6, .lst 3 (List.map encB l)), (3, .row 0 1 (List.length (List.map sA_ (List.take (k + 1) l))))], objs := [.row 3 1 (List.map sA_ (List.take (k + 1) l))] } Ex.ret { env := [(2, .bool false)], objs := [] }]) (by kernel_rfl) (by first | exact rfl | exact ⟨rfl, rfl⟩ | (simp [hx, hk2, encB, ht, hw]; done) | (first | exact hsz | exact ht.symm | omega)) ⟨?z13, ?z14, ?z15, ?z16, ?z17, ?z18, ?q45_1, ?z19, ?q45_2, trivial⟩
        case z13|z14|z15|z16|z17|z18|z19 => first | exact rfl | (simp [hx, hk2, encB, ht, hw] <;> omega) | omega | (first | exact hsz | exact ht.symm | omega)
        · exact q
        · rw [hk3]; exact ih
def backsB (l : List BackD) : Bool := l.all (fun b => rightC (oneC b)) && riseB (l.map (·.s))
theorem sA_map (l : List BackD) : l.map sA_ = (l.map (·.s)).map intA := by rw [List.map_map]; rfl
theorem backsB_ac (l : List BackD) (hb : l.length ≤ 1000000000000) : ACalls Tryz.prog 90 [.lst 3 (l.map encB)] [] (.bool (backsB l)) [] := by
  have h := backs_loop l hb l.length 0 (by omega)
  unfold backsB
  cases hr : l.all (fun b => rightC (oneC b)) with
  | false =>
    have h := h.2 hr
    refine acallsK mixed Tryz.func90 rfl [0, 2, 3, 5, 6, 7, 8, 9, 21] 1000 ([.n l.length, .mk 3 3 1, .lp [8, 7, 6, 3] [0] .ret ⟨[(2, .bool false)], []⟩]) [] [] (ob := [((List.map encB l).length : Int) = (l.length : Int),
 _]) (by kernel_rfl) ⟨rfl, rfl⟩ ⟨(by first | exact rfl | (simp []; done) | (simp []; omega) | omega), h, trivial⟩
  | true =>
    have h := h.1 hr
    have q := riseB_ac (l.map (·.s)) (by rw [List.length_map]; exact hb)
    rw [← sA_map] at q
    rw [Bool.true_and]
    refine acallsK mixed Tryz.func90 rfl [0, 2, 3, 5, 6, 7, 8, 9, 21] 1000 ([.n l.length, .mk 3 3 1, .lp [8, 7, 6, 3] [0] (.exit 0) ⟨[(3, .row 0 1 l.length)], [.row 3 1 (l.map sA_)]⟩, .call [] false true (.bool (riseB (l.map (·.s)))) []]) [] [] (ob := [((List.map encB l).length : Int) = (l.length : Int),
 _,
 _]) (by kernel_rfl) ⟨rfl, rfl⟩ ⟨(by first | exact rfl | (simp []; done) | (simp []; omega) | omega), h, q, trivial⟩
end Go.Proofs.YtidgcfgkcidkiaaGreat.Ch
namespace Go.Proofs.YtidgcfgkcidkiaaGreat.Ch
open Go Go.RowKit Go.Proofs.YtidgcfgkcidkiaaGreat.L Go.Proofs.YtidgcfgkcidkiaaGreat.X
set_option linter.unusedVariables false
set_option linter.unusedSimpArgs false
structure LayD.fit (l : LayD) : Prop where
  segs : ∀ s ∈ l.segs, s.ok
  n : l.segs.length ≤ 1000000000000
structure MsgD.ok (m : MsgD) : Prop where
  cell : m.cell.ok
  st : m.streams.length ≤ 1000000000000
  b : m.backs.length ≤ 1000000000000
  lay : m.lay.fit
def restM (m : MsgD) : Bool := (sameC m.cell cell0 || rightC m.cell) && (noLayB m.lay || rightL m.lay)

def rightM (m : MsgD) : Bool := if m.kind < 1 then false else if 14 < m.kind then false else if m.of_ < 0 then false else if 13 < m.of_ then false else if ¬ (m.kind = 14 ↔ 0 < m.of_) then false else if placeB m.fr m.fn = false then false else if placeB m.tr m.tn = false then false else if inB m.id 1048576 = false then false else if inB m.err 256 = false then false else if 1048576 < m.epoch then false else if 1048576 < m.addr then false else if ballotB m.br m.bc = false then false else if ballotB m.pr m.pc = false then false else if 4 < m.streams.length then false else if riseB m.streams = false then false else if backsB m.backs = false then false else restM m
theorem xor_yes {a b : Int} (h : ¬ (a = 14 ↔ 0 < b)) : (!((a == 14) == decide (b > 0))) = true := by
  by_cases h1 : a = 14 <;> by_cases h2 : 0 < b <;> simp [h1, h2] at h ⊢
theorem xor_no {a b : Int} (h : ¬ ¬ (a = 14 ↔ 0 < b)) : (!((a == 14) == decide (b > 0))) = false := by
  by_cases h1 : a = 14 <;> by_cases h2 : 0 < b <;> simp [h1, h2] at h ⊢
theorem rightM_e0 (m : MsgD) (hm : m.ok) (h1 : m.kind < 1) : ACalls Tryz.prog 51 [encM m] [] (.bool (rightM m)) [] := by
  rw [show rightM m = false by unfold rightM; rw [if_pos h1]]
  refine acallsK mixed Tryz.func51 rfl [0, 1, 2, 3, 31, 54, 75] 1000 ([.t]) [] [] (ob := [decide (m.kind < (1 : Int)) = true]) (by kernel_rfl) ⟨rfl, rfl⟩ ⟨(by first | exact rfl | (simp [encM, celM, celC, celL, h1]; done) | (simp [encM, celM, celC, celL, h1]; omega) | omega | (first | omega | exact xor_yes h5 | exact xor_no h5)), trivial⟩
theorem rightM_e1 (m : MsgD) (hm : m.ok) (h1 : ¬ (m.kind < 1)) (h2 : 14 < m.kind) : ACalls Tryz.prog 51 [encM m] [] (.bool (rightM m)) [] := by
  rw [show rightM m = false by unfold rightM; rw [if_neg h1, if_pos h2]]
  refine acallsK mixed Tryz.func51 rfl [0, 1, 2, 3, 31, 54, 75] 1000 ([.f, .t]) [] [] (ob := [decide (m.kind < (1 : Int)) = false,
 decide (m.kind > (14 : Int)) = true]) (by kernel_rfl) ⟨rfl, rfl⟩ ⟨?z0, ?z1, trivial⟩
  case z0|z1 => first | exact rfl | (simp [encM, celM, celC, celL, h1, h2] <;> omega) | omega | (first | omega | exact xor_yes h5 | exact xor_no h5)
theorem rightM_e2 (m : MsgD) (hm : m.ok) (h1 : ¬ (m.kind < 1)) (h2 : ¬ (14 < m.kind)) (h3 : m.of_ < 0) : ACalls Tryz.prog 51 [encM m] [] (.bool (rightM m)) [] := by
  rw [show rightM m = false by unfold rightM; rw [if_neg h1, if_neg h2, if_pos h3]]
  refine acallsK mixed Tryz.func51 rfl [0, 1, 2, 3, 31, 54, 75] 1000 ([.f, .f, .t]) [] [] (ob := [decide (m.kind < (1 : Int)) = false,
 decide (m.kind > (14 : Int)) = false,
 decide (m.of_ < (0 : Int)) = true]) (by kernel_rfl) ⟨rfl, rfl⟩ ⟨?z0, ?z1, ?z2, trivial⟩
  case z0|z1|z2 => first | exact rfl | (simp [encM, celM, celC, celL, h1, h2, h3] <;> omega) | omega | (first | omega | exact xor_yes h5 | exact xor_no h5)
theorem rightM_e3 (m : MsgD) (hm : m.ok) (h1 : ¬ (m.kind < 1)) (h2 : ¬ (14 < m.kind)) (h3 : ¬ (m.of_ < 0)) (h4 : 13 < m.of_) : ACalls Tryz.prog 51 [encM m] [] (.bool (rightM m)) [] := by
  rw [show rightM m = false by unfold rightM; rw [if_neg h1, if_neg h2, if_neg h3, if_pos h4]]
  refine acallsK mixed Tryz.func51 rfl [0, 1, 2, 3, 31, 54, 75] 1000 ([.f, .f, .f, .t]) [] [] (ob := [decide (m.kind < (1 : Int)) = false,
 decide (m.kind > (14 : Int)) = false,
 decide (m.of_ < (0 : Int)) = false,
 decide (m.of_ > (13 : Int)) = true]) (by kernel_rfl) ⟨rfl, rfl⟩ ⟨?z0, ?z1, ?z2, ?z3, trivial⟩
  case z0|z1|z2|z3 => first | exact rfl | (simp [encM, celM, celC, celL, h1, h2, h3, h4] <;> omega) | omega | (first | omega | exact xor_yes h5 | exact xor_no h5)
theorem rightM_e4 (m : MsgD) (hm : m.ok) (h1 : ¬ (m.kind < 1)) (h2 : ¬ (14 < m.kind)) (h3 : ¬ (m.of_ < 0)) (h4 : ¬ (13 < m.of_)) (h5 : ¬ (m.kind = 14 ↔ 0 < m.of_)) : ACalls Tryz.prog 51 [encM m] [] (.bool (rightM m)) [] := by
  rw [show rightM m = false by unfold rightM; rw [if_neg h1, if_neg h2, if_neg h3, if_neg h4, if_pos h5]]
  refine acallsK mixed Tryz.func51 rfl [0, 1, 2, 3, 31, 54, 75] 1000 ([.f, .f, .f, .f, .k, .k, .t]) [] [] (ob := [decide (m.kind < (1 : Int)) = false,
 decide (m.kind > (14 : Int)) = false,
 decide (m.of_ < (0 : Int)) = false,
 decide (m.of_ > (13 : Int)) = false,
 (!(m.kind == (14 : Int)) == decide (m.of_ > (0 : Int))) = true]) (by kernel_rfl) ⟨rfl, rfl⟩ ⟨?z0, ?z1, ?z2, ?z3, ?z4, trivial⟩
  case z0|z1|z2|z3|z4 => first | exact rfl | (simp [encM, celM, celC, celL, h1, h2, h3, h4, h5] <;> omega) | omega | (first | omega | exact xor_yes h5 | exact xor_no h5)
theorem rightM_e5 (m : MsgD) (hm : m.ok) (h1 : ¬ (m.kind < 1)) (h2 : ¬ (14 < m.kind)) (h3 : ¬ (m.of_ < 0)) (h4 : ¬ (13 < m.of_)) (h5 : ¬ (¬ (m.kind = 14 ↔ 0 < m.of_))) (h6 : placeB m.fr m.fn = false) : ACalls Tryz.prog 51 [encM m] [] (.bool (rightM m)) [] := by
  have q1 := place_ac m.fr m.fn
  rw [h6] at q1
  rw [show rightM m = false by unfold rightM; rw [if_neg h1, if_neg h2, if_neg h3, if_neg h4, if_neg h5, if_pos h6]]
  refine acallsK mixed Tryz.func51 rfl [0, 1, 2, 3, 31, 54, 75] 1000 ([.f, .f, .f, .f, .k, .k, .f, .call [] false true (.bool false) []]) [] [] (ob := [decide (m.kind < (1 : Int)) = false,
 decide (m.kind > (14 : Int)) = false,
 decide (m.of_ < (0 : Int)) = false,
 decide (m.of_ > (13 : Int)) = false,
 (!(m.kind == (14 : Int)) == decide (m.of_ > (0 : Int))) = false,
 ACalls Tryz.prog 86 [.agg [.int .i64 m.fr, .int .i64 m.fn]] [] (.bool false) []]) (by kernel_rfl) ⟨rfl, rfl⟩ ⟨?z0, ?z1, ?z2, ?z3, ?z4, ?q112_1, trivial⟩
  case z0|z1|z2|z3|z4 => first | exact rfl | (simp [encM, celM, celC, celL, h1, h2, h3, h4, h5, h6] <;> omega) | omega | (first | omega | exact xor_yes h5 | exact xor_no h5)
  · exact q1
theorem rightM_e6 (m : MsgD) (hm : m.ok) (h1 : ¬ (m.kind < 1)) (h2 : ¬ (14 < m.kind)) (h3 : ¬ (m.of_ < 0)) (h4 : ¬ (13 < m.of_)) (h5 : ¬ (¬ (m.kind = 14 ↔ 0 < m.of_))) (h6 : placeB m.fr m.fn = true) (h7 : placeB m.tr m.tn = false) : ACalls Tryz.prog 51 [encM m] [] (.bool (rightM m)) [] := by
  have q1 := place_ac m.fr m.fn
  have q2 := place_ac m.tr m.tn
  rw [h6] at q1
  rw [h7] at q2
  rw [show rightM m = false by unfold rightM; rw [if_neg h1, if_neg h2, if_neg h3, if_neg h4, if_neg h5, if_neg (by rw [h6]; decide), if_pos h7]]
  refine acallsK mixed Tryz.func51 rfl [0, 1, 2, 3, 31, 54, 75] 1000 ([.f, .f, .f, .f, .k, .k, .f, .call [] false true (.bool true) [], .call [] false true (.bool false) []]) [] [] (ob := [decide (m.kind < (1 : Int)) = false,
 decide (m.kind > (14 : Int)) = false,
 decide (m.of_ < (0 : Int)) = false,
 decide (m.of_ > (13 : Int)) = false,
 (!(m.kind == (14 : Int)) == decide (m.of_ > (0 : Int))) = false,
 _,
 _]) (by kernel_rfl) ⟨rfl, rfl⟩ ⟨?z0, ?z1, ?z2, ?z3, ?z4, q1, q2, trivial⟩
  case z0|z1|z2|z3|z4 => first | exact rfl | (simp [encM, celM, celC, celL, h1, h2, h3, h4, h5, h6, h7] <;> omega) | omega | (first | omega | exact xor_yes h5 | exact xor_no h5)
theorem rightM_e7 (m : MsgD) (hm : m.ok) (h1 : ¬ (m.kind < 1)) (h2 : ¬ (14 < m.kind)) (h3 : ¬ (m.of_ < 0)) (h4 : ¬ (13 < m.of_)) (h5 : ¬ (¬ (m.kind = 14 ↔ 0 < m.of_))) (h6 : placeB m.fr m.fn = true) (h7 : placeB m.tr m.tn = true) (h8 : inB m.id 1048576 = false) : ACalls Tryz.prog 51 [encM m] [] (.bool (rightM m)) [] := by
  have q1 := place_ac m.fr m.fn
  have q2 := place_ac m.tr m.tn
  have q3 := within_ac m.id 1048576
  rw [h6] at q1
  rw [h7] at q2
  rw [h8] at q3
  rw [show rightM m = false by unfold rightM; rw [if_neg h1, if_neg h2, if_neg h3, if_neg h4, if_neg h5, if_neg (by rw [h6]; decide), if_neg (by rw [h7]; decide), if_pos h8]]
  refine acallsK mixed Tryz.func51 rfl [0, 1, 2, 3, 31, 54, 75] 1000 ([.f, .f, .f, .f, .k, .k, .f, .call [] false true (.bool true) [], .call [] false true (.bool true) [], .call [] false true (.bool false) []]) [] [] (ob := [decide (m.kind < (1 : Int)) = false,
 decide (m.kind > (14 : Int)) = false,
 decide (m.of_ < (0 : Int)) = false,
 decide (m.of_ > (13 : Int)) = false,
 (!(m.kind == (14 : Int)) == decide (m.of_ > (0 : Int))) = false,
 _,
 _,
 _]) (by kernel_rfl) ⟨rfl, rfl⟩ ⟨?z0, ?z1, ?z2, ?z3, ?z4, q1, q2, q3, trivial⟩
  case z0|z1|z2|z3|z4 => first | exact rfl | (simp [encM, celM, celC, celL, h1, h2, h3, h4, h5, h6, h7, h8] <;> omega) | omega | (first | omega | exact xor_yes h5 | exact xor_no h5)
theorem rightM_e8 (m : MsgD) (hm : m.ok) (h1 : ¬ (m.kind < 1)) (h2 : ¬ (14 < m.kind)) (h3 : ¬ (m.of_ < 0)) (h4 : ¬ (13 < m.of_)) (h5 : ¬ (¬ (m.kind = 14 ↔ 0 < m.of_))) (h6 : placeB m.fr m.fn = true) (h7 : placeB m.tr m.tn = true) (h8 : inB m.id 1048576 = true) (h9 : inB m.err 256 = false) : ACalls Tryz.prog 51 [encM m] [] (.bool (rightM m)) [] := by
  have q1 := place_ac m.fr m.fn
  have q2 := place_ac m.tr m.tn
  have q3 := within_ac m.id 1048576
  have q4 := within_ac m.err 256
  rw [h6] at q1
  rw [h7] at q2
  rw [h8] at q3
  rw [h9] at q4
  rw [show rightM m = false by unfold rightM; rw [if_neg h1, if_neg h2, if_neg h3, if_neg h4, if_neg h5, if_neg (by rw [h6]; decide), if_neg (by rw [h7]; decide), if_neg (by rw [h8]; decide), if_pos h9]]
  refine acallsK mixed Tryz.func51 rfl [0, 1, 2, 3, 31, 54, 75] 1000 ([.f, .f, .f, .f, .k, .k, .f, .call [] false true (.bool true) [], .call [] false true (.bool true) [], .call [] false true (.bool true) [], .call [] false true (.bool false) []]) [] [] (ob := [decide (m.kind < (1 : Int)) = false,
 decide (m.kind > (14 : Int)) = false,
 decide (m.of_ < (0 : Int)) = false,
 decide (m.of_ > (13 : Int)) = false,
 (!(m.kind == (14 : Int)) == decide (m.of_ > (0 : Int))) = false,
 _,
 _,
 _,
 _]) (by kernel_rfl) ⟨rfl, rfl⟩ ⟨?z0, ?z1, ?z2, ?z3, ?z4, q1, q2, q3, q4, trivial⟩
  case z0|z1|z2|z3|z4 => first | exact rfl | (simp [encM, celM, celC, celL, h1, h2, h3, h4, h5, h6, h7, h8, h9] <;> omega) | omega | (first | omega | exact xor_yes h5 | exact xor_no h5)
theorem rightM_e9 (m : MsgD) (hm : m.ok) (h1 : ¬ (m.kind < 1)) (h2 : ¬ (14 < m.kind)) (h3 : ¬ (m.of_ < 0)) (h4 : ¬ (13 < m.of_)) (h5 : ¬ (¬ (m.kind = 14 ↔ 0 < m.of_))) (h6 : placeB m.fr m.fn = true) (h7 : placeB m.tr m.tn = true) (h8 : inB m.id 1048576 = true) (h9 : inB m.err 256 = true) (h10 : 1048576 < m.epoch) : ACalls Tryz.prog 51 [encM m] [] (.bool (rightM m)) [] := by
  have q1 := place_ac m.fr m.fn
  have q2 := place_ac m.tr m.tn
  have q3 := within_ac m.id 1048576
  have q4 := within_ac m.err 256
  rw [h6] at q1
  rw [h7] at q2
  rw [h8] at q3
  rw [h9] at q4
  rw [show rightM m = false by unfold rightM; rw [if_neg h1, if_neg h2, if_neg h3, if_neg h4, if_neg h5, if_neg (by rw [h6]; decide), if_neg (by rw [h7]; decide), if_neg (by rw [h8]; decide), if_neg (by rw [h9]; decide), if_pos h10]]
  refine acallsK mixed Tryz.func51 rfl [0, 1, 2, 3, 31, 54, 75] 1000 ([.f, .f, .f, .f, .k, .k, .f, .call [] false true (.bool true) [], .call [] false true (.bool true) [], .call [] false true (.bool true) [], .call [] false true (.bool true) [], .t]) [] [] (ob := [decide (m.kind < (1 : Int)) = false,
 decide (m.kind > (14 : Int)) = false,
 decide (m.of_ < (0 : Int)) = false,
 decide (m.of_ > (13 : Int)) = false,
 (!(m.kind == (14 : Int)) == decide (m.of_ > (0 : Int))) = false,
 _,
 _,
 _,
 _,
 decide (m.epoch > (1048576 : Int)) = true]) (by kernel_rfl) ⟨rfl, rfl⟩ ⟨?z0, ?z1, ?z2, ?z3, ?z4, q1, q2, q3, q4, ?z5, trivial⟩
  case z0|z1|z2|z3|z4|z5 => first | exact rfl | (simp [encM, celM, celC, celL, h1, h2, h3, h4, h5, h6, h7, h8, h9, h10] <;> omega) | omega | (first | omega | exact xor_yes h5 | exact xor_no h5)
theorem rightM_e10 (m : MsgD) (hm : m.ok) (h1 : ¬ (m.kind < 1)) (h2 : ¬ (14 < m.kind)) (h3 : ¬ (m.of_ < 0)) (h4 : ¬ (13 < m.of_)) (h5 : ¬ (¬ (m.kind = 14 ↔ 0 < m.of_))) (h6 : placeB m.fr m.fn = true) (h7 : placeB m.tr m.tn = true) (h8 : inB m.id 1048576 = true) (h9 : inB m.err 256 = true) (h10 : ¬ (1048576 < m.epoch)) (h11 : 1048576 < m.addr) : ACalls Tryz.prog 51 [encM m] [] (.bool (rightM m)) [] := by
  have q1 := place_ac m.fr m.fn
  have q2 := place_ac m.tr m.tn
  have q3 := within_ac m.id 1048576
  have q4 := within_ac m.err 256
  rw [h6] at q1
  rw [h7] at q2
  rw [h8] at q3
  rw [h9] at q4
  rw [show rightM m = false by unfold rightM; rw [if_neg h1, if_neg h2, if_neg h3, if_neg h4, if_neg h5, if_neg (by rw [h6]; decide), if_neg (by rw [h7]; decide), if_neg (by rw [h8]; decide), if_neg (by rw [h9]; decide), if_neg h10, if_pos h11]]
  refine acallsK mixed Tryz.func51 rfl [0, 1, 2, 3, 31, 54, 75] 1000 ([.f, .f, .f, .f, .k, .k, .f, .call [] false true (.bool true) [], .call [] false true (.bool true) [], .call [] false true (.bool true) [], .call [] false true (.bool true) [], .f, .t]) [] [] (ob := [decide (m.kind < (1 : Int)) = false,
 decide (m.kind > (14 : Int)) = false,
 decide (m.of_ < (0 : Int)) = false,
 decide (m.of_ > (13 : Int)) = false,
 (!(m.kind == (14 : Int)) == decide (m.of_ > (0 : Int))) = false,
 _,
 _,
 _,
 _,
 decide (m.epoch > (1048576 : Int)) = false,
 decide (m.addr > (1048576 : Int)) = true]) (by kernel_rfl) ⟨rfl, rfl⟩ ⟨?z0, ?z1, ?z2, ?z3, ?z4, q1, q2, q3, q4, ?z5, ?z6, trivial⟩
  case z0|z1|z2|z3|z4|z5|z6 => first | exact rfl | (simp [encM, celM, celC, celL, h1, h2, h3, h4, h5, h6, h7, h8, h9, h10, h11] <;> omega) | omega | (first | omega | exact xor_yes h5 | exact xor_no h5)
theorem rightM_e11 (m : MsgD) (hm : m.ok) (h1 : ¬ (m.kind < 1)) (h2 : ¬ (14 < m.kind)) (h3 : ¬ (m.of_ < 0)) (h4 : ¬ (13 < m.of_)) (h5 : ¬ (¬ (m.kind = 14 ↔ 0 < m.of_))) (h6 : placeB m.fr m.fn = true) (h7 : placeB m.tr m.tn = true) (h8 : inB m.id 1048576 = true) (h9 : inB m.err 256 = true) (h10 : ¬ (1048576 < m.epoch)) (h11 : ¬ (1048576 < m.addr)) (h12 : ballotB m.br m.bc = false) : ACalls Tryz.prog 51 [encM m] [] (.bool (rightM m)) [] := by
  have q1 := place_ac m.fr m.fn
  have q2 := place_ac m.tr m.tn
  have q3 := within_ac m.id 1048576
  have q4 := within_ac m.err 256
  have q5 := ballotB_ac m.br m.bc
  rw [h6] at q1
  rw [h7] at q2
  rw [h8] at q3
  rw [h9] at q4
  rw [h12] at q5
  rw [show rightM m = false by unfold rightM; rw [if_neg h1, if_neg h2, if_neg h3, if_neg h4, if_neg h5, if_neg (by rw [h6]; decide), if_neg (by rw [h7]; decide), if_neg (by rw [h8]; decide), if_neg (by rw [h9]; decide), if_neg h10, if_neg h11, if_pos h12]]
  refine acallsK mixed Tryz.func51 rfl [0, 1, 2, 3, 31, 54, 75] 1000 ([.f, .f, .f, .f, .k, .k, .f, .call [] false true (.bool true) [], .call [] false true (.bool true) [], .call [] false true (.bool true) [], .call [] false true (.bool true) [], .f, .f, .call [] false true (.bool false) []]) [] [] (ob := [decide (m.kind < (1 : Int)) = false,
 decide (m.kind > (14 : Int)) = false,
 decide (m.of_ < (0 : Int)) = false,
 decide (m.of_ > (13 : Int)) = false,
 (!(m.kind == (14 : Int)) == decide (m.of_ > (0 : Int))) = false,
 _,
 _,
 _,
 _,
 decide (m.epoch > (1048576 : Int)) = false,
 decide (m.addr > (1048576 : Int)) = false,
 _]) (by kernel_rfl) ⟨rfl, rfl⟩ ⟨?z0, ?z1, ?z2, ?z3, ?z4, q1, q2, q3, q4, ?z5, ?z6, q5, trivial⟩
  case z0|z1|z2|z3|z4|z5|z6 => first | exact rfl | (simp [encM, celM, celC, celL, h1, h2, h3, h4, h5, h6, h7, h8, h9, h10, h11, h12] <;> omega) | omega | (first | omega | exact xor_yes h5 | exact xor_no h5)
theorem rightM_e12 (m : MsgD) (hm : m.ok) (h1 : ¬ (m.kind < 1)) (h2 : ¬ (14 < m.kind)) (h3 : ¬ (m.of_ < 0)) (h4 : ¬ (13 < m.of_)) (h5 : ¬ (¬ (m.kind = 14 ↔ 0 < m.of_))) (h6 : placeB m.fr m.fn = true) (h7 : placeB m.tr m.tn = true) (h8 : inB m.id 1048576 = true) (h9 : inB m.err 256 = true) (h10 : ¬ (1048576 < m.epoch)) (h11 : ¬ (1048576 < m.addr)) (h12 : ballotB m.br m.bc = true) (h13 : ballotB m.pr m.pc = false) : ACalls Tryz.prog 51 [encM m] [] (.bool (rightM m)) [] := by
  have q1 := place_ac m.fr m.fn
  have q2 := place_ac m.tr m.tn
  have q3 := within_ac m.id 1048576
  have q4 := within_ac m.err 256
  have q5 := ballotB_ac m.br m.bc
  have q6 := ballotB_ac m.pr m.pc
  rw [h6] at q1
  rw [h7] at q2
  rw [h8] at q3
  rw [h9] at q4
  rw [h12] at q5
  rw [h13] at q6
  rw [show rightM m = false by unfold rightM; rw [if_neg h1, if_neg h2, if_neg h3, if_neg h4, if_neg h5, if_neg (by rw [h6]; decide), if_neg (by rw [h7]; decide), if_neg (by rw [h8]; decide), if_neg (by rw [h9]; decide), if_neg h10, if_neg h11, if_neg (by rw [h12]; decide), if_pos h13]]
  refine acallsK mixed Tryz.func51 rfl [0, 1, 2, 3, 31, 54, 75] 1000 ([.f, .f, .f, .f, .k, .k, .f, .call [] false true (.bool true) [], .call [] false true (.bool true) [], .call [] false true (.bool true) [], .call [] false true (.bool true) [], .f, .f, .call [] false true (.bool true) [], .call [] false true (.bool false) []]) [] [] (ob := [decide (m.kind < (1 : Int)) = false,
 decide (m.kind > (14 : Int)) = false,
 decide (m.of_ < (0 : Int)) = false,
 decide (m.of_ > (13 : Int)) = false,
 (!(m.kind == (14 : Int)) == decide (m.of_ > (0 : Int))) = false,
 _,
 _,
 _,
 _,
 decide (m.epoch > (1048576 : Int)) = false,
 decide (m.addr > (1048576 : Int)) = false,
 _,
 _]) (by kernel_rfl) ⟨rfl, rfl⟩ ⟨?z0, ?z1, ?z2, ?z3, ?z4, q1, q2, q3, q4, ?z5, ?z6, q5, q6, trivial⟩
  case z0|z1|z2|z3|z4|z5|z6 => first | exact rfl | (simp [encM, celM, celC, celL, h1, h2, h3, h4, h5, h6, h7, h8, h9, h10, h11, h12, h13] <;> omega) | omega | (first | omega | exact xor_yes h5 | exact xor_no h5)
theorem rightM_e13 (m : MsgD) (hm : m.ok) (h1 : ¬ (m.kind < 1)) (h2 : ¬ (14 < m.kind)) (h3 : ¬ (m.of_ < 0)) (h4 : ¬ (13 < m.of_)) (h5 : ¬ (¬ (m.kind = 14 ↔ 0 < m.of_))) (h6 : placeB m.fr m.fn = true) (h7 : placeB m.tr m.tn = true) (h8 : inB m.id 1048576 = true) (h9 : inB m.err 256 = true) (h10 : ¬ (1048576 < m.epoch)) (h11 : ¬ (1048576 < m.addr)) (h12 : ballotB m.br m.bc = true) (h13 : ballotB m.pr m.pc = true) (h14 : 4 < m.streams.length) : ACalls Tryz.prog 51 [encM m] [] (.bool (rightM m)) [] := by
  have q1 := place_ac m.fr m.fn
  have q2 := place_ac m.tr m.tn
  have q3 := within_ac m.id 1048576
  have q4 := within_ac m.err 256
  have q5 := ballotB_ac m.br m.bc
  have q6 := ballotB_ac m.pr m.pc
  rw [h6] at q1
  rw [h7] at q2
  rw [h8] at q3
  rw [h9] at q4
  rw [h12] at q5
  rw [h13] at q6
  rw [show rightM m = false by unfold rightM; rw [if_neg h1, if_neg h2, if_neg h3, if_neg h4, if_neg h5, if_neg (by rw [h6]; decide), if_neg (by rw [h7]; decide), if_neg (by rw [h8]; decide), if_neg (by rw [h9]; decide), if_neg h10, if_neg h11, if_neg (by rw [h12]; decide), if_neg (by rw [h13]; decide), if_pos h14]]
  refine acallsK mixed Tryz.func51 rfl [0, 1, 2, 3, 31, 54, 75] 1000 ([.f, .f, .f, .f, .k, .k, .f, .call [] false true (.bool true) [], .call [] false true (.bool true) [], .call [] false true (.bool true) [], .call [] false true (.bool true) [], .f, .f, .call [] false true (.bool true) [], .call [] false true (.bool true) [], .n m.streams.length, .t]) [] [] (ob := [decide (m.kind < (1 : Int)) = false,
 decide (m.kind > (14 : Int)) = false,
 decide (m.of_ < (0 : Int)) = false,
 decide (m.of_ > (13 : Int)) = false,
 (!(m.kind == (14 : Int)) == decide (m.of_ > (0 : Int))) = false,
 _,
 _,
 _,
 _,
 decide (m.epoch > (1048576 : Int)) = false,
 decide (m.addr > (1048576 : Int)) = false,
 _,
 _,
 ((List.map intA m.streams).length : Int) = (m.streams.length : Int),
 decide ((m.streams.length : Int) > (4 : Int)) = true]) (by kernel_rfl) ⟨rfl, rfl⟩ ⟨?z0, ?z1, ?z2, ?z3, ?z4, q1, q2, q3, q4, ?z5, ?z6, q5, q6, ?z7, ?z8, trivial⟩
  case z0|z1|z2|z3|z4|z5|z6|z7|z8 => first | exact rfl | (simp [encM, celM, celC, celL, h1, h2, h3, h4, h5, h6, h7, h8, h9, h10, h11, h12, h13, h14] <;> omega) | omega | (first | omega | exact xor_yes h5 | exact xor_no h5)
theorem rightM_e14 (m : MsgD) (hm : m.ok) (h1 : ¬ (m.kind < 1)) (h2 : ¬ (14 < m.kind)) (h3 : ¬ (m.of_ < 0)) (h4 : ¬ (13 < m.of_)) (h5 : ¬ (¬ (m.kind = 14 ↔ 0 < m.of_))) (h6 : placeB m.fr m.fn = true) (h7 : placeB m.tr m.tn = true) (h8 : inB m.id 1048576 = true) (h9 : inB m.err 256 = true) (h10 : ¬ (1048576 < m.epoch)) (h11 : ¬ (1048576 < m.addr)) (h12 : ballotB m.br m.bc = true) (h13 : ballotB m.pr m.pc = true) (h14 : ¬ (4 < m.streams.length)) (h15 : riseB m.streams = false) : ACalls Tryz.prog 51 [encM m] [] (.bool (rightM m)) [] := by
  have q1 := place_ac m.fr m.fn
  have q2 := place_ac m.tr m.tn
  have q3 := within_ac m.id 1048576
  have q4 := within_ac m.err 256
  have q5 := ballotB_ac m.br m.bc
  have q6 := ballotB_ac m.pr m.pc
  have q7 := riseB_ac m.streams hm.st
  rw [h6] at q1
  rw [h7] at q2
  rw [h8] at q3
  rw [h9] at q4
  rw [h12] at q5
  rw [h13] at q6
  rw [h15] at q7
  rw [show rightM m = false by unfold rightM; rw [if_neg h1, if_neg h2, if_neg h3, if_neg h4, if_neg h5, if_neg (by rw [h6]; decide), if_neg (by rw [h7]; decide), if_neg (by rw [h8]; decide), if_neg (by rw [h9]; decide), if_neg h10, if_neg h11, if_neg (by rw [h12]; decide), if_neg (by rw [h13]; decide), if_neg h14, if_pos h15]]
  refine acallsK mixed Tryz.func51 rfl [0, 1, 2, 3, 31, 54, 75] 1000 ([.f, .f, .f, .f, .k, .k, .f, .call [] false true (.bool true) [], .call [] false true (.bool true) [], .call [] false true (.bool true) [], .call [] false true (.bool true) [], .f, .f, .call [] false true (.bool true) [], .call [] false true (.bool true) [], .n m.streams.length, .f, .call [] false true (.bool false) []]) [] [] (ob := [decide (m.kind < (1 : Int)) = false,
 decide (m.kind > (14 : Int)) = false,
 decide (m.of_ < (0 : Int)) = false,
 decide (m.of_ > (13 : Int)) = false,
 (!(m.kind == (14 : Int)) == decide (m.of_ > (0 : Int))) = false,
 _,
 _,
 _,
 _,
 decide (m.epoch > (1048576 : Int)) = false,
 decide (m.addr > (1048576 : Int)) = false,
 _,
 _,
 ((List.map intA m.streams).length : Int) = (m.streams.length : Int),
 decide ((m.streams.length : Int) > (4 : Int)) = false,
 _]) (by kernel_rfl) ⟨rfl, rfl⟩ ⟨?z0, ?z1, ?z2, ?z3, ?z4, q1, q2, q3, q4, ?z5, ?z6, q5, q6, ?z7, ?z8, q7, trivial⟩
  case z0|z1|z2|z3|z4|z5|z6|z7|z8 => first | exact rfl | (simp [encM, celM, celC, celL, h1, h2, h3, h4, h5, h6, h7, h8, h9, h10, h11, h12, h13, h14, h15] <;> omega) | omega | (first | omega | exact xor_yes h5 | exact xor_no h5)
theorem rightM_e15 (m : MsgD) (hm : m.ok) (h1 : ¬ (m.kind < 1)) (h2 : ¬ (14 < m.kind)) (h3 : ¬ (m.of_ < 0)) (h4 : ¬ (13 < m.of_)) (h5 : ¬ (¬ (m.kind = 14 ↔ 0 < m.of_))) (h6 : placeB m.fr m.fn = true) (h7 : placeB m.tr m.tn = true) (h8 : inB m.id 1048576 = true) (h9 : inB m.err 256 = true) (h10 : ¬ (1048576 < m.epoch)) (h11 : ¬ (1048576 < m.addr)) (h12 : ballotB m.br m.bc = true) (h13 : ballotB m.pr m.pc = true) (h14 : ¬ (4 < m.streams.length)) (h15 : riseB m.streams = true) (h16 : backsB m.backs = false) : ACalls Tryz.prog 51 [encM m] [] (.bool (rightM m)) [] := by
  have q1 := place_ac m.fr m.fn
  have q2 := place_ac m.tr m.tn
  have q3 := within_ac m.id 1048576
  have q4 := within_ac m.err 256
  have q5 := ballotB_ac m.br m.bc
  have q6 := ballotB_ac m.pr m.pc
  have q7 := riseB_ac m.streams hm.st
  have q8 := backsB_ac m.backs hm.b
  rw [h6] at q1
  rw [h7] at q2
  rw [h8] at q3
  rw [h9] at q4
  rw [h12] at q5
  rw [h13] at q6
  rw [h15] at q7
  rw [h16] at q8
  rw [show rightM m = false by unfold rightM; rw [if_neg h1, if_neg h2, if_neg h3, if_neg h4, if_neg h5, if_neg (by rw [h6]; decide), if_neg (by rw [h7]; decide), if_neg (by rw [h8]; decide), if_neg (by rw [h9]; decide), if_neg h10, if_neg h11, if_neg (by rw [h12]; decide), if_neg (by rw [h13]; decide), if_neg h14, if_neg (by rw [h15]; decide), if_pos h16]]
  refine acallsK mixed Tryz.func51 rfl [0, 1, 2, 3, 31, 54, 75] 1000 ([.f, .f, .f, .f, .k, .k, .f, .call [] false true (.bool true) [], .call [] false true (.bool true) [], .call [] false true (.bool true) [], .call [] false true (.bool true) [], .f, .f, .call [] false true (.bool true) [], .call [] false true (.bool true) [], .n m.streams.length, .f, .call [] false true (.bool true) [], .call [] false true (.bool false) []]) [] [] (ob := [decide (m.kind < (1 : Int)) = false,
 decide (m.kind > (14 : Int)) = false,
 decide (m.of_ < (0 : Int)) = false,
 decide (m.of_ > (13 : Int)) = false,
 (!(m.kind == (14 : Int)) == decide (m.of_ > (0 : Int))) = false,
 _,
 _,
 _,
 _,
 decide (m.epoch > (1048576 : Int)) = false,
 decide (m.addr > (1048576 : Int)) = false,
 _,
 _,
 ((List.map intA m.streams).length : Int) = (m.streams.length : Int),
 decide ((m.streams.length : Int) > (4 : Int)) = false,
 _,
 _]) (by kernel_rfl) ⟨rfl, rfl⟩ ⟨?z0, ?z1, ?z2, ?z3, ?z4, q1, q2, q3, q4, ?z5, ?z6, q5, q6, ?z7, ?z8, q7, q8, trivial⟩
  case z0|z1|z2|z3|z4|z5|z6|z7|z8 => first | exact rfl | (simp [encM, celM, celC, celL, h1, h2, h3, h4, h5, h6, h7, h8, h9, h10, h11, h12, h13, h14, h15, h16] <;> omega) | omega | (first | omega | exact xor_yes h5 | exact xor_no h5)
theorem rightM_e16 (m : MsgD) (hm : m.ok) (h1 : ¬ (m.kind < 1)) (h2 : ¬ (14 < m.kind)) (h3 : ¬ (m.of_ < 0)) (h4 : ¬ (13 < m.of_)) (h5 : ¬ (¬ (m.kind = 14 ↔ 0 < m.of_))) (h6 : placeB m.fr m.fn = true) (h7 : placeB m.tr m.tn = true) (h8 : inB m.id 1048576 = true) (h9 : inB m.err 256 = true) (h10 : ¬ (1048576 < m.epoch)) (h11 : ¬ (1048576 < m.addr)) (h12 : ballotB m.br m.bc = true) (h13 : ballotB m.pr m.pc = true) (h14 : ¬ (4 < m.streams.length)) (h15 : riseB m.streams = true) (h16 : backsB m.backs = true) (k1 : sameC m.cell cell0 = true) (k3 : noLayB m.lay = true) : ACalls Tryz.prog 51 [encM m] [] (.bool (rightM m)) [] := by
  have q1 := place_ac m.fr m.fn
  have q2 := place_ac m.tr m.tn
  have q3 := within_ac m.id 1048576
  have q4 := within_ac m.err 256
  have q5 := ballotB_ac m.br m.bc
  have q6 := ballotB_ac m.pr m.pc
  have q7 := riseB_ac m.streams hm.st
  have q8 := backsB_ac m.backs hm.b
  have q9 := noCell_ac m.cell hm.cell
  have q11 := noLayout_ac m.lay
  rw [h6] at q1
  rw [h7] at q2
  rw [h8] at q3
  rw [h9] at q4
  rw [h12] at q5
  rw [h13] at q6
  rw [h15] at q7
  rw [h16] at q8
  rw [k1] at q9
  rw [k3] at q11
  rw [show rightM m = true by unfold rightM; rw [if_neg h1, if_neg h2, if_neg h3, if_neg h4, if_neg h5, if_neg (by rw [h6]; decide), if_neg (by rw [h7]; decide), if_neg (by rw [h8]; decide), if_neg (by rw [h9]; decide), if_neg h10, if_neg h11, if_neg (by rw [h12]; decide), if_neg (by rw [h13]; decide), if_neg h14, if_neg (by rw [h15]; decide), if_neg (by rw [h16]; decide)]; unfold restM; simp [k1, k3]]
  refine acallsK mixed Tryz.func51 rfl [0, 1, 2, 3, 31, 54, 75] 1000 ([.f, .f, .f, .f, .k, .k, .f, .call [] false true (.bool true) [], .call [] false true (.bool true) [], .call [] false true (.bool true) [], .call [] false true (.bool true) [], .f, .f, .call [] false true (.bool true) [], .call [] false true (.bool true) [], .n m.streams.length, .f, .call [] false true (.bool true) [], .call [] false true (.bool true) [], .call [] false true (.bool true) [], .call [] false true (.bool true) []]) [] [] (ob := [decide (m.kind < (1 : Int)) = false,
 decide (m.kind > (14 : Int)) = false,
 decide (m.of_ < (0 : Int)) = false,
 decide (m.of_ > (13 : Int)) = false,
 (!(m.kind == (14 : Int)) == decide (m.of_ > (0 : Int))) = false,
 _,
 _,
 _,
 _,
 decide (m.epoch > (1048576 : Int)) = false,
 decide (m.addr > (1048576 : Int)) = false,
 _,
 _,
 ((List.map intA m.streams).length : Int) = (m.streams.length : Int),
 decide ((m.streams.length : Int) > (4 : Int)) = false,
 _,
 _,
 _,
 _]) (by kernel_rfl) ⟨rfl, rfl⟩ ⟨?z0, ?z1, ?z2, ?z3, ?z4, q1, q2, q3, q4, ?z5, ?z6, q5, q6, ?z7, ?z8, q7, q8, q9, q11, trivial⟩
  case z0|z1|z2|z3|z4|z5|z6|z7|z8 => first | exact rfl | (simp [encM, celM, celC, celL, h1, h2, h3, h4, h5, h6, h7, h8, h9, h10, h11, h12, h13, h14, h15, h16, k1, k3] <;> omega) | omega | (first | omega | exact xor_yes h5 | exact xor_no h5)
theorem rightM_e17 (m : MsgD) (hm : m.ok) (h1 : ¬ (m.kind < 1)) (h2 : ¬ (14 < m.kind)) (h3 : ¬ (m.of_ < 0)) (h4 : ¬ (13 < m.of_)) (h5 : ¬ (¬ (m.kind = 14 ↔ 0 < m.of_))) (h6 : placeB m.fr m.fn = true) (h7 : placeB m.tr m.tn = true) (h8 : inB m.id 1048576 = true) (h9 : inB m.err 256 = true) (h10 : ¬ (1048576 < m.epoch)) (h11 : ¬ (1048576 < m.addr)) (h12 : ballotB m.br m.bc = true) (h13 : ballotB m.pr m.pc = true) (h14 : ¬ (4 < m.streams.length)) (h15 : riseB m.streams = true) (h16 : backsB m.backs = true) (k1 : sameC m.cell cell0 = true) (k3 : noLayB m.lay = false) : ACalls Tryz.prog 51 [encM m] [] (.bool (rightM m)) [] := by
  have q1 := place_ac m.fr m.fn
  have q2 := place_ac m.tr m.tn
  have q3 := within_ac m.id 1048576
  have q4 := within_ac m.err 256
  have q5 := ballotB_ac m.br m.bc
  have q6 := ballotB_ac m.pr m.pc
  have q7 := riseB_ac m.streams hm.st
  have q8 := backsB_ac m.backs hm.b
  have q9 := noCell_ac m.cell hm.cell
  have q11 := noLayout_ac m.lay
  have q12 := rightL_ac m.lay hm.lay.segs hm.lay.n
  rw [h6] at q1
  rw [h7] at q2
  rw [h8] at q3
  rw [h9] at q4
  rw [h12] at q5
  rw [h13] at q6
  rw [h15] at q7
  rw [h16] at q8
  rw [k1] at q9
  rw [k3] at q11
  rw [show rightM m = rightL m.lay by unfold rightM; rw [if_neg h1, if_neg h2, if_neg h3, if_neg h4, if_neg h5, if_neg (by rw [h6]; decide), if_neg (by rw [h7]; decide), if_neg (by rw [h8]; decide), if_neg (by rw [h9]; decide), if_neg h10, if_neg h11, if_neg (by rw [h12]; decide), if_neg (by rw [h13]; decide), if_neg h14, if_neg (by rw [h15]; decide), if_neg (by rw [h16]; decide)]; unfold restM; simp [k1, k3]]
  refine acallsK mixed Tryz.func51 rfl [0, 1, 2, 3, 31, 54, 75] 1000 ([.f, .f, .f, .f, .k, .k, .f, .call [] false true (.bool true) [], .call [] false true (.bool true) [], .call [] false true (.bool true) [], .call [] false true (.bool true) [], .f, .f, .call [] false true (.bool true) [], .call [] false true (.bool true) [], .n m.streams.length, .f, .call [] false true (.bool true) [], .call [] false true (.bool true) [], .call [] false true (.bool true) [], .call [] false true (.bool false) [], .call [] false true (.bool (rightL m.lay)) []]) [] [] (ob := [decide (m.kind < (1 : Int)) = false,
 decide (m.kind > (14 : Int)) = false,
 decide (m.of_ < (0 : Int)) = false,
 decide (m.of_ > (13 : Int)) = false,
 (!(m.kind == (14 : Int)) == decide (m.of_ > (0 : Int))) = false,
 _,
 _,
 _,
 _,
 decide (m.epoch > (1048576 : Int)) = false,
 decide (m.addr > (1048576 : Int)) = false,
 _,
 _,
 ((List.map intA m.streams).length : Int) = (m.streams.length : Int),
 decide ((m.streams.length : Int) > (4 : Int)) = false,
 _,
 _,
 _,
 _,
 _]) (by kernel_rfl) ⟨rfl, rfl⟩ ⟨?z0, ?z1, ?z2, ?z3, ?z4, q1, q2, q3, q4, ?z5, ?z6, q5, q6, ?z7, ?z8, q7, q8, q9, q11, q12, trivial⟩
  case z0|z1|z2|z3|z4|z5|z6|z7|z8 => first | exact rfl | (simp [encM, celM, celC, celL, h1, h2, h3, h4, h5, h6, h7, h8, h9, h10, h11, h12, h13, h14, h15, h16, k1, k3] <;> omega) | omega | (first | omega | exact xor_yes h5 | exact xor_no h5)
theorem rightM_e18 (m : MsgD) (hm : m.ok) (h1 : ¬ (m.kind < 1)) (h2 : ¬ (14 < m.kind)) (h3 : ¬ (m.of_ < 0)) (h4 : ¬ (13 < m.of_)) (h5 : ¬ (¬ (m.kind = 14 ↔ 0 < m.of_))) (h6 : placeB m.fr m.fn = true) (h7 : placeB m.tr m.tn = true) (h8 : inB m.id 1048576 = true) (h9 : inB m.err 256 = true) (h10 : ¬ (1048576 < m.epoch)) (h11 : ¬ (1048576 < m.addr)) (h12 : ballotB m.br m.bc = true) (h13 : ballotB m.pr m.pc = true) (h14 : ¬ (4 < m.streams.length)) (h15 : riseB m.streams = true) (h16 : backsB m.backs = true) (k1 : sameC m.cell cell0 = false) (k2 : rightC m.cell = false) : ACalls Tryz.prog 51 [encM m] [] (.bool (rightM m)) [] := by
  have q1 := place_ac m.fr m.fn
  have q2 := place_ac m.tr m.tn
  have q3 := within_ac m.id 1048576
  have q4 := within_ac m.err 256
  have q5 := ballotB_ac m.br m.bc
  have q6 := ballotB_ac m.pr m.pc
  have q7 := riseB_ac m.streams hm.st
  have q8 := backsB_ac m.backs hm.b
  have q9 := noCell_ac m.cell hm.cell
  have q10 := right_ac m.cell
  rw [h6] at q1
  rw [h7] at q2
  rw [h8] at q3
  rw [h9] at q4
  rw [h12] at q5
  rw [h13] at q6
  rw [h15] at q7
  rw [h16] at q8
  rw [k1] at q9
  rw [k2] at q10
  rw [show rightM m = false by unfold rightM; rw [if_neg h1, if_neg h2, if_neg h3, if_neg h4, if_neg h5, if_neg (by rw [h6]; decide), if_neg (by rw [h7]; decide), if_neg (by rw [h8]; decide), if_neg (by rw [h9]; decide), if_neg h10, if_neg h11, if_neg (by rw [h12]; decide), if_neg (by rw [h13]; decide), if_neg h14, if_neg (by rw [h15]; decide), if_neg (by rw [h16]; decide)]; unfold restM; simp [k1, k2]]
  refine acallsK mixed Tryz.func51 rfl [0, 1, 2, 3, 31, 54, 75] 1000 ([.f, .f, .f, .f, .k, .k, .f, .call [] false true (.bool true) [], .call [] false true (.bool true) [], .call [] false true (.bool true) [], .call [] false true (.bool true) [], .f, .f, .call [] false true (.bool true) [], .call [] false true (.bool true) [], .n m.streams.length, .f, .call [] false true (.bool true) [], .call [] false true (.bool true) [], .call [] false true (.bool false) [], .call [] false true (.bool false) []]) [] [] (ob := [decide (m.kind < (1 : Int)) = false,
 decide (m.kind > (14 : Int)) = false,
 decide (m.of_ < (0 : Int)) = false,
 decide (m.of_ > (13 : Int)) = false,
 (!(m.kind == (14 : Int)) == decide (m.of_ > (0 : Int))) = false,
 _,
 _,
 _,
 _,
 decide (m.epoch > (1048576 : Int)) = false,
 decide (m.addr > (1048576 : Int)) = false,
 _,
 _,
 ((List.map intA m.streams).length : Int) = (m.streams.length : Int),
 decide ((m.streams.length : Int) > (4 : Int)) = false,
 _,
 _,
 _,
 _]) (by kernel_rfl) ⟨rfl, rfl⟩ ⟨?z0, ?z1, ?z2, ?z3, ?z4, q1, q2, q3, q4, ?z5, ?z6, q5, q6, ?z7, ?z8, q7, q8, q9, q10, trivial⟩
  case z0|z1|z2|z3|z4|z5|z6|z7|z8 => first | exact rfl | (simp [encM, celM, celC, celL, h1, h2, h3, h4, h5, h6, h7, h8, h9, h10, h11, h12, h13, h14, h15, h16, k1, k2] <;> omega) | omega | (first | omega | exact xor_yes h5 | exact xor_no h5)
theorem rightM_e19 (m : MsgD) (hm : m.ok) (h1 : ¬ (m.kind < 1)) (h2 : ¬ (14 < m.kind)) (h3 : ¬ (m.of_ < 0)) (h4 : ¬ (13 < m.of_)) (h5 : ¬ (¬ (m.kind = 14 ↔ 0 < m.of_))) (h6 : placeB m.fr m.fn = true) (h7 : placeB m.tr m.tn = true) (h8 : inB m.id 1048576 = true) (h9 : inB m.err 256 = true) (h10 : ¬ (1048576 < m.epoch)) (h11 : ¬ (1048576 < m.addr)) (h12 : ballotB m.br m.bc = true) (h13 : ballotB m.pr m.pc = true) (h14 : ¬ (4 < m.streams.length)) (h15 : riseB m.streams = true) (h16 : backsB m.backs = true) (k1 : sameC m.cell cell0 = false) (k2 : rightC m.cell = true) (k3 : noLayB m.lay = true) : ACalls Tryz.prog 51 [encM m] [] (.bool (rightM m)) [] := by
  have q1 := place_ac m.fr m.fn
  have q2 := place_ac m.tr m.tn
  have q3 := within_ac m.id 1048576
  have q4 := within_ac m.err 256
  have q5 := ballotB_ac m.br m.bc
  have q6 := ballotB_ac m.pr m.pc
  have q7 := riseB_ac m.streams hm.st
  have q8 := backsB_ac m.backs hm.b
  have q9 := noCell_ac m.cell hm.cell
  have q10 := right_ac m.cell
  have q11 := noLayout_ac m.lay
  rw [h6] at q1
  rw [h7] at q2
  rw [h8] at q3
  rw [h9] at q4
  rw [h12] at q5
  rw [h13] at q6
  rw [h15] at q7
  rw [h16] at q8
  rw [k1] at q9
  rw [k2] at q10
  rw [k3] at q11
  rw [show rightM m = true by unfold rightM; rw [if_neg h1, if_neg h2, if_neg h3, if_neg h4, if_neg h5, if_neg (by rw [h6]; decide), if_neg (by rw [h7]; decide), if_neg (by rw [h8]; decide), if_neg (by rw [h9]; decide), if_neg h10, if_neg h11, if_neg (by rw [h12]; decide), if_neg (by rw [h13]; decide), if_neg h14, if_neg (by rw [h15]; decide), if_neg (by rw [h16]; decide)]; unfold restM; simp [k1, k2, k3]]
  refine acallsK mixed Tryz.func51 rfl [0, 1, 2, 3, 31, 54, 75] 1000 ([.f, .f, .f, .f, .k, .k, .f, .call [] false true (.bool true) [], .call [] false true (.bool true) [], .call [] false true (.bool true) [], .call [] false true (.bool true) [], .f, .f, .call [] false true (.bool true) [], .call [] false true (.bool true) [], .n m.streams.length, .f, .call [] false true (.bool true) [], .call [] false true (.bool true) [], .call [] false true (.bool false) [], .call [] false true (.bool true) [], .call [] false true (.bool true) []]) [] [] (ob := [decide (m.kind < (1 : Int)) = false,
 decide (m.kind > (14 : Int)) = false,
 decide (m.of_ < (0 : Int)) = false,
 decide (m.of_ > (13 : Int)) = false,
 (!(m.kind == (14 : Int)) == decide (m.of_ > (0 : Int))) = false,
 _,
 _,
 _,
 _,
 decide (m.epoch > (1048576 : Int)) = false,
 decide (m.addr > (1048576 : Int)) = false,
 _,
 _,
 ((List.map intA m.streams).length : Int) = (m.streams.length : Int),
 decide ((m.streams.length : Int) > (4 : Int)) = false,
 _,
 _,
 _,
 _,
 _]) (by kernel_rfl) ⟨rfl, rfl⟩ ⟨?z0, ?z1, ?z2, ?z3, ?z4, q1, q2, q3, q4, ?z5, ?z6, q5, q6, ?z7, ?z8, q7, q8, q9, q10, q11, trivial⟩
  case z0|z1|z2|z3|z4|z5|z6|z7|z8 => first | exact rfl | (simp [encM, celM, celC, celL, h1, h2, h3, h4, h5, h6, h7, h8, h9, h10, h11, h12, h13, h14, h15, h16, k1, k2, k3] <;> omega) | omega | (first | omega | exact xor_yes h5 | exact xor_no h5)
theorem rightM_e20 (m : MsgD) (hm : m.ok) (h1 : ¬ (m.kind < 1)) (h2 : ¬ (14 < m.kind)) (h3 : ¬ (m.of_ < 0)) (h4 : ¬ (13 < m.of_)) (h5 : ¬ (¬ (m.kind = 14 ↔ 0 < m.of_))) (h6 : placeB m.fr m.fn = true) (h7 : placeB m.tr m.tn = true) (h8 : inB m.id 1048576 = true) (h9 : inB m.err 256 = true) (h10 : ¬ (1048576 < m.epoch)) (h11 : ¬ (1048576 < m.addr)) (h12 : ballotB m.br m.bc = true) (h13 : ballotB m.pr m.pc = true) (h14 : ¬ (4 < m.streams.length)) (h15 : riseB m.streams = true) (h16 : backsB m.backs = true) (k1 : sameC m.cell cell0 = false) (k2 : rightC m.cell = true) (k3 : noLayB m.lay = false) : ACalls Tryz.prog 51 [encM m] [] (.bool (rightM m)) [] := by
  have q1 := place_ac m.fr m.fn
  have q2 := place_ac m.tr m.tn
  have q3 := within_ac m.id 1048576
  have q4 := within_ac m.err 256
  have q5 := ballotB_ac m.br m.bc
  have q6 := ballotB_ac m.pr m.pc
  have q7 := riseB_ac m.streams hm.st
  have q8 := backsB_ac m.backs hm.b
  have q9 := noCell_ac m.cell hm.cell
  have q10 := right_ac m.cell
  have q11 := noLayout_ac m.lay
  have q12 := rightL_ac m.lay hm.lay.segs hm.lay.n
  rw [h6] at q1
  rw [h7] at q2
  rw [h8] at q3
  rw [h9] at q4
  rw [h12] at q5
  rw [h13] at q6
  rw [h15] at q7
  rw [h16] at q8
  rw [k1] at q9
  rw [k2] at q10
  rw [k3] at q11
  rw [show rightM m = rightL m.lay by unfold rightM; rw [if_neg h1, if_neg h2, if_neg h3, if_neg h4, if_neg h5, if_neg (by rw [h6]; decide), if_neg (by rw [h7]; decide), if_neg (by rw [h8]; decide), if_neg (by rw [h9]; decide), if_neg h10, if_neg h11, if_neg (by rw [h12]; decide), if_neg (by rw [h13]; decide), if_neg h14, if_neg (by rw [h15]; decide), if_neg (by rw [h16]; decide)]; unfold restM; simp [k1, k2, k3]]
  refine acallsK mixed Tryz.func51 rfl [0, 1, 2, 3, 31, 54, 75] 1000 ([.f, .f, .f, .f, .k, .k, .f, .call [] false true (.bool true) [], .call [] false true (.bool true) [], .call [] false true (.bool true) [], .call [] false true (.bool true) [], .f, .f, .call [] false true (.bool true) [], .call [] false true (.bool true) [], .n m.streams.length, .f, .call [] false true (.bool true) [], .call [] false true (.bool true) [], .call [] false true (.bool false) [], .call [] false true (.bool true) [], .call [] false true (.bool false) [], .call [] false true (.bool (rightL m.lay)) []]) [] [] (ob := [decide (m.kind < (1 : Int)) = false,
 decide (m.kind > (14 : Int)) = false,
 decide (m.of_ < (0 : Int)) = false,
 decide (m.of_ > (13 : Int)) = false,
 (!(m.kind == (14 : Int)) == decide (m.of_ > (0 : Int))) = false,
 _,
 _,
 _,
 _,
 decide (m.epoch > (1048576 : Int)) = false,
 decide (m.addr > (1048576 : Int)) = false,
 _,
 _,
 ((List.map intA m.streams).length : Int) = (m.streams.length : Int),
 decide ((m.streams.length : Int) > (4 : Int)) = false,
 _,
 _,
 _,
 _,
 _,
 _]) (by kernel_rfl) ⟨rfl, rfl⟩ ⟨?z0, ?z1, ?z2, ?z3, ?z4, q1, q2, q3, q4, ?z5, ?z6, q5, q6, ?z7, ?z8, q7, q8, q9, q10, q11, q12, trivial⟩
  case z0|z1|z2|z3|z4|z5|z6|z7|z8 => first | exact rfl | (simp [encM, celM, celC, celL, h1, h2, h3, h4, h5, h6, h7, h8, h9, h10, h11, h12, h13, h14, h15, h16, k1, k2, k3] <;> omega) | omega | (first | omega | exact xor_yes h5 | exact xor_no h5)
theorem rightM_ac (m : MsgD) (hm : m.ok) : ACalls Tryz.prog 51 [encM m] [] (.bool (rightM m)) [] := by
  by_cases h1 : m.kind < 1
  · exact rightM_e0 m hm h1
  by_cases h2 : 14 < m.kind
  · exact rightM_e1 m hm h1 h2
  by_cases h3 : m.of_ < 0
  · exact rightM_e2 m hm h1 h2 h3
  by_cases h4 : 13 < m.of_
  · exact rightM_e3 m hm h1 h2 h3 h4
  by_cases h5 : ¬ (m.kind = 14 ↔ 0 < m.of_)
  · exact rightM_e4 m hm h1 h2 h3 h4 h5
  cases h6 : placeB m.fr m.fn with
  | false => exact rightM_e5 m hm h1 h2 h3 h4 h5 h6
  | true =>
    cases h7 : placeB m.tr m.tn with
    | false => exact rightM_e6 m hm h1 h2 h3 h4 h5 h6 h7
    | true =>
      cases h8 : inB m.id 1048576 with
      | false => exact rightM_e7 m hm h1 h2 h3 h4 h5 h6 h7 h8
      | true =>
        cases h9 : inB m.err 256 with
        | false => exact rightM_e8 m hm h1 h2 h3 h4 h5 h6 h7 h8 h9
        | true =>
          by_cases h10 : 1048576 < m.epoch
          · exact rightM_e9 m hm h1 h2 h3 h4 h5 h6 h7 h8 h9 h10
          by_cases h11 : 1048576 < m.addr
          · exact rightM_e10 m hm h1 h2 h3 h4 h5 h6 h7 h8 h9 h10 h11
          cases h12 : ballotB m.br m.bc with
          | false => exact rightM_e11 m hm h1 h2 h3 h4 h5 h6 h7 h8 h9 h10 h11 h12
          | true =>
            cases h13 : ballotB m.pr m.pc with
            | false => exact rightM_e12 m hm h1 h2 h3 h4 h5 h6 h7 h8 h9 h10 h11 h12 h13
            | true =>
              by_cases h14 : 4 < m.streams.length
              · exact rightM_e13 m hm h1 h2 h3 h4 h5 h6 h7 h8 h9 h10 h11 h12 h13 h14
              cases h15 : riseB m.streams with
              | false => exact rightM_e14 m hm h1 h2 h3 h4 h5 h6 h7 h8 h9 h10 h11 h12 h13 h14 h15
              | true =>
                cases h16 : backsB m.backs with
                | false => exact rightM_e15 m hm h1 h2 h3 h4 h5 h6 h7 h8 h9 h10 h11 h12 h13 h14 h15 h16
                | true =>
                  cases k1 : sameC m.cell cell0 with
                  | true =>
                    cases k3 : noLayB m.lay with
                    | true => exact rightM_e16 m hm h1 h2 h3 h4 h5 h6 h7 h8 h9 h10 h11 h12 h13 h14 h15 h16 k1 k3
                    | false => exact rightM_e17 m hm h1 h2 h3 h4 h5 h6 h7 h8 h9 h10 h11 h12 h13 h14 h15 h16 k1 k3
                  | false =>
                    cases k2 : rightC m.cell with
                    | false => exact rightM_e18 m hm h1 h2 h3 h4 h5 h6 h7 h8 h9 h10 h11 h12 h13 h14 h15 h16 k1 k2
                    | true =>
                      cases k3 : noLayB m.lay with
                      | true => exact rightM_e19 m hm h1 h2 h3 h4 h5 h6 h7 h8 h9 h10 h11 h12 h13 h14 h15 h16 k1 k2 k3
                      | false => exact rightM_e20 m hm h1 h2 h3 h4 h5 h6 h7 h8 h9 h10 h11 h12 h13 h14 h15 h16 k1 k2 k3
end Go.Proofs.YtidgcfgkcidkiaaGreat.Ch
namespace Go.Proofs.YtidgcfgkcidkiaaGreat.Ch
open Go Go.RowKit Go.Proofs.YtidgcfgkcidkiaaGreat.L Go.Proofs.YtidgcfgkcidkiaaGreat.X
set_option linter.unusedVariables false
set_option linter.unusedSimpArgs false
theorem ACalls.post {P : Program} {f : FuncId} {us : List AV} {objs o1 o2 : List X.Obj} {v v2 : AV} (h : ACalls P f us objs v o1) (hv : ∀ K c, VR K v c → VR K v2 c) (ho : ∀ K w, Rel K (getO o1) w → Rel K (getO o2) w) : ACalls P f us objs v2 o2 :=
  ⟨h.1, fun K w cs hR hc => (h.2 K w cs hR hc).mono fun e w' ⟨K', c, k1, k2, k3, k4⟩ => ⟨K', c, k1, ho _ _ k2, hv _ _ k3, k4⟩⟩
theorem rel_cells {K : Ctx} {w : World} {T : TypeId} {cs cs' : List AV} {rest : List X.Obj} (h : Rel K (getO (.vars T cs :: rest)) w) (hc : ∀ ds, VRs K cs ds → VRs K cs' ds) : Rel K (getO (.vars T cs' :: rest)) w := by
  refine ⟨fun i => ?_, h.mem, fun i => ?_, h.inj, h.sep⟩
  · have := h.kinds i
    cases i <;> exact this
  · cases i with
    | zero =>
      obtain ⟨ds, d1, d2, d3⟩ := h.obj 0
      exact ⟨ds, d1, hc _ d2, d3⟩
    | succ i => exact h.obj (i + 1)
theorem setN_setO {K : Ctx} {w : World} (s : SetD) (e : Int) (he : e ≠ 0) (h : Rel K (getO (setN s e)) w) : Rel K (getO (setO (ended s e))) w := by
  have hs : setO (ended s e) = .vars 86 ([.int .i64 s.client, .int .i64 s.id, .int .u64 s.epoch, .int .u64 s.a, .int .i64 0, .lst 1 [], .lst 3 [], .lst 1 (s.chain.map intA), .int .i64 s.at_, .bool s.started, .bool true, .int .i64 e, .int .i64 s.ticks, .int .i64 s.writes, .row 1 22 s.out.length]) :: [.row 50 22 s.out] := by
    simp [setO, ended, celS, he]
  rw [hs]
  refine rel_cells h fun ds hd => ⟨hd.1, fun i v d hv hd' => ?_⟩
  by_cases h5 : i = 5
  · subst h5
    injection hv with hv
    subst hv
    exact nils_lst 1 (by decide) (hd.2 5 _ d rfl hd')
  · by_cases h6 : i = 6
    · subst h6
      injection hv with hv
      subst hv
      exact nils_lst 3 (by decide) (hd.2 6 _ d rfl hd')
    · refine hd.2 i v d ?_ hd'
      match i, h5, h6, hv with
      | 0, _, _, hv | 1, _, _, hv | 2, _, _, hv | 3, _, _, hv | 4, _, _, hv | 7, _, _, hv | 8, _, _, hv | 9, _, _, hv | 10, _, _, hv | 11, _, _, hv | 12, _, _, hv | 13, _, _, hv | 14, _, _, hv => exact hv
      | i + 15, _, _, hv => cases hv
theorem endE (s : SetD) (e : Int) : ACalls Tryz.prog 55 [.ptr 0 0, .int .i64 e] (setO s) (.tup []) (setO (ended s e)) := by
  by_cases he : e = 0
  · subst he
    refine acallsK mixed Tryz.func55 rfl [0, 1, 12] 1000 ([.f]) [] [0, 1] (ob := [((0 : Int) != (0 : Int)) = false]) (by kernel_rfl) ⟨rfl, rfl⟩ ⟨(by first | exact rfl | (simp [celS, setO, ended]; done) | (simp [celS, setO, ended]; omega) | omega | (omega)), trivial⟩
  · exact ACalls.post (end_ac s e he) (fun _ _ h => h) fun K w h => setN_setO s e he h
structure SetD.ok (s : SetD) : Prop where
  cell : s.cell.ok
  ch : s.chain.length ≤ 4
  at_ : s.at_ < s.chain.length ∨ s.over = true
  out : s.out.length ≤ 900
  t0 : 0 ≤ s.ticks
  t1 : s.ticks < 6 ∨ s.over = true
  w0 : 0 ≤ s.writes
  w1 : s.writes ≤ 5
def goS (s : SetD) : SetD := if s.at_ + 1 = s.chain.length then ended { s with at_ := s.at_ + 1 } 0 else nextS s ((s.chain[s.at_ + 1]?).getD 0)
theorem nextE (s : SetD) (hs : s.ok) (ho : s.over = false) : ACalls Tryz.prog 56 [.ptr 0 0] (setO s) (.tup []) (setO (goS s)) := by
  have hc := hs.ch
  have hd := hs.cell.d
  have hk := hs.cell.b
  have hu := hs.out
  have ha : s.at_ < s.chain.length := by rcases hs.at_ with h | h; exact h; rw [ho] at h; cases h
  unfold goS
  by_cases h : s.at_ + 1 = s.chain.length
  · rw [if_pos h]
    have q := endE { s with at_ := s.at_ + 1 } 0
    refine acallsK mixed Tryz.func56 rfl [0, 18] 1000 ([.n ((s.at_ + 1 : Nat) : Int), .n s.chain.length, .t, .call [0, 1] false false (.tup []) (setO (ended { s with at_ := s.at_ + 1 } 0))]) [] [0, 3] (ob := [IntKind.i64.wrap ((↑s.at_ : Int) + (1 : Int)) = (↑(s.at_ + (1 : Nat)) : Int),
 ((List.map intA s.chain).length : Int) = (s.chain.length : Int),
 ((↑(s.at_ + (1 : Nat)) : Int) == (s.chain.length : Int)) = true,
 _]) (by kernel_rfl) ⟨rfl, rfl⟩ ⟨?z0, ?z1, ?z2, q, trivial⟩
    case z0|z1|z2 => first | exact rfl | (simp [celS, setO, ended, h] <;> omega) | omega | (first | omega | exact wrap64 (by omega))
  · rw [if_neg h]
    have hl : s.at_ + 1 < s.chain.length := by omega
    rw [List.getElem?_eq_getElem hl]
    exact next_ac s (List.getElem?_eq_getElem hl) (by omega) (by omega) (by omega) (by omega)

def tickS (s : SetD) (v : Int) : SetD :=
  if s.started = false ∨ s.over = true then s else if s.ticks + 1 < 6 then { s with ticks := s.ticks + 1 } else if 5 ≤ s.writes then ended { s with ticks := s.ticks + 1 } 162 else wrote { s with ticks := s.ticks + 1 } v
theorem tickE (s : SetD) (hs : s.ok) {v : Int} (hv : s.over = false → s.chain[s.at_]? = some v) : ACalls Tryz.prog 16 [.ptr 0 0] (setO s) (.int .i64 0) (setO (tickS s v)) := by
  have t0 := hs.t0
  have w0 := hs.w0
  have w1 := hs.w1
  have hd := hs.cell.d
  have hk := hs.cell.b
  have hu := hs.out
  unfold tickS
  by_cases h1 : s.started = false
  · rw [if_pos (.inl h1)]
    refine acallsK mixed Tryz.func16 rfl [0, 2, 3, 6, 29, 34] 1000 ([.f]) [] [0, 1] (v1 := .int .i64 0) (objs1 := [.vars 86 (celS s ++ [.row 1 22 (List.length s.out)]), .row 50 22 s.out]) (ob := [s.started = false]) (by kernel_rfl) (by first | exact rfl | exact ⟨rfl, rfl⟩ | (simp [celS, setO, h1]; done) | (omega)) ⟨(by first | exact rfl | (simp [celS, setO, h1]; done) | (simp [celS, setO, h1]; omega) | omega | (omega)), trivial⟩
  · have h1 : s.started = true := by simpa using h1
    by_cases h2 : s.over = true
    · rw [if_pos (.inr h2)]
      refine acallsK mixed Tryz.func16 rfl [0, 2, 3, 6, 29, 34] 1000 ([.t, .t]) [] [0, 1] (v1 := .int .i64 0) (objs1 := [.vars 86 (celS s ++ [.row 1 22 (List.length s.out)]), .row 50 22 s.out]) (ob := [s.started = true,
 s.over = true]) (by kernel_rfl) (by first | exact rfl | exact ⟨rfl, rfl⟩ | (simp [celS, setO, h1, h2]; done) | (omega)) ⟨?z0, ?z1, trivial⟩
      case z0|z1 => first | exact rfl | (simp [celS, setO, h1, h2] <;> omega) | omega | (omega)
    · rw [if_neg (by rw [h1]; simp [h2])]
      have h2 : s.over = false := by simpa using h2
      have t1 : s.ticks < 6 := by rcases hs.t1 with h | h; exact h; rw [h2] at h; cases h
      by_cases h3 : s.ticks + 1 < 6
      · rw [if_pos h3]
        refine acallsK mixed Tryz.func16 rfl [0, 2, 3, 6, 29, 34] 1000 ([.t, .f, .n (s.ticks + 1), .t]) [] [0, 1] (v1 := .int .i64 0) (objs1 := [.vars 86 [.int .i64 s.client, .int .i64 s.id, .int .u64 s.epoch, .int .u64 s.a, .int .i64 s.cell.kind, .lst 1 (List.map byteA s.cell.data), .lst 3 (List.map encB s.cell.backs), .lst 1 (List.map intA s.chain), .int .i64 (↑s.at_ : Int), .bool s.started, .bool s.over, .int .i64 s.e, .int .i64 (s.ticks + 1), .int .i64 s.writes, .row 1 22 (List.length s.out)], .row 50 22 s.out]) (ob := [s.started = true,
 s.over = false,
 IntKind.i64.wrap (s.ticks + (1 : Int)) = s.ticks + (1 : Int),
 decide (s.ticks + (1 : Int) < (6 : Int)) = true]) (by kernel_rfl) (by first | exact rfl | exact ⟨rfl, rfl⟩ | (simp [celS, setO, h1, h2, h3]; done) | (first | omega | exact wrap_i (by omega) (by omega))) ⟨?z2, ?z3, ?z4, ?z5, trivial⟩
        case z2|z3|z4|z5 => first | exact rfl | (simp [celS, setO, h1, h2, h3] <;> omega) | omega | (first | omega | exact wrap_i (by omega) (by omega))
      · rw [if_neg h3]
        by_cases h4 : 5 ≤ s.writes
        · rw [if_pos h4]
          have q := endE { s with ticks := s.ticks + 1 } 162
          refine acallsK mixed Tryz.func16 rfl [0, 2, 3, 6, 29, 34] 1000 ([.t, .f, .n (s.ticks + 1), .f, .t, .call [0, 1] false false (.tup []) (setO (ended { s with ticks := s.ticks + 1 } 162))]) [] [0, 3] (v1 := .int .i64 0) (objs1 := [.vars 86 [.int .i64 (ended { client := s.client, id := s.id, epoch := s.epoch, a := s.a, cell := s.cell, chain := s.chain, at_ := s.at_, started := s.started, over := s.over, e := s.e, ticks := s.ticks + 1, writes := s.writes, out := s.out } 162).client, .int .i64 (ended { client := s.client, id := s.id, epoch := s.epoch, a := s.a, cell := s.cell, chain := s.chain, at_ := s.at_, started := s.started, over := s.over, e := s.e, ticks := s.ticks + 1, writes := s.writes, out := s.out } 162).id, .int .u64 (ended { client := s.client, id := s.id, epoch := s.epoch, a := s.a, cell := s.cell, chain := s.chain, at_ := s.at_, started := s.started, over := s.over, e := s.e, ticks := s.ticks + 1, writes := s.writes, out := s.out } 162).epoch, .int .u64 (ended { client := s.client, id := s.id, epoch := s.epoch, a := s.a, cell := s.cell, chain := s.chain, at_ := s.at_, started := s.started, over := s.over, e := s.e, ticks := s.ticks + 1, writes := s.writes, out := s.out } 162).a, .int .i64 (ended { client := s.client, id := s.id, epoch := s.epoch, a := s.a, cell := s.cell, chain := s.chain, at_ := s.at_, started := s.started, over := s.over, e := s.e, ticks := s.ticks + 1, writes := s.writes, out := s.out } 162).cell.kind, .lst 1 [], .lst 3 [], .lst 1 (List.map intA (ended { client := s.client, id := s.id, epoch := s.epoch, a := s.a, cell := s.cell, chain := s.chain, at_ := s.at_, started := s.started, over := s.over, e := s.e, ticks := s.ticks + 1, writes := s.writes, out := s.out } 162).chain), .int .i64 (↑(ended { client := s.client, id := s.id, epoch := s.epoch, a := s.a, cell := s.cell, chain := s.chain, at_ := s.at_, started := s.started, over := s.over, e := s.e, ticks := s.ticks + 1, writes := s.writes, out := s.out } 162).at_ : Int), .bool (ended { client := s.client, id := s.id, epoch := s.epoch, a := s.a, cell := s.cell, chain := s.chain, at_ := s.at_, started := s.started, over := s.over, e := s.e, ticks := s.ticks + 1, writes := s.writes, out := s.out } 162).started, .bool (ended { client := s.client, id := s.id, epoch := s.epoch, a := s.a, cell := s.cell, chain := s.chain, at_ := s.at_, started := s.started, over := s.over, e := s.e, ticks := s.ticks + 1, writes := s.writes, out := s.out } 162).over, .int .i64 (ended { client := s.client, id := s.id, epoch := s.epoch, a := s.a, cell := s.cell, chain := s.chain, at_ := s.at_, started := s.started, over := s.over, e := s.e, ticks := s.ticks + 1, writes := s.writes, out := s.out } 162).e, .int .i64 (ended { client := s.client, id := s.id, epoch := s.epoch, a := s.a, cell := s.cell, chain := s.chain, at_ := s.at_, started := s.started, over := s.over, e := s.e, ticks := s.ticks + 1, writes := s.writes, out := s.out } 162).ticks, .int .i64 (ended { client := s.client, id := s.id, epoch := s.epoch, a := s.a, cell := s.cell, chain := s.chain, at_ := s.at_, started := s.started, over := s.over, e := s.e, ticks := s.ticks + 1, writes := s.writes, out := s.out } 162).writes, .row 1 22 (List.length (ended { client := s.client, id := s.id, epoch := s.epoch, a := s.a, cell := s.cell, chain := s.chain, at_ := s.at_, started := s.started, over := s.over, e := s.e, ticks := s.ticks + 1, writes := s.writes, out := s.out } 162).out)], .row 50 22 (ended { client := s.client, id := s.id, epoch := s.epoch, a := s.a, cell := s.cell, chain := s.chain, at_ := s.at_, started := s.started, over := s.over, e := s.e, ticks := s.ticks + 1, writes := s.writes, out := s.out } 162).out]) (ob := [s.started = true,
 s.over = false,
 IntKind.i64.wrap (s.ticks + (1 : Int)) = s.ticks + (1 : Int),
 decide (s.ticks + (1 : Int) < (6 : Int)) = false,
 decide (s.writes ≥ (5 : Int)) = true,
 ACalls Tryz.prog 55 [.ptr 0 0, .int .i64 162] [.vars 86 [.int .i64 s.client, .int .i64 s.id, .int .u64 s.epoch, .int .u64 s.a, .int .i64 s.cell.kind, .lst 1 (List.map byteA s.cell.data), .lst 3 (List.map encB s.cell.backs), .lst 1 (List.map intA s.chain), .int .i64 (↑s.at_ : Int), .bool s.started, .bool s.over, .int .i64 s.e, .int .i64 (s.ticks + 1), .int .i64 s.writes, .row 1 22 (List.length s.out)], .row 50 22 s.out] (.tup []) [.vars 86 [.int .i64 (ended { client := s.client, id := s.id, epoch := s.epoch, a := s.a, cell := s.cell, chain := s.chain, at_ := s.at_, started := s.started, over := s.over, e := s.e, ticks := s.ticks + 1, writes := s.writes, out := s.out } 162).client, .int .i64 (ended { client := s.client, id := s.id, epoch := s.epoch, a := s.a, cell := s.cell, chain := s.chain, at_ := s.at_, started := s.started, over := s.over, e := s.e, ticks := s.ticks + 1, writes := s.writes, out := s.out } 162).id, .int .u64 (ended { client := s.client, id := s.id, epoch := s.epoch, a := s.a, cell := s.cell, chain := s.chain, at_ := s.at_, started := s.started, over := s.over, e := s.e, ticks := s.ticks + 1, writes := s.writes, out := s.out } 162).epoch, .int .u64 (ended { client := s.client, id := s.id, epoch := s.epoch, a := s.a, cell := s.cell, chain := s.chain, at_ := s.at_, started := s.started, over := s.over, e := s.e, ticks := s.ticks + 1, writes := s.writes, out := s.out } 162).a, .int .i64 (ended { client := s.client, id := s.id, epoch := s.epoch, a := s.a, cell := s.cell, chain := s.chain, at_ := s.at_, started := s.started, over := s.over, e := s.e, ticks := s.ticks + 1, writes := s.writes, out := s.out } 162).cell.kind, .lst 1 [], .lst 3 [], .lst 1 (List.map intA (ended { client := s.client, id := s.id, epoch := s.epoch, a := s.a, cell := s.cell, chain := s.chain, at_ := s.at_, started := s.started, over := s.over, e := s.e, ticks := s.ticks + 1, writes := s.writes, out := s.out } 162).chain), .int .i64 (↑(ended { client := s.client, id := s.id, epoch := s.epoch, a := s.a, cell := s.cell, chain := s.chain, at_ := s.at_, started := s.started, over := s.over, e := s.e, ticks := s.ticks + 1, writes := s.writes, out := s.out } 162).at_ : Int), .bool (ended { client := s.client, id := s.id, epoch := s.epoch, a := s.a, cell := s.cell, chain := s.chain, at_ := s.at_, started := s.started, over := s.over, e := s.e, ticks := s.ticks + 1, writes := s.writes, out := s.out } 162).started, .bool (ended { client := s.client, id := s.id, epoch := s.epoch, a := s.a, cell := s.cell, chain := s.chain, at_ := s.at_, started := s.started, over := s.over, e := s.e, ticks := s.ticks + 1, writes := s.writes, out := s.out } 162).over, .int .i64 (ended { client := s.client, id := s.id, epoch := s.epoch, a := s.a, cell := s.cell, chain := s.chain, at_ := s.at_, started := s.started, over := s.over, e := s.e, ticks := s.ticks + 1, writes := s.writes, out := s.out } 162).e, .int .i64 (ended { client := s.client, id := s.id, epoch := s.epoch, a := s.a, cell := s.cell, chain := s.chain, at_ := s.at_, started := s.started, over := s.over, e := s.e, ticks := s.ticks + 1, writes := s.writes, out := s.out } 162).ticks, .int .i64 (ended { client := s.client, id := s.id, epoch := s.epoch, a := s.a, cell := s.cell, chain := s.chain, at_ := s.at_, started := s.started, over := s.over, e := s.e, ticks := s.ticks + 1, writes := s.writes, out := s.out } 162).writes, .row 1 22 (List.length (ended { client := s.client, id := s.id, epoch := s.epoch, a := s.a, cell := s.cell, chain := s.chain, at_ := s.at_, started := s.started, over := s.over, e := s.e, ticks := s.ticks + 1, writes := s.writes, out := s.out } 162).out)], .row 50 22 (ended { client := s.client, id := s.id, epoch := s.epoch, a := s.a, cell := s.cell, chain := s.chain, at_ := s.at_, started := s.started, over := s.over, e := s.e, ticks := s.ticks + 1, writes := s.writes, out := s.out } 162).out]]) (by kernel_rfl) (by first | exact rfl | exact ⟨rfl, rfl⟩ | (simp [celS, setO, ended, h1, h2, h3, h4]; done) | (first | omega | exact wrap_i (by omega) (by omega))) ⟨?z6, ?z7, ?z8, ?z9, ?z10, ?q96_1, trivial⟩
          case z6|z7|z8|z9|z10 => first | exact rfl | (simp [celS, setO, ended, h1, h2, h3, h4] <;> omega) | omega | (first | omega | exact wrap_i (by omega) (by omega))
          exact q
        · rw [if_neg h4]
          have q := write_ac { s with ticks := s.ticks + 1 } (hv h2) (by show s.cell.data.length ≤ _; omega) (by show s.cell.backs.length ≤ _; omega) (by show s.out.length ≤ _; omega) w0 (by show s.writes ≤ _; omega)
          refine acallsK mixed Tryz.func16 rfl [0, 2, 3, 6, 29, 34] 1000 ([.t, .f, .n (s.ticks + 1), .f, .f, .call [0, 1] false false (.tup []) (setO (wrote { s with ticks := s.ticks + 1 } v))]) [] [0, 3] (v1 := .int .i64 0) (objs1 := [.vars 86 (celS (wrote { client := s.client, id := s.id, epoch := s.epoch, a := s.a, cell := s.cell, chain := s.chain, at_ := s.at_, started := s.started, over := s.over, e := s.e, ticks := s.ticks + 1, writes := s.writes, out := s.out } v) ++ [.row 1 22 (List.length (wrote { client := s.client, id := s.id, epoch := s.epoch, a := s.a, cell := s.cell, chain := s.chain, at_ := s.at_, started := s.started, over := s.over, e := s.e, ticks := s.ticks + 1, writes := s.writes, out := s.out } v).out)]), .row 50 22 (wrote { client := s.client, id := s.id, epoch := s.epoch, a := s.a, cell := s.cell, chain := s.chain, at_ := s.at_, started := s.started, over := s.over, e := s.e, ticks := s.ticks + 1, writes := s.writes, out := s.out } v).out]) (ob := [s.started = true,
 s.over = false,
 IntKind.i64.wrap (s.ticks + (1 : Int)) = s.ticks + (1 : Int),
 decide (s.ticks + (1 : Int) < (6 : Int)) = false,
 decide (s.writes ≥ (5 : Int)) = false,
 ACalls Tryz.prog 49 [.ptr 0 0] [.vars 86 [.int .i64 s.client, .int .i64 s.id, .int .u64 s.epoch, .int .u64 s.a, .int .i64 s.cell.kind, .lst 1 (List.map byteA s.cell.data), .lst 3 (List.map encB s.cell.backs), .lst 1 (List.map intA s.chain), .int .i64 (↑s.at_ : Int), .bool s.started, .bool s.over, .int .i64 s.e, .int .i64 (s.ticks + 1), .int .i64 s.writes, .row 1 22 (List.length s.out)], .row 50 22 s.out] (.tup []) [.vars 86 (celS (wrote { client := s.client, id := s.id, epoch := s.epoch, a := s.a, cell := s.cell, chain := s.chain, at_ := s.at_, started := s.started, over := s.over, e := s.e, ticks := s.ticks + 1, writes := s.writes, out := s.out } v) ++ [.row 1 22 (List.length (wrote { client := s.client, id := s.id, epoch := s.epoch, a := s.a, cell := s.cell, chain := s.chain, at_ := s.at_, started := s.started, over := s.over, e := s.e, ticks := s.ticks + 1, writes := s.writes, out := s.out } v).out)]), .row 50 22 (wrote { client := s.client, id := s.id, epoch := s.epoch, a := s.a, cell := s.cell, chain := s.chain, at_ := s.at_, started := s.started, over := s.over, e := s.e, ticks := s.ticks + 1, writes := s.writes, out := s.out } v).out]]) (by kernel_rfl) (by first | exact rfl | exact ⟨rfl, rfl⟩ | (simp [celS, setO, wrote, h1, h2, h3, h4]; done) | (first | omega | exact wrap_i (by omega) (by omega))) ⟨?z11, ?z12, ?z13, ?z14, ?z15, ?q100_1, trivial⟩
          case z11|z12|z13|z14|z15 => first | exact rfl | (simp [celS, setO, wrote, h1, h2, h3, h4] <;> omega) | omega | (first | omega | exact wrap_i (by omega) (by omega))
          exact q
def toldC (s : SetD) : CellD := if s.over = true then s.cell else cell0
def toldE (s : SetD) : Int := if s.over = true then s.e else 0
theorem overE (s : SetD) (hs : s.ok) : ACalls Tryz.prog 21 [.ptr 0 0] (setO s) (.tup [encC (toldC s), .int .i64 (toldE s), .bool s.over]) (setO s) := by
  unfold toldC toldE
  have hd := hs.cell.d
  have hk := hs.cell.b
  by_cases h : s.over = true
  · rw [if_pos h, if_pos h, h]
    have q := copied_ac s.cell (by omega) (by omega)
    refine acallsK mixed Tryz.func21 rfl [0, 2, 3, 4, 13] 1000 ([.t, .call [] false false (encC s.cell) []]) [] [0, 1] (ob := [s.over = true,
 _]) (by kernel_rfl) ⟨rfl, rfl⟩ ⟨(by first | exact rfl | (simp [celS, setO, encC, celC, h]; done) | (simp [celS, setO, encC, celC, h]; omega) | omega | (omega)), q, trivial⟩
  · rw [if_neg h, if_neg h]
    have h : s.over = false := by simpa using h
    rw [h]
    refine ACalls.post (over_no s h) (fun K c hc => ?_) fun _ _ h => h
    obtain ⟨ds, rfl, hd⟩ := hc.tup_inv
    refine VR.mkTup ⟨hd.1, fun i u d hu hd' => ?_⟩
    match i, hu with
    | 0, hu => injection hu with hu; subst hu; exact nilcell (hd.2 0 _ d rfl hd')
    | 1, hu => exact hd.2 1 _ d hu hd'
    | 2, hu => exact hd.2 2 _ d hu hd'

end Go.Proofs.YtidgcfgkcidkiaaGreat.Ch
