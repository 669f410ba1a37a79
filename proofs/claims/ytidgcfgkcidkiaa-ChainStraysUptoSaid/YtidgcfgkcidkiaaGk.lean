/- A library of no program: append. -/
import Derived.Test.YtidgcfgkcidkiaaGj
namespace Go.Proofs.Ytidgcfgkcidkiaa.X
open Go Go.Proofs.Ytidgcfgkcidkiaa.L Go.RowKit
set_option linter.unusedVariables false
set_option linter.unusedSimpArgs false

section
variable {P : Program} {K : Ctx} {e : Nat → Option AV} {get : Nat → Obj} {a : Act} {w : World}

/-- append onto a row of one's own that begins with its block. -/
theorem append_run {t el : TypeId} {i : TypeInfo} {z : Value} (ht : P.underlying t = some (.slice el)) (hi : P.info? el = some i) (hz0 : i.zero = some z) (hzs : z.cells.size = i.size) (ty : TypeId)
    {ad ad2 : Option Addr} {n c m c2 : Nat} {pre live live2 : List Value} (hl : live.length = n * i.size) (hl2 : live2.length = m * i.size) (hnc : n ≤ c) (hc : c ≤ maxLen)
    (hown : c ≠ 0 → ∃ b dead, ad = some ⟨b, pre.length, none⟩ ∧ w.heap[b]? = some (.cells (pre ++ (live ++ dead)).toArray el (0, 0)) ∧ (live ++ dead).length = c * i.size)
    (hsrc : ∀ j q, live2[j]? = some q → ∃ p, ad2 = some p ∧ w.cell? (p.add j) = some q) (h1 : ∀ q ∈ live2, q.oneCell' = true) (hm0 : 0 < i.size) (hno : c = 0 → ad = none ∨ ∃ p, ad = some p)
    (hb : (n + m) * i.bytes ≤ 140737488355328) (hm : n + m ≤ maxLen) :
    ∃ ad' c' w' b' pre', (Builtin.append_ #[t, t] ty #[.slice ad n c, .slice ad2 m c2]).run P w = .ok (.slice ad' (n + m) c') w' ∧ n + m ≤ c' ∧ c' ≤ maxLen ∧
      Keeps (fun k => c ≠ 0 ∧ ad = some ⟨k, pre.length, none⟩) w w' ∧
      (c' ≠ 0 → ad' = some ⟨b', pre'.length, none⟩ ∧ (∃ dead', w'.heap[b']? = some (.cells (pre' ++ (live ++ live2 ++ dead')).toArray el (0, 0)) ∧ (live ++ live2 ++ dead').length = c' * i.size) ∧ ((c ≠ 0 ∧ ad = some ⟨b', pre.length, none⟩) ∨ w.heap.size ≤ b')) := by
  have h63 : ((n + m : Nat) : Int) ≤ 9223372036854775807 := by simp only [maxLen] at hm; omega
  by_cases hm00 : m = 0
  · subst hm00
    obtain rfl : live2 = [] := List.eq_nil_of_length_eq_zero (by simpa using hl2)
    refine ⟨ad, c, w, (ad.map (·.block)).getD 0, pre, ?_, hnc, hc, Keeps.refl _ _, fun hc0 => ?_⟩
    · cases ad <;> cases ad2 <;> simp [Builtin.append_, run_underlying ht, sizeOf, typeInfo, hi, Builtin.lenOf, hnc, Builtin.firstCells, loadCells, loadCellsFrom, storeCells]
    · obtain ⟨b, dead, rfl, hh, hd⟩ := hown hc0
      exact ⟨rfl, ⟨dead, by simpa using hh, by simpa using hd⟩, .inl ⟨hc0, rfl⟩⟩
  · obtain ⟨q0, hq0⟩ : ∃ q, live2[0]? = some q := ⟨live2[0]'(by rw [hl2]; exact Nat.mul_pos (by omega) hm0), List.getElem?_eq_getElem _⟩
    obtain ⟨p, rfl, _⟩ := hsrc 0 q0 hq0
    have hcell : ∀ j q, live2[j]? = some q → w.cell? (p.add j) = some q := fun j q hj => by
      obtain ⟨p', hp', h⟩ := hsrc j q hj
      injection hp' with hp'; subst hp'; exact h
    by_cases hroom : n + m ≤ c
    · have hc0 : c ≠ 0 := by omega
      obtain ⟨b, dead, rfl, hh, hd⟩ := hown hc0
      have hf := run_firstCells_some (P := P) w i.size m p m c2 live2 hl2 hcell
      have hdl : live2.length ≤ dead.length := by
        rw [List.length_append, hl] at hd
        have : dead.length = (c - n) * i.size := by rw [Nat.sub_mul]; omega
        rw [this, hl2]
        exact Nat.mul_le_mul_right _ (by omega)
      have hst := run_storeCells_at P b (pre.length + n * i.size) el live2 0 _ w hh (by rw [← hl]; simp; omega) h1
      simp only [Nat.add_zero] at hst
      have e1 : ((pre ++ (live ++ dead)).toArray.toList.take (pre.length + n * i.size) ++ live2 ++ (pre ++ (live ++ dead)).toArray.toList.drop (pre.length + n * i.size + live2.length)) = pre ++ (live ++ live2 ++ dead.drop live2.length) := by
        rw [← hl]
        simp [List.drop_append, List.take_append, Nat.add_assoc]
        rw [List.take_of_length_le (by omega), List.drop_eq_nil_of_le (by omega), List.drop_eq_nil_of_le (by omega)]; simp
      rw [e1] at hst
      refine ⟨some ⟨b, pre.length, none⟩, c, w.setRow b (pre ++ (live ++ live2 ++ dead.drop live2.length)).toArray, b, pre, ?_, hroom, hc, (Keeps.refl _ _).setRow (.inl ⟨hc0, rfl⟩) _, fun _ => ⟨rfl, ⟨dead.drop live2.length, setRow_heap w b _ _ _ _ hh, ?_⟩, .inl ⟨hc0, rfl⟩⟩⟩
      · simp [Builtin.append_, run_underlying ht, sizeOf, typeInfo, hi, Builtin.lenOf, hroom, addr_mid, hf, hst]
      · rw [← hd]; simp; omega
    · have hg : c < n + m := by omega
      have hcap := grownCap_ge w (n + m) c el
      have hcapm : grownCap w (n + m) c el ≤ maxLen := grownCap_le_maxLen w (n + m) c el hm
      have hfitb := growslice_fits hg hb
      have fin : ∀ w', w' = w.drew.alloc (.cells (live.toArray ++ live2.toArray ++ Builtin.zeroCells z.cells (grownCap w (n + m) c el - (n + m))) el) →
          Keeps (fun k => c ≠ 0 ∧ ad = some ⟨k, pre.length, none⟩) w w' ∧ (grownCap w (n + m) c el ≠ 0 → (some ⟨w.heap.size, 0, none⟩ : Option Addr) = some ⟨w.heap.size, ([] : List Value).length, none⟩ ∧ (∃ dead', w'.heap[w.heap.size]? = some (.cells ([] ++ (live ++ live2 ++ dead')).toArray el (0, 0)) ∧ (live ++ live2 ++ dead').length = grownCap w (n + m) c el * i.size) ∧ ((c ≠ 0 ∧ ad = some ⟨w.heap.size, pre.length, none⟩) ∨ w.heap.size ≤ w.heap.size)) := by
        intro w' hw'
        refine ⟨by rw [hw']; exact ((Keeps.refl _ _).drew).alloc _, fun _ => ⟨rfl, ⟨(Builtin.zeroCells z.cells (grownCap w (n + m) c el - (n + m))).toList, ?_, ?_⟩, .inr (Nat.le_refl _)⟩⟩
        · rw [hw']
          have hn := heap_alloc_new w.drew (.cells (live.toArray ++ live2.toArray ++ Builtin.zeroCells z.cells (grownCap w (n + m) c el - (n + m))) el)
          rw [show w.drew.heap.size = w.heap.size from rfl] at hn
          rw [hn]
          congr 2
          apply Array.ext'; simp
        · have hzl : (Builtin.zeroCells z.cells (grownCap w (n + m) c el - (n + m))).toList.length = (grownCap w (n + m) c el - (n + m)) * i.size := by
            have := size_zeroCells z.cells (grownCap w (n + m) c el - (n + m))
            rw [hzs] at this
            simpa using this
          rw [List.length_append, List.length_append, hzl, hl, hl2, ← Nat.add_mul, ← Nat.add_mul]; congr 1; omega
      by_cases hc0 : c = 0
      · subst hc0
        obtain rfl : n = 0 := by omega
        obtain rfl : live = [] := List.eq_nil_of_length_eq_zero (by simpa using hl)
        cases ad with
        | none =>
          obtain ⟨f1, f2⟩ := fin _ rfl
          simp only [Nat.zero_add, List.nil_append] at f1 f2 hg h63 hb hcap hcapm ⊢
          exact ⟨_, _, _, w.heap.size, [], run_append_nil (P := P) w t ty el i z ht hi hz0 p m c2 live2 hl2 hcell hg h63 (by omega), hcap, hcapm, by simpa using f1, by simpa using f2⟩
        | some a =>
          obtain ⟨f1, f2⟩ := fin _ rfl
          exact ⟨_, _, _, w.heap.size, [], run_append_grow (P := P) w t ty el i z ht hi hz0 a 0 0 [] (by simp) (by simp) p m c2 live2 hl2 hcell hg h63 hfitb, hcap, hcapm, f1, f2⟩
      · obtain ⟨b, dead, rfl, hh, hd⟩ := hown hc0
        obtain ⟨f1, f2⟩ := fin _ rfl
        refine ⟨_, _, _, w.heap.size, [], run_append_grow (P := P) w t ty el i z ht hi hz0 ⟨b, pre.length, none⟩ n c live hl (fun j q hj => ?_) p m c2 live2 hl2 hcell hg h63 hfitb, hcap, hcapm, f1, f2⟩
        rw [addr_mid]
        refine cellOf hh _ ?_
        have := (List.getElem?_eq_some_iff.1 hj).1
        rw [List.getElem?_toArray, List.getElem?_append_right (by omega), Nat.add_sub_cancel_left, List.getElem?_append_left this]; exact hj

theorem PRows.one {M : Nat → Nat → Option Value} {sz : Nat} {xs : List AV} {ds : List Value} (h : PRows M sz xs ds) (hl : ds.length = xs.length * sz) (h0 : 0 < sz) : ∀ d ∈ ds, d.oneCell' = true := by
  intro d hd
  obtain ⟨q, hq⟩ := List.getElem?_of_mem hd
  have hlt := (List.getElem?_eq_some_iff.1 hq).1
  have hi : q / sz < xs.length := by rw [Nat.div_lt_iff_lt_mul h0]; omega
  obtain ⟨h1, h2⟩ := h (q / sz) _ (List.getElem?_eq_getElem hi)
  have hj : q % sz < (xs[q / sz]).cells.length := by rw [h1]; exact Nat.mod_lt _ h0
  obtain ⟨d', d1, d2⟩ := h2 (q % sz) _ (List.getElem?_eq_getElem hj)
  rw [Nat.mul_comm, Nat.div_add_mod, hq] at d1
  injection d1 with d1; subst d1
  exact d2.one
theorem PRows.append {M : Nat → Nat → Option Value} {sz : Nat} {xs ys : List AV} {ds es : List Value} (h : PRows M sz xs ds) (k : PRows M sz ys es) (hl : ds.length = xs.length * sz) : PRows M sz (xs ++ ys) (ds ++ es) := by
  intro i x hx
  by_cases hi : i < xs.length
  · rw [List.getElem?_append_left hi] at hx
    obtain ⟨h1, h2⟩ := h i x hx
    refine ⟨h1, fun j u hu => ?_⟩
    obtain ⟨d, d1, d2⟩ := h2 j u hu
    have := (List.getElem?_eq_some_iff.1 d1).1
    exact ⟨d, by rw [List.getElem?_append_left this]; exact d1, d2⟩
  · rw [List.getElem?_append_right (by omega)] at hx
    obtain ⟨h1, h2⟩ := k _ x hx
    refine ⟨h1, fun j u hu => ?_⟩
    obtain ⟨d, d1, d2⟩ := h2 j u hu
    have e : i * sz + j = ds.length + ((i - xs.length) * sz + j) := by
      have : i * sz = xs.length * sz + (i - xs.length) * sz := by rw [← Nat.add_mul]; congr 1; omega
      omega
    exact ⟨d, by rw [e, List.getElem?_append_right (by omega), Nat.add_sub_cancel_left]; exact d1, d2⟩
theorem PRows.left {M : Nat → Nat → Option Value} {sz : Nat} {xs : List AV} {ds es : List Value} (h : PRows M sz xs ds) : PRows M sz xs (ds ++ es) :=
  fun i x hx => ⟨(h i x hx).1, fun j u hu => let ⟨d, d1, d2⟩ := (h i x hx).2 j u hu; ⟨d, by rw [List.getElem?_append_left (List.getElem?_eq_some_iff.1 d1).1]; exact d1, d2⟩⟩
/-- A part of a row's cells. -/
theorem PRows.sub {M : Nat → Nat → Option Value} {sz : Nat} {xs : List AV} {ds : List Value} (h : PRows M sz xs ds) (o n : Nat) (hn : o + n ≤ xs.length) (hl : xs.length * sz ≤ ds.length) : PRows M sz ((xs.drop o).take n) ((ds.drop (o * sz)).take (n * sz)) ∧ ((ds.drop (o * sz)).take (n * sz)).length = n * sz ∧ ((xs.drop o).take n).length = n := by
  have hm : (o + n) * sz ≤ xs.length * sz := Nat.mul_le_mul_right _ hn
  rw [Nat.add_mul] at hm
  refine ⟨fun i x hx => ?_, by rw [List.length_take, List.length_drop]; omega, by rw [List.length_take, List.length_drop]; omega⟩
  rw [List.getElem?_take] at hx
  split at hx
  · rename_i hi
    rw [List.getElem?_drop] at hx
    obtain ⟨h1, h2⟩ := h _ x hx
    refine ⟨h1, fun j u hu => ?_⟩
    obtain ⟨d, d1, d2⟩ := h2 j u hu
    have hj : j < sz := by rw [← h1]; exact (List.getElem?_eq_some_iff.1 hu).1
    have hi2 : (i + 1) * sz ≤ n * sz := Nat.mul_le_mul_right _ (by omega)
    rw [Nat.succ_mul] at hi2
    refine ⟨d, ?_, d2⟩
    rw [List.getElem?_take, if_pos (by omega), List.getElem?_drop, ← Nat.add_assoc, ← Nat.add_mul]; exact d1
  · cases hx
/-- The cells of frozen elements. -/
theorem frz_cells {sz b o : Nat} {xs : List AV} (h0 : 0 < sz) (h : ∀ (i : Nat) (x : AV), xs[i]? = some x → x.cells.length = sz ∧ ∀ (j : Nat) (u : AV), x.cells[j]? = some u → ∃ d, K.M b (o + i * sz + j) = some d ∧ PR K.M u d) :
    ∃ L : List Value, L.length = xs.length * sz ∧ PRows K.M sz xs L ∧ ∀ q d, L[q]? = some d → K.M b (o + q) = some d := by
  have key : ∀ q, q < xs.length * sz → ∃ d, K.M b (o + q) = some d := by
    intro q hq
    have hi : q / sz < xs.length := by rw [Nat.div_lt_iff_lt_mul h0]; omega
    obtain ⟨h1, h2⟩ := h _ _ (List.getElem?_eq_getElem hi)
    have hj : q % sz < (xs[q / sz]).cells.length := by rw [h1]; exact Nat.mod_lt _ h0
    obtain ⟨d, d1, _⟩ := h2 _ _ (List.getElem?_eq_getElem hj)
    rw [Nat.add_assoc, Nat.mul_comm, Nat.div_add_mod] at d1
    exact ⟨d, d1⟩
  have hL : ∀ q d, ((List.range (xs.length * sz)).map fun q => (K.M b (o + q)).getD undef)[q]? = some d ↔ q < xs.length * sz ∧ K.M b (o + q) = some d := by
    intro q d
    by_cases hq : q < xs.length * sz
    · obtain ⟨d', hd'⟩ := key q hq
      rw [List.getElem?_map, List.getElem?_range hq]
      simp [hd', hq]
    · rw [List.getElem?_eq_none (by simp; omega)]; simp [hq]
  refine ⟨(List.range (xs.length * sz)).map fun q => (K.M b (o + q)).getD undef, by simp, fun i x hx => ?_, fun q d hd => ((hL q d).1 hd).2⟩
  obtain ⟨h1, h2⟩ := h i x hx
  refine ⟨h1, fun j u hu => ?_⟩
  obtain ⟨d, d1, d2⟩ := h2 j u hu
  have hi := (List.getElem?_eq_some_iff.1 hx).1
  have hj : j < sz := by rw [← h1]; exact (List.getElem?_eq_some_iff.1 hu).1
  have hm : (i + 1) * sz ≤ xs.length * sz := Nat.mul_le_mul_right _ (by omega)
  rw [Nat.succ_mul] at hm
  exact ⟨d, (hL _ d).2 ⟨by omega, by rw [← Nat.add_assoc]; exact d1⟩, d2⟩

/-- What is appended, in cells. -/
theorem srcA_sound (hS : RelS K e get a w) {sz : Nat} {x : AV} {c : Value} {ys : List AV} {rd : List Nat} (h0 : 0 < sz) (hx : VR K x c) (h : srcA get sz x = some (ys, rd)) :
    ∃ ad m L, c = .slice ad ys.length m ∧ L.length = ys.length * sz ∧ PRows K.M sz ys L ∧ ys.length ≤ maxLen ∧ (∀ j q, L[j]? = some q → ∃ p, ad = some p ∧ w.cell? (p.add j) = some q) := by
  unfold srcA at h
  split at h
  · cases h
    obtain rfl := hx.nils_inv
    exact ⟨none, 0, [], rfl, by simp, fun i x hx => by simp at hx, Nat.zero_le _, by simp⟩
  · rename_i s zs
    split at h
    · rename_i hs
      cases h
      obtain rfl := beq_eq' hs
      cases hx with
      | pure hx =>
        cases hx with
        | lst sz xs ad c b o f hsz hc hm had hl hM h =>
          obtain ⟨L, l1, l2, l3⟩ := frz_cells (K := K) (b := b) (o := o) h0 (fun i x hx => ⟨hl i x hx, fun j u hu => ⟨_, hM i x j u hx hu, h i x j u hx hu⟩⟩)
          refine ⟨ad, c, L, rfl, l1, l2, by omega, fun j q hq => ?_⟩
          have hne : ys ≠ [] := by
            rintro rfl
            have := (List.getElem?_eq_some_iff.1 hq).1
            rw [l1] at this; simp at this
          refine ⟨_, had.resolve_left hne, ?_⟩
          rw [addr_mid]
          exact (hS.rel.mem _ _ _ (l3 j q hq)).1
    · cases h
  · rename_i id s n
    have hob := hS.rel.obj id
    split at h
    · rename_i T' s' zs hg
      split at h
      · rename_i hs
        cases h
        obtain rfl := beq_eq' hs
        rw [hg] at hob
        obtain ⟨p0, p1, p2, p3⟩ := hob
        have hk : K.kind id = .row s' ys.length := by rw [hS.kind, hg]; rfl
        cases hx with
        | pure hx => cases hx
        | row id s n c hk' hc hp =>
          rw [hk] at hc
          obtain ⟨hq0, ad, rfl, had⟩ := hc.resolve_left (by simp)
          have : s = s' ∧ n = ys.length := by
            rcases hq0 with hq0 | hq0 <;> first | (injection hq0 with e1 e2; exact ⟨e1.symm, e2.symm⟩) | cases hq0
          obtain ⟨rfl, rfl⟩ := this
          by_cases hcap : K.cap id = 0
          · have : ys = [] := List.eq_nil_of_length_eq_zero (by omega)
            subst this
            exact ⟨ad, K.cap id, [], rfl, by simp, fun i x hx => by simp at hx, Nat.zero_le _, by simp⟩
          · obtain ⟨ds, d1, d2, d3⟩ := p3 hcap
            have hle : ys.length * s ≤ (ds.toList.drop (K.off id)).length := by rw [show (ds.toList.drop (K.off id)).length = K.cap id * s by simp; omega]; exact Nat.mul_le_mul_right _ p1
            obtain ⟨s1, s2, s3⟩ := d3.sub 0 ys.length (by omega) hle
            rw [Nat.zero_mul, List.drop_zero] at s1 s2
            rw [List.drop_zero, List.take_length] at s1
            refine ⟨ad, K.cap id, _, rfl, s2, s1, by omega, fun j q hq => ⟨_, had hcap, ?_⟩⟩
            rw [addr_mid]
            refine cellOf d1 _ ?_
            rw [List.getElem?_take] at hq
            split at hq
            · rw [List.getElem?_drop] at hq; simpa using hq
            · cases hq
      · cases h
    · rename_i T' s' zs hg
      split at h
      · rename_i hs
        cases h
        obtain rfl := beq_eq' hs
        rw [hg] at hob
        obtain ⟨p0, p1, p2, p3⟩ := hob
        have hk : K.kind id = .frz s' ys.length := by rw [hS.kind, hg]; rfl
        cases hx with
        | pure hx => cases hx
        | row id s n c hk' hc hp =>
          rw [hk] at hc
          obtain ⟨hq0, ad, rfl, had⟩ := hc.resolve_left (by simp)
          have : s = s' ∧ n = ys.length := by
            rcases hq0 with hq0 | hq0 <;> first | (injection hq0 with e1 e2; exact ⟨e1.symm, e2.symm⟩) | cases hq0
          obtain ⟨rfl, rfl⟩ := this
          obtain ⟨L, l1, l2, l3⟩ := frz_cells (K := K) (b := K.blk id) (o := K.off id) h0 (fun i x hx => p3 i x hx)
          refine ⟨ad, K.cap id, L, rfl, l1, l2, by omega, fun j q hq => ?_⟩
          have hne : K.cap id ≠ 0 := by
            intro h9
            have := (List.getElem?_eq_some_iff.1 hq).1
            rw [l1, show ys.length = 0 by omega] at this; simp at this
          refine ⟨_, had hne, ?_⟩
          rw [addr_mid]
          exact (hS.rel.mem _ _ _ (l3 j q hq)).1
      · cases h
    · cases h
  · rename_i id s off n
    have hob := hS.rel.obj id
    split at h
    · rename_i T' s' zs hg
      split at h
      · rename_i hs
        cases h
        obtain rfl := beq_eq' hs
        rw [hg] at hob
        obtain ⟨p0, p1, p2, p3⟩ := hob
        have hk : K.kind id = .row s' zs.length := by rw [hS.kind, hg]; rfl
        cases hx with
        | pure hx => cases hx
        | rws id s off n c hk' hc hp =>
          rw [hk] at hc
          obtain ⟨n', ad, m, hq0, hn, rfl, had⟩ := hc.resolve_left (by simp)
          have : s = s' ∧ n' = zs.length := by
            rcases hq0 with hq0 | hq0 <;> first | (injection hq0 with e1 e2; exact ⟨e1.symm, e2.symm⟩) | cases hq0
          obtain ⟨rfl, rfl⟩ := this
          have hlen : ((zs.drop off).take n).length = n := by rw [List.length_take, List.length_drop]; omega
          rw [hlen]
          by_cases hcap : K.cap id = 0
          · have : zs = [] := List.eq_nil_of_length_eq_zero (by omega)
            subst this
            obtain rfl : n = 0 := by simp at hn; omega
            exact ⟨ad, m, [], rfl, by simp, fun i x hx => by simp at hx, Nat.zero_le _, by simp⟩
          · obtain ⟨ds, d1, d2, d3⟩ := p3 hcap
            have hle : zs.length * s ≤ (ds.toList.drop (K.off id)).length := by rw [show (ds.toList.drop (K.off id)).length = K.cap id * s by simp; omega]; exact Nat.mul_le_mul_right _ p1
            obtain ⟨s1, s2, s3⟩ := d3.sub off n hn hle
            refine ⟨ad, m, _, rfl, s2, s1, by omega, fun j q hq => ?_⟩
            have hj := (List.getElem?_eq_some_iff.1 hq).1
            rw [s2] at hj
            have hn0 : n ≠ 0 := by rintro rfl; simp at hj
            refine ⟨_, had hn0, ?_⟩
            rw [addr_mid]
            refine cellOf d1 _ ?_
            rw [List.getElem?_take, if_pos hj, List.getElem?_drop, List.getElem?_drop, ← Nat.add_assoc] at hq
            simpa using hq
      · cases h
    · rename_i T' s' zs hg
      split at h
      · rename_i hs
        cases h
        obtain rfl := beq_eq' hs
        rw [hg] at hob
        obtain ⟨p0, p1, p2, p3⟩ := hob
        have hk : K.kind id = .frz s' zs.length := by rw [hS.kind, hg]; rfl
        cases hx with
        | pure hx => cases hx
        | rws id s off n c hk' hc hp =>
          rw [hk] at hc
          obtain ⟨n', ad, m, hq0, hn, rfl, had⟩ := hc.resolve_left (by simp)
          have : s = s' ∧ n' = zs.length := by
            rcases hq0 with hq0 | hq0 <;> first | (injection hq0 with e1 e2; exact ⟨e1.symm, e2.symm⟩) | cases hq0
          obtain ⟨rfl, rfl⟩ := this
          have hlen : ((zs.drop off).take n).length = n := by rw [List.length_take, List.length_drop]; omega
          obtain ⟨L, l1, l2, l3⟩ := frz_cells (K := K) (b := K.blk id) (o := K.off id) h0 (fun i x hx => p3 i x hx)
          obtain ⟨s1, s2, s3⟩ := l2.sub off n hn (by omega)
          rw [hlen]
          refine ⟨ad, m, _, rfl, s2, s1, by omega, fun j q hq => ?_⟩
          have hj := (List.getElem?_eq_some_iff.1 hq).1
          rw [s2] at hj
          have hn0 : n ≠ 0 := by rintro rfl; simp at hj
          refine ⟨_, had hn0, ?_⟩
          rw [addr_mid]
          rw [List.getElem?_take, if_pos hj, List.getElem?_drop] at hq
          have := (hS.rel.mem _ _ _ (l3 _ q hq)).1
          rwa [← Nat.add_assoc] at this
      · cases h
    · cases h
  · cases h
end
end Go.Proofs.Ytidgcfgkcidkiaa.X
