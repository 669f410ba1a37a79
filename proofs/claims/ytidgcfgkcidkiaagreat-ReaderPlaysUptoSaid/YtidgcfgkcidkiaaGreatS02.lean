/- Texts of one proof, laid together: Gk, Gl, Gm, Gn, Go, Gp, Gq, Gr, Gs. -/
import Derived.Test.YtidgcfgkcidkiaaGreatS01
import Derived.Laws.IdiomStrings
namespace Go.Proofs.YtidgcfgkcidkiaaGreat.X
open Go Go.Proofs.YtidgcfgkcidkiaaGreat.L Go.RowKit
set_option linter.unusedVariables false
set_option linter.unusedSimpArgs false
section
variable {P : Program} {K : Ctx} {e : Nat → Option AV} {get : Nat → Obj} {a : Act} {w : World}
/-- append onto a row of one's own that begins with its block. -/
theorem append_run {t el : TypeId} {i : TypeInfo} {z : Value} (ht : P.underlying t = some (.slice el)) (hi : P.info? el = some i) (hz0 : i.zero = some z) (hzs : z.cells.size = i.size) (ty : TypeId)
    {ad ad2 : Option Addr} {n c m c2 : Nat} {pre live live2 : List Value} (hl : live.length = n * i.size) (hl2 : live2.length = m * i.size) (hnc : n ≤ c) (hc : c ≤ maxLen)
    (hown : c ≠ 0 → ∃ b dead, ad = some ⟨b, pre.length, none⟩ ∧ w.heap[b]? = some (.cells (pre ++ (live ++ dead)).toArray el (0, 0)) ∧ (live ++ dead).length = c * i.size)
    (hsrc : ∀ j q, live2[j]? = some q → ∃ p, ad2 = some p ∧ w.cell? (p.add j) = some q) (h1 : ∀ q ∈ live2, q.oneCell' = true) (hm0 : 0 < i.size) (hno : c = 0 → ad = none ∨ ∃ p, ad = some p)
    (hb : (n + m) * i.bytes ≤ 140737488355328) (hm : n + m ≤ maxLen) :
    ∃ ad' c' w' b' pre', (Builtin.append_ #[t, t] ty #[.slice ad n c, .slice ad2 m c2]).run P w = .ok (.slice ad' (n + m) c') w' ∧ n + m ≤ c' ∧ c' ≤ maxLen ∧
      Keeps (fun k => c ≠ 0 ∧ ad = some ⟨k, pre.length, none⟩) w w' ∧
      (c' ≠ 0 → ad' = some ⟨b', pre'.length, none⟩ ∧ (∃ dead', w'.heap[b']? = some (.cells (pre' ++ (live ++ live2 ++ dead')).toArray el (0, 0)) ∧ (live ++ live2 ++ dead').length = c' * i.size) ∧ ((c ≠ 0 ∧ ad = some ⟨b', pre.length, none⟩) ∨ w.heap.size ≤ b')) := by
  have h63 : ((n + m : Nat) : Int) ≤ 9223372036854775807 := by simp only [maxLen] at hm; omega
  by_cases hm00 : m = 0
  · subst hm00
    obtain rfl : live2 = [] := List.eq_nil_of_length_eq_zero (by simpa using hl2)
    refine ⟨ad, c, w, (ad.map (·.block)).getD 0, pre, ?_, hnc, hc, Keeps.refl _ _, fun hc0 => ?_⟩
    · cases ad <;> cases ad2 <;> simp [Builtin.append_, run_underlying ht, sizeOf, typeInfo, hi, Builtin.lenOf, hnc, Builtin.firstCells, loadCells, loadCellsFrom, storeCells]
    · obtain ⟨b, dead, rfl, hh, hd⟩ := hown hc0
      exact ⟨rfl, ⟨dead, by simpa using hh, by simpa using hd⟩, .inl ⟨hc0, rfl⟩⟩
  · obtain ⟨q0, hq0⟩ : ∃ q, live2[0]? = some q := ⟨live2[0]'(by rw [hl2]; exact Nat.mul_pos (by omega) hm0), List.getElem?_eq_getElem _⟩
    obtain ⟨p, rfl, _⟩ := hsrc 0 q0 hq0
    have hcell : ∀ j q, live2[j]? = some q → w.cell? (p.add j) = some q := fun j q hj => by
      obtain ⟨p', hp', h⟩ := hsrc j q hj
      injection hp' with hp'; subst hp'; exact h
    by_cases hroom : n + m ≤ c
    · have hc0 : c ≠ 0 := by omega
      obtain ⟨b, dead, rfl, hh, hd⟩ := hown hc0
      have hf := run_firstCells_some (P := P) w i.size m p m c2 live2 hl2 hcell
      have hdl : live2.length ≤ dead.length := by
        rw [List.length_append, hl] at hd
        have : dead.length = (c - n) * i.size := by rw [Nat.sub_mul]; omega
        rw [this, hl2]
        exact Nat.mul_le_mul_right _ (by omega)
      have hst := run_storeCells_at P b (pre.length + n * i.size) el live2 0 _ w hh (by rw [← hl]; simp; omega) h1
      simp only [Nat.add_zero] at hst
      have e1 : ((pre ++ (live ++ dead)).toArray.toList.take (pre.length + n * i.size) ++ live2 ++ (pre ++ (live ++ dead)).toArray.toList.drop (pre.length + n * i.size + live2.length)) = pre ++ (live ++ live2 ++ dead.drop live2.length) := by
        rw [← hl]
        simp [List.drop_append, List.take_append, Nat.add_assoc]
        rw [List.take_of_length_le (by omega), List.drop_eq_nil_of_le (by omega), List.drop_eq_nil_of_le (by omega)]; simp
      rw [e1] at hst
      refine ⟨some ⟨b, pre.length, none⟩, c, w.setRow b (pre ++ (live ++ live2 ++ dead.drop live2.length)).toArray, b, pre, ?_, hroom, hc, (Keeps.refl _ _).setRow (.inl ⟨hc0, rfl⟩) _, fun _ => ⟨rfl, ⟨dead.drop live2.length, setRow_heap w b _ _ _ _ hh, ?_⟩, .inl ⟨hc0, rfl⟩⟩⟩
      · simp [Builtin.append_, run_underlying ht, sizeOf, typeInfo, hi, Builtin.lenOf, hroom, addr_mid, hf, hst]
      · rw [← hd]; simp; omega
    · have hg : c < n + m := by omega
      have hcap := grownCap_ge w (n + m) c el
      have hcapm : grownCap w (n + m) c el ≤ maxLen := grownCap_le_maxLen w (n + m) c el hm
      have hfitb := growslice_fits hg hb
      have fin : ∀ w', w' = w.drew.alloc (.cells (live.toArray ++ live2.toArray ++ Builtin.zeroCells z.cells (grownCap w (n + m) c el - (n + m))) el) →
          Keeps (fun k => c ≠ 0 ∧ ad = some ⟨k, pre.length, none⟩) w w' ∧ (grownCap w (n + m) c el ≠ 0 → (some ⟨w.heap.size, 0, none⟩ : Option Addr) = some ⟨w.heap.size, ([] : List Value).length, none⟩ ∧ (∃ dead', w'.heap[w.heap.size]? = some (.cells ([] ++ (live ++ live2 ++ dead')).toArray el (0, 0)) ∧ (live ++ live2 ++ dead').length = grownCap w (n + m) c el * i.size) ∧ ((c ≠ 0 ∧ ad = some ⟨w.heap.size, pre.length, none⟩) ∨ w.heap.size ≤ w.heap.size)) := by
        intro w' hw'
        refine ⟨by rw [hw']; exact ((Keeps.refl _ _).drew).alloc _, fun _ => ⟨rfl, ⟨(Builtin.zeroCells z.cells (grownCap w (n + m) c el - (n + m))).toList, ?_, ?_⟩, .inr (Nat.le_refl _)⟩⟩
        · rw [hw']
          have hn := heap_alloc_new w.drew (.cells (live.toArray ++ live2.toArray ++ Builtin.zeroCells z.cells (grownCap w (n + m) c el - (n + m))) el)
          rw [show w.drew.heap.size = w.heap.size from rfl] at hn
          rw [hn]
          congr 2
          apply Array.ext'; simp
        · have hzl : (Builtin.zeroCells z.cells (grownCap w (n + m) c el - (n + m))).toList.length = (grownCap w (n + m) c el - (n + m)) * i.size := by
            have := size_zeroCells z.cells (grownCap w (n + m) c el - (n + m))
            rw [hzs] at this
            simpa using this
          rw [List.length_append, List.length_append, hzl, hl, hl2, ← Nat.add_mul, ← Nat.add_mul]; congr 1; omega
      by_cases hc0 : c = 0
      · subst hc0
        obtain rfl : n = 0 := by omega
        obtain rfl : live = [] := List.eq_nil_of_length_eq_zero (by simpa using hl)
        cases ad with
        | none =>
          obtain ⟨f1, f2⟩ := fin _ rfl
          simp only [Nat.zero_add, List.nil_append] at f1 f2 hg h63 hb hcap hcapm ⊢
          exact ⟨_, _, _, w.heap.size, [], run_append_nil (P := P) w t ty el i z ht hi hz0 p m c2 live2 hl2 hcell hg h63 (by omega), hcap, hcapm, by simpa using f1, by simpa using f2⟩
        | some a =>
          obtain ⟨f1, f2⟩ := fin _ rfl
          exact ⟨_, _, _, w.heap.size, [], run_append_grow (P := P) w t ty el i z ht hi hz0 a 0 0 [] (by simp) (by simp) p m c2 live2 hl2 hcell hg h63 hfitb, hcap, hcapm, f1, f2⟩
      · obtain ⟨b, dead, rfl, hh, hd⟩ := hown hc0
        obtain ⟨f1, f2⟩ := fin _ rfl
        refine ⟨_, _, _, w.heap.size, [], run_append_grow (P := P) w t ty el i z ht hi hz0 ⟨b, pre.length, none⟩ n c live hl (fun j q hj => ?_) p m c2 live2 hl2 hcell hg h63 hfitb, hcap, hcapm, f1, f2⟩
        rw [addr_mid]
        refine cellOf hh _ ?_
        have := (List.getElem?_eq_some_iff.1 hj).1
        rw [List.getElem?_toArray, List.getElem?_append_right (by omega), Nat.add_sub_cancel_left, List.getElem?_append_left this]; exact hj

theorem PRows.one {M : Nat → Nat → Option Value} {sz : Nat} {xs : List AV} {ds : List Value} (h : PRows M sz xs ds) (hl : ds.length = xs.length * sz) (h0 : 0 < sz) : ∀ d ∈ ds, d.oneCell' = true := by
  intro d hd
  obtain ⟨q, hq⟩ := List.getElem?_of_mem hd
  have hlt := (List.getElem?_eq_some_iff.1 hq).1
  have hi : q / sz < xs.length := by rw [Nat.div_lt_iff_lt_mul h0]; omega
  obtain ⟨h1, h2⟩ := h (q / sz) _ (List.getElem?_eq_getElem hi)
  have hj : q % sz < (xs[q / sz]).cells.length := by rw [h1]; exact Nat.mod_lt _ h0
  obtain ⟨d', d1, d2⟩ := h2 (q % sz) _ (List.getElem?_eq_getElem hj)
  rw [Nat.mul_comm, Nat.div_add_mod, hq] at d1
  injection d1 with d1; subst d1
  exact d2.one
theorem PRows.append {M : Nat → Nat → Option Value} {sz : Nat} {xs ys : List AV} {ds es : List Value} (h : PRows M sz xs ds) (k : PRows M sz ys es) (hl : ds.length = xs.length * sz) : PRows M sz (xs ++ ys) (ds ++ es) := by
  intro i x hx
  by_cases hi : i < xs.length
  · rw [List.getElem?_append_left hi] at hx
    obtain ⟨h1, h2⟩ := h i x hx
    refine ⟨h1, fun j u hu => ?_⟩
    obtain ⟨d, d1, d2⟩ := h2 j u hu
    have := (List.getElem?_eq_some_iff.1 d1).1
    exact ⟨d, by rw [List.getElem?_append_left this]; exact d1, d2⟩
  · rw [List.getElem?_append_right (by omega)] at hx
    obtain ⟨h1, h2⟩ := k _ x hx
    refine ⟨h1, fun j u hu => ?_⟩
    obtain ⟨d, d1, d2⟩ := h2 j u hu
    have e : i * sz + j = ds.length + ((i - xs.length) * sz + j) := by
      have : i * sz = xs.length * sz + (i - xs.length) * sz := by rw [← Nat.add_mul]; congr 1; omega
      omega
    exact ⟨d, by rw [e, List.getElem?_append_right (by omega), Nat.add_sub_cancel_left]; exact d1, d2⟩
theorem PRows.left {M : Nat → Nat → Option Value} {sz : Nat} {xs : List AV} {ds es : List Value} (h : PRows M sz xs ds) : PRows M sz xs (ds ++ es) :=
  fun i x hx => ⟨(h i x hx).1, fun j u hu => let ⟨d, d1, d2⟩ := (h i x hx).2 j u hu; ⟨d, by rw [List.getElem?_append_left (List.getElem?_eq_some_iff.1 d1).1]; exact d1, d2⟩⟩
/-- A part of a row's cells. -/
theorem PRows.sub {M : Nat → Nat → Option Value} {sz : Nat} {xs : List AV} {ds : List Value} (h : PRows M sz xs ds) (o n : Nat) (hn : o + n ≤ xs.length) (hl : xs.length * sz ≤ ds.length) : PRows M sz ((xs.drop o).take n) ((ds.drop (o * sz)).take (n * sz)) ∧ ((ds.drop (o * sz)).take (n * sz)).length = n * sz ∧ ((xs.drop o).take n).length = n := by
  have hm : (o + n) * sz ≤ xs.length * sz := Nat.mul_le_mul_right _ hn
  rw [Nat.add_mul] at hm
  refine ⟨fun i x hx => ?_, by rw [List.length_take, List.length_drop]; omega, by rw [List.length_take, List.length_drop]; omega⟩
  rw [List.getElem?_take] at hx
  split at hx
  · rename_i hi
    rw [List.getElem?_drop] at hx
    obtain ⟨h1, h2⟩ := h _ x hx
    refine ⟨h1, fun j u hu => ?_⟩
    obtain ⟨d, d1, d2⟩ := h2 j u hu
    have hj : j < sz := by rw [← h1]; exact (List.getElem?_eq_some_iff.1 hu).1
    have hi2 : (i + 1) * sz ≤ n * sz := Nat.mul_le_mul_right _ (by omega)
    rw [Nat.succ_mul] at hi2
    refine ⟨d, ?_, d2⟩
    rw [List.getElem?_take, if_pos (by omega), List.getElem?_drop, ← Nat.add_assoc, ← Nat.add_mul]; exact d1
  · cases hx
/-- The cells of frozen elements. -/
theorem frz_cells {sz b o : Nat} {xs : List AV} (h0 : 0 < sz) (h : ∀ (i : Nat) (x : AV), xs[i]? = some x → x.cells.length = sz ∧ ∀ (j : Nat) (u : AV), x.cells[j]? = some u → ∃ d, K.M b (o + i * sz + j) = some d ∧ PR K.M u d) :
    ∃ L : List Value, L.length = xs.length * sz ∧ PRows K.M sz xs L ∧ ∀ q d, L[q]? = some d → K.M b (o + q) = some d := by
  have key : ∀ q, q < xs.length * sz → ∃ d, K.M b (o + q) = some d := by
    intro q hq
    have hi : q / sz < xs.length := by rw [Nat.div_lt_iff_lt_mul h0]; omega
    obtain ⟨h1, h2⟩ := h _ _ (List.getElem?_eq_getElem hi)
    have hj : q % sz < (xs[q / sz]).cells.length := by rw [h1]; exact Nat.mod_lt _ h0
    obtain ⟨d, d1, _⟩ := h2 _ _ (List.getElem?_eq_getElem hj)
    rw [Nat.add_assoc, Nat.mul_comm, Nat.div_add_mod] at d1
    exact ⟨d, d1⟩
  have hL : ∀ q d, ((List.range (xs.length * sz)).map fun q => (K.M b (o + q)).getD undef)[q]? = some d ↔ q < xs.length * sz ∧ K.M b (o + q) = some d := by
    intro q d
    by_cases hq : q < xs.length * sz
    · obtain ⟨d', hd'⟩ := key q hq
      rw [List.getElem?_map, List.getElem?_range hq]
      simp [hd', hq]
    · rw [List.getElem?_eq_none (by simp; omega)]; simp [hq]
  refine ⟨(List.range (xs.length * sz)).map fun q => (K.M b (o + q)).getD undef, by simp, fun i x hx => ?_, fun q d hd => ((hL q d).1 hd).2⟩
  obtain ⟨h1, h2⟩ := h i x hx
  refine ⟨h1, fun j u hu => ?_⟩
  obtain ⟨d, d1, d2⟩ := h2 j u hu
  have hi := (List.getElem?_eq_some_iff.1 hx).1
  have hj : j < sz := by rw [← h1]; exact (List.getElem?_eq_some_iff.1 hu).1
  have hm : (i + 1) * sz ≤ xs.length * sz := Nat.mul_le_mul_right _ (by omega)
  rw [Nat.succ_mul] at hm
  exact ⟨d, (hL _ d).2 ⟨by omega, by rw [← Nat.add_assoc]; exact d1⟩, d2⟩

/-- What is appended, in cells. -/
theorem srcA_sound (hS : RelS K e get a w) {sz : Nat} {x : AV} {c : Value} {ys : List AV} {rd : List Nat} (h0 : 0 < sz) (hx : VR K x c) (h : srcA get sz x = some (ys, rd)) :
    ∃ ad m L, c = .slice ad ys.length m ∧ L.length = ys.length * sz ∧ PRows K.M sz ys L ∧ ys.length ≤ maxLen ∧ (∀ j q, L[j]? = some q → ∃ p, ad = some p ∧ w.cell? (p.add j) = some q) := by
  unfold srcA at h
  split at h
  · cases h
    obtain rfl := hx.nils_inv
    exact ⟨none, 0, [], rfl, by simp, fun i x hx => by simp at hx, Nat.zero_le _, by simp⟩
  · rename_i s zs
    split at h
    · rename_i hs
      cases h
      obtain rfl := beq_eq' hs
      cases hx with
      | pure hx =>
        cases hx with
        | lst sz xs ad c b o f hsz hc hm had hl hM h =>
          obtain ⟨L, l1, l2, l3⟩ := frz_cells (K := K) (b := b) (o := o) h0 (fun i x hx => ⟨hl i x hx, fun j u hu => ⟨_, hM i x j u hx hu, h i x j u hx hu⟩⟩)
          refine ⟨ad, c, L, rfl, l1, l2, by omega, fun j q hq => ?_⟩
          have hne : ys ≠ [] := by
            rintro rfl
            have := (List.getElem?_eq_some_iff.1 hq).1
            rw [l1] at this; simp at this
          refine ⟨_, had.resolve_left hne, ?_⟩
          rw [addr_mid]
          exact (hS.rel.mem _ _ _ (l3 j q hq)).1
    · cases h
  · rename_i id s n
    have hob := hS.rel.obj id
    split at h
    · rename_i T' s' zs hg
      split at h
      · rename_i hs
        cases h
        obtain rfl := beq_eq' hs
        rw [hg] at hob
        obtain ⟨p0, p1, p2, p3⟩ := hob
        have hk : K.kind id = .row s' ys.length := by rw [hS.kind, hg]; rfl
        cases hx with
        | pure hx => cases hx
        | row id s n c hk' hc hp =>
          rw [hk] at hc
          obtain ⟨hq0, ad, rfl, had⟩ := hc.resolve_left (by simp)
          have : s = s' ∧ n = ys.length := by
            rcases hq0 with hq0 | hq0 <;> first | (injection hq0 with e1 e2; exact ⟨e1.symm, e2.symm⟩) | cases hq0
          obtain ⟨rfl, rfl⟩ := this
          by_cases hcap : K.cap id = 0
          · have : ys = [] := List.eq_nil_of_length_eq_zero (by omega)
            subst this
            exact ⟨ad, K.cap id, [], rfl, by simp, fun i x hx => by simp at hx, Nat.zero_le _, by simp⟩
          · obtain ⟨ds, d1, d2, d3⟩ := p3 hcap
            have hle : ys.length * s ≤ (ds.toList.drop (K.off id)).length := by rw [show (ds.toList.drop (K.off id)).length = K.cap id * s by simp; omega]; exact Nat.mul_le_mul_right _ p1
            obtain ⟨s1, s2, s3⟩ := d3.sub 0 ys.length (by omega) hle
            rw [Nat.zero_mul, List.drop_zero] at s1 s2
            rw [List.drop_zero, List.take_length] at s1
            refine ⟨ad, K.cap id, _, rfl, s2, s1, by omega, fun j q hq => ⟨_, had hcap, ?_⟩⟩
            rw [addr_mid]
            refine cellOf d1 _ ?_
            rw [List.getElem?_take] at hq
            split at hq
            · rw [List.getElem?_drop] at hq; simpa using hq
            · cases hq
      · cases h
    · rename_i T' s' zs hg
      split at h
      · rename_i hs
        cases h
        obtain rfl := beq_eq' hs
        rw [hg] at hob
        obtain ⟨p0, p1, p2, p3⟩ := hob
        have hk : K.kind id = .frz s' ys.length := by rw [hS.kind, hg]; rfl
        cases hx with
        | pure hx => cases hx
        | row id s n c hk' hc hp =>
          rw [hk] at hc
          obtain ⟨hq0, ad, rfl, had⟩ := hc.resolve_left (by simp)
          have : s = s' ∧ n = ys.length := by
            rcases hq0 with hq0 | hq0 <;> first | (injection hq0 with e1 e2; exact ⟨e1.symm, e2.symm⟩) | cases hq0
          obtain ⟨rfl, rfl⟩ := this
          obtain ⟨L, l1, l2, l3⟩ := frz_cells (K := K) (b := K.blk id) (o := K.off id) h0 (fun i x hx => p3 i x hx)
          refine ⟨ad, K.cap id, L, rfl, l1, l2, by omega, fun j q hq => ?_⟩
          have hne : K.cap id ≠ 0 := by
            intro h9
            have := (List.getElem?_eq_some_iff.1 hq).1
            rw [l1, show ys.length = 0 by omega] at this; simp at this
          refine ⟨_, had hne, ?_⟩
          rw [addr_mid]
          exact (hS.rel.mem _ _ _ (l3 j q hq)).1
      · cases h
    · cases h
  · rename_i id s off n
    have hob := hS.rel.obj id
    split at h
    · rename_i T' s' zs hg
      split at h
      · rename_i hs
        cases h
        obtain rfl := beq_eq' hs
        rw [hg] at hob
        obtain ⟨p0, p1, p2, p3⟩ := hob
        have hk : K.kind id = .row s' zs.length := by rw [hS.kind, hg]; rfl
        cases hx with
        | pure hx => cases hx
        | rws id s off n c hk' hc hp =>
          rw [hk] at hc
          obtain ⟨n', ad, m, hq0, hn, rfl, had⟩ := hc.resolve_left (by simp)
          have : s = s' ∧ n' = zs.length := by
            rcases hq0 with hq0 | hq0 <;> first | (injection hq0 with e1 e2; exact ⟨e1.symm, e2.symm⟩) | cases hq0
          obtain ⟨rfl, rfl⟩ := this
          have hlen : ((zs.drop off).take n).length = n := by rw [List.length_take, List.length_drop]; omega
          rw [hlen]
          by_cases hcap : K.cap id = 0
          · have : zs = [] := List.eq_nil_of_length_eq_zero (by omega)
            subst this
            obtain rfl : n = 0 := by simp at hn; omega
            exact ⟨ad, m, [], rfl, by simp, fun i x hx => by simp at hx, Nat.zero_le _, by simp⟩
          · obtain ⟨ds, d1, d2, d3⟩ := p3 hcap
            have hle : zs.length * s ≤ (ds.toList.drop (K.off id)).length := by rw [show (ds.toList.drop (K.off id)).length = K.cap id * s by simp; omega]; exact Nat.mul_le_mul_right _ p1
            obtain ⟨s1, s2, s3⟩ := d3.sub off n hn hle
            refine ⟨ad, m, _, rfl, s2, s1, by omega, fun j q hq => ?_⟩
            have hj := (List.getElem?_eq_some_iff.1 hq).1
            rw [s2] at hj
            have hn0 : n ≠ 0 := by rintro rfl; simp at hj
            refine ⟨_, had hn0, ?_⟩
            rw [addr_mid]
            refine cellOf d1 _ ?_
            rw [List.getElem?_take, if_pos hj, List.getElem?_drop, List.getElem?_drop, ← Nat.add_assoc] at hq
            simpa using hq
      · cases h
    · rename_i T' s' zs hg
      split at h
      · rename_i hs
        cases h
        obtain rfl := beq_eq' hs
        rw [hg] at hob
        obtain ⟨p0, p1, p2, p3⟩ := hob
        have hk : K.kind id = .frz s' zs.length := by rw [hS.kind, hg]; rfl
        cases hx with
        | pure hx => cases hx
        | rws id s off n c hk' hc hp =>
          rw [hk] at hc
          obtain ⟨n', ad, m, hq0, hn, rfl, had⟩ := hc.resolve_left (by simp)
          have : s = s' ∧ n' = zs.length := by
            rcases hq0 with hq0 | hq0 <;> first | (injection hq0 with e1 e2; exact ⟨e1.symm, e2.symm⟩) | cases hq0
          obtain ⟨rfl, rfl⟩ := this
          have hlen : ((zs.drop off).take n).length = n := by rw [List.length_take, List.length_drop]; omega
          obtain ⟨L, l1, l2, l3⟩ := frz_cells (K := K) (b := K.blk id) (o := K.off id) h0 (fun i x hx => p3 i x hx)
          obtain ⟨s1, s2, s3⟩ := l2.sub off n hn (by omega)
          rw [hlen]
          refine ⟨ad, m, _, rfl, s2, s1, by omega, fun j q hq => ?_⟩
          have hj := (List.getElem?_eq_some_iff.1 hq).1
          rw [s2] at hj
          have hn0 : n ≠ 0 := by rintro rfl; simp at hj
          refine ⟨_, had hn0, ?_⟩
          rw [addr_mid]
          rw [List.getElem?_take, if_pos hj, List.getElem?_drop] at hq
          have := (hS.rel.mem _ _ _ (l3 _ q hq)).1
          rwa [← Nat.add_assoc] at this
      · cases h
    · cases h
  · cases h
end
end Go.Proofs.YtidgcfgkcidkiaaGreat.X
namespace Go.Proofs.YtidgcfgkcidkiaaGreat.X
open Go Go.Proofs.YtidgcfgkcidkiaaGreat.L Go.RowKit
set_option linter.unusedVariables false
set_option linter.unusedSimpArgs false
section
variable {P : Program} {K : Ctx} {e : Nat → Option AV} {get : Nat → Obj} {a : Act} {w : World}
theorem append_exec {o : Oper} {args : Array Operand} {ats : Array TypeId} (hop : o.op = .call { callee := .builtin .append, args, argTypes := ats }) (xs xx : Operand) (h2 : args.toList = [xs, xx]) {v : Value} {w' : World} (hr : (Builtin.append_ ats o.type #[a.eval xs, a.eval xx]).run P w = .ok v w') : (execOp a.eval o).run P w = .ok (.value v) w' := by
  have e := list2 h2
  simp only [execOp, hop, resolve, invoke, builtin, e]
  simp [hr]
theorem appendA_sound (hS : RelS K e get a w) {o : Oper} {next : Act → World → Prop} {Q : Exit → Act → World → Prop} {base : Nat} {tS tX : TypeId} {args : Array Operand} {ats : Array TypeId} {xs xx : Operand} {s x : AV} {g g' : List Gd} {E : Eff} {ob : List Prop} (hop : o.op = .call { callee := .builtin .append, args, argTypes := ats }) (h2 : args.toList = [xs, xx]) (hats : ats.toList = [tS, tX])
    (hs : VR K s (a.eval xs)) (hx : VR K x (a.eval xx)) (hb : get base = .hole) (h : appendA P get base tS tX s x g = some (E, ob, g')) (ho : AllP ob)
    (hn : Then P K get a w o E next) : o.wp P a w next Q := by
  have hkb : K.kind base = .hole := by rw [hS.kind, hb]; rfl
  unfold appendA at h
  split at h
  · rename_i el hu ht
    obtain rfl := beq_eq' ht
    have eats := list2 hats
    split at h
    · rename_i i hi
      split at h
      · rename_i ys rd z hsrc hz
        obtain ⟨i', zv, hi', hzv, hcz, hzl⟩ := zeroA_inv hz
        rw [hi] at hi'; injection hi' with hi'; subst hi'
        have hzs : zv.cells.size = i.size := by
          have := (cst_cells (K := K) hcz).1.1
          simp at this; omega
        split at h
        · split at h
          · rename_i n1 zs o1 g1 hsz hls
            cases h
            have h0 : 0 < i.size := by rw [hsz]; omega
            have hzs' := lsA_sound hls ho.2
            subst hzs'
            obtain ⟨ad2, m2, L, hc, l1, l2, l3, l4⟩ := srcA_sound hS h0 hx hsrc
            have hs' := hs.nils_inv
            obtain ⟨ad', c', w', b', pre', r1, r2, r3, r4, r5⟩ := append_run (P := P) (w := w) hu hi hzv hzs o.type (ad := none) (n := 0) (c := 0) (pre := []) (live := []) (m := zs.length) (c2 := m2) (by simp) l1 (Nat.le_refl _) (Nat.zero_le _) (fun h => absurd rfl h) l4 (l2.one l1 h0) h0 (fun _ => .inl rfl) (by rw [Nat.zero_add]; exact ho.1) (by rw [Nat.zero_add]; exact l3)
            rw [Nat.zero_add] at r1 r2
            have hrun := append_exec (P := P) (a := a) (w := w) hop xs xx h2 (by rw [eats, hs', hc]; exact r1)
            have hk' : Keeps (fun x => K.own base ∧ K.blk base = x) w w' := r4.mono fun _ _ h => absurd rfl h.1
            have hB : ∃ B, w.heap.size ≤ B ∧ (c' ≠ 0 → b' = B) := by
              by_cases hc0 : c' = 0
              · exact ⟨w.heap.size, Nat.le_refl _, fun h => absurd hc0 h⟩
              · obtain ⟨_, _, h9⟩ := r5 hc0
                exact ⟨b', h9.resolve_left (fun h => h.1 rfl), fun _ => rfl⟩
            obtain ⟨B, hB1, hB2⟩ := hB
            obtain ⟨q1, q2, q3⟩ := hS.rel.put (id := base) (o := .row el i.size zs) (b := B) (c := c') (f := pre'.length) (w' := w') hk' (.inl hkb) (fun _ => hB1)
              ⟨h0, by rw [put_cap]; exact r2, by rw [put_cap]; exact r3, fun hne => by
                rw [put_cap] at hne ⊢
                rw [put_blk, put_off]
                obtain ⟨_, ⟨dead', d1, d2⟩, _⟩ := r5 hne
                rw [← hB2 hne]
                refine ⟨_, d1, by simp at d2 ⊢; omega, ?_⟩
                show PRows K.M _ _ (List.drop pre'.length (pre' ++ ([] ++ L ++ dead')))
                rw [List.drop_left]
                simpa using l2.left⟩
            refine then_value hn hrun q1 q2 q3 ?_
            rintro v ⟨rfl⟩
            exact .row _ _ _ _ (by rw [put_kind]; simp [Obj.kind]) (.inr ⟨.inl (by rw [put_kind]; rfl), _, by rw [put_cap], fun hne => by rw [put_cap] at hne; rw [put_blk, put_off, ← hB2 hne]; exact (r5 hne).1⟩) ⟨_, _, rfl, r2, r3, fun hne => ⟨_, (r5 hne).1⟩⟩
          · cases h
        · rename_i id sh n
          split at h
          · rename_i T' sz ws hg
            split at h
            · rename_i zs o1 g1 hT hsz hrd hby1 hls
              cases h
              obtain rfl := beq_eq' hT
              have hszE := beq_eq' hsz
              subst hszE
              have hob := hS.rel.obj id
              rw [hg] at hob
              obtain ⟨h0, p1, p2, p3⟩ := hob
              have hk : K.kind id = .row i.size ws.length := by rw [hS.kind, hg]; rfl
              have hzs' := lsA_sound hls ho.2
              subst hzs'
              obtain ⟨ad2, m2, L, hc, l1, l2, l3, l4⟩ := srcA_sound hS h0 hx hsrc
              have hne : base ≠ id := by rintro rfl; rw [hb] at hg; cases hg
              generalize hc1 : a.eval xs = c1 at hs
              cases hs with
              | pure hs => cases hs
              | row _ _ _ _ hk' hq hp =>
                rw [hk] at hq
                obtain ⟨hq0, ad, hcv, had⟩ := hq.resolve_left (by simp)
                have : sh = i.size ∧ n = ws.length := by
                  rcases hq0 with hq0 | hq0 <;> first | (injection hq0 with e1 e2; exact ⟨e1.symm, e2.symm⟩) | cases hq0
                obtain ⟨rfl, rfl⟩ := this
                have hbytes : (ws.length + ys.length) * i.bytes ≤ 140737488355328 := ho.1
                have hmax : ws.length + ys.length ≤ maxLen := by
                  have := Nat.le_mul_of_pos_right (ws.length + ys.length) (Nat.le_of_ble_eq_true hby1)
                  simp only [maxLen]; omega
                have hlive : ∃ live : List Value, live.length = ws.length * i.size ∧ PRows K.M i.size ws live ∧ ∃ pre : List Value, (K.cap id ≠ 0 → pre.length = K.off id) ∧ (K.cap id ≠ 0 → ∃ dead, w.heap[K.blk id]? = some (.cells (pre ++ (live ++ dead)).toArray T' (0, 0)) ∧ (live ++ dead).length = K.cap id * i.size) := by
                  by_cases hcap : K.cap id = 0
                  · have : ws = [] := List.eq_nil_of_length_eq_zero (by omega)
                    subst this
                    exact ⟨[], by simp, fun i x hx => by simp at hx, [], fun h => absurd hcap h, fun h => absurd hcap h⟩
                  · obtain ⟨ds, d1, d2, d3⟩ := p3 hcap
                    have hle : ws.length * i.size ≤ (ds.toList.drop (K.off id)).length := by rw [show (ds.toList.drop (K.off id)).length = K.cap id * i.size by simp; omega]; exact Nat.mul_le_mul_right _ p1
                    obtain ⟨s1, s2, s3⟩ := d3.sub 0 ws.length (by omega) hle
                    rw [Nat.zero_mul, List.drop_zero] at s1 s2
                    rw [List.drop_zero, List.take_length] at s1
                    refine ⟨_, s2, s1, ds.toList.take (K.off id), fun _ => by simp; omega, fun _ => ⟨(ds.toList.drop (K.off id)).drop (ws.length * i.size), ?_, ?_⟩⟩
                    · rw [List.take_append_drop, List.take_append_drop]; simpa using d1
                    · rw [List.take_append_drop]; simp; omega
                obtain ⟨live, v1, v2, pre, v0, v3⟩ := hlive
                have had : K.cap id ≠ 0 → ad = some ⟨K.blk id, pre.length, none⟩ := fun h => by rw [v0 h]; exact had h
                obtain ⟨ad', c', w', b', pre', r1, r2, r3, r4, r5⟩ := append_run (P := P) (w := w) hu hi hzv hzs o.type (ad := ad) (ad2 := ad2) (n := ws.length) (c := K.cap id) (pre := pre) (live := live) (live2 := L) (m := ys.length) (c2 := m2) v1 l1 p1 p2 (fun hcap => by
                    obtain ⟨dead, d1, d2⟩ := v3 hcap
                    exact ⟨K.blk id, dead, had hcap, d1, d2⟩) l4 (l2.one l1 h0) h0 (fun _ => by cases ad; exact .inl rfl; exact .inr ⟨_, rfl⟩) hbytes hmax
                have hrun := append_exec (P := P) (a := a) (w := w) hop xs xx h2 (by rw [eats, hc1, hcv, hc]; exact r1)
                have hown : K.cap id ≠ 0 → K.own id := fun h => by unfold Ctx.own; rw [hk]; exact h
                have hB : ∃ B, ((K.own id ∧ K.blk id = B) ∨ w.heap.size ≤ B) ∧ (c' ≠ 0 → b' = B) := by
                  by_cases hc0 : c' = 0
                  · exact ⟨w.heap.size, .inr (Nat.le_refl _), fun h => absurd hc0 h⟩
                  · obtain ⟨_, _, h9⟩ := r5 hc0
                    refine ⟨b', ?_, fun _ => rfl⟩
                    rcases h9 with ⟨h8, h9⟩ | h9
                    · rw [had h8] at h9; injection h9 with h9; injection h9 with h9
                      exact .inl ⟨hown h8, h9⟩
                    · exact .inr h9
                obtain ⟨B, hB1, hB2⟩ := hB
                let K' : Ctx := (K.put id .gone (K.blk id) (K.cap id) (K.off id)).put base (Obj.row T' i.size (ws ++ ys)).kind B c' pre'.length
                have kid : K'.kind id = .gone := by show (if id = base then _ else if id = id then _ else _) = _; rw [if_neg (Ne.symm hne), if_pos rfl]
                have kba : K'.kind base = .row i.size (ws ++ ys).length := put_kind
                have bba : K'.blk base = B := put_blk
                have cba : K'.cap base = c' := put_cap
                have oba : K'.off base = pre'.length := put_off
                have hoth : ∀ j, ¬ (j = id ∨ j = base) → K'.kind j = K.kind j ∧ K'.blk j = K.blk j ∧ K'.cap j = K.cap j ∧ K'.off j = K.off j := by
                  intro j hj
                  have h8 : j ≠ id := fun h => hj (.inl h)
                  have h9 : j ≠ base := fun h => hj (.inr h)
                  exact ⟨by simp [K', Ctx.put, h8, h9], by simp [K', Ctx.put, h8, h9], by simp [K', Ctx.put, h8, h9], by simp [K', Ctx.put, h8, h9]⟩
                have hle : K.le K' := ⟨fun _ _ _ h => h, fun j hj => by
                  by_cases h8 : j = id
                  · subst h8; exact .inl kid
                  · by_cases h9 : j = base
                    · subst h9; exact absurd hkb hj
                    · obtain ⟨q1, q2, q3, q4⟩ := hoth j (fun h => h.elim h8 h9)
                      exact .inr ⟨q2, q3, q4, .inl q1⟩⟩
                have hnid : ¬ K'.own id := by unfold Ctx.own; rw [kid]; exact fun h => h
                obtain ⟨q1, q3⟩ := hS.rel.change (K' := K') (get' := updG get [(id, .gone), (base, .row T' i.size (ws ++ ys))]) (w' := w') (fun j => j = id ∨ j = base) hle
                  (fun j hj => by
                    obtain ⟨q1, q2, q3, q4⟩ := hoth j hj
                    have h8 : j ≠ id := fun h => hj (.inl h)
                    have h9 : j ≠ base := fun h => hj (.inr h)
                    exact ⟨q1, q2, q3, q4, by simp [updG, putG, h8, h9]⟩)
                  (r4.mono fun k _ ⟨h8, h9⟩ => by
                    rw [had h8] at h9; injection h9 with h9; injection h9 with h9
                    exact ⟨id, .inl rfl, hown h8, h9⟩)
                  (by
                    rintro j (rfl | rfl)
                    · rw [kid]; simp [updG, putG, Ne.symm hne, Obj.kind]
                    · rw [kba]; simp [updG, putG, Obj.kind])
                  (by
                    rintro j (rfl | rfl) hv
                    · rw [hk] at hv; cases hv
                    · rw [hkb] at hv; cases hv)
                  (by
                    rintro j (rfl | rfl)
                    · simp [updG, putG, Ne.symm hne, OR]
                    · simp only [updG, putG, if_true]
                      refine ⟨h0, by rw [cba]; simpa using r2, by rw [cba]; exact r3, fun hne' => ?_⟩
                      rw [cba] at hne' ⊢
                      rw [bba, oba]
                      obtain ⟨_, ⟨dead', d1, d2⟩, _⟩ := r5 hne'
                      rw [← hB2 hne']
                      refine ⟨_, d1, by simp at d2 ⊢; omega, ?_⟩
                      show PRows K.M _ _ (List.drop pre'.length (pre' ++ (live ++ L ++ dead')))
                      rw [List.drop_left]
                      exact (v2.append l2 v1).left)
                  (by
                    rintro j (rfl | rfl) hj
                    · exact absurd hj hnid
                    · rw [bba]
                      rcases hB1 with ⟨h8, h9⟩ | h8
                      · exact .inl ⟨id, .inl rfl, h8, h9⟩
                      · exact .inr h8)
                  (by
                    rintro j k (rfl | rfl) (rfl | rfl) hj hk _
                    · rfl
                    · exact absurd hj hnid
                    · exact absurd hk hnid
                    · rfl)
                  (fun b o v hv => .inl hv)
                refine then_value hn hrun q1 hle q3 ?_
                rintro v ⟨rfl⟩
                rw [List.length_append] at kba ⊢
                exact .row _ _ _ _ (by rw [kba]; simp) (.inr ⟨.inl kba, _, by rw [cba], fun hne => by rw [cba] at hne; rw [bba, oba, ← hB2 hne]; exact (r5 hne).1⟩) ⟨_, _, rfl, r2, r3, fun hne => ⟨_, (r5 hne).1⟩⟩
            · cases h
          · cases h
        · cases h
      · cases h
    · cases h
  · cases h
end
end Go.Proofs.YtidgcfgkcidkiaaGreat.X
namespace Go.Proofs.YtidgcfgkcidkiaaGreat.X
open Go Go.Proofs.YtidgcfgkcidkiaaGreat.L Go.RowKit
set_option linter.unusedVariables false
set_option linter.unusedSimpArgs false
section
variable {P : Program} {K K' : Ctx} {e : Nat → Option AV} {get : Nat → Obj} {a : Act} {w w' : World}
/-- With the rows of B frozen. -/
def frzB (B : Nat → Bool) (get : Nat → Obj) (i : Nat) : Obj :=
  match get i, B i with
  | .row T sz xs, true => .frz T sz xs
  | o, _ => o
open Classical in
noncomputable def Ctx.frz (K : Ctx) (B : Nat → Bool) (get : Nat → Obj) (w : World) : Ctx :=
  { K with
    M := fun b o => match K.M b o with
      | some v => some v
      | none => if ∃ id T sz xs, B id = true ∧ get id = .row T sz xs ∧ K.cap id ≠ 0 ∧ K.blk id = b ∧ K.off id ≤ o ∧ o < K.off id + xs.length * sz then w.cell? ⟨b, o, none⟩ else none
    kind := fun i => match K.kind i, B i with
      | .row sz n, true => .frz sz n
      | k, _ => k }
theorem frz_M {B : Nat → Bool} {b o : Nat} {v : Value} (h : K.M b o = some v) : (K.frz B get w).M b o = some v := by simp [Ctx.frz, h]
theorem frz_M_inv {B : Nat → Bool} {b o : Nat} {v : Value} (h : (K.frz B get w).M b o = some v) : K.M b o = some v ∨ (w.cell? ⟨b, o, none⟩ = some v ∧ ∃ id T sz xs, B id = true ∧ get id = .row T sz xs ∧ K.cap id ≠ 0 ∧ K.blk id = b ∧ K.off id ≤ o ∧ o < K.off id + xs.length * sz) := by
  simp only [Ctx.frz] at h
  split at h
  · rename_i v' hv; exact .inl (hv.trans h)
  · split at h
    · rename_i hc; exact .inr ⟨h, hc⟩
    · cases h
theorem frz_kind (B : Nat → Bool) (h : Rel K get w) (i : Nat) : (K.frz B get w).kind i = (frzB B get i).kind := by
  simp only [Ctx.frz, frzB]
  rw [h.kinds i]
  cases hg : get i <;> cases hB : B i <;> simp [Obj.kind]
theorem frz_le (B : Nat → Bool) : K.le (K.frz B get w) := by
  refine ⟨fun b o v h => frz_M h, fun i hi => .inr ⟨rfl, rfl, rfl, ?_⟩⟩
  simp only [Ctx.frz]
  split
  · rename_i sz n hk hB; exact .inr ⟨sz, n, hk, rfl⟩
  · exact .inl rfl
theorem Rel.frzW (h : Rel K get w) (B : Nat → Bool) (hkeep : Keeps (fun b => ∃ j, (B j = true ∧ ∃ T sz xs, get j = .row T sz xs) ∧ K.own j ∧ K.blk j = b) w w') (hcell : ∀ a v, w.cell? a = some v → w'.cell? a = some v) : Rel (K.frz B get w) (frzB B get) w' ∧ ∀ m, Grow m K w (K.frz B get w) w' := by
  have hown : ∀ {i : Nat} {T sz : Nat} {xs : List AV}, get i = .row T sz xs → K.cap i ≠ 0 → K.own i := fun {i T sz xs} hg hc => by unfold Ctx.own; rw [h.kinds i, hg]; exact hc
  have hcells : ∀ {i : Nat} {T sz : Nat} {xs : List AV}, get i = .row T sz xs → K.cap i ≠ 0 → ∃ ds, w.heap[K.blk i]? = some (.cells ds T (0, 0)) ∧ ds.size = K.off i + K.cap i * sz ∧ PRows K.M sz xs (ds.toList.drop (K.off i)) ∧ 0 < sz ∧ xs.length ≤ K.cap i := fun {i T sz xs} hg hc => by
    have := h.obj i
    rw [hg] at this
    obtain ⟨h0, h1, h2, h3⟩ := this
    obtain ⟨ds, d1, d2, d3⟩ := h3 hc
    exact ⟨ds, d1, d2, d3, h0, h1⟩
  refine h.change (K' := K.frz B get w) (get' := frzB B get) (w' := w') (fun i => B i = true ∧ ∃ T sz xs, get i = .row T sz xs) (frz_le B) (fun i hi => ?_) hkeep (fun i _ => frz_kind B h i) (fun i hi hv => ?_) (fun i hi => ?_) (fun i hi ho => ?_) (fun i j hi hj ho => ?_) (fun b o v hv => ?_)
  · have hk : (K.frz B get w).kind i = K.kind i := by
      rw [frz_kind B h, h.kinds]
      unfold frzB
      split
      · rename_i T sz xs hg hB; exact absurd ⟨hB, _, _, _, hg⟩ hi
      · rfl
    refine ⟨hk, rfl, rfl, rfl, ?_⟩
    unfold frzB
    split
    · rename_i T sz xs hg hB; exact absurd ⟨hB, _, _, _, hg⟩ hi
    · rfl
  · obtain ⟨_, T, sz, xs, hg⟩ := hi
    rw [h.kinds, hg] at hv; cases hv
  · obtain ⟨hB, T, sz, xs, hg⟩ := hi
    have hf : frzB B get i = .frz T sz xs := by simp [frzB, hg, hB]
    rw [hf]
    have hob := h.obj i
    rw [hg] at hob
    obtain ⟨h0, h1, h2, h3⟩ := hob
    refine ⟨h0, h1, h2, fun k x hx => ?_⟩
    have hc : K.cap i ≠ 0 := by have := (List.getElem?_eq_some_iff.1 hx).1; omega
    obtain ⟨ds, d1, d2, d3⟩ := h3 hc
    obtain ⟨q1, q2⟩ := d3 k x hx
    refine ⟨q1, fun j u hu => ?_⟩
    obtain ⟨d, r1, r2⟩ := q2 j u hu
    refine ⟨d, ?_, r2.mono fun _ _ _ => frz_M⟩
    have hsep := h.sep i (K.off i + k * sz + j) (hown hg hc)
    have hk := (List.getElem?_eq_some_iff.1 hx).1
    have hj : j < sz := by rw [← q1]; exact (List.getElem?_eq_some_iff.1 hu).1
    have hm : (k + 1) * sz ≤ xs.length * sz := Nat.mul_le_mul_right _ (by omega)
    rw [Nat.succ_mul] at hm
    show (match K.M (K.blk i) (K.off i + k * sz + j) with | some v => some v | none => _) = _
    rw [hsep]
    simp only
    rw [if_pos ⟨i, T, sz, xs, hB, hg, hc, rfl, by show K.off i ≤ K.off i + k * sz + j; omega, by show K.off i + k * sz + j < K.off i + xs.length * sz; omega⟩]
    exact cellOf d1 (K.off i + k * sz + j) (by rw [List.getElem?_drop, ← Nat.add_assoc] at r1; simpa using r1)
  · obtain ⟨hB, T, sz, xs, hg⟩ := hi
    unfold Ctx.own at ho
    rw [frz_kind B h] at ho
    simp [frzB, hg, hB, Obj.kind] at ho
  · obtain ⟨hB, T, sz, xs, hg⟩ := hi
    unfold Ctx.own at ho
    rw [frz_kind B h] at ho
    simp [frzB, hg, hB, Obj.kind] at ho
  · rcases frz_M_inv hv with h1 | ⟨h1, id, T, sz, xs, hB, hg, hc, rfl, ho0, ho⟩
    · exact .inl h1
    · refine .inr ⟨.inl ⟨id, ⟨hB, T, sz, xs, hg⟩, hown hg hc, rfl⟩, hcell _ _ h1, ?_, fun i hi hoi => ?_⟩
      · obtain ⟨ds, d1, d2, d3, h0, hlen⟩ := hcells hg hc
        have hle : xs.length * sz ≤ (ds.toList.drop (K.off id)).length := by rw [show (ds.toList.drop (K.off id)).length = K.cap id * sz by simp; omega]; exact Nat.mul_le_mul_right _ hlen
        obtain ⟨s1, s2, s3⟩ := d3.sub 0 xs.length (by omega) hle
        rw [Nat.zero_mul, List.drop_zero] at s1 s2
        rw [List.drop_zero, List.take_length] at s1
        refine s1.one s2 h0 v ?_
        rw [cell_of_row w _ o ds T _ d1] at h1
        refine List.mem_of_getElem? (i := o - K.off id) ?_
        rw [List.getElem?_take, if_pos (by omega), List.getElem?_drop, show K.off id + (o - K.off id) = o by omega]; simpa using h1
      · obtain ⟨hB', T', sz', xs', hg'⟩ := hi
        unfold Ctx.own at hoi
        rw [frz_kind B h] at hoi
        simp [frzB, hg', hB', Obj.kind] at hoi

theorem Rel.frz (h : Rel K get w) (B : Nat → Bool) : Rel (K.frz B get w) (frzB B get) w ∧ ∀ m, Grow m K w (K.frz B get w) w := h.frzW B (Keeps.refl _ _) (fun _ _ h => h)

/-- A frozen row is a list. -/
theorem frz_list (h : Rel K get w) {id T s n : Nat} {sz : Nat} {xs : List AV} {c : Value} (hg : get id = .frz T sz xs) (hv : VR K (.row id s n) c) : PR K.M (.lst sz xs) c := by
  have hk : K.kind id = .frz sz xs.length := by rw [h.kinds, hg]; rfl
  have hob := h.obj id
  rw [hg] at hob
  obtain ⟨h0, h1, h2, h3⟩ := hob
  cases hv with
  | pure hv => cases hv
  | row _ _ _ _ hk' hq hp =>
    rw [hk] at hq
    obtain ⟨hq0, ad, rfl, had⟩ := hq.resolve_left (by simp)
    have : s = sz ∧ n = xs.length := by
      rcases hq0 with hq0 | hq0 <;> first | (injection hq0 with e1 e2; exact ⟨e1.symm, e2.symm⟩) | cases hq0
    obtain ⟨rfl, rfl⟩ := this
    refine .lst s xs ad (K.cap id) (K.blk id) (K.off id) (fun i j => (K.M (K.blk id) (K.off id + i * s + j)).getD undef) h0 h1 h2 ?_ (fun i x hx => (h3 i x hx).1) (fun i x j u hx hu => ?_) fun i x j u hx hu => ?_
    · by_cases hx : xs = []
      · exact .inl hx
      · have := List.length_pos_iff.2 hx
        exact .inr (had (by omega))
    · obtain ⟨d, d1, d2⟩ := (h3 i x hx).2 j u hu
      simp [d1]
    · obtain ⟨d, d1, d2⟩ := (h3 i x hx).2 j u hu
      simpa [d1] using d2
theorem frz_list_sub (h : Rel K get w) {id T s off n : Nat} {sz : Nat} {xs : List AV} {c : Value} (hg : get id = .frz T sz xs) (hv : VR K (.rws id s off n) c) : PR K.M (.lst sz ((xs.drop off).take n)) c := by
  have hk : K.kind id = .frz sz xs.length := by rw [h.kinds, hg]; rfl
  have hob := h.obj id
  rw [hg] at hob
  obtain ⟨h0, h1, h2, h3⟩ := hob
  cases hv with
  | pure hv => cases hv
  | rws _ _ _ _ _ hk' hq hp =>
    rw [hk] at hq
    obtain ⟨n', ad, m, hq0, hn, rfl, had⟩ := hq.resolve_left (by simp)
    have : s = sz ∧ n' = xs.length := by
      rcases hq0 with hq0 | hq0 <;> first | (injection hq0 with e1 e2; exact ⟨e1.symm, e2.symm⟩) | cases hq0
    obtain ⟨rfl, rfl⟩ := this
    obtain ⟨ad', m', hc, hm1, hm2, _⟩ := hp
    injection hc with _ _ e3; subst e3
    have hlen : ((xs.drop off).take n).length = n := by rw [List.length_take, List.length_drop]; omega
    have key : ∀ (i : Nat) (x : AV), ((xs.drop off).take n)[i]? = some x → xs[off + i]? = some x := by
      intro i x hx
      rw [List.getElem?_take] at hx
      split at hx
      · rwa [List.getElem?_drop] at hx
      · cases hx
    have := PR.lst (M := K.M) s ((xs.drop off).take n) ad m (K.blk id) (K.off id + off * s) (fun i j => (K.M (K.blk id) (K.off id + (off + i) * s + j)).getD undef) h0 (by rw [hlen]; exact hm1) hm2 ?_ (fun i x hx => (h3 _ x (key i x hx)).1) (fun i x j u hx hu => ?_) fun i x j u hx hu => ?_
    · rwa [hlen] at this
    · by_cases hx : (xs.drop off).take n = []
      · exact .inl hx
      · have := List.length_pos_iff.2 hx
        exact .inr (had (by omega))
    · obtain ⟨d, d1, d2⟩ := (h3 _ x (key i x hx)).2 j u hu
      rw [Nat.add_assoc (K.off id), ← Nat.add_mul, d1]; rfl
    · obtain ⟨d, d1, d2⟩ := (h3 _ x (key i x hx)).2 j u hu
      rw [d1]; exact d2

/-- The same things under other numbers. -/
structure Ren (r : Nat → Option Nat) (getC : Nat → Obj) (K K' : Ctx) : Prop where
  mem : ∀ b o v, K.M b o = some v → K'.M b o = some v
  at_ : ∀ id j, r id = some j → K.kind id ≠ .hole → K'.kind j = K.kind id ∧ K'.blk j = K.blk id ∧ ((∃ sz n, K.kind id = .row sz n ∨ K.kind id = .frz sz n) → K'.cap j = K.cap id ∧ K'.off j = K.off id)
  lst : ∀ id T sz xs, getC id = .frz T sz xs → ∀ c, (∀ s n, VR K (.row id s n) c → PR K'.M (.lst sz xs) c) ∧ (∀ s o n, VR K (.rws id s o n) c → PR K'.M (.lst sz ((xs.drop o).take n)) c)
theorem Ren.ren0 {r : Nat → Option Nat} {getC : Nat → Obj} (hr : Ren r getC K K') {u : AV} {c : Value} (h : VR K u c) : VR K' (ren0 r getC u) c := by
  have h' := h
  cases h with
  | pure h => cases h <;> exact .pure (PR.mono hr.mem (by cases h' with | pure h => exact h))
  | ptr id off c hk h hp =>
    simp only [X.ren0]
    split
    · rename_i j hj
      obtain ⟨k1, k2, _⟩ := hr.at_ id j hj hk
      exact .ptr _ _ _ (by rw [k1]; exact hk) (by rw [k1, k2]; exact h) hp
    · exact .dead _
  | row id sz n c hk h hp =>
    simp only [X.ren0]
    split
    · rename_i j hj
      obtain ⟨k1, k2, k3⟩ := hr.at_ id j hj hk
      refine .row _ _ _ _ (by rw [k1]; exact hk) ?_ hp
      rw [k1, k2]
      rcases h with h | ⟨h1, ad, h2, h3⟩
      · exact .inl h
      · rw [(k3 ⟨sz, n, h1⟩).1, (k3 ⟨sz, n, h1⟩).2]; exact .inr ⟨h1, ad, h2, h3⟩
    · split
      · rename_i T s xs hg; exact .pure ((hr.lst id T s xs hg c).1 sz n h')
      · exact .dead _
  | rws id sz off n c hk h hp =>
    simp only [X.ren0]
    split
    · rename_i j hj
      obtain ⟨k1, k2, k3⟩ := hr.at_ id j hj hk
      refine .rws _ _ _ _ _ (by rw [k1]; exact hk) ?_ hp
      rw [k1, k2]
      rcases h with h | ⟨n', ad, m, h1, h2⟩
      · exact .inl h
      · rw [(k3 ⟨sz, n', h1⟩).2]; exact .inr ⟨n', ad, m, h1, h2⟩
    · split
      · rename_i T s xs hg; exact .pure ((hr.lst id T s xs hg c).2 sz off n h')
      · exact .dead _
  | _ => exact .dead _
theorem Ren.ren0s {r : Nat → Option Nat} {getC : Nat → Obj} (hr : Ren r getC K K') {us : List AV} {ds : List Value} (h : VRs K us ds) : VRs K' (us.map (X.ren0 r getC)) ds := by
  refine ⟨by rw [List.length_map]; exact h.1, fun i u d hu hd => ?_⟩
  rw [List.getElem?_map] at hu
  cases hx : us[i]? with
  | none => rw [hx] at hu; cases hu
  | some x => rw [hx] at hu; injection hu with hu; subst hu; exact hr.ren0 (h.2 i x d hx hd)
theorem Ren.ren {r : Nat → Option Nat} {getC : Nat → Obj} (hr : Ren r getC K K') {u : AV} {c : Value} (h : VR K u c) : VR K' (X.ren r getC u) c := by
  cases hu : u with
  | agg cs => subst hu; obtain ⟨ds, rfl, hd⟩ := h.agg_inv; simpa [X.ren] using VR.mkAgg (hr.ren0s hd)
  | fn f cs => subst hu; obtain ⟨ds, rfl, hd⟩ := h.fn_inv; simpa [X.ren] using VR.mkFn (f := f) (hr.ren0s hd)
  | _ => subst hu; exact hr.ren0 h
theorem Ren.rens {r : Nat → Option Nat} {getC : Nat → Obj} (hr : Ren r getC K K') {us : List AV} {ds : List Value} (h : VRs K us ds) : VRs K' (us.map (X.ren r getC)) ds := by
  refine ⟨by rw [List.length_map]; exact h.1, fun i u d hu hd => ?_⟩
  rw [List.getElem?_map] at hu
  cases hx : us[i]? with
  | none => rw [hx] at hu; cases hu
  | some x => rw [hx] at hu; injection hu with hu; subst hu; exact hr.ren (h.2 i x d hx hd)

theorem getO_eq (l : List Obj) (n : Nat) : getO l n = (l[n]?).getD .hole := by induction l generalizing n with | nil => simp [getO] | cons x xs ih => cases n <;> simp [getO, ih]
theorem idx_some {p : List Nat} {i j : Nat} (h : idx p i = some j) : p[j]? = some i := by
  induction p generalizing j with
  | nil => simp [idx] at h
  | cons x xs ih =>
    simp only [idx] at h
    split at h
    · rename_i hx; cases h; simp [beq_eq' hx]
    · split at h
      · rename_i n hn; cases h; simpa using ih hn
      · cases h
theorem idx_none {p : List Nat} {i : Nat} (h : idx p i = none) : i ∉ p := by
  induction p with
  | nil => simp
  | cons x xs ih =>
    simp only [idx] at h
    split at h
    · cases h
    · rename_i hx
      split at h
      · cases h
      · rename_i hn
        have : x ≠ i := Nat.ne_of_beq_eq_false hx
        simp [Ne.symm this, ih hn]
theorem hasN_iff {l : List Nat} {n : Nat} : hasN l n = true ↔ n ∈ l := by
  induction l with
  | nil => simp [hasN]
  | cons x xs ih =>
    simp only [hasN]
    split
    · rename_i hx; simp [beq_eq' hx]
    · rename_i hx
      have : x ≠ n := Nat.ne_of_beq_eq_false hx
      simp [Ne.symm this, ih]
theorem nodupB_iff {l : List Nat} : nodupB l = true ↔ l.Nodup := by
  induction l with
  | nil => simp [nodupB]
  | cons x xs ih =>
    simp only [nodupB, List.nodup_cons, ← hasN_iff]
    cases hasN xs x <;> simp [ih]
def Ctx.sub (K : Ctx) (p : List Nat) : Ctx :=
  { M := K.M, blk := fun j => K.blk (p.getD j 0), cap := fun j => K.cap (p.getD j 0), off := fun j => K.off (p.getD j 0), kind := fun j => match p[j]? with | some id => K.kind id | none => .hole }
theorem sub_at {p : List Nat} {j id : Nat} (h : p[j]? = some id) : (K.sub p).kind j = K.kind id ∧ (K.sub p).blk j = K.blk id ∧ (K.sub p).cap j = K.cap id ∧ (K.sub p).off j = K.off id := by
  refine ⟨by simp [Ctx.sub, h], by simp [Ctx.sub, List.getD, h], by simp [Ctx.sub, List.getD, h], by simp [Ctx.sub, List.getD, h]⟩
theorem sub_own {p : List Nat} {j : Nat} (h : (K.sub p).own j) : ∃ id, p[j]? = some id ∧ K.own id ∧ (K.sub p).blk j = K.blk id := by
  cases hj : p[j]? with
  | none => unfold Ctx.own at h; simp [Ctx.sub, hj] at h
  | some id =>
    obtain ⟨k1, k2, k3, _⟩ := sub_at (K := K) hj
    refine ⟨id, rfl, ?_, k2⟩
    unfold Ctx.own at h ⊢
    rw [k1, k3] at h
    exact h
theorem renO_kind (r : Nat → Option Nat) (getC : Nat → Obj) (o : Obj) : (renO r getC o).kind = o.kind := by cases o <;> rfl
theorem Rel.ren_sub (h : Rel K get w) (p : List Nat) : Ren (idx p) get K (K.sub p) :=
  ⟨fun _ _ _ h => h, fun id j hj _ => by obtain ⟨k1, k2, k3, k4⟩ := sub_at (K := K) (idx_some hj); exact ⟨k1, k2, fun _ => ⟨k3, k4⟩⟩, fun id T sz xs hg c => ⟨fun s n hv => frz_list h hg hv, fun s o n hv => frz_list_sub h hg hv⟩⟩
theorem Rel.sub (h : Rel K get w) {p : List Nat} (hp : p.Nodup) : Rel (K.sub p) (getO (p.map fun id => renO (idx p) get (get id))) w := by
  have hget : ∀ {j id : Nat}, p[j]? = some id → getO (p.map fun id => renO (idx p) get (get id)) j = renO (idx p) get (get id) := fun hj => by rw [getO_eq, List.getElem?_map, hj]; rfl
  have hnone : ∀ {j : Nat}, p[j]? = none → getO (p.map fun id => renO (idx p) get (get id)) j = .hole := fun hj => by rw [getO_eq, List.getElem?_map, hj]; rfl
  refine ⟨fun j => ?_, h.mem, fun j => ?_, fun i j hi hj hb => ?_, fun j o hj => ?_⟩
  · cases hj : p[j]? with
    | none => rw [hnone hj]; simp [Ctx.sub, hj, Obj.kind]
    | some id => rw [hget hj, (sub_at hj).1, renO_kind]; exact h.kinds id
  · cases hj : p[j]? with
    | none => rw [hnone hj]; trivial
    | some id =>
      obtain ⟨k1, k2, k3, k4⟩ := sub_at (K := K) hj
      rw [hget hj]
      have hob := h.obj id
      cases hg : get id with
      | hole => trivial
      | gone => trivial
      | vars T cs =>
        rw [hg] at hob
        obtain ⟨ds, d1, d2, d3⟩ := hob
        exact ⟨ds, by rw [k2]; exact d1, (h.ren_sub p).ren0s d2, d3⟩
      | row T sz xs =>
        rw [hg] at hob
        obtain ⟨d0, d1, d2, d3⟩ := hob
        exact ⟨d0, by rw [k3]; exact d1, by rw [k3]; exact d2, by rw [k2, k3, k4]; exact d3⟩
      | frz T sz xs =>
        rw [hg] at hob
        obtain ⟨d0, d1, d2, d3⟩ := hob
        exact ⟨d0, by rw [k3]; exact d1, by rw [k3]; exact d2, by rw [k2, k4]; exact d3⟩
  · obtain ⟨x, hx, ox, bx⟩ := sub_own hi
    obtain ⟨y, hy, oy, byy⟩ := sub_own hj
    have := h.inj x y ox oy (by rw [← bx, ← byy]; exact hb)
    subst this
    exact (List.getElem?_inj (List.getElem?_eq_some_iff.1 hx).1 hp).1 (hx.trans hy.symm)
  · obtain ⟨x, hx, ox, bx⟩ := sub_own hj
    rw [bx]; exact h.sep x o ox
end
end Go.Proofs.YtidgcfgkcidkiaaGreat.X
namespace Go.Proofs.YtidgcfgkcidkiaaGreat.X
open Go Go.Proofs.YtidgcfgkcidkiaaGreat.L Go.RowKit
set_option linter.unusedVariables false
set_option linter.unusedSimpArgs false
section
variable {P : Program} {K K' : Ctx} {e : Nat → Option AV} {get : Nat → Obj} {a : Act} {w w' : World}
theorem call_exec {o : Oper} {fo : Operand} {args : Array Operand} {ats : Array TypeId} (hop : o.op = .call { callee := .value fo, args, argTypes := ats }) {f : FuncId} {ds : Array Value} (hf : a.eval fo = .func (.func f) #[] ds) (he : Enters P f) :
    (execOp a.eval o).run P w = .ok (.enter f (args.toList.map a.eval ++ ds.toList).toArray) w := by
  obtain ⟨fn, h1, h2, h3⟩ := he
  have e1 : (args.toList.map a.eval ++ ds.toList).toArray = args.map a.eval ++ ds := by apply Array.ext'; simp
  have h2' : ¬ fn.body = none := by intro h; rw [h] at h2; cases h2
  have h3' : ¬ fn.name = "runtime.NumGoroutine" := by simpa using h3
  rw [e1]
  simp [execOp, hop, resolve, hf, Deferred.ofValue, invoke, callFunc, h1, h2', h3']
theorem Rel.keep0 (h : Rel K get w) (hk : Keeps (fun _ => False) w w') : Rel K get w' ∧ ∀ m, Grow m K w K w' :=
  h.change (fun _ => False) (Ctx.le_refl K) (fun i _ => ⟨rfl, rfl, rfl, rfl, rfl⟩) (hk.mono fun _ _ h => h.elim) (fun i h => h.elim) (fun i h => h.elim) (fun i h => h.elim) (fun i h => h.elim) (fun i _ h => h.elim) (fun b o v h => .inl h)
theorem flat0_VR {u : AV} {c : Value} (hf : flat0 u = true) (h : VR K u c) : VR K' u c := by
  cases h with
  | pure h =>
    cases h with
    | lst => cases hf
    | _ => exact .pure (by constructor)
  | _ => cases hf
theorem flats_VR {us : List AV} {ds : List Value} (hf : allB flat0 us = true) (h : VRs K us ds) : VRs K' us ds :=
  ⟨h.1, fun i u d hu hd => flat0_VR (allB_iff.1 hf u (List.mem_of_getElem? hu)) (h.2 i u d hu hd)⟩
theorem flat_VR {u : AV} {c : Value} (hf : flatB u = true) (h : VR K u c) : VR K' u c := by
  cases hu : u with
  | agg cs => subst hu; obtain ⟨ds, rfl, hd⟩ := h.agg_inv; simpa using VR.mkAgg (flats_VR (K' := K') hf hd)
  | tup cs => subst hu; obtain ⟨ds, rfl, hd⟩ := h.tup_inv; simpa using VR.mkTup (flats_VR (K' := K') hf hd)
  | _ => subst hu; exact flat0_VR hf h
theorem frzG_eq (br : List Nat) (get : Nat → Obj) : frzG br get = frzB (hasN br) get := by
  funext i
  unfold frzG frzB
  cases get i <;> cases hasN br i <;> rfl
theorem outO_eq (fz : Bool) (m j : Nat) (objs : List Obj) : outO fz m j (getO objs j) = frzB (fun j => fz && Nat.ble m j) (getO objs) j := by
  unfold outO frzB
  cases hb : Nat.ble m j <;> cases fz <;> cases getO objs j <;> simp [hb]

theorem updG_append (get : Nat → Obj) (l k : List (Nat × Obj)) : updG get (l ++ k) = updG (updG get l) k := by
  induction l generalizing get with
  | nil => rfl
  | cons x xs ih => exact ih _
theorem updG_map (get : Nat → Obj) (l : List Nat) (f : Nat → Obj) (i : Nat) : updG get (l.map fun id => (id, f id)) i = if i ∈ l then f i else get i := by
  induction l generalizing get with
  | nil => simp [updG]
  | cons x xs ih =>
    simp only [List.map_cons, updG, ih, List.mem_cons]
    by_cases h1 : i ∈ xs
    · simp [h1]
    · by_cases h2 : i = x
      · subst h2; simp [h1, putG]
      · simp [h1, h2, putG]
def isRow : Obj → Bool
  | .row .. => true
  | _ => false
theorem isRow_iff {o : Obj} : isRow o = true ↔ ∃ T sz xs, o = .row T sz xs := by
  cases o <;> simp [isRow]
theorem updG_gone (get g : Nat → Obj) (p : List Nat) (i : Nat) : updG g (goneW get p) i = if i ∈ p ∧ isRow (get i) = true then .gone else g i := by
  induction p generalizing g with
  | nil => simp [goneW, updG]
  | cons x xs ih =>
    simp only [goneW]
    split
    · rename_i T sz ys hg
      simp only [updG, ih, List.mem_cons]
      by_cases h1 : i = x
      · subst h1
        by_cases h2 : i ∈ xs <;> simp [h2, hg, putG, isRow]
      · simp [h1, putG]
    · rename_i hg
      rw [ih]
      by_cases h1 : i = x
      · subst h1
        have : isRow (get i) = false := by cases h9 : get i <;> first | rfl | exact absurd h9 (hg _ _ _)
        simp [this]
      · simp [h1]
/-- What a callee's thing is here. -/
def outObj (fz : Bool) (m : Nat) (r : AV → AV) (objs : List Obj) (j : Nat) : Obj :=
  mapO r (outO fz m j (getO objs j))
theorem updG_out (p : List Nat) (get : Nat → Obj) (fz : Bool) (base m : Nat) (r : AV → AV) (all : List Obj) : ∀ (os : List Obj) (j0 : Nat) (g : Nat → Obj) (i : Nat), (∀ k o, os[k]? = some o → getO all (j0 + k) = o) →
    ((∀ j, j0 ≤ j → j < j0 + os.length → outN p get base j ≠ i) → updG g (outW p get fz base m r j0 os) i = g i) ∧
    (∀ j, j0 ≤ j → j < j0 + os.length → outN p get base j = i → (∀ j', j0 ≤ j' → j' < j0 + os.length → outN p get base j' = i → j' = j) → updG g (outW p get fz base m r j0 os) i = outObj fz m r all j)
  | [], j0, g, i, hall => ⟨fun _ => rfl, fun j h1 h2 => by simp at h2; omega⟩
  | o :: os, j0, g, i, hall => by
    have hrec := updG_out p get fz base m r all os (j0 + 1) (putG g (outN p get base j0) (mapO r (outO fz m j0 o))) i (fun k o hk => by
      have := hall (k + 1) o (by simpa using hk)
      rwa [show j0 + (k + 1) = j0 + 1 + k by omega] at this)
    have h0 : getO all j0 = o := by simpa using hall 0 o rfl
    refine ⟨fun h => ?_, fun j h1 h2 he hu => ?_⟩
    · simp only [outW, updG]
      rw [hrec.1 fun j h1 h2 => h j (by omega) (by simp; omega)]
      have := h j0 (Nat.le_refl _) (by simp)
      simp [putG, Ne.symm this]
    · simp only [outW, updG]
      by_cases hj : j = j0
      · subst hj
        rw [hrec.1 fun j' h1' h2' he' => by
          have := hu j' (by omega) (by simp; omega) he'
          omega]
        simp [putG, he, outObj, h0]
      · refine hrec.2 j (by omega) (by simp at h2; omega) he fun j' h1' h2' he' => hu j' (by omega) (by simp; omega) he'
theorem fits_spec : ∀ {p : List Nat} {objs : List Obj}, fits get p objs = true → p.length ≤ objs.length ∧ ∀ (j id : Nat), p[j]? = some id → (∃ T cs, get id = .vars T cs ∧ ∃ T' cs', getO objs j = .vars T' cs') ∨ ∃ T sz xs, get id = .row T sz xs
  | [], objs, _ => ⟨Nat.zero_le _, fun j id h => by simp at h⟩
  | id :: ps, o :: os, h => by
    simp only [fits] at h
    split at h
    · rename_i T cs T' cs' hg
      obtain ⟨h1, h2⟩ := fits_spec h
      refine ⟨by simp; exact h1, fun j x hj => ?_⟩
      cases j with
      | zero => simp at hj; subst hj; exact .inl ⟨_, _, hg, _, _, rfl⟩
      | succ j => exact h2 j x (by simpa using hj)
    · rename_i T sz xs hg
      obtain ⟨h1, h2⟩ := fits_spec h
      refine ⟨by simp; exact h1, fun j x hj => ?_⟩
      cases j with
      | zero => simp at hj; subst hj; exact .inr ⟨_, _, _, hg⟩
      | succ j => exact h2 j x (by simpa using hj)
    · cases h
  | _ :: _, [], h => by simp [fits] at h
theorem mem_lent0 {p : List Nat} {v : AV} {id : Nat} (h : id ∈ lent0 p get v) : id ∉ p := by
  unfold lent0 at h
  split at h
  · split at h
    · rename_i hi _; simp at h; subst h; exact idx_none hi
    · cases h
  · split at h
    · rename_i hi _; simp at h; subst h; exact idx_none hi
    · cases h
  · cases h
theorem mem_lentL {p : List Nat} {vs : List AV} {id : Nat} (h : id ∈ lentL p get vs) : id ∉ p := by
  induction vs with
  | nil => cases h
  | cons v vs ih =>
    simp only [lentL, List.mem_append] at h
    exact h.elim mem_lent0 ih
theorem mem_lents {p : List Nat} {vs : List AV} {id : Nat} (h : id ∈ lents p get vs) : id ∉ p := by
  induction vs with
  | nil => cases h
  | cons v vs ih =>
    cases v <;> simp only [lents, List.mem_append] at h <;> first | exact h.elim mem_lentL ih | exact h.elim mem_lent0 ih

theorem callA_sound (hS : RelS K e get a w) {o : Oper} {next : Act → World → Prop} {Q : Exit → Act → World → Prop} {base : Nat} {fo : Operand} {args : Array Operand} {ats : Array TypeId} {f : FuncId} {vs caps : List AV} {g g' : List Gd} {E : Eff} {ob : List Prop} (hop : o.op = .call { callee := .value fo, args, argTypes := ats })
    (hf : opv e fo = some (.fn f caps)) (hv : opvL e args.toList = some vs) (h : callA P get base f (vs ++ caps) g = some (E, ob, g')) (ho : AllP ob) (hh : ∀ j, j < E.nf → get (base + j) = .hole)
    (hn : Then P K get a w o E next) : o.wp P a w next Q := by
  classical
  obtain ⟨cs, hcs, hcap⟩ := (opv_sound hS hf).fn_inv
  have hargs : VRs K (vs ++ caps) (args.toList.map a.eval ++ cs.toList) := (opvL_sound hS _ _ hv).append hcap
  unfold callA at h
  split at h
  · rename_i p fz bor v objs g1
    dsimp only at h
    generalize hbr : lents p get (vs ++ caps) = br at h
    rw [frzG_eq] at h
    obtain ⟨R1, G1⟩ := hS.rel.frz (hasN br)
    have le1 : K.le (K.frz (hasN br) get w) := frz_le _
    generalize hK1 : K.frz (hasN br) get w = K1 at R1 G1 le1
    split at h
    · -- lent
      split at h
      · rename_i hflat
        cases h
        have R2 := R1.sub (p := []) (by simp)
        have hA := (R1.ren_sub []).rens (hargs.mono le1)
        have hrun := call_exec (P := P) (w := w) hop hcs ho.1.1
        have hcall := ho.1.2 _ w _ R2 hA
        unfold Oper.wp
        rw [hrun, Oper.upon_enter]
        refine hcall.mono ?_
        rintro en w' ⟨K3, c, rfl, R3, V3, G3⟩
        have hk0 : Keeps (fun _ => False) w w' := G3.keeps.mono fun b _ ⟨j, hj, _⟩ => by
          obtain ⟨id, hid, _⟩ := sub_own hj; simp at hid
        obtain ⟨r1, r2⟩ := hS.rel.keep0 hk0
        exact hn K w' c r1 (Ctx.le_refl K) r2 (by rintro u ⟨rfl⟩; exact flat_VR hflat V3)
      · cases h
    · split at h
      · rename_i hfit hnd
        cases h
        have hp := nodupB_iff.1 hnd
        obtain ⟨hlen, hfit⟩ := fits_spec hfit
        have hbp : ∀ id, id ∈ p → hasN br id = false := fun id hid => by
          cases hb : hasN br id with
          | false => rfl
          | true => rw [hasN_iff, ← hbr] at hb; exact absurd hid (mem_lents hb)
        have hg1 : ∀ id, id ∈ p → frzB (hasN br) get id = get id := fun id hid => by
          unfold frzB; rw [hbp id hid]; cases get id <;> rfl
        have R2 := R1.sub hp
        have hA := (R1.ren_sub p).rens (hargs.mono le1)
        have hrun := call_exec (P := P) (w := w) hop hcs ho.1.1
        have hcall := ho.1.2 _ w _ R2 hA
        unfold Oper.wp
        rw [hrun, Oper.upon_enter]
        refine hcall.mono ?_
        rintro en w' ⟨K3, c, rfl, R3, V3, G3⟩
        rw [List.length_map] at G3
        obtain ⟨R4, G4⟩ := R3.frz (fun j => fz && Nat.ble p.length j)
        have le4 : K3.le (K3.frz (fun j => fz && Nat.ble p.length j) (getO objs) w') := frz_le _
        have V4 := V3.mono le4
        generalize hK4 : K3.frz (fun j => fz && Nat.ble p.length j) (getO objs) w' = K4 at R4 G4 le4 V4
        have G := G3.trans (G4 p.length).toC
        -- the numbers
        let σ := outN p get base
        let n := objs.length
        let r : Nat → Option Nat := fun j => some (outN p get base j)
        let getC : Nat → Obj := fun j => match outO fz p.length j (getO objs j) with | .frz T sz xs => .frz T sz xs | _ => .hole
        let rr : Nat → Option Nat := fun j => match getC j with | .frz .. => none | _ => r j
        let get' := updG get ((br.map fun id => (id, frzB (hasN br) get id)) ++ goneW get p ++ outW p get fz base p.length (ren0 rr getC) 0 objs)
        have σvar : ∀ j id, p[j]? = some id → (∃ T cs, get id = .vars T cs) → σ j = id := by
          rintro j id hj ⟨T, cs, hg⟩
          show outN p get base j = id
          simp [outN, nth_eq, hj, hg]
        have σnew : ∀ j, (∀ id, p[j]? = some id → ¬ ∃ T cs, get id = .vars T cs) → σ j = base + j := by
          intro j hj
          show outN p get base j = base + j
          unfold outN
          rw [nth_eq]
          cases hpj : p[j]? with
          | none => rfl
          | some id =>
            simp only
            split
            · rename_i T cs hg; exact absurd ⟨T, cs, hg⟩ (hj id hpj)
            · rfl
        have hhole : ∀ j, j < n → get (base + j) = .hole := hh
        have σinj : ∀ i j, i < n → j < n → σ i = σ j → i = j := by
          intro i j hi hj he
          by_cases h1 : ∃ id, p[i]? = some id ∧ ∃ T cs, get id = .vars T cs <;> by_cases h2 : ∃ id, p[j]? = some id ∧ ∃ T cs, get id = .vars T cs
          · obtain ⟨x, hx, vx⟩ := h1
            obtain ⟨y, hy, vy⟩ := h2
            rw [σvar i x hx vx, σvar j y hy vy] at he
            subst he
            exact (List.getElem?_inj (List.getElem?_eq_some_iff.1 hx).1 hp).1 (hx.trans hy.symm)
          · obtain ⟨x, hx, vx⟩ := h1
            rw [σvar i x hx vx, σnew j fun id h3 h4 => h2 ⟨id, h3, h4⟩] at he
            obtain ⟨T, cs, hg⟩ := vx
            rw [he, hhole j hj] at hg; cases hg
          · obtain ⟨y, hy, vy⟩ := h2
            rw [σnew i fun id h3 h4 => h1 ⟨id, h3, h4⟩, σvar j y hy vy] at he
            obtain ⟨T, cs, hg⟩ := vy
            rw [← he, hhole i hi] at hg; cases hg
          · rw [σnew i fun id h3 h4 => h1 ⟨id, h3, h4⟩, σnew j fun id h3 h4 => h2 ⟨id, h3, h4⟩] at he
            omega
        let inv : Nat → Option Nat := fun i => if h : ∃ j, j < n ∧ σ j = i then some h.choose else none
        have inv_some : ∀ j, j < n → inv (σ j) = some j := by
          intro j hj
          have hex : ∃ k, k < n ∧ σ k = σ j := ⟨j, hj, rfl⟩
          show (if h : ∃ k, k < n ∧ σ k = σ j then some h.choose else none) = some j
          rw [dif_pos hex]
          congr 1
          exact σinj _ _ hex.choose_spec.1 hj hex.choose_spec.2
        have inv_spec : ∀ i j, inv i = some j → j < n ∧ σ j = i := by
          intro i j hi
          by_cases hex : ∃ k, k < n ∧ σ k = i
          · have : inv i = some hex.choose := dif_pos hex
            rw [this] at hi; injection hi with hi; rw [← hi]; exact hex.choose_spec
          · have : inv i = none := dif_neg hex
            rw [this] at hi; cases hi
        have inv_none : ∀ i, inv i = none → ∀ j, j < n → σ j ≠ i := by
          intro i hi j hj he
          rw [← he, inv_some j hj] at hi; cases hi
        -- what stands where
        have getI : ∀ j, j < n → get' (σ j) = outObj fz p.length (ren0 rr getC) objs j := by
          intro j hj
          show updG get _ (σ j) = _
          rw [updG_append]
          exact (updG_out p get fz base p.length (ren0 rr getC) objs objs 0 _ (σ j) (fun k o hk => by rw [Nat.zero_add, getO_eq, hk]; rfl)).2 j (Nat.zero_le _) (by rw [Nat.zero_add]; exact hj) rfl fun j' _ h2 he => σinj _ _ (by rw [Nat.zero_add] at h2; exact h2) hj he
        have getN : ∀ i, inv i = none → get' i = if i ∈ p ∧ isRow (get i) = true then .gone else frzB (hasN br) get i := by
          intro i hi
          show updG get _ i = _
          rw [updG_append, (updG_out p get fz base p.length (ren0 rr getC) objs objs 0 _ i (fun k o hk => by rw [Nat.zero_add, getO_eq, hk]; rfl)).1 (fun j _ h2 => inv_none i hi j (by rw [Nat.zero_add] at h2; exact h2)), updG_append, updG_gone, updG_map]
          by_cases h1 : i ∈ br
          · simp [h1]
          · have : hasN br i = false := by cases hb : hasN br i with | false => rfl | true => exact absurd (hasN_iff.1 hb) h1
            have e9 : frzB (hasN br) get i = get i := by unfold frzB; rw [this]; cases get i <;> rfl
            simp [h1, e9]
        have inP : ∀ i, i ∈ p → inv i = none → ∃ T sz xs, get i = .row T sz xs := by
          intro i hi hno
          obtain ⟨j, hj⟩ := List.getElem?_of_mem hi
          rcases hfit j i hj with ⟨T, cs, hg, _⟩ | h9
          · have hjn : j < n := by have := (List.getElem?_eq_some_iff.1 hj).1; show j < objs.length; omega
            exact absurd (σvar j i hj ⟨T, cs, hg⟩) (inv_none i hno j hjn)
          · exact h9
        let K' : Ctx :=
          { M := K4.M
            kind := fun i => match inv i with | some j => K4.kind j | none => if i ∈ p then .gone else K1.kind i
            blk := fun i => match inv i with | some j => K4.blk j | none => K1.blk i
            cap := fun i => match inv i with | some j => (if K4.kind j = .var then K1.cap i else K4.cap j) | none => K1.cap i
            off := fun i => match inv i with | some j => (if K4.kind j = .var then K1.off i else K4.off j) | none => K1.off i }
        have kI : ∀ j, j < n → K'.kind (σ j) = K4.kind j ∧ K'.blk (σ j) = K4.blk j ∧ (K4.kind j ≠ .var → K'.cap (σ j) = K4.cap j ∧ K'.off (σ j) = K4.off j) ∧ (K4.kind j = .var → K'.cap (σ j) = K1.cap (σ j) ∧ K'.off (σ j) = K1.off (σ j)) := by
          intro j hj
          have := inv_some j hj
          refine ⟨by simp [K', this], by simp [K', this], fun h => ⟨by simp [K', this, h], by simp [K', this, h]⟩, fun h => ⟨by simp [K', this, h], by simp [K', this, h]⟩⟩
        have get3 : ∀ j, frzB (fun j => fz && Nat.ble p.length j) (getO objs) j = outO fz p.length j (getO objs j) := fun j => (outO_eq fz p.length j objs).symm
        have hn4 : ∀ j, K4.kind j ≠ .hole → j < n := by
          intro j hj
          by_cases h9 : j < n
          · exact h9
          · exfalso; apply hj
            rw [R4.kinds, get3, getO_eq, List.getElem?_eq_none (by show objs.length ≤ j; omega)]
            cases fz <;> rfl
        have hRen : Ren rr getC K4 K' := by
          refine ⟨fun _ _ _ h => h, fun id j hj hk => ?_, fun id T sz xs hg c => ?_⟩
          · have hid := hn4 id hk
            have : j = σ id := by
              simp only [rr] at hj
              split at hj
              · cases hj
              · injection hj with hj; exact hj.symm
            subst this
            obtain ⟨k1, k2, k3, _⟩ := kI id hid
            exact ⟨k1, k2, fun ⟨sz, n, h9⟩ => k3 (by rcases h9 with h9 | h9 <;> rw [h9] <;> simp)⟩
          · have hg3 : frzB (fun j => fz && Nat.ble p.length j) (getO objs) id = .frz T sz xs := by
              rw [get3]
              simp only [getC] at hg
              split at hg
              · rename_i h9; rw [h9]; exact hg
              · cases hg
            exact ⟨fun s n hv => frz_list R4 hg3 hv, fun s o n hv => frz_list_sub R4 hg3 hv⟩
        have own' : ∀ j, j < n → (K'.own (σ j) ↔ K4.own j) := by
          intro j hj
          obtain ⟨k1, k2, k3, k4⟩ := kI j hj
          unfold Ctx.own
          rw [k1]
          cases hk : K4.kind j <;> simp
          rw [(k3 (by rw [hk]; simp)).1]
        have subOwn : ∀ j, (K1.sub p).own j → ∃ i, i ∈ p ∧ K1.own i ∧ K1.blk i = (K1.sub p).blk j := by
          intro j hj
          obtain ⟨id, h1, h2, h3⟩ := sub_own hj
          exact ⟨id, List.mem_of_getElem? h1, h2, h3.symm⟩
        have le' : K1.le K' := by
          refine ⟨fun b o v hv => G.mem b o v hv, fun i hi => ?_⟩
          cases hinv : inv i with
          | none =>
            by_cases hip : i ∈ p
            · exact .inl (by simp [K', hinv, hip])
            · exact .inr ⟨by simp [K', hinv], by simp [K', hinv], by simp [K', hinv], .inl (by simp [K', hinv, hip])⟩
          | some j =>
            obtain ⟨hj, rfl⟩ := inv_spec i j hinv
            by_cases h1 : ∃ id, p[j]? = some id ∧ ∃ T cs, get id = .vars T cs
            · obtain ⟨id, hid, hvar⟩ := h1
              have e1 := σvar j id hid hvar
              obtain ⟨T, cs, hg⟩ := hvar
              have hk1 : K1.kind id = .var := by rw [R1.kinds, hg1 id (List.mem_of_getElem? hid), hg]; rfl
              obtain ⟨s1, s2, s3, _⟩ := sub_at (K := K1) hid
              obtain ⟨v1, v2⟩ := G.var j (by have := (List.getElem?_eq_some_iff.1 hid).1; omega) (by rw [s1]; exact hk1)
              obtain ⟨k1, k2, k3, k4⟩ := kI j hj
              refine .inr ⟨?_, (k4 v1).1, (k4 v1).2, .inl ?_⟩
              · rw [k2, v2, s2, e1]
              · rw [k1, v1, e1, hk1]
            · exfalso; apply hi
              rw [R1.kinds, σnew j fun id h3 h4 => h1 ⟨id, h3, h4⟩]
              unfold frzB; rw [hhole j hj]; cases hasN br (base + j) <;> rfl
        obtain ⟨q1, q2⟩ := R1.change (K' := K') (get' := get') (w' := w') (fun i => (∃ j, j < n ∧ σ j = i) ∨ i ∈ p) le'
          (fun i hi => by
            have hno : inv i = none := dif_neg fun h => hi (.inl h)
            have hip : i ∉ p := fun h => hi (.inr h)
            refine ⟨by simp [K', hno, hip], by simp [K', hno], by simp [K', hno], by simp [K', hno], ?_⟩
            rw [getN i hno, if_neg fun h => hip h.1])
          (G.keeps.mono fun b _ ⟨j, hj, hb⟩ => by
            obtain ⟨i, h1, h2, h3⟩ := subOwn j hj
            exact ⟨i, .inr h1, h2, h3.trans hb⟩)
          (fun i hi => by
            cases hinv : inv i with
            | some j =>
              obtain ⟨hj, rfl⟩ := inv_spec i j hinv
              rw [getI j hj, (kI j hj).1, R4.kinds, get3]
              unfold outObj
              cases outO fz p.length j (getO objs j) <;> rfl
            | none =>
              have hip : i ∈ p := hi.resolve_left fun ⟨j, h1, h2⟩ => inv_none i hinv j h1 h2
              rw [getN i hinv, if_pos ⟨hip, isRow_iff.2 (inP i hip hinv)⟩]
              simp [K', hinv, hip, Obj.kind])
          (fun i hi hvar => by
            rcases le'.at_ i (by rw [hvar]; simp) with h1 | ⟨_, _, _, h1⟩
            · exfalso
              cases hinv : inv i with
              | none =>
                have hip : i ∈ p := hi.resolve_left fun ⟨j, h1, h2⟩ => inv_none i hinv j h1 h2
                obtain ⟨T, sz, xs, hg⟩ := inP i hip hinv
                rw [R1.kinds, hg1 i hip, hg] at hvar; cases hvar
              | some j =>
                obtain ⟨hj, rfl⟩ := inv_spec i j hinv
                by_cases h1' : ∃ id, p[j]? = some id ∧ ∃ T cs, get id = .vars T cs
                · obtain ⟨id, hid, hv'⟩ := h1'
                  have e1 := σvar j id hid hv'
                  obtain ⟨s1, s2, s3⟩ := sub_at (K := K1) hid
                  obtain ⟨v1, v2⟩ := G.var j (by have := (List.getElem?_eq_some_iff.1 hid).1; omega) (by rw [s1, ← e1]; exact hvar)
                  rw [(kI j hj).1, v1] at h1; cases h1
                · rw [R1.kinds, σnew j fun id h3 h4 => h1' ⟨id, h3, h4⟩] at hvar
                  unfold frzB at hvar; rw [hhole j hj] at hvar
                  cases hb : hasN br (base + j) <;> rw [hb] at hvar <;> cases hvar
            · rcases h1 with h1 | ⟨sz, n', h1, _⟩
              · exact h1.trans hvar
              · rw [hvar] at h1; cases h1)
          (fun i hi => by
            cases hinv : inv i with
            | none =>
              have hip : i ∈ p := hi.resolve_left fun ⟨j, h1, h2⟩ => inv_none i hinv j h1 h2
              rw [getN i hinv, if_pos ⟨hip, isRow_iff.2 (inP i hip hinv)⟩]; trivial
            | some j =>
              obtain ⟨hj, rfl⟩ := inv_spec i j hinv
              obtain ⟨k1, k2, k3, k4⟩ := kI j hj
              have hob := R4.obj j
              have hkj := R4.kinds j
              rw [get3] at hob hkj
              rw [getI j hj]
              unfold outObj
              cases hoj : outO fz p.length j (getO objs j) with
              | hole => trivial
              | gone => trivial
              | vars T cs =>
                rw [hoj] at hob
                obtain ⟨ds, d1, d2, d3⟩ := hob
                exact ⟨ds, by rw [k2]; exact d1, hRen.ren0s d2, d3⟩
              | row T sz xs =>
                rw [hoj] at hob hkj
                obtain ⟨hc, hcf⟩ := k3 (by rw [hkj]; simp [Obj.kind])
                obtain ⟨d0, d1, d2, d3⟩ := hob
                exact ⟨d0, by rw [hc]; exact d1, by rw [hc]; exact d2, by rw [hc, k2, hcf]; exact d3⟩
              | frz T sz xs =>
                rw [hoj] at hob hkj
                obtain ⟨hc, hcf⟩ := k3 (by rw [hkj]; simp [Obj.kind])
                obtain ⟨d0, d1, d2, d3⟩ := hob
                exact ⟨d0, by rw [hc]; exact d1, by rw [hc]; exact d2, by rw [k2, hcf]; exact d3⟩)
          (fun i hi hown => by
            cases hinv : inv i with
            | none =>
              have hip : i ∈ p := hi.resolve_left fun ⟨j, h1, h2⟩ => inv_none i hinv j h1 h2
              unfold Ctx.own at hown
              simp [K', hinv, hip] at hown
            | some j =>
              obtain ⟨hj, rfl⟩ := inv_spec i j hinv
              rw [(kI j hj).2.1]
              rcases G.foot _ ⟨j, (own' j hj).1 hown, rfl⟩ with ⟨k, h1, h2⟩ | h1
              · obtain ⟨x, x1, x2, x3⟩ := subOwn k h1
                exact .inl ⟨x, .inr x1, x2, x3.trans h2⟩
              · exact .inr h1)
          (fun i i' hi hi' hown hown' hb => by
            have gone : ∀ i, ((∃ j, j < n ∧ σ j = i) ∨ i ∈ p) → inv i = none → ¬ K'.own i := by
              intro i hi hinv hown
              have hip : i ∈ p := hi.resolve_left fun ⟨j, h1, h2⟩ => inv_none i hinv j h1 h2
              unfold Ctx.own at hown
              simp [K', hinv, hip] at hown
            cases hinv : inv i with
            | none => exact absurd hown (gone i hi hinv)
            | some j =>
              cases hinv' : inv i' with
              | none => exact absurd hown' (gone i' hi' hinv')
              | some j' =>
                obtain ⟨hj, rfl⟩ := inv_spec i j hinv
                obtain ⟨hj', rfl⟩ := inv_spec i' j' hinv'
                rw [(kI j hj).2.1, (kI j' hj').2.1] at hb
                rw [R4.inj j j' ((own' j hj).1 hown) ((own' j' hj').1 hown') hb])
          (fun b o v hv => by
            rcases G.new b o v hv with h1 | h1 | h1
            · exact .inl h1
            · refine .inr ⟨.inl ?_, (R4.mem b o v hv).1, (R4.mem b o v hv).2, ?_⟩
              · obtain ⟨k, h2, h3⟩ := h1
                obtain ⟨x, x1, x2, x3⟩ := subOwn k h2
                exact ⟨x, .inr x1, x2, x3.trans h3⟩
              · intro i hi hown hb
                cases hinv : inv i with
                | none =>
                  have hip : i ∈ p := hi.resolve_left fun ⟨j, h1, h2⟩ => inv_none i hinv j h1 h2
                  unfold Ctx.own at hown
                  simp [K', hinv, hip] at hown
                | some j =>
                  obtain ⟨hj, rfl⟩ := inv_spec i j hinv
                  rw [(kI j hj).2.1] at hb
                  have := R4.sep j o ((own' j hj).1 hown)
                  rw [hb] at this
                  have hv' : K4.M b o = some v := hv
                  rw [this] at hv'; cases hv'
            · refine .inr ⟨.inr h1, (R4.mem b o v hv).1, (R4.mem b o v hv).2, ?_⟩
              intro i hi hown hb
              cases hinv : inv i with
              | none =>
                have hip : i ∈ p := hi.resolve_left fun ⟨j, h1, h2⟩ => inv_none i hinv j h1 h2
                unfold Ctx.own at hown
                simp [K', hinv, hip] at hown
              | some j =>
                obtain ⟨hj, rfl⟩ := inv_spec i j hinv
                rw [(kI j hj).2.1] at hb
                have := R4.sep j o ((own' j hj).1 hown)
                rw [hb] at this
                have hv' : K4.M b o = some v := hv
                rw [this] at hv'; cases hv')
        have le : K.le K' := by
          refine ⟨fun b o v hv => le'.mem b o v (le1.mem b o v hv), fun i hi => ?_⟩
          rcases le1.at_ i hi with h1 | ⟨h1, h2, h2', h3⟩
          · rcases le'.at_ i (by rw [h1]; simp) with h4 | ⟨_, _, _, h4⟩
            · exact .inl h4
            · rcases h4 with h4 | ⟨sz, n', h4, _⟩
              · exact .inl (h4.trans h1)
              · rw [h1] at h4; cases h4
          · have hne : K1.kind i ≠ .hole := by
              rcases h3 with h3 | ⟨sz, n', _, h3⟩ <;> rw [h3]
              · exact hi
              · simp
            rcases le'.at_ i hne with h4 | ⟨h4, h5, h5', h6⟩
            · exact .inl h4
            · refine .inr ⟨h4.trans h1, h5.trans h2, h5'.trans h2', ?_⟩
              rcases h3 with h3 | ⟨sz, n', h3, h3'⟩
              · rcases h6 with h6 | ⟨sz, n', h6, h6'⟩
                · exact .inl (h6.trans h3)
                · exact .inr ⟨sz, n', h3 ▸ h6, h6'⟩
              · rcases h6 with h6 | ⟨sz2, n2, h6, h6'⟩
                · exact .inr ⟨sz, n', h3, h6.trans h3'⟩
                · rw [h3'] at h6; cases h6
        refine hn K' w' c q1 le (fun m => (G1 m).trans (q2 m)) ?_
        rintro u ⟨rfl⟩
        cases hu : v with
        | tup us =>
          subst hu
          obtain ⟨ds, rfl, hd⟩ := V4.tup_inv
          have h9 := VR.mkTup (hRen.rens hd)
          rw [Array.toArray_toList] at h9
          exact h9
        | _ => subst hu; exact hRen.ren V4
      · cases h
  · -- a reading call
    rename_i p v g1
    split at h
    · rename_i hnd
      cases h
      have hp := nodupB_iff.1 hnd
      have R2 := hS.rel.sub hp
      have hA := (hS.rel.ren_sub p).rens hargs
      have hrun := call_exec (P := P) (w := w) hop hcs ho.1.1
      have hcall := ho.1.2 _ w _ R2 hA
      unfold Oper.wp
      rw [hrun, Oper.upon_enter]
      refine hcall.mono ?_
      rintro en w' ⟨c, rfl, hk0, V⟩
      obtain ⟨r1, r2⟩ := hS.rel.keep0 hk0
      exact hn K w' c r1 (Ctx.le_refl K) r2 (by rintro u ⟨rfl⟩; exact V K)
    · cases h
  · rename_i id xs v g1
    split at h
    · rename_i T sz ys hl hg
      cases h
      have R2 := hS.rel.sub (p := [id]) (by simp)
      have hA := (hS.rel.ren_sub [id]).rens hargs
      have hg2 : [id].map (fun i => renO (idx [id]) get (get i)) = [.row T sz ys] := by simp [hg, renO]
      rw [hg2] at R2
      have hrun := call_exec (P := P) (w := w) hop hcs ho.2.1.1
      have hcall := ho.2.1.2 _ w _ R2 hA
      unfold Oper.wp
      rw [hrun, Oper.upon_enter]
      refine hcall.mono ?_
      rintro en w' ⟨c, rfl, R3, hk, V⟩
      obtain ⟨s1, s2, s3, s4⟩ := sub_at (K := K) (p := [id]) (j := 0) (id := id) rfl
      obtain ⟨o0, o1, o2, o3⟩ := R3.obj 0
      rw [s3] at o1 o2 o3
      rw [s2, s4] at o3
      obtain ⟨r1, r2⟩ := hS.rel.change (K' := K) (get' := updG get [(id, .row T sz xs)]) (w' := w') (fun i => i = id) (Ctx.le_refl K)
        (fun i hi => ⟨rfl, rfl, rfl, rfl, by
          have := updG_map get [id] (fun _ => .row T sz xs) i
          rw [List.map_singleton] at this
          rw [this, if_neg (by simpa using hi)]⟩)
        (hk.mono fun b _ ⟨j, hj, hb⟩ => by
          obtain ⟨i, h1, h2, h3⟩ := sub_own hj
          have : i = id := by have := List.mem_of_getElem? h1; simpa using this
          subst this
          exact ⟨i, rfl, h2, h3.symm.trans hb⟩)
        (by
          rintro i rfl
          have := updG_map get [i] (fun _ => .row T sz xs) i
          rw [List.map_singleton] at this
          rw [this, if_pos (by simp), hS.rel.kinds, hg]
          simp only [Obj.kind, ho.1])
        (fun _ _ h => h)
        (by
          rintro i rfl
          have := updG_map get [i] (fun _ => .row T sz xs) i
          rw [List.map_singleton] at this
          rw [this, if_pos (by simp)]
          exact ⟨o0, o1, o2, o3⟩)
        (fun i hi h9 => .inl ⟨i, hi, h9, rfl⟩)
        (by rintro i j rfl rfl; intros; rfl)
        (fun b o v h => .inl h)
      exact hn K w' c r1 (Ctx.le_refl K) r2 (by rintro u ⟨rfl⟩; exact V K)
    · cases h
  · cases h
end
end Go.Proofs.YtidgcfgkcidkiaaGreat.X
namespace Go.Proofs.YtidgcfgkcidkiaaGreat.X
open Go Go.Proofs.YtidgcfgkcidkiaaGreat.L Go.RowKit
set_option linter.unusedVariables false
set_option linter.unusedSimpArgs false
section
variable {P : Program} {K K' : Ctx} {e e' : Nat → Option AV} {get get' : Nat → Obj} {a : Act} {w w' : World}
theorem bytes_of (ys : List AV) (l : List UInt8) (M : Nat → Nat → Option Value) (L : List Value) (h : ys = l.map fun b => .int .u8 (b.toNat : Int)) (hp : PRows M 1 ys L) : ∀ j (hj : j < l.length), L[j]? = some (.int .u8 (l[j].toNat : Int)) := by
  intro j hj
  subst h
  have h1 : (l.map fun b => AV.int .u8 (b.toNat : Int))[j]? = some (.int .u8 (l[j].toNat : Int)) := by simp [hj]
  obtain ⟨_, h2⟩ := hp j _ h1
  obtain ⟨d, h3, h4⟩ := h2 0 (.int .u8 (l[j].toNat : Int)) rfl
  rw [Nat.mul_one, Nat.add_zero] at h3
  rw [h3]
  cases h4
  rfl
theorem run_convert_bytes_nil (s d el : TypeId) (m : Nat) (hs : P.underlying s = some (.slice el)) (he : P.underlying el = some (.int .u8)) (hd : P.underlying d = some .string) : (convert s d (.slice none 0 m)).run P w = .ok (.string ⟨([] : List UInt8).toArray⟩) w := by
  rw [run_convert_bytes_string w s d el none 0 m hs he hd]
  simp [Conv.bytesToString]
  rfl
theorem convA_sound (hS : RelS K e get a w) {o : Oper} {next : Act → World → Prop} {Q : Exit → Act → World → Prop} {s d : TypeId} {xo : Operand} (hop : o.op = .convert s d xo) {v : AV} {g g' : List Gd} {E : Eff} {ob : List Prop} (hv : VR K v (a.eval xo)) (h : convA P get s d v g = some (E, ob, g')) (ho : AllP ob)
    (hn : Then P K get a w o E next) : o.wp P a w next Q := by
  unfold convA at h
  split at h
  · rename_i el hs hd
    split at h
    · rename_i ys rd bs g1 he hsrc
      cases h
      obtain ⟨ad, m, L, hc, l1, l2, l3, l4⟩ := srcA_sound hS (by decide) hv hsrc
      have hb := ho.1
      have hlen : ys.length = bs.data.toList.length := by rw [hb, List.length_map]
      have hr : (convert s d (a.eval xo)).run P w = .ok (.string ⟨bs.data.toList.toArray⟩) w := by
        rw [hc, hlen]
        cases ad with
        | none =>
          have : bs.data.toList.length = 0 := by
            rcases Nat.eq_zero_or_pos bs.data.toList.length with h0 | h0
            · exact h0
            · have := bytes_of ys _ _ L hb l2 0 h0
              obtain ⟨p, hp, _⟩ := l4 0 _ this
              cases hp
          have h0 : bs.data.toList = [] := List.eq_nil_of_length_eq_zero this
          rw [h0]
          have := run_convert_bytes_nil (P := P) (w := w) s d el m hs he hd
          exact this
        | some p =>
          refine run_convert_bytes_back w s d el p m _ hs he hd fun j hj => ?_
          obtain ⟨p', hp, hcell⟩ := l4 j _ (bytes_of ys _ _ L hb l2 j hj)
          injection hp with hp
          subst hp
          exact hcell
      refine then_value hn (c := .string ⟨bs.data.toList.toArray⟩) (K' := K) (w' := w) ?_ hS.rel (Ctx.le_refl K) (fun m => Grow.refl m K w) (fun y hy => ?_)
      · simp only [execOp, hop, Sem.run_bind, Result.andThen_ok, hr, Sem.run_pure]
      · injection hy with hy
        subst hy
        have : (⟨bs.data.toList.toArray⟩ : ByteArray) = bs := by cases bs; simp
        rw [this]
        exact .pure (.str _)
    · cases h
  · rename_i el0 el hs hd
    split at h
    · rename_i id sz n hsd he
      have hsd := beq_eq' hsd
      subst hsd
      obtain rfl : el0 = el := by rw [hs] at hd; injection hd with hd; injection hd
      split at h
      · rename_i T sz' xs hg
        cases h
        have hne := ho.1
        have hk : K.kind id = .row sz' xs.length := by rw [hS.rel.kinds, hg]; rfl
        have hob := hS.rel.obj id
        rw [hg] at hob
        obtain ⟨o0, o1, o2, o3⟩ := hob
        have hcap : K.cap id ≠ 0 := by
          have : xs.length ≠ 0 := fun h => hne (List.eq_nil_of_length_eq_zero h)
          omega
        obtain ⟨ds, d1, d2, d3⟩ := o3 hcap
        have hown : K.own id := by unfold Ctx.own; rw [hk]; exact hcap
        have hv' := hv
        cases hv with
        | pure hp => cases hp
        | row id sz n c hk0 hc hp' =>
          rw [hk] at hc
          obtain ⟨_, ad, hce, had⟩ := hc.resolve_left (by simp)
          have had := had hcap
          rw [had] at hce
          have hlt := lt_of_heap d1
          have hwc : (w.freeze ⟨K.blk id, ds.size, none⟩ 1).heap[K.blk id]? = some (.cells ds T (ds.size, ds.size + 1)) := by
            simp only [World.freeze]
            rw [if_neg (by decide)]
            show (w.heap.modify (K.blk id) _)[K.blk id]? = _
            rw [Array.getElem?_modify, if_pos rfl, d1]
            rfl
          have hwo : ∀ b, b ≠ K.blk id → (w.freeze ⟨K.blk id, ds.size, none⟩ 1).heap[b]? = w.heap[b]? := by
            intro b hb
            simp only [World.freeze]
            rw [if_neg (by decide)]
            show (w.heap.modify (K.blk id) _)[b]? = _
            rw [Array.getElem?_modify, if_neg (fun h => hb h.symm)]
          have hkeep : Keeps (fun b => ∃ j, (hasN [id] j = true ∧ ∃ T sz xs, get j = .row T sz xs) ∧ K.own j ∧ K.blk j = b) w (w.freeze ⟨K.blk id, ds.size, none⟩ 1) := by
            refine ⟨by simp [World.freeze], by simp [World.freeze], by simp [World.freeze], by simp [World.freeze], fun b _ hb => hwo b fun he => hb ⟨id, ⟨hasN_iff.2 (by simp), T, sz', xs, hg⟩, hown, he.symm⟩⟩
          have hcell : ∀ a v, w.cell? a = some v → (w.freeze ⟨K.blk id, ds.size, none⟩ 1).cell? a = some v := by
            intro a v h
            by_cases hb : a.block = K.blk id
            · unfold World.cell? at h ⊢
              rw [hb, d1] at h
              rw [hb, hwc]
              exact h
            · unfold World.cell? at h ⊢
              rw [hwo _ hb]; exact h
          obtain ⟨R1, G1⟩ := hS.rel.frzW (hasN [id]) hkeep hcell
          have hget : frzB (hasN [id]) get = updG get [(id, .frz T sz' xs)] := by
            funext i
            show _ = putG get id (.frz T sz' xs) i
            unfold frzB putG
            by_cases hi : i = id
            · subst hi; rw [if_pos rfl, hg, hasN_iff.2 (by simp)]
            · have : hasN [id] i = false := by rw [Bool.eq_false_iff]; intro hc; exact hi (by simpa using hasN_iff.1 hc)
              rw [if_neg hi, this]
              cases get i <;> rfl
          rw [hget] at R1
          have hsh : w.shape? (K.blk id) = some (T, ds.size) := by unfold World.shape?; rw [d1]
          refine then_value hn (c := a.eval xo) (K' := K.frz (hasN [id]) get w) (w' := w.freeze ⟨K.blk id, ds.size, none⟩ 1) ?_ R1 (frz_le _) G1 (fun y hy => ?_)
          · rw [hce]
            have : (convert s s (.slice (some ⟨K.blk id, K.off id, none⟩) n (K.cap id))).run P w = .ok (.slice (some ⟨K.blk id, K.off id, none⟩) n (K.cap id)) (w.freeze ⟨K.blk id, ds.size, none⟩ 1) := by
              simp [convert, run_underlying hs, run_underlying he, markStringish, hsh]
            simp only [execOp, hop, hce, Sem.run_bind, Result.andThen_ok, this, Sem.run_pure]
          · injection hy with hy
            subst hy
            exact hv'.mono (frz_le _)
      · cases h
    · cases h
  · cases h
theorem memA_sound (hS : RelS K e get a w) {o : Oper} {next : Act → World → Prop} {Q : Exit → Act → World → Prop} {base : Nat} {g g' : List Gd} {E : Eff} {ob : List Prop} (h : memA P e get base o g = some (E, ob, g')) (ho : AllP ob) (hh : ∀ j, j < E.nf → get (base + j) = .hole)
    (hn : Then P K get a w o E next) : o.wp P a w next Q := by
  unfold memA at h
  split at h
  · rename_i T x hop
    split at h
    · rename_i v hv
      obtain ⟨u, r, h1, h2, h3, h4⟩ := loadA_sound hS (opv_sound hS hv) h ho
      refine then_value hn (c := r) (K' := K) (w' := w) (by simp [execOp, hop, h3]) (by rw [h2]; exact hS.rel) (Ctx.le_refl K) (fun m => Grow.refl m K w) (fun y hy => ?_)
      rw [h1] at hy; injection hy with hy; subst hy; exact h4
    · cases h
  · rename_i T x y hop
    split at h
    · rename_i u v hu hv
      exact storeA_sound hS hop (opv_sound hS hu) (opv_sound hS hv) h ho hn
    · cases h
  · rename_i T hop
    split at h
    · rename_i cs hcs
      cases h
      exact alloc_sound hS hop (by have := hh 0 (by simp); simpa using this) hcs hn
    · cases h
  · rename_i T x hop
    split at h
    · rename_i v hv
      split at h
      · rename_i hc
        cases h
        exact box_sound hS hop (by have := hh 0 (by simp); simpa using this) hv hc hn
      · cases h
    · cases h
  · rename_i T len parts hop
    split at h
    · rename_i el hu
      split at h
      · rename_i i z hi hz
        split at h
        · rename_i n1 xs hsz hsm hx
          cases h
          exact buildSlice_sound hS hop (by have := hh 0 (by simp); simpa using this) hu hi hz (by rw [hsz]; omega) (Nat.le_of_ble_eq_true hsm) hx hn
        · cases h
      · cases h
    · cases h
  · rename_i T l c hop
    split at h
    · rename_i el lv cv hu hl hc
      split at h
      · rename_i i z n o1 g1 hi hz hl1
        split at h
        · rename_i n1 m o2 g2 hsz hc1
          cases h
          simp only [AllP, AllP.append_iff] at ho
          obtain ⟨p1, p2, p3, p4, p5⟩ := ho
          obtain ⟨k, hk⟩ := ixA_sound (opv_sound hS hl) hl1 p4
          obtain ⟨k', hk'⟩ := ixA_sound (opv_sound hS hc) hc1 p5
          exact makeSlice_sound hS hop (by have := hh 0 (by simp); simpa using this) hu hi hz (by rw [hsz]; omega) hk hk' p1 p2 p3 hn
        · cases h
      · cases h
    · cases h
  · rename_i s d x hop
    split at h
    · rename_i v hv
      exact convA_sound hS hop (opv_sound hS hv) h ho hn
    · cases h
  · rename_i args ats hop
    split at h
    · rename_i s x tS tX hargs hats
      obtain ⟨a1, a2, ha⟩ : ∃ a1 a2, args.toList = [a1, a2] := by
        cases hl : args.toList with
        | nil => rw [hl] at hargs; simp [opvL] at hargs
        | cons x1 r =>
          cases r with
          | nil =>
            rw [hl] at hargs
            simp only [opvL] at hargs
            split at hargs <;> simp at hargs
          | cons x2 r =>
            cases r with
            | nil => exact ⟨x1, x2, rfl⟩
            | cons x3 r =>
              exfalso
              have := (opvL_sound hS _ _ hargs).1
              rw [hl] at this; simp at this
      have hv := opvL_sound hS _ _ hargs
      rw [ha] at hv
      obtain ⟨c1, r1, e1, v1, h2⟩ := hv.cons_inv
      obtain ⟨c2, r2, e2, v2, h3⟩ := h2.cons_inv
      injection e1 with e1 e1'
      subst e1
      rw [← e1'] at e2
      injection e2 with e2 _
      subst e2
      have hb : get base = .hole := by
        have hnf : E.nf = 1 := by
          unfold appendA at h
          (repeat' split at h) <;> first | (cases h; rfl) | cases h
        have := hh 0 (by rw [hnf]; simp); simpa using this
      exact appendA_sound hS hop ha hats v1 v2 hb h ho hn
    · cases h
  · rename_i f args ats hop
    split at h
    · rename_i fn caps vs hf hv
      exact callA_sound hS hop hf hv h ho hh hn
    · cases h
  · cases h
theorem opA_sound (hS : RelS K e get a w) {o : Oper} {next : Act → World → Prop} {Q : Exit → Act → World → Prop} {base : Nat} {g g' : List Gd} {E : Eff} {ob : List Prop} (h : opA P e get base o g = some (E, ob, g')) (ho : AllP ob) (hh : ∀ j, j < E.nf → get (base + j) = .hole)
    (hn : Then P K get a w o E next) : o.wp P a w next Q := by
  unfold opA at h
  split at h
  · rename_i v ob' g1 hp
    cases h
    obtain ⟨c, h1, h2⟩ := pureA_sound hS hp ho
    exact then_value hn h1 hS.rel (Ctx.le_refl K) (fun m => Grow.refl m K w) (by rintro u ⟨rfl⟩; exact h2)
  · exact memA_sound hS h ho hh hn
theorem yielded_of (hS : RelS K e get a w) {ops : Array Oper} {j t : Nat} {b : Bool} (hd : nth (ops.toList.map (·.dst)) j = some (some t)) (ht : e t = some (.bool b)) : yielded ops a.tmps j = some b := by
  rw [nth_eq, List.getElem?_map] at hd
  obtain ⟨c, h1, h2⟩ := hS.env t _ ht
  have hc := h2.bool_inv
  unfold yielded
  cases hj : ops.toList[j]? with
  | none => rw [hj] at hd; cases hd
  | some o =>
    rw [hj] at hd
    have hd : o.dst = some t := by injection hd
    have hj' : ops[j]? = some o := by simpa using hj
    rw [hj', Option.bind_some, hd, Option.bind_some, h1, hc]
theorem yielded_undef (hS : RelS K e get a w) {ops : Array Oper} {j t : Nat} (hd : nth (ops.toList.map (·.dst)) j = some (some t)) (ht : e t = some (.tup [])) : yielded ops a.tmps j = none := by
  rw [nth_eq, List.getElem?_map] at hd
  obtain ⟨c, h1, h2⟩ := hS.env t _ ht
  obtain ⟨ds, rfl, _⟩ := h2.tup_inv
  unfold yielded
  cases hj : ops.toList[j]? with
  | none => rw [hj] at hd; cases hd
  | some o =>
    rw [hj] at hd
    have hd : o.dst = some t := by injection hd
    have hj' : ops[j]? = some o := by simpa using hj
    rw [hj', Option.bind_some, hd, Option.bind_some, h1]
theorem convF_VR {g1 g2 : Nat → Obj} (h : Rel K g1 w) (hg : ∀ id T sz xs, g2 id = .frz T sz xs → g1 id = .frz T sz xs) {u : AV} {c : Value} (hv : VR K u c) : VR K (conv0 g2 u) c := by
  cases u with
  | row id s n =>
    simp only [conv0]
    split
    · rename_i T sz xs hq; exact .pure (frz_list h (hg _ _ _ _ hq) hv)
    · exact hv
  | rws id s o n =>
    simp only [conv0]
    split
    · rename_i T sz xs hq; exact .pure (frz_list_sub h (hg _ _ _ _ hq) hv)
    · exact hv
  | _ => exact hv
theorem convFs_VR {g1 g2 : Nat → Obj} (h : Rel K g1 w) (hg : ∀ id T sz xs, g2 id = .frz T sz xs → g1 id = .frz T sz xs) {us : List AV} {ds : List Value} (hv : VRs K us ds) : VRs K (us.map (conv0 g2)) ds := by
  refine ⟨by rw [List.length_map]; exact hv.1, fun i u d hu hd => ?_⟩
  rw [List.getElem?_map] at hu
  cases hx : us[i]? with
  | none => rw [hx] at hu; cases hu
  | some x => rw [hx] at hu; injection hu with hu; subst hu; exact convF_VR h hg (hv.2 i x d hx hd)
theorem convG_VR {g1 g2 : Nat → Obj} (h : Rel K g1 w) (hg : ∀ id T sz xs, g2 id = .frz T sz xs → g1 id = .frz T sz xs) {u : AV} {c : Value} (hv : VR K u c) : VR K (conv g2 u) c := by
  cases hu : u with
  | agg cs => subst hu; obtain ⟨ds, rfl, hd⟩ := hv.agg_inv; simpa [conv] using VR.mkAgg (convFs_VR h hg hd)
  | _ => subst hu; exact convF_VR h hg hv
theorem opFo_sound (hS : RelS K e get a w) {o : Oper} {next : Act → World → Prop} {Q : Exit → Act → World → Prop} {base : Nat} {ids : List Nat} {g g' : List Gd} {E : Eff} {ob : List Prop} (h : opFo P e get base o ids g = some (E, ob, g')) (ho : AllP ob) (hh : ∀ j, j < E.nf → get (base + j) = .hole)
    (hn : Then P K get a w o E next) : o.wp P a w next Q := by
  unfold opFo at h
  split at h
  · rename_i E1 ob1 g2 h1
    cases h
    obtain ⟨R1, G1⟩ := hS.rel.frz (hasN ids)
    rw [← frzG_eq] at R1
    have hS1 : RelS (K.frz (hasN ids) get w) (convE (onlyG ids (frzG ids get)) e) (frzG ids get) a w := by
      refine ⟨R1, fun t v hv => ?_⟩
      unfold convE at hv
      split at hv
      · rename_i u hu
        injection hv with hv
        subst hv
        obtain ⟨c, c1, c2⟩ := hS.env t u hu
        refine ⟨c, c1, convG_VR R1 (fun id T sz xs hq => ?_) (c2.mono (frz_le _))⟩
        unfold onlyG at hq
        split at hq
        · exact hq
        · cases hq
      · cases hv
    refine opA_sound hS1 h1 ho (fun j hj => ?_) fun K' w' c q1 q2 q3 q4 => hn K' w' c ?_ (Ctx.le_trans (frz_le _) q2) (fun m => (G1 m).trans (q3 m)) q4
    · have := hh j hj
      unfold frzG
      rw [this]
    · have : updG get ((ids.map fun id => (id, frzG ids get id)) ++ E1.wr) = updG (frzG ids get) E1.wr := by
        rw [updG_append]
        congr 1
        funext i
        rw [updG_map]
        split
        · rfl
        · rename_i hi
          have : hasN ids i = false := by rw [Bool.eq_false_iff]; intro hc; exact hi (hasN_iff.1 hc)
          unfold frzG
          rw [this]
          cases get i <;> rfl
      simp only
      rw [this]
      exact q1
  · cases h
theorem opF_sound (hS : RelS K e get a w) {o : Oper} {next : Act → World → Prop} {Q : Exit → Act → World → Prop} {base : Nat} {g g' : List Gd} {E : Eff} {ob : List Prop} (h : opF P e get base o g = some (E, ob, g')) (ho : AllP ob) (hh : ∀ j, j < E.nf → get (base + j) = .hole)
    (hn : Then P K get a w o E next) : o.wp P a w next Q := by
  unfold opF at h
  split at h
  · split at h
    · exact opFo_sound hS h ho hh hn
    · exact opA_sound hS h ho hh hn
  · exact opA_sound hS h ho hh hn
theorem stepA_sound (hS : RelS K e get a w) {ops : Array Oper} {i : Nat} {o : Oper} (hi : ops[i]? = some o) {next : Act → World → Prop} {Q : Exit → Act → World → Prop} {base : Nat} {g g' : List Gd} {E : Eff} {ob : List Prop} (h : stepA P (ops.toList.map (·.dst)) e get base o g = some (E, ob, g')) (ho : AllP ob) (hh : ∀ j, j < E.nf → get (base + j) = .hole)
    (hn : Then P K get a w o E next) : wpOp P ops Q i next a w := by
  unfold wpOp
  rw [hi]
  simp only
  unfold stepA at h
  split at h
  · rename_i hg
    have : Region.wanted o (yielded ops a.tmps) = true := by simp [Region.wanted, hg]
    rw [if_pos this]
    exact .inl (opF_sound hS h ho hh hn)
  · rename_i j want hg
    split at h
    · rename_i t ht
      split at h
      · rename_i hb
        have : Region.wanted o (yielded ops a.tmps) = true := by simp [Region.wanted, hg, yielded_of hS ht hb]
        rw [if_pos this]
        exact .inl (opF_sound hS h ho hh hn)
      · rename_i hb
        have : Region.wanted o (yielded ops a.tmps) = true := by simp [Region.wanted, hg, yielded_of hS ht hb]
        rw [if_pos this]
        exact .inl (opF_sound hS h ho hh hn)
      · rename_i wa x1 wb b hb hn1 hn2
        cases h
        have hy := yielded_of hS ht hb
        have : Region.wanted o (yielded ops a.tmps) = false := by
          simp only [Region.wanted, hg, hy]
          cases b <;> cases wa <;> first | rfl | exact (hn2 rfl rfl).elim | exact (hn1 rfl rfl).elim
        rw [if_neg (by rw [this]; simp)]
        exact hn K w undef hS.rel (Ctx.le_refl K) (fun m => Grow.refl m K w) (by rintro v ⟨rfl⟩; exact VR.mkTup .nil)
      · rename_i wa x1 wb hb
        cases h
        have hy := yielded_undef hS ht hb
        have : Region.wanted o (yielded ops a.tmps) = false := by
          simp only [Region.wanted, hg, hy]
          cases wa <;> rfl
        rw [if_neg (by rw [this]; simp)]
        exact hn K w undef hS.rel (Ctx.le_refl K) (fun m => Grow.refl m K w) (by rintro v ⟨rfl⟩; exact VR.mkTup .nil)
      · cases h
    · cases h

def updE (e : Nat → Option AV) (d : Option Nat) (v : Option AV) : Nat → Option AV := fun t => match d with | some k => if t = k then v else e t | none => e t
theorem look_kill (e : Env) (t k : Nat) : look (killE e k) t = if t = k then none else look e t := by
  induction e with
  | nil => simp [killE, look]
  | cons x xs ih =>
    obtain ⟨y, v⟩ := x
    simp only [killE]
    split
    · rename_i h
      rw [ih]
      have := beq_eq' h; subst this
      by_cases ht : t = y
      · simp [ht]
      · simp only [ht, if_false, look]
        have : Nat.beq y t = false := by
          cases h9 : Nat.beq y t with
          | false => rfl
          | true => exact absurd (beq_eq' h9).symm ht
        rw [this]
    · rename_i h
      have hne : y ≠ k := Nat.ne_of_beq_eq_false h
      simp only [look]
      split
      · rename_i h2
        have := beq_eq' h2; subst this
        simp [hne]
      · exact ih
theorem look_put (e : Env) (d : Option Nat) (v : Option AV) : look (putE e d v) = updE (look e) d v := by
  funext t
  cases d with
  | none => rfl
  | some k =>
    cases v with
    | none => simp only [putE, updE, look_kill]
    | some v =>
      simp only [putE, look, updE]
      split
      · rename_i h; rw [beq_eq' h]; simp
      · rename_i h; rw [if_neg (Ne.symm (Nat.ne_of_beq_eq_false h))]
theorem getO_set (l : List Obj) (n : Nat) (o : Obj) : getO (setO l n o) = putG (getO l) n o := by
  funext i
  induction l generalizing n i with
  | nil =>
    induction n generalizing i with
    | zero => cases i <;> simp [setO, getO, putG]
    | succ n ih => cases i <;> simp [setO, getO, putG, ih]
  | cons x xs ih =>
    cases n with
    | zero => cases i <;> simp [setO, getO, putG]
    | succ n => cases i <;> simp [setO, getO, putG, ih]
theorem getO_sets (l : List Obj) (wr : List (Nat × Obj)) : getO (setsO l wr) = updG (getO l) wr := by
  induction wr generalizing l with
  | nil => rfl
  | cons x xs ih => obtain ⟨n, o⟩ := x; simp only [setsO, updG, ih, getO_set]
theorem getO_out (l : List Obj) (j : Nat) : getO l (l.length + j) = .hole := by rw [getO_eq, List.getElem?_eq_none (by omega)]; rfl
/-- The next state. -/
theorem RelS.next (hS : RelS K e get a w) {d : Option Nat} {E : Eff} {c : Value} {nt : Nat} (hsz : a.tmps.size = nt) (hd : dstB nt d = true) (h1 : Rel K' (updG get E.wr) w') (h2 : K.le K') (h3 : ∀ v, E.v = some v → VR K' v c) :
    RelS K' (updE e d E.v) (updG get E.wr) (a.put d c) w' ∧ (a.put d c).tmps.size = nt ∧ (a.put d c).defers = a.defers := by
  refine ⟨⟨h1, fun t v hv => ?_⟩, ?_, ?_⟩
  · cases d with
    | none =>
      obtain ⟨c', k1, k2⟩ := hS.env t v hv
      exact ⟨c', k1, k2.mono h2⟩
    | some k =>
      simp only [updE] at hv
      have hk : k < a.tmps.size := by rw [hsz]; exact Nat.le_of_ble_eq_true hd
      by_cases ht : t = k
      · subst ht
        rw [if_pos rfl] at hv
        exact ⟨c, by simp [Act.put, hk], h3 v hv⟩
      · rw [if_neg ht] at hv
        obtain ⟨c', k1, k2⟩ := hS.env t v hv
        exact ⟨c', by simp [Act.put, Array.getElem?_setIfInBounds_ne (Ne.symm ht), k1], k2.mono h2⟩
  · cases d <;> simp [Act.put, hsz]
  · cases d <;> rfl
/-- A region whose order is the text's. -/
theorem runOps_sound {ops : Array Oper} {nt : Nat} {Q : Exit → Act → World → Prop} : ∀ (l : List Oper) (i : Nat) (en : Env) (os : List Obj) (g : List Gd) (en' : Env) (os' : List Obj) (rs : List Rc) (ob : List Prop) (g' : List Gd) (K : Ctx) (a : Act) (w : World),
    ops.toList.drop i = l → runOps P nt (ops.toList.map (·.dst)) l en os g = some (en', os', rs, ob, g') → AllP ob → RelS K (look en) (getO os) a w → a.tmps.size = nt →
    (∀ K' a' w', RelS K' (look en') (getO os') a' w' → a'.tmps.size = nt → (∀ m, Grow m K w K' w') → a'.defers = a.defers → Q .normal a' w') → wpOps P ops Q (List.range' i (ops.size - i)) a w
  | [], i, en, os, g, en', os', rs, ob, g', K, a, w, hl, h, ho, hS, hsz, hQ => by
    cases h
    have : ops.size - i = 0 := by have := congrArg List.length hl; simp at this; omega
    rw [this]
    exact hQ K a w hS hsz (fun m => Grow.refl m K w) rfl
  | o :: r, i, en, os, g, en', os', rs, ob, g', K, a, w, hl, h, ho, hS, hsz, hQ => by
    have hi : ops[i]? = some o := by
      have : (ops.toList.drop i)[0]? = some o := by rw [hl]; rfl
      rw [List.getElem?_drop] at this; simpa using this
    have hlt : i < ops.size := (Array.getElem?_eq_some_iff.1 hi).1
    have hr : ops.toList.drop (i + 1) = r := by
      rw [← List.drop_drop, hl]; rfl
    simp only [runOps] at h
    split at h
    · rename_i E ob1 g1 hst hd
      split at h
      · rename_i en2 os2 rs2 ob2 g2 hrec
        cases h
        rw [AllP.append_iff] at ho
        rw [show ops.size - i = (ops.size - (i + 1)) + 1 by omega, List.range'_succ, wpOps_cons]
        refine stepA_sound hS hi hst ho.1 (fun j _ => getO_out os j) fun K' w' c h1 h2 h3 h4 => ?_
        obtain ⟨n1, n2, n3⟩ := hS.next (d := o.dst) hsz hd h1 h2 h4
        rw [← look_put, ← getO_sets] at n1
        refine runOps_sound r (i + 1) _ _ g1 _ _ rs2 ob2 _ K' _ w' hr hrec ho.2 n1 n2 fun K2 a2 w2 k1 k2 k3 k4 => ?_
        exact hQ K2 a2 w2 k1 k2 (fun m => (h3 m).trans (k3 m)) (k4.trans n3)
      · cases h
    · cases h
end
end Go.Proofs.YtidgcfgkcidkiaaGreat.X
namespace Go.Proofs.YtidgcfgkcidkiaaGreat.X
open Go Go.Proofs.YtidgcfgkcidkiaaGreat.L Go.RowKit
set_option linter.unusedVariables false
set_option linter.unusedSimpArgs false
section
variable {P : Program} {e e' : Nat → Option AV} {get get' : Nat → Obj}
theorem opvL_congr {xs : List Operand} (h : ∀ x ∈ xs, opv e x = opv e' x) : opvL e xs = opvL e' xs := by
  induction xs with
  | nil => rfl
  | cons x xs ih => simp only [opvL, h x (by simp), ih fun y hy => h y (by simp [hy])]
theorem fillA_congr {place : Nat → Option (Nat × Nat)} : ∀ {ps : List (Nat × Operand)} {cs : List AV}, (∀ x ∈ ps.map (·.2), opv e x = opv e' x) → fillA e place cs ps = fillA e' place cs ps
  | [], cs, _ => rfl
  | (i, x) :: ps, cs, h => by
    simp only [fillA]
    rw [h x (by simp)]
    split
    · split
      · split
        · exact fillA_congr fun y hy => h y (by simp at hy ⊢; exact .inr hy)
        · rfl
      · rfl
    · rfl
theorem elsA_congr {sz : Nat} : ∀ {ps : List (Nat × Operand)} {xs : List AV}, (∀ x ∈ ps.map (·.2), opv e x = opv e' x) → elsA P e sz xs ps = elsA P e' sz xs ps
  | [], cs, _ => rfl
  | (i, x) :: ps, cs, h => by
    simp only [elsA]
    rw [h x (by simp)]
    split
    · split
      · split
        · exact elsA_congr fun y hy => h y (by simp at hy ⊢; exact .inr hy)
        · rfl
      · rfl
    · rfl
theorem buildA_congr {T : TypeId} {ps : List (Nat × Operand)} (h : ∀ x ∈ ps.map (·.2), opv e x = opv e' x) : buildA P e T ps = buildA P e' T ps := by
  unfold buildA
  split
  · split
    · split
      · exact fillA_congr h
      · rfl
    · rfl
  · split
    · split
      · exact fillA_congr h
      · rfl
    · rfl
  · rfl
theorem boundA_congr {d : Nat} {x : Option Operand} {g : List Gd} (h : ∀ y, x = some y → opv e y = opv e' y) : boundA e d x g = boundA e' d x g := by
  unfold boundA
  cases x with
  | none => rfl
  | some y => simp only [h y rfl]
theorem sliceA_congr {T : TypeId} {v : AV} {lo hi : Option Operand} {g : List Gd} (h1 : ∀ y, lo = some y → opv e y = opv e' y) (h2 : ∀ y, hi = some y → opv e y = opv e' y) : sliceA P e T v lo hi g = sliceA P e' T v lo hi g := by
  unfold sliceA
  simp only [boundA_congr h1, boundA_congr h2]
theorem pureA_congr {o : Oper} {g : List Gd} (hA : ∀ x ∈ o.op.operands.toList, opv e x = opv e' x) : pureA P e o g = pureA P e' o g := by
  obtain ⟨dst, op, ty, pos, af, gd⟩ := o
  have hA : ∀ x ∈ op.operands.toList, opv e x = opv e' x := hA
  cases op with
  | move x => have h1 := hA x (by simp [Op.operands]); simp only [pureA, h1]
  | assign x => have h1 := hA x (by simp [Op.operands]); simp only [pureA, h1]
  | pick c x y => have h1 := hA c (by simp [Op.operands]); have h2 := hA x (by simp [Op.operands]); have h3 := hA y (by simp [Op.operands]); simp only [pureA, h1, h2, h3]
  | nilCheck x => have h1 := hA x (by simp [Op.operands]); simp only [pureA, h1]
  | binOp op T x y U => have h1 := hA x (by simp [Op.operands]); have h2 := hA y (by simp [Op.operands]); simp only [pureA, h1, h2]
  | unOp op T x => have h1 := hA x (by simp [Op.operands]); cases op <;> first | rfl | simp only [pureA, h1]
  | convert s d x => have h1 := hA x (by simp [Op.operands]); simp only [pureA, h1]
  | fieldAddr T x f => have h1 := hA x (by simp [Op.operands]); simp only [pureA, h1]
  | field T x f => have h1 := hA x (by simp [Op.operands]); simp only [pureA, h1]
  | indexAddr T x y => have h1 := hA x (by simp [Op.operands]); have h2 := hA y (by simp [Op.operands]); simp only [pureA, h1, h2]
  | index T x y => have h1 := hA x (by simp [Op.operands]); have h2 := hA y (by simp [Op.operands]); simp only [pureA, h1, h2]
  | extract x i => have h1 := hA x (by simp [Op.operands]); simp only [pureA, h1]
  | slice T x lo hi mx =>
    have h1 := hA x (by simp [Op.operands])
    have h2 : ∀ y, lo = some y → opv e y = opv e' y := by rintro y rfl; exact hA y (by simp [Op.operands])
    have h3 : ∀ y, hi = some y → opv e y = opv e' y := by rintro y rfl; exact hA y (by simp [Op.operands])
    cases mx with
    | none => simp only [pureA, h1, sliceA_congr h2 h3]
    | some m => rfl
  | build T ps =>
    have h1 : buildA P e T ps.toList = buildA P e' T ps.toList := buildA_congr fun x hx => hA x (by simpa [Op.operands] using hx)
    simp only [pureA, h1]
  | makeFunc fn first caps =>
    have h1 : opvL e caps.toList = opvL e' caps.toList := opvL_congr fun x hx => hA x (by simp [Op.operands]; exact .inr (by simpa using hx))
    cases fn <;> first | rfl | simp only [pureA, h1]
  | call c =>
    obtain ⟨callee, args, ats⟩ := c
    cases callee with
    | builtin b =>
      have hx : ∀ x ∈ args.toList, opv e x = opv e' x := fun x hx => hA x (by simp [Op.operands, Call.operands]; simpa using hx)
      have h1 : opvL e args.toList = opvL e' args.toList := opvL_congr hx
      cases b <;> first | rfl | (simp only [pureA, h1]; done) | skip
      simp only [pureA]
      split
      · rename_i x T r h2 h3
        rw [hx x (by rw [h2]; simp)]
      · rfl
    | value f => rfl
    | invoke r m => rfl
  | _ => rfl

theorem lent0_congr {p : List Nat} {v : AV} (h : ∀ id ∈ hid0 v, get id = get' id) : lent0 p get v = lent0 p get' v := by
  cases v <;> first | rfl | (simp only [lent0]; rw [h _ (by simp [hid0])])
theorem lentL_congr {p : List Nat} {vs : List AV} (h : ∀ id ∈ hidL vs, get id = get' id) : lentL p get vs = lentL p get' vs := by
  induction vs with
  | nil => rfl
  | cons v vs ih => simp only [lentL]; rw [lent0_congr fun id hid => h id (by simp [hidL, hid]), ih fun id hid => h id (by simp [hidL, hid])]
/-- What one value names. -/
def hid1 : AV → List Nat
  | .agg cs | .fn _ cs => hidL cs
  | v => hid0 v
theorem hids_cons (v : AV) (vs : List AV) : hids (v :: vs) = hid1 v ++ hids vs := by cases v <;> rfl
theorem lents_congr {p : List Nat} {vs : List AV} (h : ∀ id ∈ hids vs, get id = get' id) : lents p get vs = lents p get' vs := by
  induction vs with
  | nil => rfl
  | cons v vs ih =>
    rw [hids_cons] at h
    have h2 := ih fun id hid => h id (by simp [hid])
    have h1 : ∀ id ∈ hid1 v, get id = get' id := fun id hid => h id (by simp [hid])
    cases v <;> simp only [hid1] at h1 <;> simp only [lents, h2] <;> first | rw [lentL_congr h1] | rw [lent0_congr h1]
theorem lent0_hid {p : List Nat} {v : AV} {id : Nat} (h : id ∈ lent0 p get v) : id ∈ hid0 v := by
  unfold lent0 at h
  split at h
  · split at h
    · simpa [hid0] using h
    · cases h
  · split at h
    · simpa [hid0] using h
    · cases h
  · cases h
theorem lentL_hid {p : List Nat} {vs : List AV} {id : Nat} (h : id ∈ lentL p get vs) : id ∈ hidL vs := by
  induction vs with
  | nil => cases h
  | cons v vs ih =>
    simp only [lentL, List.mem_append, hidL] at h ⊢
    exact h.imp lent0_hid ih
theorem lents_hid {p : List Nat} {vs : List AV} {id : Nat} (h : id ∈ lents p get vs) : id ∈ hids vs := by
  induction vs with
  | nil => cases h
  | cons v vs ih =>
    rw [hids_cons, List.mem_append]
    cases v <;> simp only [lents, List.mem_append] at h <;> first | exact h.imp lentL_hid ih | exact h.imp lent0_hid ih
theorem ren0_congr {r : Nat → Option Nat} {v : AV} (h : ∀ id ∈ hid0 v, get id = get' id) : ren0 r get v = ren0 r get' v := by
  cases v <;> first | rfl | (simp only [ren0]; rw [h _ (by simp [hid0])])
theorem ren0s_congr {r : Nat → Option Nat} {vs : List AV} (h : ∀ id ∈ hidL vs, get id = get' id) : vs.map (ren0 r get) = vs.map (ren0 r get') := by
  induction vs with
  | nil => rfl
  | cons v vs ih => simp only [List.map_cons]; rw [ren0_congr fun id hid => h id (by simp [hidL, hid]), ih fun id hid => h id (by simp [hidL, hid])]
theorem ren_congr {r : Nat → Option Nat} {v : AV} (h : ∀ id ∈ hid1 v, get id = get' id) : ren r get v = ren r get' v := by
  cases v <;> simp only [ren] <;> first | rw [ren0s_congr h] | exact ren0_congr h
theorem rens_congr {r : Nat → Option Nat} {vs : List AV} (h : ∀ id ∈ hids vs, get id = get' id) : vs.map (ren r get) = vs.map (ren r get') := by
  induction vs with
  | nil => rfl
  | cons v vs ih =>
    rw [hids_cons] at h
    simp only [List.map_cons]; rw [ren_congr fun id hid => h id (by simp [hid]), ih fun id hid => h id (by simp [hid])]
theorem frzG_at {br : List Nat} {id : Nat} (h : get id = get' id) : frzG br get id = frzG br get' id := by unfold frzG; rw [h]
theorem hidO_mem {p : List Nat} {id i : Nat} {T : TypeId} {cs : List AV} (h : id ∈ p) (hg : get id = .vars T cs) (hi : i ∈ hidL cs) : i ∈ hidO get p := by
  induction p with
  | nil => cases h
  | cons x xs ih =>
    simp only [hidO, List.mem_append]
    rcases List.mem_cons.1 h with rfl | h
    · exact .inl (by rw [hg]; exact hi)
    · exact .inr (ih h)
theorem hidO_congr {p : List Nat} (h : ∀ id ∈ p, get id = get' id) : hidO get p = hidO get' p := by
  induction p with
  | nil => rfl
  | cons x xs ih => simp only [hidO]; rw [h x (by simp), ih fun id hid => h id (by simp [hid])]
theorem fits_congr : ∀ {p : List Nat} {objs : List Obj}, (∀ id ∈ p, get id = get' id) → fits get p objs = fits get' p objs
  | [], _, _ => rfl
  | x :: xs, [], _ => rfl
  | x :: xs, o :: os, h => by simp only [fits]; rw [h x (by simp), fits_congr fun id hid => h id (by simp [hid])]
theorem outN_congr {p : List Nat} {base : Nat} (h : ∀ id ∈ p, get id = get' id) : outN p get base = outN p get' base := by
  funext j
  unfold outN
  rw [nth_eq]
  cases hj : p[j]? with
  | none => rfl
  | some id => simp only; rw [h id (List.mem_of_getElem? hj)]
theorem goneW_congr {p : List Nat} (h : ∀ id ∈ p, get id = get' id) : goneW get p = goneW get' p := by
  induction p with
  | nil => rfl
  | cons x xs ih => simp only [goneW]; rw [h x (by simp), ih fun id hid => h id (by simp [hid])]
theorem outW_congr {p : List Nat} {fz : Bool} {base m : Nat} {r : AV → AV} (h : ∀ id ∈ p, get id = get' id) : ∀ (os : List Obj) (j : Nat), outW p get fz base m r j os = outW p get' fz base m r j os
  | [], _ => rfl
  | o :: os, j => by simp only [outW]; rw [outN_congr h, outW_congr h os (j + 1)]
theorem callA_congr {base : Nat} {f : FuncId} {args : List AV} {g g' : List Gd} {E : Eff} {ob : List Prop} (h : callA P get base f args g = some (E, ob, g')) (hr : ∀ id ∈ E.rd, get id = get' id) : callA P get' base f args g = some (E, ob, g') := by
  unfold callA at h
  split at h
  · rename_i p fz bor v objs g1
    have key : ∀ id, id ∈ p ∨ id ∈ hids args ∨ id ∈ hidO get p → get id = get' id := by
      intro id hid
      refine hr id ?_
      dsimp only at h
      split at h
      · split at h
        · cases h; simp only [List.mem_append]; rcases hid with hid | hid | hid <;> simp [hid]
        · cases h
      · split at h
        · cases h; simp only [List.mem_append]; rcases hid with hid | hid | hid <;> simp [hid]
        · cases h
    have kp : ∀ id ∈ p, get id = get' id := fun id hid => key id (.inl hid)
    have e1 : lents p get args = lents p get' args := lents_congr fun id hid => key id (.inr (.inl hid))
    have e2 : hidO get p = hidO get' p := hidO_congr kp
    have e3 : args.map (ren (idx p) (frzG (lents p get' args) get)) = args.map (ren (idx p) (frzG (lents p get' args) get')) := rens_congr fun id hid => frzG_at (key id (.inr (.inl hid)))
    have e4 : (p.map fun id => renO (idx p) (frzG (lents p get' args) get) (frzG (lents p get' args) get id)) = p.map fun id => renO (idx p) (frzG (lents p get' args) get') (frzG (lents p get' args) get' id) := by
      refine List.map_congr_left fun id hid => ?_
      have h1 := kp id hid
      rw [frzG_at (br := lents p get' args) h1]
      cases hg : frzG (lents p get' args) get' id with
      | vars T cs =>
        have hg' : get' id = .vars T cs := by
          unfold frzG at hg
          split at hg
          · cases hg
          · exact hg
        simp only [renO]
        rw [ren0s_congr fun i hi => frzG_at (key i (.inr (.inr (hidO_mem hid (h1.trans hg') hi))))]
      | _ => rfl
    have e5 : ((lents p get' args).map fun id => (id, frzG (lents p get' args) get id)) = (lents p get' args).map fun id => (id, frzG (lents p get' args) get' id) := by
      refine List.map_congr_left fun id hid => ?_
      rw [← e1] at hid
      rw [frzG_at (key id (.inr (.inl (lents_hid hid))))]
    have e6 := outN_congr (base := base) kp
    have e7 := goneW_congr kp
    have e8 : fits get p objs = fits get' p objs := fits_congr kp
    unfold callA
    dsimp only at h ⊢
    rw [e1, e2, e3, e4, e5, e6, e7, e8] at h
    simp only [outW_congr kp] at h
    exact h
  · rename_i p v g1
    have key : ∀ id, id ∈ p ∨ id ∈ hids args ∨ id ∈ hidO get p → get id = get' id := by
      intro id hid
      refine hr id ?_
      split at h
      · cases h; simp only [List.mem_append]; rcases hid with hid | hid | hid <;> simp [hid]
      · cases h
    have kp : ∀ id ∈ p, get id = get' id := fun id hid => key id (.inl hid)
    have e1 : lents p get args = lents p get' args := lents_congr fun id hid => key id (.inr (.inl hid))
    have e2 : hidO get p = hidO get' p := hidO_congr kp
    have e3 : args.map (ren (idx p) get) = args.map (ren (idx p) get') := rens_congr fun id hid => key id (.inr (.inl hid))
    have e4 : (p.map fun id => renO (idx p) get (get id)) = p.map fun id => renO (idx p) get' (get' id) := by
      refine List.map_congr_left fun id hid => ?_
      have h1 := kp id hid
      rw [h1]
      cases hg : get' id with
      | vars T cs =>
        simp only [renO]
        rw [ren0s_congr fun i hi => key i (.inr (.inr (hidO_mem hid (h1.trans hg) hi)))]
      | _ => rfl
    unfold callA
    dsimp only at h ⊢
    rw [e1, e2, e3, e4] at h
    exact h
  · rename_i id xs v g1
    have key : ∀ i, i = id ∨ i ∈ hids args → get i = get' i := by
      intro i hi
      refine hr i ?_
      split at h
      · cases h; rcases hi with rfl | hi <;> simp [*]
      · cases h
    have e1 : lents [id] get args = lents [id] get' args := lents_congr fun i hi => key i (.inr hi)
    have e2 : args.map (ren (idx [id]) get) = args.map (ren (idx [id]) get') := rens_congr fun i hi => key i (.inr hi)
    have e3 := key id (.inl rfl)
    unfold callA
    dsimp only at h ⊢
    rw [e1, e2, e3] at h
    exact h
  · cases h
theorem srcA_congr {sz : Nat} {x : AV} {ys : List AV} {rd : List Nat} (h : srcA get sz x = some (ys, rd)) (hr : ∀ id ∈ rd, get id = get' id) : srcA get' sz x = some (ys, rd) := by
  unfold srcA at h ⊢
  split at h
  · exact h
  · exact h
  · rename_i id s n
    have : id ∈ rd := by
      split at h
      · split at h
        · cases h; simp
        · cases h
      · split at h
        · cases h; simp
        · cases h
      · cases h
    rw [← hr id this]; exact h
  · rename_i id s o n
    have : id ∈ rd := by
      split at h
      · split at h
        · cases h; simp
        · cases h
      · split at h
        · cases h; simp
        · cases h
      · cases h
    rw [← hr id this]; exact h
  · cases h
theorem convA_congr {s d : TypeId} {v : AV} {g g' : List Gd} {E : Eff} {ob : List Prop} (h : convA P get s d v g = some (E, ob, g')) (hr : ∀ id ∈ E.rd, get id = get' id) : convA P get' s d v g = some (E, ob, g') := by
  unfold convA at h ⊢
  split at h
  · split at h
    · rename_i he hsrc
      cases h
      rw [srcA_congr hsrc hr, he]
    · cases h
  · split at h
    · rename_i id sz n hsd he
      split at h
      · rename_i T sz' xs hg
        cases h
        rw [← hr id (by simp), hg]
      · cases h
    · cases h
  · cases h
theorem memA_congr {base : Nat} {o : Oper} {g g' : List Gd} {E : Eff} {ob : List Prop} (h : memA P e get base o g = some (E, ob, g')) (hA : ∀ x ∈ o.op.operands.toList, opv e x = opv e' x) (hr : ∀ id ∈ E.rd, get id = get' id) : memA P e' get' base o g = some (E, ob, g') := by
  obtain ⟨dst, op, ty, pos, af, gd⟩ := o
  have hA : ∀ x ∈ op.operands.toList, opv e x = opv e' x := hA
  cases op with
  | load T x =>
    have h1 := hA x (by simp [Op.operands])
    simp only [memA] at h ⊢
    rw [← h1]
    split at h
    · rename_i v hv
      cases v with
      | ptr id off =>
        have : id ∈ E.rd := by
          simp only [loadA] at h
          (repeat' split at h) <;> first | (cases h; simp) | cases h
        simp only [loadA] at h ⊢
        rw [← hr id this]; exact h
      | ept id sz i off =>
        have : id ∈ E.rd := by
          simp only [loadA] at h
          (repeat' split at h) <;> first | (cases h; simp) | cases h
        simp only [loadA] at h ⊢
        rw [← hr id this]; exact h
      | lpt sz xs i off => simp only [loadA] at h ⊢; exact h
      | _ => simp only [loadA] at h; cases h
    · cases h
  | store T x y =>
    have h1 := hA x (by simp [Op.operands])
    have h2 := hA y (by simp [Op.operands])
    simp only [memA] at h ⊢
    rw [← h1, ← h2]
    split at h
    · rename_i v u hv hu
      cases v with
      | ptr id off =>
        have : id ∈ E.rd := by
          simp only [storeA] at h
          (repeat' split at h) <;> first | (cases h; simp) | cases h
        simp only [storeA] at h ⊢
        rw [← hr id this]; exact h
      | ept id sz i off =>
        have : id ∈ E.rd := by
          simp only [storeA] at h
          (repeat' split at h) <;> first | (cases h; simp) | cases h
        simp only [storeA] at h ⊢
        rw [← hr id this]; exact h
      | _ => simp only [storeA] at h; (repeat' split at h) <;> cases h
    · cases h
  | alloc T => exact h
  | box T x =>
    have h1 := hA x (by simp [Op.operands])
    simp only [memA] at h ⊢
    rw [← h1]; exact h
  | buildSlice T len ps =>
    have h1 : ∀ sz xs, elsA P e sz xs ps.toList = elsA P e' sz xs ps.toList := fun sz xs => elsA_congr fun x hx => hA x (by simpa [Op.operands] using hx)
    simp only [memA, h1] at h ⊢
    exact h
  | makeSlice T l c =>
    have h1 := hA l (by simp [Op.operands])
    have h2 := hA c (by simp [Op.operands])
    simp only [memA] at h ⊢
    rw [← h1, ← h2]; exact h
  | convert s d x =>
    have h1 := hA x (by simp [Op.operands])
    simp only [memA] at h ⊢
    rw [← h1]
    split at h
    · exact convA_congr h hr
    · cases h
  | call c =>
    obtain ⟨callee, args, ats⟩ := c
    cases callee with
    | builtin b =>
      have h1 : opvL e args.toList = opvL e' args.toList := opvL_congr fun x hx => hA x (by simp [Op.operands, Call.operands]; simpa using hx)
      cases b <;> first | exact h | skip
      simp only [memA] at h ⊢
      rw [← h1]
      split at h
      · rename_i s x tS tX h2 h3
        unfold appendA at h ⊢
        split at h
        · rename_i el hu ht
          split at h
          · rename_i i hi
            split at h
            · rename_i ys rd z hs hz
              have hrd : ∀ id ∈ rd, id ∈ E.rd := by
                intro id hid
                (repeat' split at h) <;> first | (cases h; simp [hid]) | cases h
              rw [srcA_congr hs fun id hid => hr id (hrd id hid)]
              try simp only [hz]
              cases s with
              | nils => exact h
              | row id sz n =>
                have : id ∈ E.rd := by
                  simp only at h
                  (repeat' split at h) <;> first | (cases h; simp) | cases h
                simp only at h ⊢
                rw [← hr id this]; exact h
              | _ => cases h
            · cases h
          · cases h
        · cases h
      · cases h
    | value f =>
      have h0 := hA f (by simp [Op.operands, Call.operands])
      have h1 : opvL e args.toList = opvL e' args.toList := opvL_congr fun x hx => hA x (by simp [Op.operands, Call.operands]; exact .inr (by simpa using hx))
      simp only [memA] at h ⊢
      rw [← h0, ← h1]
      split at h
      · rename_i fn caps vs h2 h3
        exact callA_congr h hr
      · cases h
    | invoke r m => exact h
  | _ => exact h
theorem opA_congr {base : Nat} {o : Oper} {g g' : List Gd} {E : Eff} {ob : List Prop} (h : opA P e get base o g = some (E, ob, g')) (hA : ∀ x ∈ o.op.operands.toList, opv e x = opv e' x) (hr : ∀ id ∈ E.rd, get id = get' id) : opA P e' get' base o g = some (E, ob, g') := by
  unfold opA at h ⊢
  rw [← pureA_congr hA]
  split at h
  · exact h
  · exact memA_congr h hA hr
theorem opFo_congr {base : Nat} {o : Oper} {ids : List Nat} {g g' : List Gd} {E : Eff} {ob : List Prop} (h : opFo P e get base o ids g = some (E, ob, g')) (hA : ∀ x ∈ o.op.operands.toList, opv e x = opv e' x) (hr : ∀ id ∈ E.rd, get id = get' id) : opFo P e' get' base o ids g = some (E, ob, g') := by
  unfold opFo at h ⊢
  split at h
  · rename_i E1 ob1 g2 h1
    cases h
    have hid : ∀ id ∈ ids, frzG ids get id = frzG ids get' id := fun id hi => frzG_at (hr id (List.mem_append_left _ hi))
    have ho : onlyG ids (frzG ids get) = onlyG ids (frzG ids get') := by
      funext i
      unfold onlyG
      split
      · rename_i hc; exact hid i (hasN_iff.1 hc)
      · rfl
    have hm : (ids.map fun id => (id, frzG ids get id)) = ids.map fun id => (id, frzG ids get' id) := List.map_congr_left fun id hi => by rw [hid id hi]
    have := opA_congr (e' := convE (onlyG ids (frzG ids get')) e') (get' := frzG ids get') h1 (fun x hx => by
      have hq := hA x hx
      cases x with
      | tmp t =>
        have hq : e t = e' t := hq
        show convE _ e t = convE _ e' t
        unfold convE
        rw [hq, ho]
      | _ => rfl) (fun id hi => frzG_at (hr id (List.mem_append_right _ hi)))
    rw [this, hm]
  · cases h
theorem opF_congr {base : Nat} {o : Oper} {g g' : List Gd} {E : Eff} {ob : List Prop} (h : opF P e get base o g = some (E, ob, g')) (hA : ∀ x ∈ o.op.operands.toList, opv e x = opv e' x) (hr : ∀ id ∈ E.rd, get id = get' id) : opF P e' get' base o g = some (E, ob, g') := by
  unfold opF at h ⊢
  split at h
  · split at h
    · exact opFo_congr h hA hr
    · exact opA_congr h hA hr
  · exact opA_congr h hA hr
theorem stepA_congr {ds : List (Option Nat)} {base : Nat} {o : Oper} {g g' : List Gd} {E : Eff} {ob : List Prop} (h : stepA P ds e get base o g = some (E, ob, g')) (hA : ∀ t ∈ slotsOf ds o, e t = e' t) (hr : ∀ id ∈ E.rd, get id = get' id) : stepA P ds e' get' base o g = some (E, ob, g') := by
  have hB : ∀ x ∈ o.op.operands.toList, opv e x = opv e' x := by
    intro x hx
    cases x with
    | tmp t =>
      refine hA t ?_
      unfold slotsOf
      rw [List.mem_append]
      exact .inl (List.mem_filterMap.2 ⟨.tmp t, hx, rfl⟩)
    | _ => rfl
  unfold stepA at h ⊢
  split at h
  · exact opF_congr h hB hr
  · rename_i j want hg
    split at h
    · rename_i t ht
      have : e t = e' t := hA t (by unfold slotsOf; rw [hg]; simp [ht])
      rw [← this]
      split at h
      · exact opF_congr h hB hr
      · exact opF_congr h hB hr
      · exact h
      · exact h
      · cases h
    · cases h
end
end Go.Proofs.YtidgcfgkcidkiaaGreat.X
namespace Go.Proofs.YtidgcfgkcidkiaaGreat.X
open Go Go.Proofs.YtidgcfgkcidkiaaGreat.L Go.RowKit
set_option linter.unusedVariables false
set_option linter.unusedSimpArgs false
structure Tr where
  o : Oper
  g : List Gd
  base : Nat
  E : Eff
  ob : List Prop
  g' : List Gd

abbrev SS := (Nat → Option AV) × (Nat → Obj)
def app (s : SS) (t : Tr) : SS := (updE s.1 t.o.dst t.E.v, updG s.2 t.E.wr)
def stL (s : SS) : List Tr → SS
  | [] => s
  | t :: r => stL (app s t) r
def foldX (X : Nat → Bool) : Nat → SS → List Tr → SS
  | _, s, [] => s
  | i, s, t :: r => foldX X (i + 1) (if X i = true then app s t else s) r
def rcOf (ds : List (Option Nat)) (t : Tr) : Rc := ⟨t.o.dst, slotsOf ds t.o, t.E.rd, rangeN t.base t.E.nf ++ t.E.wr.map (·.1)⟩

section
variable {P : Program} {K K' : Ctx} {a : Act} {w w' : World} {nt : Nat} {ds : List (Option Nat)}
theorem trace : ∀ (l : List Oper) (e : Env) (os : List Obj) (g : List Gd) (e' : Env) (os' : List Obj) (rs : List Rc) (ob : List Prop) (g' : List Gd), runOps P nt ds l e os g = some (e', os', rs, ob, g') →
    ∃ T : List Tr, T.map (·.o) = l ∧ rs = T.map (rcOf ds) ∧ (AllP ob → ∀ t ∈ T, AllP t.ob) ∧
      (∀ i t, T[i]? = some t → stepA P ds (stL (look e, getO os) (T.take i)).1 (stL (look e, getO os) (T.take i)).2 t.base t.o t.g = some (t.E, t.ob, t.g') ∧ (∀ j, j < t.E.nf → (stL (look e, getO os) (T.take i)).2 (t.base + j) = .hole) ∧ dstB nt t.o.dst = true) ∧
      (look e', getO os') = stL (look e, getO os) T
  | [], e, os, g, e', os', rs, ob, g', h => by
    cases h
    exact ⟨[], rfl, rfl, fun _ t ht => by simp at ht, fun i t ht => by simp at ht, rfl⟩
  | o :: r, e, os, g, e', os', rs, ob, g', h => by
    simp only [runOps] at h
    split at h
    · rename_i E ob1 g1 hst hd
      split at h
      · rename_i e2 os2 rs2 ob2 g2 hrec
        cases h
        obtain ⟨T, h1, h2, h3, h4, h5⟩ := trace r _ _ _ _ _ _ _ _ hrec
        have hs : (look (putE e o.dst E.v), getO (setsO os E.wr)) = app (look e, getO os) ⟨o, g, os.length, E, ob1, g1⟩ := by
          simp only [app, look_put, getO_sets]
        rw [hs] at h4 h5
        refine ⟨⟨o, g, os.length, E, ob1, g1⟩ :: T, by simp [h1], by simp [h2, rcOf], fun ho t ht => ?_, fun i t ht => ?_, h5⟩
        · rw [AllP.append_iff] at ho
          rcases List.mem_cons.1 ht with rfl | ht
          · exact ho.1
          · exact h3 ho.2 t ht
        · cases i with
          | zero =>
            simp at ht; subst ht
            exact ⟨hst, fun j _ => getO_out os j, hd⟩
          | succ i => exact h4 i t (by simpa using ht)
      · cases h
    · cases h
theorem foldX_take : ∀ (T : List Tr) (i k : Nat) (s : SS), foldX (fun j => decide (j < i + k)) i s T = stL s (T.take k)
  | [], i, k, s => by simp [foldX, stL]
  | t :: r, i, k, s => by
    cases k with
    | zero =>
      simp only [foldX, Nat.add_zero, Nat.lt_irrefl, decide_false, Bool.false_eq_true, if_false, List.take_zero, stL]
      have : foldX (fun j => decide (j < i)) (i + 1) s r = s := by
        have key : ∀ (r : List Tr) (j : Nat), i ≤ j → foldX (fun j => decide (j < i)) j s r = s := by
          intro r
          induction r with
          | nil => intros; rfl
          | cons u us ih =>
            intro j hj
            simp only [foldX]
            rw [if_neg (by simp; omega)]
            exact ih (j + 1) (by omega)
        exact key r (i + 1) (by omega)
      exact this
    | succ k =>
      simp only [foldX, List.take_succ_cons, stL]
      rw [if_pos (by simp)]
      have := foldX_take r (i + 1) k (app s t)
      rw [show i + 1 + k = i + (k + 1) by omega] at this
      exact this
theorem foldX_slot (X Y : Nat → Bool) (t : Nat) : ∀ (T : List Tr) (i : Nat) (s s' : SS), s.1 t = s'.1 t → (∀ k u, T[k]? = some u → u.o.dst = some t → X (i + k) = Y (i + k)) → (foldX X i s T).1 t = (foldX Y i s' T).1 t
  | [], i, s, s', h, _ => h
  | u :: r, i, s, s', h, hw => by
    simp only [foldX]
    refine foldX_slot X Y t r (i + 1) _ _ ?_ fun k v hk hd => by
      have := hw (k + 1) v (by simpa using hk) hd
      rwa [show i + (k + 1) = i + 1 + k by omega] at this
    by_cases hd : u.o.dst = some t
    · have := hw 0 u rfl hd
      simp only [Nat.add_zero] at this
      rw [this]
      split
      · simp [app, updE, hd]
      · exact h
    · have e1 : ∀ s : SS, (app s u).1 t = s.1 t := fun s => by
        simp only [app, updE]
        cases hu : u.o.dst with
        | none => rfl
        | some d => rw [hu] at hd; simp only; rw [if_neg fun h => hd (by rw [h])]
      split <;> split <;> simp [e1, h]
theorem updG_out' {g : Nat → Obj} : ∀ {wr : List (Nat × Obj)} {id : Nat}, id ∉ wr.map (·.1) → updG g wr id = g id
  | [], id, _ => rfl
  | (n, o) :: r, id, h => by
    simp only [List.map_cons, List.mem_cons, not_or] at h
    simp only [updG]
    rw [updG_out' h.2]
    simp [putG, h.1]
theorem updG_at {g g' : Nat → Obj} : ∀ {wr : List (Nat × Obj)} {id : Nat}, g id = g' id → updG g wr id = updG g' wr id
  | [], id, h => h
  | (n, o) :: r, id, h => by
    simp only [updG]
    exact updG_at (by simp only [putG]; split <;> first | rfl | exact h)
theorem foldX_obj (X Y : Nat → Bool) (id : Nat) : ∀ (T : List Tr) (i : Nat) (s s' : SS), s.2 id = s'.2 id → (∀ k u, T[k]? = some u → id ∈ u.E.wr.map (·.1) → X (i + k) = Y (i + k)) → (foldX X i s T).2 id = (foldX Y i s' T).2 id
  | [], i, s, s', h, _ => h
  | u :: r, i, s, s', h, hw => by
    simp only [foldX]
    refine foldX_obj X Y id r (i + 1) _ _ ?_ fun k v hk hd => by
      have := hw (k + 1) v (by simpa using hk) hd
      rwa [show i + (k + 1) = i + 1 + k by omega] at this
    by_cases hd : id ∈ u.E.wr.map (·.1)
    · have := hw 0 u rfl hd
      simp only [Nat.add_zero] at this
      rw [this]
      split
      · exact updG_at h
      · exact h
    · have e1 : ∀ s : SS, (app s u).2 id = s.2 id := fun s => updG_out' hd
      split <;> split <;> simp [e1, h]

theorem meets_iff {a b : List Nat} : meets a b = true ↔ ∃ x, x ∈ a ∧ x ∈ b := by
  induction a with
  | nil => simp [meets]
  | cons x xs ih =>
    simp only [meets]
    split
    · rename_i h; simp only [true_iff]; exact ⟨x, by simp, hasN_iff.1 h⟩
    · rename_i h
      rw [ih]
      have : x ∉ b := fun hx => by rw [hasN_iff.2 hx] at h; cases h
      constructor
      · rintro ⟨y, h1, h2⟩; exact ⟨y, by simp [h1], h2⟩
      · rintro ⟨y, h1, h2⟩
        rcases List.mem_cons.1 h1 with rfl | h1
        · exact absurd h2 this
        · exact ⟨y, h1, h2⟩
theorem okOne_spec {r : Rc} {m : Nat} : ∀ {l : List Rc} {j : Nat}, okOne r m j l = true → ∀ k s, l[k]? = some s → conf s r = true → m.testBit (j + k) = true
  | [], j, _, k, s, hk, _ => by simp at hk
  | x :: xs, j, h, k, s, hk, hc => by
    simp only [okOne] at h
    split at h
    · cases h
    · rename_i hn
      cases k with
      | zero =>
        simp at hk; subst hk
        rw [Nat.add_zero]
        cases hb : m.testBit j with
        | true => rfl
        | false => exact absurd hb (hn hc)
      | succ k =>
        have := okOne_spec h k s (by simpa using hk) hc
        rwa [show j + (k + 1) = j + 1 + k by omega]
theorem okAll_spec : ∀ {rs ahead : List Rc} {ms : List Nat}, okAll ahead rs ms = true → ∀ k r, rs[k]? = some r → ∃ m, ms[k]? = some m ∧ ∀ j s, (ahead ++ rs)[j]? = some s → j < ahead.length + k → conf s r = true → m.testBit j = true
  | [], ahead, ms, _, k, r, hk => by simp at hk
  | x :: xs, ahead, [], h, k, r, hk => by simp [okAll] at h
  | x :: xs, ahead, m :: ms, h, k, r, hk => by
    simp only [okAll] at h
    split at h
    · rename_i h1
      cases k with
      | zero =>
        simp at hk; subst hk
        refine ⟨m, rfl, fun j s hj hlt hc => ?_⟩
        rw [List.getElem?_append_left (by omega)] at hj
        have := okOne_spec h1 j s hj hc
        rwa [Nat.zero_add] at this
      | succ k =>
        obtain ⟨m', h2, h3⟩ := okAll_spec h k r (by simpa using hk)
        refine ⟨m', by simpa using h2, fun j s hj hlt hc => h3 j s (by simpa using hj) (by simp; omega) hc⟩
    · cases h
theorem maskOf_spec {acc : List Nat} : ∀ {es : List Edge} {j : Nat}, (maskOf acc es).testBit j = true → ∃ e ∈ es, bindsB e = true ∧ (e.on = j ∨ ∃ m, acc[e.on]? = some m ∧ m.testBit j = true)
  | [], j, h => by simp [maskOf] at h
  | e :: es, j, h => by
    simp only [maskOf] at h
    split at h
    · rename_i m hb hm
      rw [Nat.testBit_or, Nat.testBit_or, Bool.or_eq_true, Bool.or_eq_true] at h
      rw [nth_eq] at hm
      rcases h with (h | h) | h
      · rw [Nat.testBit_two_pow] at h
        exact ⟨e, by simp, hb, .inl (by simpa using h)⟩
      · exact ⟨e, by simp, hb, .inr ⟨m, hm, h⟩⟩
      · obtain ⟨e', h1, h2⟩ := maskOf_spec h
        exact ⟨e', by simp [h1], h2⟩
    · obtain ⟨e', h1, h2⟩ := maskOf_spec h
      exact ⟨e', by simp [h1], h2⟩
theorem masks_prefix : ∀ {ops : List Oper} {acc : List Nat} {i : Nat} {m : Nat}, acc[i]? = some m → (masks acc ops)[i]? = some m
  | [], acc, i, m, h => h
  | o :: os, acc, i, m, h => masks_prefix (ops := os) (by rw [List.getElem?_append_left (List.getElem?_eq_some_iff.1 h).1]; exact h)
theorem masks_spec : ∀ {ops : List Oper} {acc : List Nat} {k : Nat} {o : Oper} {m : Nat}, ops[k]? = some o → (masks acc ops)[acc.length + k]? = some m → ∀ j, m.testBit j = true → ∃ e ∈ o.after.toList, bindsB e = true ∧ (e.on = j ∨ ∃ m', (masks acc ops)[e.on]? = some m' ∧ m'.testBit j = true)
  | [], acc, k, o, m, hk, _, j, _ => by simp at hk
  | x :: xs, acc, k, o, m, hk, hm, j, hj => by
    cases k with
    | zero =>
      simp at hk; subst hk
      have h1 : (masks (acc ++ [maskOf acc x.after.toList]) xs)[acc.length]? = some (maskOf acc x.after.toList) := masks_prefix (by rw [List.getElem?_append_right (by omega)]; simp)
      simp only [masks, Nat.add_zero] at hm
      rw [h1] at hm; injection hm with hm; subst hm
      obtain ⟨e, h2, h3, h4⟩ := maskOf_spec hj
      refine ⟨e, h2, h3, h4.imp id ?_⟩
      rintro ⟨m', h5, h6⟩
      exact ⟨m', masks_prefix (ops := x :: xs) h5, h6⟩
    | succ k =>
      simp only [masks] at hm ⊢
      exact masks_spec (ops := xs) (acc := acc ++ [maskOf acc x.after.toList]) (by simpa using hk) (by rw [← hm]; congr 1; simp; omega) j hj
theorem edges_spec : ∀ {ops : List Oper} {i : Nat}, edgesAll i ops = true → ∀ k o, ops[k]? = some o → ∀ e ∈ o.after.toList, bindsB e = true → e.on < i + k
  | [], i, _, k, o, hk => by simp at hk
  | x :: xs, i, h, k, o, hk => by
    simp only [edgesAll] at h
    split at h
    · rename_i h1
      cases k with
      | zero =>
        simp at hk; subst hk
        have key : ∀ (es : List Edge), edgesB i es = true → ∀ e ∈ es, bindsB e = true → e.on < i := by
          intro es
          induction es with
          | nil => intro _ e he; simp at he
          | cons y ys ih =>
            intro h2 e he hb
            simp only [edgesB] at h2
            split at h2
            · cases h2
            · rename_i hn
              rcases List.mem_cons.1 he with rfl | he
              · cases hq : Nat.blt e.on i with
                | true => exact Nat.le_of_ble_eq_true hq
                | false => exact absurd hq (hn hb)
              · exact ih h2 e he hb
        exact fun e he hb => key _ h1 e he hb
      | succ k =>
        intro e he hb
        have := edges_spec h k o (by simpa using hk) e he hb
        omega
    · cases h

/-- How many are still to come. -/
def cnt (X : Nat → Bool) : Nat → Nat
  | 0 => 0
  | n + 1 => cnt X n + if X n = true then 0 else 1
theorem cnt_set {X Y : Nat → Bool} {i : Nat} (h : ∀ j, j ≠ i → Y j = X j) (hx : X i = false) (hy : Y i = true) : ∀ n, cnt Y n + (if i < n then 1 else 0) = cnt X n
  | 0 => by simp [cnt]
  | n + 1 => by
    have ih := cnt_set h hx hy n
    simp only [cnt]
    by_cases hi : i = n
    · subst hi
      simp only [Nat.lt_irrefl, if_false] at ih
      simp only [hx, hy, Nat.lt_succ_self, if_true, Bool.false_eq_true, if_false]
      omega
    · rw [h n (Ne.symm hi)]
      have e : (i < n + 1) ↔ (i < n) := by omega
      simp only [e]
      omega
theorem cnt_zero {X : Nat → Bool} : ∀ {n : Nat}, cnt X n = 0 → ∀ i, i < n → X i = true
  | 0, _, i, hi => by omega
  | n + 1, h, i, hi => by
    simp only [cnt] at h
    by_cases h2 : i = n
    · subst h2
      cases hx : X i with
      | true => rfl
      | false => rw [hx] at h; simp at h
    · exact cnt_zero (X := X) (n := n) (by omega) i (by omega)
theorem cnt_start (n : Nat) : cnt (fun _ => false) n = n := by induction n with | zero => rfl | succ n ih => simp [cnt, ih]

/-- A region whose order is drawn. -/
theorem draw_sound {ops : Array Oper} {Q : Exit → Act → World → Prop} {en en' : Env} {os os' : List Obj} {g g' : List Gd} {rs : List Rc} {ob : List Prop} (h : runOps P nt (ops.toList.map (·.dst)) ops.toList en os g = some (en', os', rs, ob, g')) (ho : AllP ob) (hE : edgesAll 0 ops.toList = true) (hok : okAll [] rs (masks [] ops.toList) = true)
    (K0 : Ctx) (a0 : Act) (w0 : World) (hQ : ∀ K' a' w', RelS K' (look en') (getO os') a' w' → a'.tmps.size = nt → (∀ m, Grow m K0 w0 K' w') → a'.defers = a0.defers → Q .normal a' w')
    (hS : RelS K0 (look en) (getO os) a0 w0) (hsz : a0.tmps.size = nt) : wpAny P .any ops Q ops.size (Array.replicate ops.size false) a0 w0 := by
  obtain ⟨T, hT1, hT2, hT3, hT4, hT5⟩ := trace _ _ _ _ _ _ _ _ _ h
  have hTo := hT3 ho
  generalize hds : ops.toList.map (·.dst) = ds at hT2 hT4
  have hlen : T.length = ops.size := by have := congrArg List.length hT1; simpa using this
  have hop : ∀ (i : Nat) (t : Tr), T[i]? = some t → ops[i]? = some t.o := fun i t ht => by
    have : (T.map (·.o))[i]? = some t.o := by rw [List.getElem?_map, ht]; rfl
    rw [hT1] at this; simpa using this
  let s0 : SS := (look en, getO os)
  have key : ∀ (fuel : Nat) (listed : Array Bool) (K : Ctx) (a : Act) (w : World), listed.size = ops.size → cnt (fun i => listed.getD i false) ops.size = fuel →
      (∀ k, listed.getD k false = true → ∀ m j, (masks [] ops.toList)[k]? = some m → m.testBit j = true → listed.getD j false = true) →
      RelS K (foldX (fun i => listed.getD i false) 0 s0 T).1 (foldX (fun i => listed.getD i false) 0 s0 T).2 a w → a.tmps.size = nt → (∀ m, Grow m K0 w0 K w) → a.defers = a0.defers → wpAny P .any ops Q fuel listed a w := by
    intro fuel
    induction fuel with
    | zero =>
      intro listed K a w hls hcnt hcl hS hsz hG hd
      have hall := cnt_zero hcnt
      refine ⟨?_, ?_⟩
      · cases hr : Region.ready .any ops listed with
        | nil => rfl
        | cons i r =>
          have := mem_ready.1 (show i ∈ Region.ready .any ops listed by rw [hr]; simp)
          obtain ⟨h1, o, h2, _⟩ := this
          have hi := (Array.getElem?_eq_some_iff.1 h2).1
          have h3 := hall i hi
          rw [Array.getD_eq_getD_getElem?, Array.getElem?_eq_getElem (by omega)] at h1 h3
          simp at h1 h3
          rw [h1] at h3; cases h3
      · refine hQ K a w ?_ hsz hG hd
        have e : foldX (fun i => listed.getD i false) 0 s0 T = stL s0 T := by
          have := foldX_take T 0 T.length s0
          rw [List.take_length, Nat.zero_add] at this
          rw [← this]
          refine Prod.ext (funext fun t => ?_) (funext fun id => ?_)
          · exact foldX_slot _ _ t T 0 s0 s0 rfl fun k u hk _ => by
              have hk' := (List.getElem?_eq_some_iff.1 hk).1
              simp only [Nat.zero_add]
              rw [hall k (by omega)]; simp [hk']
          · exact foldX_obj _ _ id T 0 s0 s0 rfl fun k u hk _ => by
              have hk' := (List.getElem?_eq_some_iff.1 hk).1
              simp only [Nat.zero_add]
              rw [hall k (by omega)]; simp [hk']
        rw [e, ← hT5] at hS
        exact hS
    | succ fuel ih =>
      intro listed K a w hls hcnt hcl hS hsz hG hd
      have hmin : ∀ k, k < ops.size → (∀ j, j < k → listed.getD j false = true) → listed.getD k false = false → k ∈ Region.ready .any ops listed := by
        intro k hk hj hf
        refine mem_ready.2 ⟨?_, ops[k], Array.getElem?_eq_getElem hk, fun e he hb => ?_⟩
        · rw [Array.getD_eq_getD_getElem?, Array.getElem?_eq_getElem (by omega)] at hf ⊢
          simpa using hf
        · have := edges_spec hE k ops[k] (by simp [hk]) e (by simpa using he) hb
          exact hj e.on (by omega)
      refine ⟨fun hr => ?_, fun i hi => ?_⟩
      · exfalso
        have hall : ∀ k, k < ops.size → listed.getD k false = true := by
          intro k
          induction k using Nat.strongRecOn with
          | _ k ihk =>
            intro hk
            cases hq : listed.getD k false with
            | true => rfl
            | false =>
              have := hmin k hk (fun j hj => ihk j hj (by omega)) hq
              rw [hr] at this; cases this
        have : ∀ n, n ≤ ops.size → cnt (fun i => listed.getD i false) n = 0 := by
          intro n
          induction n with
          | zero => intro _; rfl
          | succ n ihn => intro hn; simp only [cnt, ihn (by omega), hall n (by omega), if_true]
        rw [this _ (Nat.le_refl _)] at hcnt; omega
      · obtain ⟨h1, o, h2, h3⟩ := mem_ready.1 hi
        have hin := (Array.getElem?_eq_some_iff.1 h2).1
        have hXi : listed.getD i false = false := by
          rw [Array.getD_eq_getD_getElem?, Array.getElem?_eq_getElem (by omega)] at h1 ⊢
          simpa using h1
        obtain ⟨t, ht⟩ : ∃ t, T[i]? = some t := ⟨T[i]'(by omega), List.getElem?_eq_getElem (by omega)⟩
        have hto : t.o = o := by have := hop i t ht; rw [h2] at this; injection this with this; exact this.symm
        subst hto
        obtain ⟨hst, hhole, hdst⟩ := hT4 i t ht
        have hrs : rs[i]? = some (rcOf ds t) := by rw [hT2, List.getElem?_map, ht]; rfl
        obtain ⟨mi, hmi, hbit⟩ := okAll_spec hok i _ hrs
        have hbits : ∀ j, mi.testBit j = true → listed.getD j false = true := by
          intro j hj
          obtain ⟨e, e1, e2, e3⟩ := masks_spec (acc := []) (ops := ops.toList) (k := i) (o := t.o) (by simpa using h2) (by simpa using hmi) j hj
          have hon := h3 e (by simpa using e1) e2
          rcases e3 with rfl | ⟨m', e4, e5⟩
          · exact hon
          · exact hcl _ hon m' j e4 e5
        -- whoever is in the way has come just if it stands ahead in the text
        have way : ∀ k u, T[k]? = some u → (conf (rcOf ds u) (rcOf ds t) = true ∧ conf (rcOf ds t) (rcOf ds u) = true) → listed.getD k false = decide (k < i) := by
          intro k u hk ⟨hc1, hc2⟩
          have hrk : rs[k]? = some (rcOf ds u) := by rw [hT2, List.getElem?_map, hk]; rfl
          rcases Nat.lt_trichotomy k i with hlt | rfl | hgt
          · rw [hbits k (hbit k _ (by simpa using hrk) (by simpa using hlt) hc1)]; simp [hlt]
          · rw [hXi]; simp
          · obtain ⟨mk, hmk, hbk⟩ := okAll_spec hok k _ hrk
            have hb := hbk i _ (by simpa using hrs) (by simpa using hgt) hc2
            cases hq : listed.getD k false with
            | false => simp; omega
            | true => exact absurd (hcl k hq mk i hmk hb) (by rw [hXi]; simp)
        have slot : ∀ x, (x ∈ slotsOf ds t.o ∨ t.o.dst = some x) → ∀ k u, T[k]? = some u → u.o.dst = some x → listed.getD k false = decide (k < i) := by
          intro x hx k u hk hu
          refine way k u hk ⟨?_, ?_⟩
          · unfold conf
            rcases hx with hx | hx
            · have : hasO (rcOf ds t).ss (rcOf ds u).dst = true := by simp only [rcOf, hu, hasO]; exact hasN_iff.2 hx
              simp [this]
            · have : eqO (rcOf ds u).dst (rcOf ds t).dst = true := by simp [rcOf, hu, hx, eqO]
              simp [this]
          · unfold conf
            rcases hx with hx | hx
            · have : hasO (rcOf ds t).ss (rcOf ds u).dst = true := by simp only [rcOf, hu, hasO]; exact hasN_iff.2 hx
              simp [this]
            · have : eqO (rcOf ds t).dst (rcOf ds u).dst = true := by simp [rcOf, hu, hx, eqO]
              simp [this]
        have obj : ∀ x, (x ∈ (rcOf ds t).rd ∨ x ∈ (rcOf ds t).ws) → ∀ k u, T[k]? = some u → x ∈ u.E.wr.map (·.1) → listed.getD k false = decide (k < i) := by
          intro x hx k u hk hu
          have hu' : x ∈ (rcOf ds u).ws := by simp only [rcOf, List.mem_append]; exact .inr hu
          refine way k u hk ⟨?_, ?_⟩
          · unfold conf
            have : meets (rcOf ds u).ws ((rcOf ds t).rd ++ (rcOf ds t).ws) = true := meets_iff.2 ⟨x, hu', List.mem_append.2 hx⟩
            simp [this]
          · unfold conf
            rcases hx with hx | hx
            · have : meets (rcOf ds u).ws (rcOf ds t).rd = true := meets_iff.2 ⟨x, hu', hx⟩
              simp [this]
            · have : meets (rcOf ds t).ws ((rcOf ds u).rd ++ (rcOf ds u).ws) = true := meets_iff.2 ⟨x, hx, List.mem_append.2 (.inr hu')⟩
              simp [this]
        have canon : foldX (fun j => decide (j < i)) 0 s0 T = stL s0 (T.take i) := by
          have := foldX_take T 0 i s0
          rwa [Nat.zero_add] at this
        have eS : ∀ x, (x ∈ slotsOf ds t.o ∨ t.o.dst = some x) → (stL s0 (T.take i)).1 x = (foldX (fun i => listed.getD i false) 0 s0 T).1 x := by
          intro x hx
          rw [← canon]
          exact foldX_slot _ _ x T 0 s0 s0 rfl fun k u hk hu => by rw [Nat.zero_add]; exact (slot x hx k u hk hu).symm
        have eO : ∀ x, (x ∈ (rcOf ds t).rd ∨ x ∈ (rcOf ds t).ws) → (stL s0 (T.take i)).2 x = (foldX (fun i => listed.getD i false) 0 s0 T).2 x := by
          intro x hx
          rw [← canon]
          exact foldX_obj _ _ x T 0 s0 s0 rfl fun k u hk hu => by rw [Nat.zero_add]; exact (obj x hx k u hk hu).symm
        have hstX := stepA_congr hst (fun x hx => eS x (.inl hx)) fun id hid => eO id (.inl hid)
        have memR : ∀ (b n j : Nat), j < n → b + j ∈ rangeN b n := by
          intro b n
          induction n generalizing b with
          | zero => intro j hj; omega
          | succ n ihn =>
            intro j hj
            simp only [rangeN, List.mem_cons]
            cases j with
            | zero => exact .inl rfl
            | succ j => exact .inr (by have := ihn (b + 1) j (by omega); rwa [show b + 1 + j = b + (j + 1) by omega] at this)
        refine stepA_sound hS h2 (by rw [hds]; exact hstX) (hTo t (List.mem_of_getElem? ht)) (fun j hj => ?_) fun K' w' c q1 q2 q3 q4 => ?_
        · rw [← eO (t.base + j) (.inr (by simp only [rcOf, List.mem_append]; exact .inl (memR _ _ _ hj)))]
          exact hhole j hj
        · obtain ⟨n1, n2, n3⟩ := hS.next (d := t.o.dst) hsz hdst q1 q2 q4
          have hset : ∀ j, (listed.setIfInBounds i true).getD j false = if j = i then true else listed.getD j false := by
            intro j
            rw [Array.getD_eq_getD_getElem?, Array.getD_eq_getD_getElem?, Array.getElem?_setIfInBounds]
            by_cases hji : i = j
            · subst hji; simp [show i < listed.size by omega]
            · simp [hji, Ne.symm hji]
          refine ih (listed.setIfInBounds i true) K' _ w' (by simpa using hls) ?_ ?_ ?_ n2 (fun m => (hG m).trans (q3 m)) (n3.trans hd)
          · have := cnt_set (X := fun j => listed.getD j false) (Y := fun j => (listed.setIfInBounds i true).getD j false) (i := i) (fun j hj => by rw [hset, if_neg hj]) hXi (by rw [hset, if_pos rfl]) ops.size
            rw [if_pos hin] at this
            omega
          · intro k hk m j hm hj
            rw [hset] at hk ⊢
            by_cases hki : k = i
            · subst hki
              rw [hmi] at hm; injection hm with hm; subst hm
              split
              · rfl
              · exact hbits j hj
            · rw [if_neg hki] at hk
              split
              · rfl
              · exact hcl k hk m j hm hj
          · have e : foldX (fun j => (listed.setIfInBounds i true).getD j false) 0 s0 T = app (foldX (fun i => listed.getD i false) 0 s0 T) t := by
              have canon1 : foldX (fun j => decide (j < i + 1)) 0 s0 T = app (stL s0 (T.take i)) t := by
                have := foldX_take T 0 (i + 1) s0
                rw [Nat.zero_add] at this
                rw [this, List.take_add_one, ht]
                have key : ∀ (l : List Tr) (s : SS), stL s (l ++ (some t).toList) = app (stL s l) t := by
                  intro l
                  induction l with
                  | nil => intro s; rfl
                  | cons u us ihl => intro s; exact ihl _
                exact key _ _
              refine Prod.ext (funext fun x => ?_) (funext fun x => ?_)
              · by_cases hx : t.o.dst = some x
                · have e1 : (foldX (fun j => (listed.setIfInBounds i true).getD j false) 0 s0 T).1 x = (foldX (fun j => decide (j < i + 1)) 0 s0 T).1 x :=
                    foldX_slot _ _ x T 0 s0 s0 rfl fun k u hk hu => by
                      simp only [Nat.zero_add]
                      rw [hset]
                      by_cases hki : k = i
                      · subst hki; simp
                      · rw [if_neg hki, slot x (.inr hx) k u hk hu]
                        by_cases h9 : k < i
                        · simp [h9, show k < i + 1 by omega]
                        · simp [h9, show ¬ k < i + 1 by omega]
                  rw [e1, canon1]
                  simp [app, updE, hx]
                · have e1 : (foldX (fun j => (listed.setIfInBounds i true).getD j false) 0 s0 T).1 x = (foldX (fun i => listed.getD i false) 0 s0 T).1 x :=
                    foldX_slot _ _ x T 0 s0 s0 rfl fun k u hk hu => by
                      simp only [Nat.zero_add]
                      rw [hset]
                      by_cases hki : k = i
                      · subst hki
                        rw [ht] at hk; injection hk with hk; subst hk
                        exact absurd hu hx
                      · rw [if_neg hki]
                  rw [e1]
                  simp only [app, updE]
                  cases hd : t.o.dst with
                  | none => rfl
                  | some d => rw [hd] at hx; simp only; rw [if_neg fun h => hx (by rw [h])]
              · by_cases hx : x ∈ t.E.wr.map (·.1)
                · have hxw : x ∈ (rcOf ds t).ws := by simp only [rcOf, List.mem_append]; exact .inr hx
                  have e1 : (foldX (fun j => (listed.setIfInBounds i true).getD j false) 0 s0 T).2 x = (foldX (fun j => decide (j < i + 1)) 0 s0 T).2 x :=
                    foldX_obj _ _ x T 0 s0 s0 rfl fun k u hk hu => by
                      simp only [Nat.zero_add]
                      rw [hset]
                      by_cases hki : k = i
                      · subst hki; simp
                      · rw [if_neg hki, obj x (.inr hxw) k u hk hu]
                        by_cases h9 : k < i
                        · simp [h9, show k < i + 1 by omega]
                        · simp [h9, show ¬ k < i + 1 by omega]
                  rw [e1, canon1]
                  exact updG_at (eO x (.inr hxw))
                · have e1 : (foldX (fun j => (listed.setIfInBounds i true).getD j false) 0 s0 T).2 x = (foldX (fun i => listed.getD i false) 0 s0 T).2 x :=
                    foldX_obj _ _ x T 0 s0 s0 rfl fun k u hk hu => by
                      simp only [Nat.zero_add]
                      rw [hset]
                      by_cases hki : k = i
                      · subst hki
                        rw [ht] at hk; injection hk with hk; subst hk
                        exact absurd hu hx
                      · rw [if_neg hki]
                  rw [e1]
                  exact (updG_out' hx).symm
            rw [e]; exact n1
  refine key ops.size _ K0 a0 w0 (by simp) ?_ (fun k hk => ?_) ?_ hsz (fun m => Grow.refl m K0 w0) rfl
  · have e : (fun i => (Array.replicate ops.size false).getD i false) = fun _ => false := by
      funext i
      rw [Array.getD_eq_getD_getElem?, Array.getElem?_replicate]
      split <;> rfl
    rw [e]; exact cnt_start _
  · rw [Array.getD_eq_getD_getElem?, Array.getElem?_replicate] at hk
    split at hk <;> cases hk
  · have e : foldX (fun i => (Array.replicate ops.size false).getD i false) 0 s0 T = s0 := by
      have := foldX_take T 0 0 s0
      simp only [Nat.zero_add, List.take_zero, stL] at this
      rw [← this]
      congr 1
      funext i
      rw [Array.getD_eq_getD_getElem?, Array.getElem?_replicate]
      split <;> simp
    rw [e]; exact hS
end
end Go.Proofs.YtidgcfgkcidkiaaGreat.X
namespace Go.Proofs.YtidgcfgkcidkiaaGreat.X
open Go Go.Proofs.YtidgcfgkcidkiaaGreat.L Go.RowKit
set_option linter.unusedVariables false
set_option linter.unusedSimpArgs false
section
variable {P : Program} {K K' : Ctx} {e : Nat → Option AV} {get : Nat → Obj} {a : Act} {w w' : World} {m0 nt : Nat} {cr : List Nat}
theorem loop_of {c : Code} {Q : Exit → Act → World → Prop} (h : LoopFrom P c Q a w) : (Code.loop c).wp P Q a w := fun b k cs =>
  let ⟨e, a', w', q, r⟩ := h b k cs; ⟨e, a', w', q, .of_steps (.one step_loop) r⟩
theorem loop_go {c : Code} {Q : Exit → Act → World → Prop} (h : c.wp P (Exit.then (LoopFrom P c Q) Q) a w) : LoopFrom P c Q a w := by
  intro b k cs
  obtain ⟨e, a₁, w₁, hq, harr⟩ := h b (.inLoop c :: k) cs
  cases e with
  | normal =>
    obtain ⟨e₂, a₂, w₂, hq₂, harr₂⟩ := hq b k cs
    exact ⟨e₂, a₂, w₂, hq₂, .of_steps (Steps.trans harr (.one step_inLoop)) harr₂⟩
  | exit id => exact ⟨_, a₁, w₁, hq, .pass (x := .inLoop c) rfl (fun _ _ => .inl (by simp)) harr⟩
  | goto l => exact ⟨_, a₁, w₁, hq, .pass (x := .inLoop c) rfl (fun _ _ => .inl (by simp)) harr⟩
  | ret => exact ⟨_, a₁, w₁, hq, .pass (x := .inLoop c) rfl (fun _ _ => .inl (by simp)) harr⟩
  | panic ch => exact ⟨_, a₁, w₁, hq, .pass (x := .inLoop c) rfl (fun _ _ => .inl (by simp)) harr⟩
  | outgrown => exact ⟨_, a₁, w₁, hq, .pass (x := .inLoop c) rfl (fun _ _ => .inl (by simp)) harr⟩

theorem look_keepE {cr : List Nat} {e : Env} {t : Nat} {v : AV} (h : look (keepE cr e) t = some v) : look e t = some v := by
  induction e with
  | nil => cases h
  | cons x xs ih =>
    obtain ⟨k, u⟩ := x
    simp only [keepE] at h
    split at h
    · simp only [look] at h ⊢
      split at h
      · exact h
      · exact ih h
    · rename_i hk
      have hne : hasN cr t = true := by
        clear ih
        induction xs with
        | nil => cases h
        | cons y ys ih =>
          obtain ⟨k', u'⟩ := y
          simp only [keepE] at h
          split at h
          · rename_i hk'
            simp only [look] at h
            split at h
            · rename_i hb; rw [← beq_eq' hb]; exact hk'
            · exact ih h
          · exact ih h
      simp only [look]
      split
      · rename_i hb
        rw [beq_eq' hb] at hk
        rw [hne] at hk; cases hk
      · exact ih h
theorem region_sound (hm : P.follows .mixedOrders = true) {id : Nat} {ops : Array Oper} {draw : Bool} {S S' : St} {g g' : List Gd} {ob : List Prop} (h : runRegion P cr nt ops draw S g = some (S', ob, g')) (ho : AllP ob) : ACode P m0 nt (.region id ops draw) S .normal S' := by
  intro K a w Q hS hsz hQ
  unfold runRegion at h
  split at h
  · rename_i en os rs ob' g1 hr
    split at h
    · cases h
      refine wp_region ?_
      have := runOps_sound (Q := Q) ops.toList 0 _ _ _ _ _ _ _ _ K a w rfl hr ho hS hsz fun K' a' w' k1 k2 k3 k4 => ?_
      · rwa [Nat.sub_zero, ← List.range_eq_range'] at this
      · exact hQ K' a' w' ⟨k1.rel, fun t v hv => k1.env t v (look_keepE hv)⟩ k2 (k3 m0) k4
    · split at h
      · rename_i hE hok
        cases h
        refine wp_region_any hm ?_
        obtain ⟨r1, r2⟩ := hS.rel.keep0 (w' := w.drew) ((Keeps.refl _ _).drew)
        exact draw_sound hr ho hE hok K a w.drew (fun K' a' w' k1 k2 k3 k4 => hQ K' a' w' ⟨k1.rel, fun t v hv => k1.env t v (look_keepE hv)⟩ k2 ((r2 m0).trans (k3 m0)) k4) ⟨r1, hS.env⟩ hsz
      · cases h
  · cases h

theorem getO_frz (ids : List Nat) : ∀ (l : List Obj) (i j : Nat), getO (frzO ids i l) j = (match getO l j, hasN ids (i + j) with | .row T sz xs, true => .frz T sz xs | o, _ => o)
  | [], i, j => by simp [frzO, getO]
  | o :: os, i, 0 => by simp [frzO, getO]; rfl
  | o :: os, i, j + 1 => by
    simp only [frzO, getO]
    rw [getO_frz ids os (i + 1) j, show i + 1 + j = i + (j + 1) by omega]
theorem getO_frzB (ids : List Nat) (l : List Obj) : getO (frzO ids 0 l) = frzB (hasN ids) (getO l) := by
  funext j
  rw [getO_frz, Nat.zero_add]
  unfold frzB
  cases getO l j <;> cases hasN ids j <;> rfl
theorem conv0_VR (h : Rel K get w) {u : AV} {c : Value} (hv : VR K u c) : VR K (conv0 get u) c := by
  cases u with
  | row id s n =>
    simp only [conv0]
    split
    · rename_i T sz xs hg; exact .pure (frz_list h hg hv)
    · exact hv
  | rws id s o n =>
    simp only [conv0]
    split
    · rename_i T sz xs hg; exact .pure (frz_list_sub h hg hv)
    · exact hv
  | _ => exact hv
theorem conv0s_VR (h : Rel K get w) {us : List AV} {ds : List Value} (hv : VRs K us ds) : VRs K (us.map (conv0 get)) ds := by
  refine ⟨by rw [List.length_map]; exact hv.1, fun i u d hu hd => ?_⟩
  rw [List.getElem?_map] at hu
  cases hx : us[i]? with
  | none => rw [hx] at hu; cases hu
  | some x => rw [hx] at hu; injection hu with hu; subst hu; exact conv0_VR h (hv.2 i x d hx hd)
theorem conv_VR (h : Rel K get w) {u : AV} {c : Value} (hv : VR K u c) : VR K (conv get u) c := by
  cases hu : u with
  | agg cs => subst hu; obtain ⟨ds, rfl, hd⟩ := hv.agg_inv; simpa [conv] using VR.mkAgg (conv0s_VR h hd)
  | _ => subst hu; exact conv0_VR h hv
theorem look_map (f : AV → AV) (e : Env) (t : Nat) : look (e.map fun kv => (kv.1, f kv.2)) t = (look e t).map f := by
  induction e with
  | nil => rfl
  | cons x xs ih =>
    obtain ⟨k, v⟩ := x
    simp only [List.map_cons, look]
    split
    · rfl
    · exact ih
theorem convO_kind (get : Nat → Obj) (o : Obj) : (convO get o).kind = o.kind := by cases o <;> rfl
theorem Rel.convO (h : Rel K get w) {l : List Obj} (hg : getO l = get) : Rel K (getO (l.map (convO get))) w := by
  have e : ∀ i, getO (l.map (X.convO get)) i = X.convO get (get i) := by
    intro i
    rw [getO_eq, List.getElem?_map, ← hg]
    simp only [getO_eq]
    cases l[i]? <;> rfl
  refine ⟨fun i => by rw [e, convO_kind]; exact h.kinds i, h.mem, fun i => ?_, h.inj, h.sep⟩
  rw [e]
  have := h.obj i
  cases hi : get i with
  | vars T cs =>
    rw [hi] at this
    obtain ⟨ds, d1, d2, d3⟩ := this
    exact ⟨ds, d1, conv0s_VR h d2, d3⟩
  | _ => rw [hi] at this; exact this
theorem adm_sound {S : St} (ids : List Nat) (hS : RelS K (look S.env) (getO S.objs) a w) : ∃ K', RelS K' (look (admS ids S).env) (getO (admS ids S).objs) a w ∧ ∀ m, Grow m K w K' w := by
  obtain ⟨r1, r2⟩ := hS.rel.frz (hasN ids)
  refine ⟨_, ⟨?_, fun t v hv => ?_⟩, r2⟩
  · simp only [admS]
    rw [getO_frzB]
    exact r1.convO (getO_frzB ids S.objs)
  · simp only [admS] at hv
    rw [look_map] at hv
    cases hl : look S.env t with
    | none => rw [hl] at hv; cases hv
    | some u =>
      rw [hl] at hv
      injection hv with hv
      subst hv
      obtain ⟨c, c1, c2⟩ := hS.env t u hl
      rw [getO_frzB]
      exact ⟨c, c1, conv_VR r1 (c2.mono (frz_le _))⟩
theorem look_keepS {f : AV → AV} {e : Env} {keep : List Nat} {t : Nat} {v : AV} (h : look (keepS keep f e) t = some v) : ∃ u, look e t = some u ∧ v = f u := by
  induction keep with
  | nil => cases h
  | cons k ks ih =>
    simp only [keepS] at h
    split at h
    · rename_i u hu
      simp only [look] at h
      split at h
      · rename_i hb
        rw [beq_eq' hb] at hu
        injection h with h
        exact ⟨u, hu, h.symm⟩
      · exact ih h
    · exact ih h
theorem starts_spec : ∀ {i m : Nat} {p : List Nat}, startsB i m p = true → ∀ j, j < m → p[j]? = some (i + j)
  | i, 0, p, _, j, hj => by omega
  | i, m + 1, [], h, j, hj => by simp [startsB] at h
  | i, m + 1, x :: xs, h, j, hj => by
    simp only [startsB] at h
    split at h
    · rename_i hb
      cases j with
      | zero => simp [beq_eq' hb]
      | succ j =>
        have := starts_spec h j (by omega)
        rw [show i + 1 + j = i + (j + 1) by omega] at this
        simpa using this
    · cases h
theorem re_sound {S : St} {keep p : List Nat} (hp : nodupB p = true) (hs : startsB 0 m0 p = true) (hS : RelS K (look S.env) (getO S.objs) a w) : ∃ K', RelS K' (look (reS keep p S).env) (getO (reS keep p S).objs) a w ∧ Grow m0 K w K' w := by
  have hnd := nodupB_iff.1 hp
  refine ⟨K.sub p, ⟨hS.rel.sub hnd, fun t v hv => ?_⟩, fun _ _ _ h => h, fun _ _ _ h => .inl h, fun id hid hk => ?_, fun b hb => ?_, Keeps.refl _ _, fun id hid hk => ?_⟩
  · obtain ⟨u, h1, rfl⟩ := look_keepS hv
    obtain ⟨c, c1, c2⟩ := hS.env t u h1
    exact ⟨c, c1, (hS.rel.ren_sub p).ren c2⟩
  · have := starts_spec hs id hid
    rw [Nat.zero_add] at this
    obtain ⟨k1, k2, k3, _⟩ := sub_at (K := K) this
    exact ⟨k1.trans hk, k2⟩
  · obtain ⟨j, hj, rfl⟩ := hb
    obtain ⟨id, h1, h2, h3⟩ := sub_own hj
    exact .inl ⟨id, h2, h3.symm⟩
  · have := starts_spec hs id hid
    rw [Nat.zero_add] at this
    obtain ⟨k1, k2, k3, k4⟩ := sub_at (K := K) this
    exact .inr ⟨k2, k3, k4, .inl k1⟩

theorem getO_app (l : List Obj) (o : Obj) : getO (l ++ [o]) = putG (getO l) l.length o := by
  funext i
  simp only [getO_eq, putG]
  by_cases h : i < l.length
  · rw [List.getElem?_append_left h, if_neg (by omega)]
  · by_cases h2 : i = l.length
    · subst h2; simp
    · rw [List.getElem?_eq_none (by simp; omega), List.getElem?_eq_none (by omega), if_neg h2]
theorem take_cons_drop {α : Type} (l : List α) (k : Nat) (h : k < l.length) : l.take k ++ l[k] :: l.drop (k + 1) = l := by
  rw [← List.drop_eq_getElem_cons h, List.take_append_drop]
theorem mk_row (hR : Rel K get w) {id : Nat} (hid : K.kind id = .hole) (T : TypeId) {sz : Nat} (hsz : 0 < sz) :
    ∃ K', Rel K' (putG get id (.row T sz [])) w ∧ K.le K' ∧ (∀ m, Grow m K w K' w) ∧ VR K' (.row id sz 0) (.slice none 0 0) := by
  obtain ⟨r1, r2, r3⟩ := hR.put (id := id) (o := .row T sz []) (b := w.heap.size) (c := 0) (f := 0) (w' := w) (Keeps.refl _ _) (.inl hid) (fun _ => Nat.le_refl _)
    ⟨hsz, by simp, by rw [put_cap]; exact Nat.zero_le _, fun h => absurd put_cap h⟩
  refine ⟨_, r1, r2, r3, .row id sz 0 _ (by rw [put_kind]; simp [Obj.kind]) (.inr ⟨.inl (by rw [put_kind]; rfl), none, by rw [put_cap], fun h => absurd put_cap h⟩) ⟨none, 0, rfl, Nat.le_refl _, Nat.zero_le _, fun h => absurd rfl h⟩⟩
theorem mk_sound {S S' : St} {t : Nat} {T : TypeId} {sz : Nat} (h : mkS t T sz S = some S') (hS : RelS K (look S.env) (getO S.objs) a w) : ∃ K', RelS K' (look S'.env) (getO S'.objs) a w ∧ ∀ m, Grow m K w K' w := by
  unfold mkS at h
  split at h
  · rename_i n hl
    cases h
    obtain ⟨K1, r1, r2, r3, r4⟩ := mk_row hS.rel (id := S.objs.length) (by rw [hS.rel.kinds]; have := getO_out S.objs 0; rw [Nat.add_zero] at this; rw [this]; rfl) T (Nat.succ_pos n)
    refine ⟨K1, ⟨by rw [getO_app]; exact r1, fun u v hv => ?_⟩, r3⟩
    simp only [look] at hv
    split at hv
    · rename_i hb
      have := beq_eq' hb
      subst this
      injection hv with hv
      subst hv
      obtain ⟨c, c1, c2⟩ := hS.env _ _ hl
      rw [c2.nils_inv] at c1
      exact ⟨_, c1, r4⟩
    · obtain ⟨c, c1, c2⟩ := hS.env _ _ hv
      exact ⟨c, c1, c2.mono r2⟩
  · cases h
theorem mkc_sound {S S' : St} {id k : Nat} {T : TypeId} {sz : Nat} (h : mkcS id k T sz S = some S') (hS : RelS K (look S.env) (getO S.objs) a w) : ∃ K', RelS K' (look S'.env) (getO S'.objs) a w ∧ ∀ m, Grow m K w K' w := by
  unfold mkcS at h
  split at h
  · rename_i T' cs n hg
    split at h
    · rename_i cs' hn hs
      cases h
      obtain ⟨K1, r1, r2, r3, r4⟩ := mk_row hS.rel (id := S.objs.length) (by rw [hS.rel.kinds]; have := getO_out S.objs 0; rw [Nat.add_zero] at this; rw [this]; rfl) T (Nat.succ_pos n)
      have hne : id ≠ S.objs.length := by
        rintro rfl
        have := getO_out S.objs 0
        rw [Nat.add_zero, hg] at this
        cases this
      have hg1 : putG (getO S.objs) S.objs.length (.row T (n + 1) []) id = .vars T' cs := by rw [putG, if_neg hne]; exact hg
      have hob := r1.obj id
      rw [hg1] at hob
      obtain ⟨ds, h1, h2, h3⟩ := hob
      have hk : K1.kind id = .var := by rw [r1.kinds, hg1]; rfl
      have hob0 := hS.rel.obj id
      rw [hg] at hob0
      obtain ⟨ds0, g1, g2, g3⟩ := hob0
      have hnil : ds.toList[k]? = some (.slice none 0 0) := by
        rw [nth_eq] at hn
        have hb := (r2.at_ id (by rw [hS.rel.kinds, hg]; simp [Obj.kind])).resolve_left (by rw [hk]; simp)
        rw [hb.1, g1] at h1
        injection h1 with h1; injection h1 with h1; subst h1
        obtain ⟨d, d1, d2⟩ := g2.at_ hn
        rw [d1, d2.nils_inv]
      have hset := h2.setN (.cons r4 .nil) hs
      have hkl := (List.getElem?_eq_some_iff.1 hnil)
      have hid : ds.toList.take k ++ [Value.slice none 0 0] ++ ds.toList.drop (k + [Value.slice none 0 0].length) = ds.toList := by
        rw [← hkl.2]
        simpa using take_cons_drop ds.toList k hkl.1
      rw [hid] at hset
      obtain ⟨q1, q2, q3⟩ := r1.put (id := id) (o := .vars T' cs') (b := K1.blk id) (c := K1.cap id) (f := K1.off id) (w' := w) (Keeps.refl _ _) (.inr (.inr ⟨hk.symm, rfl, rfl, rfl⟩)) (fun h => by rw [hk] at h; cases h)
        ⟨ds, by rw [put_blk]; exact h1, VRs.mono (K := K1) (K' := K1.put id (Obj.vars T' cs').kind (K1.blk id) (K1.cap id) (K1.off id)) ⟨fun _ _ _ h => h, fun i hi => by
          by_cases he : i = id
          · subst he; rw [put_kind, put_blk, put_cap, put_off]; exact .inr ⟨rfl, rfl, rfl, .inl hk.symm⟩
          · exact .inr (by simp [Ctx.put, he])⟩ hset, h3⟩
      refine ⟨_, ⟨by rw [getO_set, getO_app]; exact q1, fun u v hv => ?_⟩, fun m => (r3 m).trans (q3 m)⟩
      obtain ⟨c, c1, c2⟩ := hS.env _ _ hv
      exact ⟨c, c1, (c2.mono r2).mono q2⟩
    · cases h
  · cases h
/-- What a piece of code does, or a loop. -/
def AC (P : Program) (m0 nt : Nat) (c : Code) (S : St) (x : Ex) (S' : St) : Prop :=
  match c with
  | .loop b => ALoop P m0 nt b S x S'
  | c => ACode P m0 nt c S x S'
theorem AC.code {c : Code} {S S' : St} {x : Ex} (h : AC P m0 nt c S x S') : ACode P m0 nt c S x S' := by
  cases c with
  | loop b => exact fun K a w Q hS hsz hQ => loop_of (h K a w Q hS hsz hQ)
  | _ => exact h
theorem AC.pre {c : Code} {S S1 S' : St} {x : Ex} (hp : ∀ K a w, RelS K (look S.env) (getO S.objs) a w → ∃ K', RelS K' (look S1.env) (getO S1.objs) a w ∧ ∀ m, Grow m K w K' w) (ih : AC P m0 nt c S1 x S') : AC P m0 nt c S x S' := by
  cases c with
  | loop b =>
    intro K a w Q hS hsz hQ
    obtain ⟨K1, h1, h2⟩ := hp K a w hS
    exact ih K1 a w Q h1 hsz fun K' a' w' k1 k2 k3 k4 => hQ K' a' w' k1 k2 ((h2 m0).trans k3) k4
  | _ =>
    intro K a w Q hS hsz hQ
    obtain ⟨K1, h1, h2⟩ := hp K a w hS
    exact ih K1 a w Q h1 hsz fun K' a' w' k1 k2 k3 k4 => hQ K' a' w' k1 k2 ((h2 m0).trans k3) k4
theorem then_ne {next : Act → World → Prop} {Q : Exit → Act → World → Prop} {x : Ex} (hx : x ≠ .normal) : Exit.then next Q x.toExit = Q x.toExit := by cases x <;> first | exact absurd rfl hx | rfl
theorem runC_sound (hm : P.follows .mixedOrders = true) : ∀ (n : Nat) (c : Code) (S : St) (g : List Gd) (x : Ex) (S' : St) (ob : List Prop) (g' : List Gd), runC P cr m0 nt n c S g = some (x, S', ob, g') → AllP ob → AC P m0 nt c S x S'
  | 0, c, S, g, x, S', ob, g', h, _ => by simp [runC] at h
  | n + 1, c, S, g, x, S', ob, g', h, ho => by
    unfold runC at h
    split at h
    · cases ‹_›
    · -- fz
      rename_i c' S1 u1 u2 u3 u4 n' ids g1 hn
      injection hn with hn
      subst hn
      have ih := runC_sound hm _ c' _ _ _ _ _ _ h ho
      cases c' with
      | loop b =>
        intro K a w Q hS hsz hQ
        obtain ⟨K1, h1, h2⟩ := adm_sound ids hS
        exact ih K1 a w Q h1 hsz fun K' a' w' k1 k2 k3 k4 => hQ K' a' w' k1 k2 ((h2 m0).trans k3) k4
      | _ =>
        intro K a w Q hS hsz hQ
        obtain ⟨K1, h1, h2⟩ := adm_sound ids hS
        exact ih K1 a w Q h1 hsz fun K' a' w' k1 k2 k3 k4 => hQ K' a' w' k1 k2 ((h2 m0).trans k3) k4
    · -- mk
      split at h
      · rename_i S2 hmk
        have ih := runC_sound hm _ _ _ _ _ _ _ _ h ho
        refine AC.pre (fun K a w hS => mk_sound hmk hS) ih
      · cases h
    · -- mkc
      split at h
      · rename_i S2 hmk
        have ih := runC_sound hm _ _ _ _ _ _ _ _ h ho
        refine AC.pre (fun K a w hS => mkc_sound hmk hS) ih
      · cases h
    · -- mk
      split at h
      · rename_i S2 hmk
        have ih := runC_sound hm _ _ _ _ _ _ _ _ h ho
        refine AC.pre (fun K a w hS => mk_sound hmk hS) ih
      · cases h
    · -- mkc
      split at h
      · rename_i S2 hmk
        have ih := runC_sound hm _ _ _ _ _ _ _ _ h ho
        refine AC.pre (fun K a w hS => mkc_sound hmk hS) ih
      · cases h
    · cases h
      exact fun K a w Q hS hsz hQ => wp_skip (hQ K a w hS hsz (Grow.refl _ _ _) rfl)
    · cases h
      exact fun K a w Q hS hsz hQ => wp_ret (hQ K a w hS hsz (Grow.refl _ _ _) rfl)
    · cases h
      exact fun K a w Q hS hsz hQ => wp_exit (hQ K a w hS hsz (Grow.refl _ _ _) rfl)
    · -- seq
      rename_i S1 g1 n' c1 c2 hnf hn
      injection hnf with hnf
      subst hnf
      split at h
      · rename_i S2 ob1 g2 h1
        split at h
        · rename_i x2 S3 ob2 g3 h2
          cases h
          rw [AllP.append_iff] at ho
          have i1 := (runC_sound hm _ _ _ _ _ _ _ _ h1 ho.1).code
          have i2 := (runC_sound hm _ _ _ _ _ _ _ _ h2 ho.2).code
          exact fun K a w Q hS hsz hQ => wp_seq (i1 K a w _ hS hsz fun K1 a1 w1 k1 k2 k3 k4 => i2 K1 a1 w1 Q k1 k2 fun K' a' w' q1 q2 q3 q4 => hQ K' a' w' q1 q2 (k3.trans q3) (q4.trans k4))
        · cases h
      · rename_i hne
        have i1 := (runC_sound hm _ _ _ _ _ _ _ _ h ho).code
        have hx : x ≠ .normal := fun hx => by subst hx; exact hne _ _ _ h
        exact fun K a w Q hS hsz hQ => wp_seq (i1 K a w _ hS hsz fun K1 a1 w1 k1 k2 k3 k4 => by rw [then_ne hx]; exact hQ K1 a1 w1 k1 k2 k3 k4)
    · -- block
      rename_i S1 g1 n' id c1 hnf hn
      injection hnf with hnf
      subst hnf
      split at h
      · rename_i i S2 ob1 g2 h1
        have hob : AllP ob1 := by split at h <;> (cases h; exact ho)
        have i1 := (runC_sound hm _ _ _ _ _ _ _ _ h1 hob).code
        split at h
        · rename_i hb
          cases h
          have := beq_eq' hb
          subst this
          exact fun K a w Q hS hsz hQ => wp_block (i1 K a w _ hS hsz fun K1 a1 w1 k1 k2 k3 k4 => by
            show Exit.inBlock i Q (.exit i) a1 w1
            simp only [Exit.inBlock, if_true]
            exact hQ K1 a1 w1 k1 k2 k3 k4)
        · rename_i hb
          cases h
          exact fun K a w Q hS hsz hQ => wp_block (i1 K a w _ hS hsz fun K1 a1 w1 k1 k2 k3 k4 => by
            show Exit.inBlock id Q (.exit i) a1 w1
            simp only [Exit.inBlock, if_neg (Nat.ne_of_beq_eq_false hb)]
            exact hQ K1 a1 w1 k1 k2 k3 k4)
      · rename_i hne
        have i1 := (runC_sound hm _ _ _ _ _ _ _ _ h ho).code
        exact fun K a w Q hS hsz hQ => wp_block (i1 K a w _ hS hsz fun K1 a1 w1 k1 k2 k3 k4 => by
          cases x with
          | exit i => exact absurd h (hne _ _ _ _)
          | normal => exact hQ K1 a1 w1 k1 k2 k3 k4
          | ret => exact hQ K1 a1 w1 k1 k2 k3 k4)
    · -- cond
      rename_i S1 g1 n' cnd c1 c2 hnf hn
      injection hnf with hnf
      subst hnf
      split at h
      · rename_i hc
        have i1 := (runC_sound hm _ _ _ _ _ _ _ _ h ho).code
        exact fun K a w Q hS hsz hQ => wp_cond_true (opv_sound hS hc).bool_inv (i1 K a w Q hS hsz hQ)
      · rename_i hc
        have i1 := (runC_sound hm _ _ _ _ _ _ _ _ h ho).code
        exact fun K a w Q hS hsz hQ => wp_cond_false (opv_sound hS hc).bool_inv (i1 K a w Q hS hsz hQ)
      · cases h
    · -- region
      rename_i S1 g1 n' id ops draw hnf hn
      split at h
      · rename_i S2 ob1 g2 hr
        cases h
        exact region_sound hm hr ho
      · cases h
    · -- a loop that is told
      rename_i n' c1 S1 keep p x1 S2 g1 hn
      split at h
      · rename_i h1 h2
        cases h
        intro K a w Q hS hsz hQ
        obtain ⟨K1, r1, r2⟩ := re_sound h2 h1 hS (keep := keep)
        exact ho.1 K1 a w Q r1 hsz fun K' a' w' k1 k2 k3 k4 => hQ K' a' w' k1 k2 (r2.trans k3) k4
      · cases h
    · -- a round
      rename_i n' c1 S1 g1 hn
      injection hn with hn
      subst hn
      split at h
      · rename_i S2 ob1 g2 h1
        split at h
        · rename_i x2 S3 ob2 g3 h2
          cases h
          rw [AllP.append_iff] at ho
          have i1 := (runC_sound hm _ _ _ _ _ _ _ _ h1 ho.1).code
          have i2 := runC_sound hm _ _ _ _ _ _ _ _ h2 ho.2
          exact fun K a w Q hS hsz hQ => loop_go (i1 K a w _ hS hsz fun K1 a1 w1 k1 k2 k3 k4 => i2 K1 a1 w1 Q k1 k2 fun K' a' w' q1 q2 q3 q4 => hQ K' a' w' q1 q2 (k3.trans q3) (q4.trans k4))
        · cases h
      · rename_i hne
        have i1 := (runC_sound hm _ _ _ _ _ _ _ _ h ho).code
        have hx : x ≠ .normal := fun hx => by subst hx; exact hne _ _ _ h
        exact fun K a w Q hS hsz hQ => loop_go (i1 K a w _ hS hsz fun K1 a1 w1 k1 k2 k3 k4 => by rw [then_ne hx]; exact hQ K1 a1 w1 k1 k2 k3 k4)
    · cases h
end
end Go.Proofs.YtidgcfgkcidkiaaGreat.X
namespace Go.Proofs.YtidgcfgkcidkiaaGreat.X
open Go Go.Proofs.YtidgcfgkcidkiaaGreat.L Go.RowKit
set_option linter.unusedVariables false
set_option linter.unusedSimpArgs false
def envOf : Nat → List AV → Env
  | _, [] => []
  | i, v :: vs => (i, v) :: envOf (i + 1) vs
def resC (P : Program) (objs : List Obj) (T : TypeId) : Option AV → Option AV
  | some (.ptr id off) => (match getO objs id with | .vars _ cs => partA P T off cs | _ => none)
  | _ => none
def resT (P : Program) (objs : List Obj) (e : Env) : List ResultVar → Option (List AV)
  | [] => some []
  | .tmp t :: r => match look e t with | some v => (match resT P objs e r with | some vs => some (v :: vs) | none => none) | none => none
  | .cell b T :: r => match resC P objs T (look e b) with | some v => (match resT P objs e r with | some vs => some (v :: vs) | none => none) | none => none
def resA (P : Program) (objs : List Obj) (fn : Func) (e : Env) : Option AV :=
  match resT P objs e fn.results.toList with
  | some [v] => some v
  | some vs => some (.tup vs)
  | none => none
/-- The variables stay where they were. -/
def exitB : Nat → List Obj → List Nat → Bool
  | _, [], _ => true
  | i, o :: os, p :: ps => match o, Nat.beq p i with | .vars .., false => false | _, _ => exitB (i + 1) os ps
  | _, _ :: _, [] => false
def renV (r : Nat → Option Nat) (get : Nat → Obj) : AV → AV
  | .tup vs => .tup (vs.map (ren r get))
  | v => ren r get v
/-- A run of a function: its code along a path; at its end some rows are frozen, and what is kept is numbered anew. -/
def runF (P : Program) (fn : Func) (cr : List Nat) (n : Nat) (args : List AV) (objs : List Obj) (g : List Gd) (ids p : List Nat) : Option (AV × List Obj × List Prop) :=
  match fn.body with
  | some c =>
    match Nat.ble args.length fn.ntmps, runC P cr objs.length fn.ntmps n c ⟨envOf 0 args, objs⟩ g with
    | true, some (x, S, ob, []) =>
      match x with
      | .exit _ => none
      | _ =>
        let S' := admS ids S
        match resA P S'.objs fn S'.env, exitB 0 objs p, nodupB p with
        | some v, true, true => some (renV (idx p) (getO S'.objs) v, p.map fun id => renO (idx p) (getO S'.objs) (getO S'.objs id), ob)
        | _, _, _ => none
    | _, _ => none
  | none => none

section
variable {P : Program} {K K' : Ctx} {get : Nat → Obj} {a : Act} {w w' : World}
theorem look_env : ∀ (vs : List AV) (i t : Nat), look (envOf i vs) t = if i ≤ t then vs[t - i]? else none
  | [], i, t => by simp [envOf, look]
  | v :: vs, i, t => by
    simp only [envOf, look]
    split
    · rename_i h; rw [beq_eq' h]; simp
    · rename_i h
      have hne := Nat.ne_of_beq_eq_false h
      rw [look_env vs (i + 1) t]
      by_cases h1 : i ≤ t
      · rw [if_pos (by omega), if_pos h1, show t - i = (t - (i + 1)) + 1 by omega]; rfl
      · rw [if_neg (by omega), if_neg h1]
def resOne (a : Act) : ResultVar → Sem Value
  | .tmp t => pure (a.tmps.getD t undef)
  | .cell b t => do loadVar t (← asAddr (a.tmps.getD b undef))
theorem resC_sound {objs : List Obj} {e : Env} (hS : RelS K (look e) (getO objs) a w) {T : TypeId} {b : Nat} {v : AV} (h : resC P objs T (look e b) = some v) : ∃ c, (resOne a (.cell b T)).run P w = .ok c w ∧ VR K v c := by
  unfold resC at h
  split at h
  · rename_i id off hb
    obtain ⟨c0, t1, t2⟩ := hS.env b _ hb
    split at h
    · rename_i T' cs hg
      have hk : K.kind id = .var := by rw [hS.kind, hg]; rfl
      obtain ⟨ds, h1, h2, h3⟩ := by have := hS.rel.obj id; rw [hg] at this; exact this
      cases t2 with
      | pure h => cases h
      | ptr id off c hk' hc hp' =>
        rw [hk] at hc
        obtain rfl := hc.resolve_left (by simp)
        obtain ⟨r, h4, h5⟩ := load_at (P := P) (w := w) (b := K.blk id) (o := 0) h2 (fun j d hd => by rw [Nat.zero_add]; exact cellOf h1 j (by simpa using hd)) h
        rw [Nat.zero_add] at h4
        refine ⟨r, ?_, h5⟩
        show (do loadVar T (← asAddr (a.tmps.getD b undef)) : Sem Value).run P w = _
        rw [Array.getD_eq_getD_getElem?, t1]
        simpa [Instr.loadAt, Instr.sureAddr, asAddr] using h4
    · cases h
  · cases h
theorem resT_sound {objs : List Obj} {e : Env} (hS : RelS K (look e) (getO objs) a w) : ∀ (rs : List ResultVar) (vs : List AV), resT P objs e rs = some vs → ∃ cs : List Value, VRs K vs cs ∧ rs.length = cs.length ∧ ∀ (i : Nat) r c, rs[i]? = some r → cs[i]? = some c → (resOne a r).run P w = .ok c w
  | [], vs, h => by cases h; exact ⟨[], .nil, rfl, fun i r c hr => by simp at hr⟩
  | .tmp t :: r, vs, h => by
    simp only [resT] at h
    split at h
    · rename_i v hv
      split at h
      · rename_i us hus
        cases h
        obtain ⟨cs, h1, h2, h3⟩ := resT_sound hS r us hus
        obtain ⟨c, c1, c2⟩ := hS.env t v hv
        refine ⟨c :: cs, .cons c2 h1, by simp [h2], fun i x y hx hy => ?_⟩
        cases i with
        | zero =>
          simp at hx hy; subst hx hy
          show (pure (a.tmps.getD t undef) : Sem Value).run P w = _
          rw [Sem.run_pure, Array.getD_eq_getD_getElem?, c1]; rfl
        | succ i => exact h3 i x y (by simpa using hx) (by simpa using hy)
      · cases h
    · cases h
  | .cell b T :: r, vs, h => by
    simp only [resT] at h
    split at h
    · rename_i v hv
      split at h
      · rename_i us hus
        cases h
        obtain ⟨cs, h1, h2, h3⟩ := resT_sound hS r us hus
        obtain ⟨c, c1, c2⟩ := resC_sound hS hv
        refine ⟨c :: cs, .cons c2 h1, by simp [h2], fun i x y hx hy => ?_⟩
        cases i with
        | zero => simp at hx hy; subst hx hy; exact c1
        | succ i => exact h3 i x y (by simpa using hx) (by simpa using hy)
      · cases h
    · cases h
theorem resRun : ∀ (rs : List ResultVar) (cs : List Value), rs.length = cs.length → (∀ (i : Nat) r c, rs[i]? = some r → cs[i]? = some c → (resOne a r).run P w = .ok c w) →
    (rs.mapM (resOne a)).run P w = .ok cs w
  | [], [], _, _ => by simp
  | [], c :: cs, h, _ => by simp at h
  | r :: rs, [], h, _ => by simp at h
  | r :: rs, c :: cs, h, hp => by
    have ht := hp 0 r c rfl rfl
    have ih := resRun rs cs (by simpa using h) fun i r c hr hc => hp (i + 1) r c (by simpa using hr) (by simpa using hc)
    rw [List.mapM_cons, Sem.run_bind, ht, Result.andThen_ok, Sem.run_bind, ih, Result.andThen_ok, Sem.run_pure]
theorem resA_sound {objs : List Obj} {fn : Func} {e : Env} (hS : RelS K (look e) (getO objs) a w) {v : AV} (h : resA P objs fn e = some v) : ∃ c, (results fn a.tmps).run P w = .ok c w ∧ VR K v c := by
  have key : ∀ vs, resT P objs e fn.results.toList = some vs → ∃ cs : List Value, VRs K vs cs ∧ (fn.results.mapM (resOne a)).run P w = .ok cs.toArray w := by
    intro vs hvs
    obtain ⟨cs, h1, h2, h3⟩ := resT_sound hS _ _ hvs
    refine ⟨cs, h1, ?_⟩
    rw [Array.mapM_eq_mapM_toList]
    have := resRun (P := P) (w := w) _ cs h2 h3
    simp only [Sem.run_map, this, Result.andThen_ok]
  unfold resA at h
  split at h
  · rename_i u hu
    cases h
    obtain ⟨cs, h1, h2⟩ := key _ hu
    obtain ⟨c, cs', rfl, h3, h4⟩ := h1.cons_inv
    obtain rfl := h4.nil_inv
    refine ⟨c, ?_, h3⟩
    unfold results
    rw [Sem.run_bind]
    refine Eq.trans (congrArg (fun r => Result.andThen r _) h2) ?_
    simp
  · rename_i vs hne hu
    cases h
    obtain ⟨cs, h1, h2⟩ := key _ hu
    refine ⟨.tuple cs.toArray, ?_, .mkTup h1⟩
    unfold results
    rw [Sem.run_bind]
    refine Eq.trans (congrArg (fun r => Result.andThen r _) h2) ?_
    have : ¬ cs.toArray.size = 1 := by
      intro h9
      have : vs.length = 1 := by rw [h1.1]; simpa using h9
      match vs, this with
      | [u], _ => exact hne u rfl
    simp [this]
    intro h9; exact absurd (by simpa using h9) this
  · cases h
theorem exit_spec : ∀ {i : Nat} {os : List Obj} {p : List Nat}, exitB i os p = true → ∀ (j : Nat) T cs, os[j]? = some (.vars T cs) → p[j]? = some (i + j)
  | i, [], p, _, j, T, cs, hj => by simp at hj
  | i, o :: os, [], h, j, T, cs, hj => by simp [exitB] at h
  | i, o :: os, q :: qs, h, j, T, cs, hj => by
    simp only [exitB] at h
    split at h
    · cases h
    · rename_i hn
      cases j with
      | zero =>
        simp at hj; subst hj
        cases hb : Nat.beq q i with
        | true => simp [beq_eq' hb]
        | false => exact absurd hb (hn T cs rfl)
      | succ j =>
        have := exit_spec h j T cs (by simpa using hj)
        rw [show i + 1 + j = i + (j + 1) by omega] at this
        simpa using this
theorem renV_sound {r : Nat → Option Nat} {getC : Nat → Obj} (hr : Ren r getC K K') {u : AV} {c : Value} (h : VR K u c) : VR K' (renV r getC u) c := by
  cases hu : u with
  | tup vs =>
    subst hu
    obtain ⟨ds, rfl, hd⟩ := h.tup_inv
    have := VR.mkTup (hr.rens hd)
    rw [Array.toArray_toList] at this
    exact this
  | _ => subst hu; exact hr.ren h
/-- A function's body, by a run along a path. -/
theorem body_wp (hm : P.follows .mixedOrders = true) {f : FuncId} {fn : Func} (hf : P.funcs[f]? = some fn) (hname : (fn.name == "runtime.NumGoroutine") = false) {args : List AV} {objs : List Obj} (cr : List Nat) (n : Nat) (g : List Gd) (ids p : List Nat) {v : AV} {objs' : List Obj} {ob : List Prop}
    (h : runF P fn cr n args objs g ids p = some (v, objs', ob)) (ho : AllP ob) : ∃ c, fn.body = some c ∧ ∀ K w (cs : List Value), Rel K (getO objs) w → VRs K args cs → c.wp P (bodyPost P fn fun e w' => ∃ K' c, e = .returned c ∧ Rel K' (getO objs') w' ∧ VR K' v c ∧ GrowC objs.length K w K' w') { tmps := cs.toArray ++ Array.replicate (fn.ntmps - cs.toArray.size) undef, defers := [] } w := by
  unfold runF at h
  split at h
  · rename_i c hc
    split at h
    · rename_i x S ob1 hlen hrun
      have fin : (match resA P (admS ids S).objs fn (admS ids S).env, exitB 0 objs p, nodupB p with
          | some v, true, true => some (renV (idx p) (getO (admS ids S).objs) v, p.map fun id => renO (idx p) (getO (admS ids S).objs) (getO (admS ids S).objs id), ob1)
          | _, _, _ => none) = some (v, objs', ob) → (x = .normal ∨ x = .ret) → ∃ c, fn.body = some c ∧ ∀ K w (cs : List Value), Rel K (getO objs) w → VRs K args cs → c.wp P (bodyPost P fn fun e w' => ∃ K' c, e = .returned c ∧ Rel K' (getO objs') w' ∧ VR K' v c ∧ GrowC objs.length K w K' w') { tmps := cs.toArray ++ Array.replicate (fn.ntmps - cs.toArray.size) undef, defers := [] } w := by
        intro h hx
        split at h
        · rename_i u hres hex hnd
          cases h
          refine ⟨c, hc, fun K w cs hR hA => ?_⟩
          have hlen' : cs.length ≤ fn.ntmps := by have := Nat.le_of_ble_eq_true hlen; rw [← hA.1]; exact this
          have hac := (runC_sound hm _ _ _ _ _ _ _ _ hrun ho).code
          refine hac K _ w _ ⟨hR, fun t u hu => ?_⟩ (by simp; omega) fun K1 a1 w1 h1 h2 h3 h4 => ?_
          · simp only at hu
            rw [look_env, if_pos (Nat.zero_le _), Nat.sub_zero] at hu
            obtain ⟨c', k1, k2⟩ := hA.at_ hu
            refine ⟨c', ?_, k2⟩
            have := (List.getElem?_eq_some_iff.1 k1).1
            rw [Array.getElem?_append_left (by simpa using this)]
            simpa using k1
          · obtain ⟨K2, h5, h6⟩ := adm_sound ids h1
            obtain ⟨c', r1, r2⟩ := resA_sound (P := P) h5 hres
            have hnd' := nodupB_iff.1 hnd
            have hG := h3.trans (h6 objs.length)
            have post : a1.defers = [] ∧ ∃ v', (results fn a1.tmps).run P w1 = .ok v' w1 ∧ ∃ K' c, (Ending.returned v') = .returned c ∧ Rel K' (getO (p.map fun id => renO (idx p) (getO (admS ids S).objs) (getO (admS ids S).objs id))) w1 ∧ VR K' (renV (idx p) (getO (admS ids S).objs) u) c ∧ GrowC objs.length K w K' w1 := by
              refine ⟨h4, c', r1, K2.sub p, c', rfl, h5.rel.sub hnd', renV_sound (h5.rel.ren_sub p) r2, fun b o v hv => hG.mem b o v hv, fun b o v hv => hG.new b o v hv, fun id hid hk => ?_, fun b hb => ?_, hG.keeps⟩
              · obtain ⟨k1, k2⟩ := hG.var id hid hk
                have hv : ∃ T cs, objs[id]? = some (.vars T cs) := by
                  rw [hR.kinds, getO_eq] at hk
                  rw [List.getElem?_eq_getElem hid] at hk ⊢
                  simp only [Option.getD_some] at hk
                  cases ho : objs[id] <;> rw [ho] at hk <;> first | exact ⟨_, _, rfl⟩ | cases hk
                obtain ⟨T, cs', hv⟩ := hv
                have := exit_spec hex id T cs' hv
                rw [Nat.zero_add] at this
                obtain ⟨q1, q2, _⟩ := sub_at (K := K2) this
                exact ⟨q1.trans k1, q2.trans k2⟩
              · obtain ⟨j, hj, rfl⟩ := hb
                obtain ⟨id, q1, q2, q3⟩ := sub_own hj
                rw [q3]; exact hG.foot _ ⟨id, q2, rfl⟩
            rcases hx with rfl | rfl <;> exact post
        · cases h
      dsimp only at h
      split at h
      · cases h
      · rename_i hne
        refine fin h ?_
        cases x with
        | normal => exact .inl rfl
        | ret => exact .inr rfl
        | exit id => exact absurd rfl (hne id)
    · cases h
  · cases h
/-- What a function does, by a run along a path. -/
theorem acalls (hm : P.follows .mixedOrders = true) {f : FuncId} {fn : Func} (hf : P.funcs[f]? = some fn) (hname : (fn.name == "runtime.NumGoroutine") = false) {args : List AV} {objs : List Obj} (cr : List Nat) (n : Nat) (g : List Gd) (ids p : List Nat) {v : AV} {objs' : List Obj} {ob : List Prop}
    (h : runF P fn cr n args objs g ids p = some (v, objs', ob)) (ho : AllP ob) : ACalls P f args objs v objs' := by
  obtain ⟨c, hc, hw⟩ := body_wp hm hf hname cr n g ids p h ho
  exact ⟨⟨fn, hf, by rw [hc]; rfl, hname⟩, fun K w cs hR hA => calls_of_wp hf hc (hw K w cs hR hA)⟩
/-- What a loop does, by a run along a path. -/
theorem aloop (hm : P.follows .mixedOrders = true) {m0 nt : Nat} {c : Code} {S S' : St} {x : Ex} (cr : List Nat) (n : Nat) (g : List Gd) {ob : List Prop} (h : runC P cr m0 nt n (.loop c) S g = some (x, S', ob, [])) (ho : AllP ob) : ALoop P m0 nt c S x S' :=
  runC_sound hm _ _ _ _ _ _ _ _ h ho
end
/-- The bodies of a function's loops, by number. -/
def loopsOf : Code → List Code
  | .seq a b => loopsOf a ++ loopsOf b
  | .block _ c => loopsOf c
  | .cond _ a b => loopsOf a ++ loopsOf b
  | .loop c => c :: loopsOf c
  | _ => []
def loopB (f : Func) (n : Nat) : Code := match f.body with | some c => (match nth (loopsOf c) n with | some c => c | none => .skip) | none => .skip
/-- A loop's run; at its end what is kept is numbered anew. -/
def runL (P : Program) (cr : List Nat) (m0 nt n : Nat) (c : Code) (S : St) (g : List Gd) (keep p : List Nat) : Option (Ex × St × List Prop) :=
  match runC P cr m0 nt n (.loop c) S g with
  | some (x, S1, ob, []) => (match startsB 0 m0 p, nodupB p with | true, true => some (x, reS keep p S1, ob) | _, _ => none)
  | _ => none
theorem aloopK {P : Program} (hm : P.follows .mixedOrders = true) {m0 nt : Nat} {c : Code} {S S' S1 : St} {x : Ex} (cr : List Nat) (n : Nat) (g : List Gd) (keep p : List Nat) {ob : List Prop} (h : runL P cr m0 nt n c S g keep p = some (x, S1, ob)) (he : S1 = S') (ho : AllP ob) : ALoop P m0 nt c S x S' := by
  subst he
  unfold runL at h
  split at h
  · rename_i x' S2 ob' hr
    split at h
    · rename_i h1 h2
      cases h
      intro K a w Q hS hsz hQ
      refine aloop hm cr n g hr ho K a w Q hS hsz fun K' a' w' k1 k2 k3 k4 => ?_
      obtain ⟨K1, r1, r2⟩ := re_sound h2 h1 k1 (keep := keep)
      exact hQ K1 a' w' r1 k2 (k3.trans r2) k4
    · cases h
  · cases h
theorem acallsK {P : Program} (hm : P.follows .mixedOrders = true) {f : FuncId} {fn : Func} (hf : P.funcs[f]? = some fn) (hname : (fn.name == "runtime.NumGoroutine") = false) {args : List AV} {objs : List Obj} (cr : List Nat) (n : Nat) (g : List Gd) (ids p : List Nat) {v v1 : AV} {objs' objs1 : List Obj} {ob : List Prop}
    (h : runF P fn cr n args objs g ids p = some (v1, objs1, ob)) (he : v1 = v ∧ objs1 = objs') (ho : AllP ob) : ACalls P f args objs v objs' := by
  obtain ⟨rfl, rfl⟩ := he
  exact acalls hm hf hname cr n g ids p h ho
/-- A run of a function that turns a row in its place. -/
def runT (P : Program) (fn : Func) (cr : List Nat) (n : Nat) (args : List AV) (objs : List Obj) (g : List Gd) : Option (AV × Obj × List Prop) :=
  match fn.body with
  | some c =>
    match Nat.ble args.length fn.ntmps, runC P cr objs.length fn.ntmps n c ⟨envOf 0 args, objs⟩ g with
    | true, some (x, S, ob, []) =>
      match x with
      | .exit _ => none
      | _ => match resA P S.objs fn S.env with | some v => some (v, getO S.objs 0, ob) | none => none
    | _, _ => none
  | none => none
theorem flat0_PR {M M' : Nat → Nat → Option Value} {u : AV} {c : Value} (hf : flat0 u = true) (h : PR M u c) : PR M' u c := by
  cases h with
  | lst => cases hf
  | _ => constructor
theorem aturnK {P : Program} (hm : P.follows .mixedOrders = true) {f : FuncId} {fn : Func} (hf : P.funcs[f]? = some fn) (hname : (fn.name == "runtime.NumGoroutine") = false) {args : List AV} {T : TypeId} {sz : Nat} {ys xs xs1 : List AV} (cr : List Nat) (n : Nat) (g : List Gd) {v v1 : AV} {ob : List Prop}
    (h : runT P fn cr n args [.row T sz ys] g = some (v1, .row T sz xs1, ob)) (he : v1 = v ∧ xs1 = xs) (hl : xs.length = ys.length) (hfl : ∀ x ∈ xs, allB flat0 x.cells = true) (hv : flatB v = true) (ho : AllP ob) : ATurn P f args T sz ys xs v := by
  obtain ⟨rfl, rfl⟩ := he
  unfold runT at h
  split at h
  · rename_i c hc
    split at h
    · rename_i x S ob1 hlen hrun
      have fin : (match resA P S.objs fn S.env with | some v => some (v, getO S.objs 0, ob1) | none => none) = some (v1, .row T sz xs1, ob) → (x = .normal ∨ x = .ret) → ATurn P f args T sz ys xs1 v1 := by
        intro h hx
        split at h
        · rename_i u hres
          injection h with h
          injection h with h0 h
          injection h with h1 h2
          subst h0 h2
          refine ⟨⟨fn, hf, by rw [hc]; rfl, hname⟩, fun K w cs hR hA => ?_⟩
          have hlen' : cs.length ≤ fn.ntmps := by have := Nat.le_of_ble_eq_true hlen; rw [← hA.1]; exact this
          refine calls_of_wp hf hc ?_
          have hac := (runC_sound hm _ _ _ _ _ _ _ _ hrun ho).code
          refine hac K _ w _ ⟨hR, fun t u hu => ?_⟩ (by simp; omega) fun K1 a1 w1 k1 k2 k3 k4 => ?_
          · simp only at hu
            rw [look_env, if_pos (Nat.zero_le _), Nat.sub_zero] at hu
            obtain ⟨c', q1, q2⟩ := hA.at_ hu
            refine ⟨c', ?_, q2⟩
            have := (List.getElem?_eq_some_iff.1 q1).1
            rw [Array.getElem?_append_left (by simpa using this)]
            simpa using q1
          · obtain ⟨c', r1, r2⟩ := resA_sound (P := P) k1 hres
            have hk0 : K.kind 0 = .row sz ys.length := by rw [hR.kinds]; rfl
            have hob := k1.rel.obj 0
            have hk1 := k1.rel.kinds 0
            rw [h1] at hob hk1
            have hst := (k3.stay 0 (by simp) (by rw [hk0]; simp)).resolve_left (by rw [hk1]; simp [Obj.kind])
            obtain ⟨s1, s2, s3, _⟩ := hst
            have post : a1.defers = [] ∧ ∃ v', (results fn a1.tmps).run P w1 = .ok v' w1 ∧ ∃ c, (Ending.returned v') = .returned c ∧ Rel K (getO [.row T sz xs1]) w1 ∧ Keeps K.foot w w1 ∧ ∀ K', VR K' u c := by
              refine ⟨k4, c', r1, c', rfl, ⟨fun id => ?_, fun b o v hv => k1.rel.mem b o v (k3.mem b o v hv), fun id => ?_, hR.inj, hR.sep⟩, k3.keeps, fun K' => flat_VR hv r2⟩
              · rw [hR.kinds]
                cases id with
                | zero => show Kind.row sz ys.length = Kind.row sz xs1.length; rw [hl]
                | succ i => cases i <;> rfl
              · cases id with
                | succ i => cases i <;> exact trivial
                | zero =>
                  show OR K w1 0 (.row T sz xs1)
                  obtain ⟨q0, q1, q2, q3⟩ := hob
                  rw [s2] at q1 q2 q3
                  refine ⟨q0, q1, q2, fun hne => ?_⟩
                  obtain ⟨ds, d1, d2, d3⟩ := q3 hne
                  rw [s1] at d1
                  rw [s3] at d2 d3
                  refine ⟨ds, d1, d2, fun i x hx => ⟨(d3 i x hx).1, fun j u hu => ?_⟩⟩
                  obtain ⟨d, e1, e2⟩ := (d3 i x hx).2 j u hu
                  exact ⟨d, e1, flat0_PR (allB_iff.1 (hfl x (List.mem_of_getElem? hx)) u (List.mem_of_getElem? hu)) e2⟩
            rcases hx with rfl | rfl <;> exact post
        · cases h
      split at h
      · cases h
      · rename_i hne
        refine fin h ?_
        cases x with
        | normal => exact .inl rfl
        | ret => exact .inr rfl
        | exit id => exact absurd rfl (hne id)
    · cases h
  · cases h
end Go.Proofs.YtidgcfgkcidkiaaGreat.X
