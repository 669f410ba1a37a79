/- A library of no program: readings of numbers, bools, pairs, slices. -/
import Derived.Test.YtidgcfgkcidkiaaLibB
namespace Go.Proofs.Ytidgcfgkcidkiaa.L
open Go Go.RowKit
set_option linter.unusedVariables false
set_option linter.unusedSimpArgs false

/-- A number of a kind, in its range. -/
structure InK (k : IntKind) (x : Int) : Prop where
  wf : (Lit.int k x).wf = true
theorem InK.u64 {x : Int} (h : InK .u64 x) : 0 ≤ x ∧ x ≤ 18446744073709551615 := by simpa [Lit.wf, IntKind.min, IntKind.max, IntKind.signed, IntKind.bits] using h.wf
theorem InK.u8 {x : Int} (h : InK .u8 x) : 0 ≤ x ∧ x ≤ 255 := by simpa [Lit.wf, IntKind.min, IntKind.max, IntKind.signed, IntKind.bits] using h.wf
theorem InK.i64 {x : Int} (h : InK .i64 x) : -9223372036854775808 ≤ x ∧ x ≤ 9223372036854775807 := by simpa [Lit.wf, IntKind.min, IntKind.max, IntKind.signed, IntKind.bits] using h.wf
theorem InK.mk_u64 {x : Int} (h0 : 0 ≤ x) (h1 : x ≤ 18446744073709551615) : InK .u64 x := ⟨by simp [Lit.wf, IntKind.min, IntKind.max, IntKind.signed, IntKind.bits]; exact ⟨h0, h1⟩⟩
theorem InK.mk_u8 {x : Int} (h0 : 0 ≤ x) (h1 : x ≤ 255) : InK .u8 x := ⟨by simp [Lit.wf, IntKind.min, IntKind.max, IntKind.signed, IntKind.bits]; exact ⟨h0, h1⟩⟩
theorem InK.mk_i64 {x : Int} (h0 : -9223372036854775808 ≤ x) (h1 : x ≤ 9223372036854775807) : InK .i64 x := ⟨by simp [Lit.wf, IntKind.min, IntKind.max, IntKind.signed, IntKind.bits]; exact ⟨h0, h1⟩⟩

/-- A flat reading: the cells are a function of the value. -/
def flat {α : Type} (n : Nat) (enc : α → List Value) (ok : α → Prop) (hl : ∀ x, (enc x).length = n) (h1 : ∀ x, ∀ u ∈ enc x, u.oneCell' = true) : Rep α where
  sz := n
  K := fun _ _ cs x => cs = enc x ∧ ok x
  len := by rintro A w cs x ⟨rfl, _⟩; exact hl x
  one := by rintro A w cs x ⟨rfl, _⟩; exact h1 x
  keep := fun _ _ h => h
def num (k : IntKind) : Rep Int := flat 1 (fun x => [.int k x]) (InK k) (fun _ => rfl) (by intro x u hu; simp at hu; subst hu; rfl)
def boolR : Rep Bool := flat 1 (fun x => [.bool x]) (fun _ => True) (fun _ => rfl) (by intro x u hu; simp at hu; subst hu; rfl)
/-- One reading behind the other. -/
def pair {α β : Type} (a : Rep α) (b : Rep β) : Rep (α × β) where
  sz := a.sz + b.sz
  K := fun A w cs x => ∃ c1 c2, cs = c1 ++ c2 ∧ a.K A w c1 x.1 ∧ b.K A w c2 x.2
  len := by rintro A w cs x ⟨c1, c2, rfl, h1, h2⟩; simp [a.len h1, b.len h2]
  one := by rintro A w cs x ⟨c1, c2, rfl, h1, h2⟩ u hu; rcases List.mem_append.1 hu with h | h; exact a.one h1 u h; exact b.one h2 u h
  keep := by rintro A A' w w' cs x hA hw ⟨c1, c2, rfl, h1, h2⟩; exact ⟨c1, c2, rfl, a.keep hA hw h1, b.keep hA hw h2⟩
def iso {α β : Type} (a : Rep α) (f : β → α) : Rep β where
  sz := a.sz
  K := fun A w cs x => a.K A w cs (f x)
  len := a.len
  one := a.one
  keep := a.keep
def slice {α : Type} (R : Rep α) : Rep (List α) where
  sz := 1
  K := fun A w cs x => ∃ v, cs = [v] ∧ SliceK R A w v x
  len := by rintro A w cs x ⟨v, rfl, h⟩; rfl
  one := by rintro A w cs x ⟨v, rfl, h⟩ u hu; obtain ⟨ad, c, rfl, _⟩ := h; simp at hu; subst hu; rfl
  keep := by rintro A A' w w' cs x hA hw ⟨v, rfl, h⟩; exact ⟨v, rfl, h.keep hA hw⟩
theorem own_zero {α : Type} (R : Rep α) (T : TypeId) (A : Nat → Prop) (w : World) (ad : Option Addr) : Own R T A w (.slice ad 0 0) [] := ⟨ad, 0, rfl, Nat.le_refl _, Nat.zero_le _, .inl rfl⟩
theorem SliceK.alloc {α : Type} {R : Rep α} {A : Nat → Prop} {w : World} {v : Value} {xs : List α} (h : SliceK R A w v xs) (o : Obj) : SliceK R A (w.alloc o) v xs := h.keep (fun _ h => h) fun b _ hb => heap_alloc_old w o hb
theorem Own.alloc {α : Type} {R : Rep α} {T : TypeId} {A : Nat → Prop} {w : World} {v : Value} {xs : List α} (h : Own R T A w v xs) (o : Obj) : Own R T A (w.alloc o) v xs := h.keep (fun _ h => h) (fun b _ hb => heap_alloc_old w o hb) fun b _ hb => heap_alloc_old w o hb
theorem SliceK.kept {α : Type} {R : Rep α} {A F : Nat → Prop} {w w' : World} {v : Value} {xs : List α} (h : SliceK R A w v xs) (hk : Keeps F w w') (hd : ∀ b, A b → b < w.heap.size → ¬ F b) : SliceK R A w' v xs := h.keep (fun _ h => h) fun b hb hl => hk.block b hl (hd b hb hl)
theorem Own.kept {α : Type} {R : Rep α} {T : TypeId} {A F : Nat → Prop} {w w' : World} {v : Value} {xs : List α} (h : Own R T A w v xs) (hk : Keeps F w w') (hd : ∀ b, A b → b < w.heap.size → ¬ F b) (hr : ∀ b, rowOf v = some b → b < w.heap.size → ¬ F b) : Own R T A w' v xs :=
  h.keep (fun _ h => h) (fun b hb hl => hk.block b hl (hd b hb hl)) fun b hb hl => hk.block b hl (hr b hb hl)
theorem SliceK.nil_none {α : Type} {R : Rep α} {A : Nat → Prop} {w : World} {n c : Nat} {xs : List α} (h : SliceK R A w (.slice none n c) xs) : xs = [] ∧ n = 0 := by
  obtain ⟨ad, c', hv, h1, h2, h3⟩ := h
  injection hv with e1 e2 e3
  subst e1
  rcases h3 with rfl | ⟨b, pre, live, rest, T, f, ha, _⟩
  · exact ⟨rfl, by simpa using e2⟩
  · cases ha
theorem rowOf_zero (ad : Option Addr) (n : Nat) : rowOf (.slice ad n 0) = none := by cases ad <;> simp [rowOf]
theorem Own.bounds {α : Type} {R : Rep α} {T : TypeId} {A : Nat → Prop} {w : World} {ad : Option Addr} {n c : Nat} {xs : List α} (h : Own R T A w (.slice ad n c) xs) : n = xs.length ∧ n ≤ c ∧ c ≤ 9223372036854775807 := by
  obtain ⟨ad', c', hv, h1, h2, _⟩ := h
  injection hv with e1 e2 e3
  subst e2 e3
  unfold maxLen at h2
  exact ⟨rfl, h1, by omega⟩
theorem SliceK.bounds {α : Type} {R : Rep α} {A : Nat → Prop} {w : World} {ad : Option Addr} {n c : Nat} {xs : List α} (h : SliceK R A w (.slice ad n c) xs) : n = xs.length ∧ n ≤ c ∧ c ≤ 9223372036854775807 := by
  obtain ⟨ad', c', hv, h1, h2, _⟩ := h
  injection hv with e1 e2 e3
  subst e2 e3
  unfold maxLen at h2
  exact ⟨rfl, h1, by omega⟩
theorem overlaps_apart {P : Program} {w : World} {tS tR e : TypeId} {sz bytes : Nat} {z : Value} (E : Elem P tS e sz bytes z) {b b2 o o2 la ca lb cb : Nat} {cs cs2 : Array Value} {T T2 : TypeId}
    (hh : w.heap[b]? = some (.cells cs T (0, 0))) (hh2 : w.heap[b2]? = some (.cells cs2 T2 (0, 0))) (hne : b2 ≠ b) (hpos : cs.size ≠ 0) :
    (Extern.SlicesOverlaps.overlaps #[tS, tS] #[tR] #[.slice (some ⟨b2, o2, none⟩) la ca, .slice (some ⟨b, o, none⟩) lb cb]).run P w = .ok (.bool false) w := by
  obtain ⟨ht, ⟨i, hi, _, hs, _⟩, _, _⟩ := E
  exact Lib.run_overlaps_apart w tS tR e ht sz (fun w => by simp [sizeOf, typeInfo, hi, hs]) ⟨b2, o2, none⟩ ⟨b, o, none⟩ la ca lb cb hne T2 T cs2.size cs.size (by simp [World.shape?, hh2]) (by simp [World.shape?, hh]) hpos (freeOf hh2 _) (freeOf hh2 _)
/-- An owned row out of what its block holds. -/
theorem own_of {α : Type} {R : Rep α} {T : TypeId} {A : Nat → Prop} {w : World} {b o n c : Nat} {L body : List Value} {xs : List α} (hb : w.heap[b]? = some (.cells L.toArray T (0, 0))) (hL : L.length = o + c * R.sz) (hx : xs.length = n) (hn : n ≤ c) (hc : c ≤ maxLen)
    (ht : L.take (o + n * R.sz) = L.take o ++ body) (hbody : Cells R A w body xs) : Own R T A w (.slice (some ⟨b, o, none⟩) n c) xs := by
  subst hx
  have hlen := hbody.length
  have hmul : xs.length * R.sz ≤ c * R.sz := Nat.mul_le_mul_right _ hn
  refine ⟨some ⟨b, o, none⟩, c, rfl, hn, hc, .inr ⟨b, L.take o, body, L.drop (o + xs.length * R.sz), by rw [List.length_take, Nat.min_eq_left (by omega)], ?_, ?_, hbody⟩⟩
  · rw [← ht, List.take_append_drop]; exact hb
  · rw [List.length_drop, hL, Nat.sub_mul]; omega
/-- The cells of a slice that is read, or is of no element. -/
theorem SliceK.src {α : Type} {R : Rep α} {A : Nat → Prop} {w : World} {ad : Option Addr} {n c : Nat} {xs : List α} (h : SliceK R A w (.slice ad n c) xs) :
    ∃ cs, cs.length = xs.length * R.sz ∧ Cells R A w cs xs ∧ (0 < xs.length → ∃ b o, ad = some ⟨b, o, none⟩ ∧ A b ∧ b < w.heap.size ∧ ∀ j u, cs[j]? = some u → w.cell? ⟨b, o + j, none⟩ = some u) := by
  by_cases h0 : 0 < xs.length
  · obtain ⟨b, o, cs, rfl, hA, hb, hc, hcell⟩ := h.cells h0
    exact ⟨cs, hc.length, hc, fun _ => ⟨b, o, rfl, hA, hb, hcell⟩⟩
  · obtain rfl : xs = [] := List.eq_nil_of_length_eq_zero (by omega)
    exact ⟨[], by simp, .nil, fun h => absurd h h0⟩
theorem Own.addr {α : Type} {R : Rep α} {T : TypeId} {A : Nat → Prop} {w : World} {ad : Option Addr} {n c : Nat} {xs : List α} (h : Own R T A w (.slice ad n c) xs) (h0 : c ≠ 0) : ∃ b o, ad = some ⟨b, o, none⟩ := by
  obtain ⟨ad', c', hv, h1, h2, h3⟩ := h
  injection hv with e1 e2 e3
  subst e1 e3
  rcases h3 with h3 | ⟨b, pre, live, dead, rfl, _⟩
  · exact absurd h3 h0
  · exact ⟨b, pre.length, rfl⟩
theorem Own.of_heap {α : Type} {R : Rep α} {T : TypeId} {A : Nat → Prop} {w w' : World} {v : Value} {xs : List α} (h : Own R T A w v xs) (e : w'.heap = w.heap) : Own R T A w' v xs := h.keep (fun _ h => h) (fun b _ _ => by rw [e]) fun b _ _ => by rw [e]
theorem SliceK.of_heap {α : Type} {R : Rep α} {A : Nat → Prop} {w w' : World} {v : Value} {xs : List α} (h : SliceK R A w v xs) (e : w'.heap = w.heap) : SliceK R A w' v xs := h.keep (fun _ h => h) (fun b _ _ => by rw [e])
theorem drewN_heap (w : World) (n : Nat) : (w.drewN n).heap = w.heap := rfl
theorem Own.take {α : Type} {R : Rep α} {T : TypeId} {A : Nat → Prop} {w : World} {ad : Option Addr} {n c : Nat} {xs : List α} (h : Own R T A w (.slice ad n c) xs) {i : Nat} (hi : i ≤ xs.length) : Own R T A w (.slice ad i c) (xs.take i) := by
  obtain ⟨ad', c', hv, h1, h2, h3⟩ := h
  injection hv with e1 e2 e3
  subst e1 e3
  have hl : (xs.take i).length = i := by rw [List.length_take]; omega
  refine ⟨ad, c, by rw [hl], by rw [hl]; omega, h2, ?_⟩
  rcases h3 with h3 | ⟨b, pre, live, dead, rfl, hh, hd, hc⟩
  · exact .inl h3
  · have hlen := hc.length
    have hle : i * R.sz ≤ xs.length * R.sz := Nat.mul_le_mul_right _ hi
    refine .inr ⟨b, pre, live.take (i * R.sz), live.drop (i * R.sz) ++ dead, rfl, ?_, ?_, hc.take i hi⟩
    · rw [hh]; congr 3; rw [List.append_assoc, List.append_assoc, ← List.append_assoc (live.take _), List.take_append_drop]
    · rw [List.length_append, List.length_drop, hd, hlen, hl, Nat.sub_mul, Nat.sub_mul]
      have : xs.length * R.sz ≤ c * R.sz := Nat.mul_le_mul_right _ h1
      omega
def mx (a b : Int) : Int := if a < b then b else a
def mn (a b : Int) : Int := if b < a then b else a
theorem max_go (ats : Array TypeId) (ty : TypeId) (k k' : IntKind) (x y : Int) : Builtin.max_ ats ty #[.int k x, .int k' y] = pure (.int k (mx x y)) := by simp [Builtin.max_, Builtin.max2, mx]
theorem min_go (ats : Array TypeId) (ty : TypeId) (k k' : IntKind) (x y : Int) : Builtin.min_ ats ty #[.int k x, .int k' y] = pure (.int k (mn x y)) := by simp [Builtin.min_, Builtin.min2, mn]
theorem mx_max (a b : Int) : mx a b = max a b := by unfold mx; split <;> omega
theorem mn_min (a b : Int) : mn a b = min a b := by unfold mn; split <;> omega
theorem two_set {w : World} {b : Nat} {x y : Value} {T : TypeId} (h : w.heap[b]? = some (.cells #[x, y] T (0, 0))) (u v : Value) : ((w.setCell ⟨b, 0, none⟩ u).setCell ⟨b, 1, none⟩ v).heap[b]? = some (.cells #[u, v] T (0, 0)) := by
  have h1 := heap_setCell_same w b 0 _ T u h
  have h2 := heap_setCell_same _ b 1 _ T v h1
  simpa using h2
theorem one_set {w : World} {b : Nat} {x : Value} {T : TypeId} (h : w.heap[b]? = some (.cells #[x] T (0, 0))) (u : Value) : (w.setCell ⟨b, 0, none⟩ u).heap[b]? = some (.cells #[u] T (0, 0)) := by
  have h1 := heap_setCell_same w b 0 _ T u h
  simpa using h1
theorem half_wrap (i j : Nat) (hi : i ≤ 9223372036854775807) (hj : j ≤ 9223372036854775807) : wrap64 (IntKind.u64.wrap (wrap64 ((i : Int) + (j : Int))) / 2) = (((i + j) / 2 : Nat) : Int) := by
  have e : IntKind.u64.wrap (wrap64 ((i : Int) + (j : Int))) = (i : Int) + j := by
    unfold wrap64; simp [IntKind.wrap, IntKind.bits, IntKind.signed]; omega
  rw [e]; unfold wrap64; omega
theorem ret_int {k : IntKind} {a b : Int} (h : a = b) : Ending.returned (.int k a) = .returned (.int k b) := by rw [h]
theorem ret2 {a a' b b' : Value} (h : a = a') (k : b = b') : Ending.returned (.tuple #[a, b]) = .returned (.tuple #[a', b']) := by rw [h, k]
theorem ret3 {a a' b b' c c' : Value} (h : a = a') (k : b = b') (l : c = c') : Ending.returned (.tuple #[a, b, c]) = .returned (.tuple #[a', b', c']) := by rw [h, k, l]
theorem vint {k : IntKind} {a b : Int} (h : a = b) : Value.int k a = .int k b := by rw [h]
theorem vbool {a b : Bool} (h : a = b) : Value.bool a = .bool b := by rw [h]
theorem ret_bool {a b : Bool} (h : a = b) : Ending.returned (.bool a) = .returned (.bool b) := by rw [h]
end Go.Proofs.Ytidgcfgkcidkiaa.L
