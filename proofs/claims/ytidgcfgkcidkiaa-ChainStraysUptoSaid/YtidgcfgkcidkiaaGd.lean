/- A library of no program: small laws of the relation; the operations that leave memory alone. -/
import Derived.Test.YtidgcfgkcidkiaaGc
namespace Go.Proofs.Ytidgcfgkcidkiaa.X
open Go Go.Proofs.Ytidgcfgkcidkiaa.L
set_option linter.unusedVariables false
set_option linter.unusedSimpArgs false

theorem PR.mono {M M' : Nat → Nat → Option Value} (hM : ∀ b o v, M b o = some v → M' b o = some v) {u : AV} {c : Value} (h : PR M u c) : PR M' u c := by
  induction h with
  | lst sz xs ad c b o f hsz hc hm had hl hMM h ih => exact .lst sz xs ad c b o f hsz hc hm had hl (fun i x j u h1 h2 => hM _ _ _ (hMM i x j u h1 h2)) ih
  | _ => constructor

/-- Things go on. -/
structure Ctx.le (K K' : Ctx) : Prop where
  mem : ∀ b o v, K.M b o = some v → K'.M b o = some v
  at_ : ∀ id, K.kind id ≠ .hole → K'.kind id = .gone ∨ (K'.blk id = K.blk id ∧ K'.cap id = K.cap id ∧ K'.off id = K.off id ∧ (K'.kind id = K.kind id ∨ ∃ sz n, K.kind id = .row sz n ∧ K'.kind id = .frz sz n))

theorem kind_go {k k' : Kind} {sz n : Nat} (h : k = .row sz n ∨ k = .frz sz n) (h3 : k' = k ∨ ∃ sz n, k = .row sz n ∧ k' = .frz sz n) : k' = .row sz n ∨ k' = .frz sz n := by
  rcases h3 with h3 | ⟨sz', n', h3, h4⟩
  · rw [h3]; exact h
  · rcases h with h | h <;> rw [h] at h3
    · injection h3 with e1 e2; subst e1 e2; exact .inr h4
    · cases h3
theorem VR.mono {K K' : Ctx} (hK : K.le K') {u : AV} {c : Value} (h : VR K u c) : VR K' u c := by
  induction h with
  | pure h => exact .pure (h.mono hK.mem)
  | ptr id off c hk h hp =>
    rcases hK.at_ id hk with h1 | ⟨h1, h2, h0, h3⟩
    · exact .ptr id off c (by rw [h1]; simp) (.inl h1) hp
    · refine .ptr id off c ?_ ?_ hp
      · rcases h3 with h3 | ⟨sz, n, _, h3⟩ <;> rw [h3]
        · exact hk
        · simp
      · rcases h with h | h
        · rcases h3 with h3 | ⟨sz, n, h3, _⟩
          · exact .inl (h3.trans h)
          · rw [h] at h3; cases h3
        · rw [h1]; exact .inr h
  | ept id sz i off c hk h hp =>
    rcases hK.at_ id hk with h1 | ⟨h1, h2, h0, h3⟩
    · exact .ept id sz i off c (by rw [h1]; simp) (.inl h1) hp
    · refine .ept id sz i off c ?_ ?_ hp
      · rcases h3 with h3 | ⟨sz, n, _, h3⟩ <;> rw [h3]
        · exact hk
        · simp
      · rcases h with h | ⟨n, h, hi, hc⟩
        · rcases h3 with h3 | ⟨sz, n, h3, _⟩
          · exact .inl (h3.trans h)
          · rw [h] at h3; cases h3
        · rw [h1, h0]
          exact .inr ⟨n, kind_go h h3, hi, hc⟩
  | lpt sz xs i off ad n c hx hi => exact .lpt sz xs i off ad n c (hx.mono hK.mem) hi
  | row id sz len c hk h hp =>
    rcases hK.at_ id hk with h1 | ⟨h1, h2, h0, h3⟩
    · exact .row id sz len c (by rw [h1]; simp) (.inl h1) hp
    · refine .row id sz len c ?_ ?_ hp
      · rcases h3 with h3 | ⟨sz, n, _, h3⟩ <;> rw [h3]
        · exact hk
        · simp
      · rcases h with h | ⟨h, ad, hc, ha⟩
        · rcases h3 with h3 | ⟨sz, n, h3, _⟩
          · exact .inl (h3.trans h)
          · rw [h] at h3; cases h3
        · rw [h1, h2, h0]
          exact .inr ⟨kind_go h h3, ad, hc, ha⟩
  | rws id sz off len c hk h hp =>
    rcases hK.at_ id hk with h1 | ⟨h1, h2, h0, h3⟩
    · exact .rws id sz off len c (by rw [h1]; simp) (.inl h1) hp
    · refine .rws id sz off len c ?_ ?_ hp
      · rcases h3 with h3 | ⟨sz, n, _, h3⟩ <;> rw [h3]
        · exact hk
        · simp
      · rcases h with h | ⟨n, ad, m, h, hn, hc, ha⟩
        · rcases h3 with h3 | ⟨sz, n, h3, _⟩
          · exact .inl (h3.trans h)
          · rw [h] at h3; cases h3
        · rw [h1, h0]
          exact .inr ⟨n, ad, m, kind_go h h3, hn, hc, ha⟩
  | fn f caps ds hl h ih => exact .fn f caps ds hl ih
  | agg cs ds hl h ih => exact .agg cs ds hl ih
  | tup cs ds hl h ih => exact .tup cs ds hl ih
  | dead c => exact .dead c

section
variable {K : Ctx} {c : Value}
theorem VR.int_inv {k : IntKind} {n : Int} (h : VR K (.int k n) c) : c = .int k n := by cases h with | pure h => cases h; rfl
theorem VR.bool_inv {b : Bool} (h : VR K (.bool b) c) : c = .bool b := by cases h with | pure h => cases h; rfl
theorem VR.str_inv {s : ByteArray} (h : VR K (.str s) c) : c = .string s := by cases h with | pure h => cases h; rfl
theorem VR.nilp_inv (h : VR K .nilp c) : c = .pointer none := by cases h with | pure h => cases h; rfl
theorem VR.nils_inv (h : VR K .nils c) : c = .slice none 0 0 := by cases h with | pure h => cases h; rfl
theorem VR.agg_inv {cs : List AV} (h : VR K (.agg cs) c) : ∃ ds, c = .agg ds ∧ VRs K cs ds.toList := by
  cases h with
  | pure h => cases h
  | agg cs ds hl h => exact ⟨ds, rfl, by simpa using hl, fun i u d h1 h2 => h i u d h1 (by simpa using h2)⟩
theorem VR.tup_inv {cs : List AV} (h : VR K (.tup cs) c) : ∃ ds, c = .tuple ds ∧ VRs K cs ds.toList := by
  cases h with
  | pure h => cases h
  | tup cs ds hl h => exact ⟨ds, rfl, by simpa using hl, fun i u d h1 h2 => h i u d h1 (by simpa using h2)⟩
theorem VR.fn_inv {f : FuncId} {cs : List AV} (h : VR K (.fn f cs) c) : ∃ ds, c = .func (.func f) #[] ds ∧ VRs K cs ds.toList := by
  cases h with
  | pure h => cases h
  | fn f cs ds hl h => exact ⟨ds, rfl, by simpa using hl, fun i u d h1 h2 => h i u d h1 (by simpa using h2)⟩
theorem VR.mkAgg {cs : List AV} {ds : List Value} (h : VRs K cs ds) : VR K (.agg cs) (.agg ds.toArray) := .agg cs _ (by simpa using h.1) fun i u d h1 h2 => h.2 i u d h1 (by simpa using h2)
theorem VR.mkTup {cs : List AV} {ds : List Value} (h : VRs K cs ds) : VR K (.tup cs) (.tuple ds.toArray) := .tup cs _ (by simpa using h.1) fun i u d h1 h2 => h.2 i u d h1 (by simpa using h2)
theorem VR.mkFn {f : FuncId} {cs : List AV} {ds : List Value} (h : VRs K cs ds) : VR K (.fn f cs) (.func (.func f) #[] ds.toArray) := .fn f cs _ (by simpa using h.1) fun i u d h1 h2 => h.2 i u d h1 (by simpa using h2)
theorem VRs.nil : VRs K [] [] := ⟨rfl, by simp⟩
theorem VRs.cons {u : AV} {us : List AV} {ds : List Value} (h : VR K u c) (hs : VRs K us ds) : VRs K (u :: us) (c :: ds) := by
  refine ⟨by simp [hs.1], fun i v d h1 h2 => ?_⟩
  cases i with
  | zero => simp at h1 h2; subst h1 h2; exact h
  | succ i => exact hs.2 i v d (by simpa using h1) (by simpa using h2)
theorem VRs.cons_inv {u : AV} {us : List AV} {ds : List Value} (h : VRs K (u :: us) ds) : ∃ c cs, ds = c :: cs ∧ VR K u c ∧ VRs K us cs := by
  cases ds with
  | nil => have := h.1; simp at this
  | cons c cs => exact ⟨c, cs, rfl, h.2 0 u c rfl rfl, by have := h.1; simpa using this, fun i v d h1 h2 => h.2 (i + 1) v d (by simpa using h1) (by simpa using h2)⟩
theorem VRs.nil_inv {ds : List Value} (h : VRs K [] ds) : ds = [] := List.eq_nil_of_length_eq_zero h.1.symm
theorem VRs.append {us vs : List AV} {ds es : List Value} (h : VRs K us ds) (k : VRs K vs es) : VRs K (us ++ vs) (ds ++ es) := by
  induction us generalizing ds with
  | nil => rw [h.nil_inv]; exact k
  | cons u us ih => obtain ⟨c, cs, rfl, h1, h2⟩ := h.cons_inv; exact .cons h1 (ih h2)
theorem VRs.mono {K' : Ctx} (hK : K.le K') {us : List AV} {ds : List Value} (h : VRs K us ds) : VRs K' us ds := ⟨h.1, fun i u d h1 h2 => (h.2 i u d h1 h2).mono hK⟩
theorem VRs.at_ {us : List AV} {ds : List Value} (h : VRs K us ds) {i : Nat} {u : AV} (hu : us[i]? = some u) : ∃ d, ds[i]? = some d ∧ VR K u d := by
  have hi : i < ds.length := by rw [← h.1]; exact (List.getElem?_eq_some_iff.1 hu).1
  exact ⟨ds[i], List.getElem?_eq_getElem hi, h.2 i u _ hu (List.getElem?_eq_getElem hi)⟩
theorem nth_eq {α : Type} (l : List α) (n : Nat) : nth l n = l[n]? := by induction l generalizing n with | nil => simp [nth] | cons x xs ih => cases n <;> simp [nth, ih]
/-- One cell's value is one cell. -/
theorem VR.one {u : AV} (h : VR K u c) (hu : u.cell = true) : c.oneCell' = true := by
  cases h with
  | pure h => cases h <;> rfl
  | ptr id off c hk h hp => obtain ⟨a, rfl⟩ := hp; rfl
  | row id sz len c hk h hp => obtain ⟨a, m, rfl, _⟩ := hp; rfl
  | rws id sz off len c hk h hp => obtain ⟨a, m, rfl, _⟩ := hp; rfl
  | fn => rfl
  | _ => simp [AV.cell] at hu
theorem allB_iff {α : Type} {f : α → Bool} {l : List α} : allB f l = true ↔ ∀ x ∈ l, f x = true := by
  induction l with
  | nil => simp [allB]
  | cons x xs ih => simp only [allB]; cases h : f x <;> simp [h, ih]
theorem lenB_iff {α : Type} {l : List α} {n : Nat} : lenB l n = true ↔ l.length = n := by
  induction l generalizing n with
  | nil => cases n <;> simp [lenB]
  | cons x xs ih => cases n <;> simp [lenB, ih]
/-- The cells of a value. -/
theorem VR.cells {u : AV} (h : VR K u c) (hu : allB AV.cell u.cells = true) : VRs K u.cells c.cells.toList ∧ ∀ d ∈ c.cells.toList, d.oneCell' = true := by
  by_cases ha : ∃ cs, u = .agg cs
  · obtain ⟨cs, rfl⟩ := ha
    obtain ⟨ds, rfl, hds⟩ := h.agg_inv
    refine ⟨hds, fun d hd => ?_⟩
    obtain ⟨i, hi⟩ := List.getElem?_of_mem hd
    have hl : i < cs.length := by rw [hds.1]; exact (List.getElem?_eq_some_iff.1 hi).1
    exact (hds.2 i cs[i] d (List.getElem?_eq_getElem hl) hi).one (allB_iff.1 hu _ (List.getElem_mem hl))
  · have e : u.cells = [u] := by cases u <;> first | rfl | exact absurd ⟨_, rfl⟩ ha
    rw [e] at hu ⊢
    have hu1 : u.cell = true := allB_iff.1 hu u (by simp)
    have h1 := h.one hu1
    have e2 : c.cells.toList = [c] := by cases c <;> first | rfl | simp [Value.oneCell'] at h1
    rw [e2]
    exact ⟨.cons h .nil, by simpa using h1⟩

theorem cst1_sound {v : Value} {u : AV} (h : cst1 v = some u) : VR K u v := by
  unfold cst1 at h
  split at h <;> cases h <;> exact .pure (by constructor)
theorem cstL_sound : ∀ (vs : List Value) (us : List AV), cstL vs = some us → VRs K us vs
  | [], us, h => by cases h; exact .nil
  | v :: vs, us, h => by
    simp only [cstL] at h
    split at h
    · rename_i u hu
      split at h
      · rename_i ws hws
        cases h
        exact .cons (cst1_sound hu) (cstL_sound vs ws hws)
      · cases h
    · cases h
theorem cst_sound {v : Value} {u : AV} (h : cst v = some u) : VR K u v := by
  unfold cst at h
  split at h
  · rename_i cs
    split at h
    · rename_i us hus
      cases h
      have := VR.mkAgg (cstL_sound (K := K) _ _ hus)
      simpa using this
    · cases h
  · exact cst1_sound h

variable {e : Nat → Option AV} {get : Nat → Obj} {a : Act} {w : World} {P : Program}
theorem opv_sound (hS : RelS K e get a w) {x : Operand} {u : AV} (h : opv e x = some u) : VR K u (a.eval x) := by
  cases x with
  | tmp t =>
    obtain ⟨c, hc, hv⟩ := hS.env t u h
    simpa [Act.eval, Array.getD_eq_getD_getElem?, hc] using hv
  | const v => exact cst_sound h
  | func f => cases h; exact .fn f [] #[] rfl (by simp)
  | global g => cases h
theorem opvL_sound (hS : RelS K e get a w) : ∀ (xs : List Operand) (us : List AV), opvL e xs = some us → VRs K us (xs.map a.eval)
  | [], us, h => by cases h; exact .nil
  | x :: xs, us, h => by
    simp only [opvL] at h
    split at h
    · rename_i u hu
      split at h
      · rename_i ws hws
        cases h
        exact .cons (opv_sound hS hu) (opvL_sound hS xs ws hws)
      · cases h
    · cases h
end

/-- All of these hold. -/
def AllP : List Prop → Prop
  | [] => True
  | p :: ps => p ∧ AllP ps
theorem AllP.append_iff {l m : List Prop} : AllP (l ++ m) ↔ AllP l ∧ AllP m := by
  induction l with
  | nil => simp [AllP]
  | cons p l ih => simp [AllP, ih, and_assoc]
end Go.Proofs.Ytidgcfgkcidkiaa.X
