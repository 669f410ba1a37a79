/- A library of no program: rows are frozen; things are seen with other numbers. -/
import Derived.Test.YtidgcfgkcidkiaaGl
namespace Go.Proofs.Ytidgcfgkcidkiaa.X
open Go Go.Proofs.Ytidgcfgkcidkiaa.L Go.RowKit
set_option linter.unusedVariables false
set_option linter.unusedSimpArgs false

section
variable {P : Program} {K K' : Ctx} {e : Nat → Option AV} {get : Nat → Obj} {a : Act} {w w' : World}

/-- With the rows of B frozen. -/
def frzB (B : Nat → Bool) (get : Nat → Obj) (i : Nat) : Obj :=
  match get i, B i with
  | .row T sz xs, true => .frz T sz xs
  | o, _ => o
open Classical in
noncomputable def Ctx.frz (K : Ctx) (B : Nat → Bool) (get : Nat → Obj) (w : World) : Ctx :=
  { K with
    M := fun b o => match K.M b o with
      | some v => some v
      | none => if ∃ id T sz xs, B id = true ∧ get id = .row T sz xs ∧ K.cap id ≠ 0 ∧ K.blk id = b ∧ K.off id ≤ o ∧ o < K.off id + xs.length * sz then w.cell? ⟨b, o, none⟩ else none
    kind := fun i => match K.kind i, B i with
      | .row sz n, true => .frz sz n
      | k, _ => k }
theorem frz_M {B : Nat → Bool} {b o : Nat} {v : Value} (h : K.M b o = some v) : (K.frz B get w).M b o = some v := by simp [Ctx.frz, h]
theorem frz_M_inv {B : Nat → Bool} {b o : Nat} {v : Value} (h : (K.frz B get w).M b o = some v) : K.M b o = some v ∨ (w.cell? ⟨b, o, none⟩ = some v ∧ ∃ id T sz xs, B id = true ∧ get id = .row T sz xs ∧ K.cap id ≠ 0 ∧ K.blk id = b ∧ K.off id ≤ o ∧ o < K.off id + xs.length * sz) := by
  simp only [Ctx.frz] at h
  split at h
  · rename_i v' hv; exact .inl (hv.trans h)
  · split at h
    · rename_i hc; exact .inr ⟨h, hc⟩
    · cases h
theorem frz_kind (B : Nat → Bool) (h : Rel K get w) (i : Nat) : (K.frz B get w).kind i = (frzB B get i).kind := by
  simp only [Ctx.frz, frzB]
  rw [h.kinds i]
  cases hg : get i <;> cases hB : B i <;> simp [Obj.kind]
theorem frz_le (B : Nat → Bool) : K.le (K.frz B get w) := by
  refine ⟨fun b o v h => frz_M h, fun i hi => .inr ⟨rfl, rfl, rfl, ?_⟩⟩
  simp only [Ctx.frz]
  split
  · rename_i sz n hk hB; exact .inr ⟨sz, n, hk, rfl⟩
  · exact .inl rfl
theorem Rel.frz (h : Rel K get w) (B : Nat → Bool) : Rel (K.frz B get w) (frzB B get) w ∧ ∀ m, Grow m K w (K.frz B get w) w := by
  have hown : ∀ {i : Nat} {T sz : Nat} {xs : List AV}, get i = .row T sz xs → K.cap i ≠ 0 → K.own i := fun {i T sz xs} hg hc => by unfold Ctx.own; rw [h.kinds i, hg]; exact hc
  have hcells : ∀ {i : Nat} {T sz : Nat} {xs : List AV}, get i = .row T sz xs → K.cap i ≠ 0 → ∃ ds, w.heap[K.blk i]? = some (.cells ds T (0, 0)) ∧ ds.size = K.off i + K.cap i * sz ∧ PRows K.M sz xs (ds.toList.drop (K.off i)) ∧ 0 < sz ∧ xs.length ≤ K.cap i := fun {i T sz xs} hg hc => by
    have := h.obj i
    rw [hg] at this
    obtain ⟨h0, h1, h2, h3⟩ := this
    obtain ⟨ds, d1, d2, d3⟩ := h3 hc
    exact ⟨ds, d1, d2, d3, h0, h1⟩
  refine h.change (K' := K.frz B get w) (get' := frzB B get) (w' := w) (fun i => B i = true ∧ ∃ T sz xs, get i = .row T sz xs) (frz_le B) (fun i hi => ?_) (Keeps.refl _ _) (fun i _ => frz_kind B h i) (fun i hi hv => ?_) (fun i hi => ?_) (fun i hi ho => ?_) (fun i j hi hj ho => ?_) (fun b o v hv => ?_)
  · have hk : (K.frz B get w).kind i = K.kind i := by
      rw [frz_kind B h, h.kinds]
      unfold frzB
      split
      · rename_i T sz xs hg hB; exact absurd ⟨hB, _, _, _, hg⟩ hi
      · rfl
    refine ⟨hk, rfl, rfl, rfl, ?_⟩
    unfold frzB
    split
    · rename_i T sz xs hg hB; exact absurd ⟨hB, _, _, _, hg⟩ hi
    · rfl
  · obtain ⟨_, T, sz, xs, hg⟩ := hi
    rw [h.kinds, hg] at hv; cases hv
  · obtain ⟨hB, T, sz, xs, hg⟩ := hi
    have hf : frzB B get i = .frz T sz xs := by simp [frzB, hg, hB]
    rw [hf]
    have hob := h.obj i
    rw [hg] at hob
    obtain ⟨h0, h1, h2, h3⟩ := hob
    refine ⟨h0, h1, h2, fun k x hx => ?_⟩
    have hc : K.cap i ≠ 0 := by have := (List.getElem?_eq_some_iff.1 hx).1; omega
    obtain ⟨ds, d1, d2, d3⟩ := h3 hc
    obtain ⟨q1, q2⟩ := d3 k x hx
    refine ⟨q1, fun j u hu => ?_⟩
    obtain ⟨d, r1, r2⟩ := q2 j u hu
    refine ⟨d, ?_, r2.mono fun _ _ _ => frz_M⟩
    have hsep := h.sep i (K.off i + k * sz + j) (hown hg hc)
    have hk := (List.getElem?_eq_some_iff.1 hx).1
    have hj : j < sz := by rw [← q1]; exact (List.getElem?_eq_some_iff.1 hu).1
    have hm : (k + 1) * sz ≤ xs.length * sz := Nat.mul_le_mul_right _ (by omega)
    rw [Nat.succ_mul] at hm
    show (match K.M (K.blk i) (K.off i + k * sz + j) with | some v => some v | none => _) = _
    rw [hsep]
    simp only
    rw [if_pos ⟨i, T, sz, xs, hB, hg, hc, rfl, by show K.off i ≤ K.off i + k * sz + j; omega, by show K.off i + k * sz + j < K.off i + xs.length * sz; omega⟩]
    exact cellOf d1 (K.off i + k * sz + j) (by rw [List.getElem?_drop, ← Nat.add_assoc] at r1; simpa using r1)
  · obtain ⟨hB, T, sz, xs, hg⟩ := hi
    unfold Ctx.own at ho
    rw [frz_kind B h] at ho
    simp [frzB, hg, hB, Obj.kind] at ho
  · obtain ⟨hB, T, sz, xs, hg⟩ := hi
    unfold Ctx.own at ho
    rw [frz_kind B h] at ho
    simp [frzB, hg, hB, Obj.kind] at ho
  · rcases frz_M_inv hv with h1 | ⟨h1, id, T, sz, xs, hB, hg, hc, rfl, ho0, ho⟩
    · exact .inl h1
    · refine .inr ⟨.inl ⟨id, ⟨hB, T, sz, xs, hg⟩, hown hg hc, rfl⟩, h1, ?_, fun i hi hoi => ?_⟩
      · obtain ⟨ds, d1, d2, d3, h0, hlen⟩ := hcells hg hc
        have hle : xs.length * sz ≤ (ds.toList.drop (K.off id)).length := by rw [show (ds.toList.drop (K.off id)).length = K.cap id * sz by simp; omega]; exact Nat.mul_le_mul_right _ hlen
        obtain ⟨s1, s2, s3⟩ := d3.sub 0 xs.length (by omega) hle
        rw [Nat.zero_mul, List.drop_zero] at s1 s2
        rw [List.drop_zero, List.take_length] at s1
        refine s1.one s2 h0 v ?_
        rw [cell_of_row w _ o ds T _ d1] at h1
        refine List.mem_of_getElem? (i := o - K.off id) ?_
        rw [List.getElem?_take, if_pos (by omega), List.getElem?_drop, show K.off id + (o - K.off id) = o by omega]; simpa using h1
      · obtain ⟨hB', T', sz', xs', hg'⟩ := hi
        unfold Ctx.own at hoi
        rw [frz_kind B h] at hoi
        simp [frzB, hg', hB', Obj.kind] at hoi

/-- A frozen row is a list. -/
theorem frz_list (h : Rel K get w) {id T s n : Nat} {sz : Nat} {xs : List AV} {c : Value} (hg : get id = .frz T sz xs) (hv : VR K (.row id s n) c) : PR K.M (.lst sz xs) c := by
  have hk : K.kind id = .frz sz xs.length := by rw [h.kinds, hg]; rfl
  have hob := h.obj id
  rw [hg] at hob
  obtain ⟨h0, h1, h2, h3⟩ := hob
  cases hv with
  | pure hv => cases hv
  | row _ _ _ _ hk' hq hp =>
    rw [hk] at hq
    obtain ⟨hq0, ad, rfl, had⟩ := hq.resolve_left (by simp)
    have : s = sz ∧ n = xs.length := by
      rcases hq0 with hq0 | hq0 <;> first | (injection hq0 with e1 e2; exact ⟨e1.symm, e2.symm⟩) | cases hq0
    obtain ⟨rfl, rfl⟩ := this
    refine .lst s xs ad (K.cap id) (K.blk id) (K.off id) (fun i j => (K.M (K.blk id) (K.off id + i * s + j)).getD undef) h0 h1 h2 ?_ (fun i x hx => (h3 i x hx).1) (fun i x j u hx hu => ?_) fun i x j u hx hu => ?_
    · by_cases hx : xs = []
      · exact .inl hx
      · have := List.length_pos_iff.2 hx
        exact .inr (had (by omega))
    · obtain ⟨d, d1, d2⟩ := (h3 i x hx).2 j u hu
      simp [d1]
    · obtain ⟨d, d1, d2⟩ := (h3 i x hx).2 j u hu
      simpa [d1] using d2
theorem frz_list_sub (h : Rel K get w) {id T s off n : Nat} {sz : Nat} {xs : List AV} {c : Value} (hg : get id = .frz T sz xs) (hv : VR K (.rws id s off n) c) : PR K.M (.lst sz ((xs.drop off).take n)) c := by
  have hk : K.kind id = .frz sz xs.length := by rw [h.kinds, hg]; rfl
  have hob := h.obj id
  rw [hg] at hob
  obtain ⟨h0, h1, h2, h3⟩ := hob
  cases hv with
  | pure hv => cases hv
  | rws _ _ _ _ _ hk' hq hp =>
    rw [hk] at hq
    obtain ⟨n', ad, m, hq0, hn, rfl, had⟩ := hq.resolve_left (by simp)
    have : s = sz ∧ n' = xs.length := by
      rcases hq0 with hq0 | hq0 <;> first | (injection hq0 with e1 e2; exact ⟨e1.symm, e2.symm⟩) | cases hq0
    obtain ⟨rfl, rfl⟩ := this
    obtain ⟨ad', m', hc, hm1, hm2, _⟩ := hp
    injection hc with _ _ e3; subst e3
    have hlen : ((xs.drop off).take n).length = n := by rw [List.length_take, List.length_drop]; omega
    have key : ∀ (i : Nat) (x : AV), ((xs.drop off).take n)[i]? = some x → xs[off + i]? = some x := by
      intro i x hx
      rw [List.getElem?_take] at hx
      split at hx
      · rwa [List.getElem?_drop] at hx
      · cases hx
    have := PR.lst (M := K.M) s ((xs.drop off).take n) ad m (K.blk id) (K.off id + off * s) (fun i j => (K.M (K.blk id) (K.off id + (off + i) * s + j)).getD undef) h0 (by rw [hlen]; exact hm1) hm2 ?_ (fun i x hx => (h3 _ x (key i x hx)).1) (fun i x j u hx hu => ?_) fun i x j u hx hu => ?_
    · rwa [hlen] at this
    · by_cases hx : (xs.drop off).take n = []
      · exact .inl hx
      · have := List.length_pos_iff.2 hx
        exact .inr (had (by omega))
    · obtain ⟨d, d1, d2⟩ := (h3 _ x (key i x hx)).2 j u hu
      rw [Nat.add_assoc (K.off id), ← Nat.add_mul, d1]; rfl
    · obtain ⟨d, d1, d2⟩ := (h3 _ x (key i x hx)).2 j u hu
      rw [d1]; exact d2

/-- The same things under other numbers. -/
structure Ren (r : Nat → Option Nat) (getC : Nat → Obj) (K K' : Ctx) : Prop where
  mem : ∀ b o v, K.M b o = some v → K'.M b o = some v
  at_ : ∀ id j, r id = some j → K.kind id ≠ .hole → K'.kind j = K.kind id ∧ K'.blk j = K.blk id ∧ ((∃ sz n, K.kind id = .row sz n ∨ K.kind id = .frz sz n) → K'.cap j = K.cap id ∧ K'.off j = K.off id)
  lst : ∀ id T sz xs, getC id = .frz T sz xs → ∀ c, (∀ s n, VR K (.row id s n) c → PR K'.M (.lst sz xs) c) ∧ (∀ s o n, VR K (.rws id s o n) c → PR K'.M (.lst sz ((xs.drop o).take n)) c)
theorem Ren.ren0 {r : Nat → Option Nat} {getC : Nat → Obj} (hr : Ren r getC K K') {u : AV} {c : Value} (h : VR K u c) : VR K' (ren0 r getC u) c := by
  have h' := h
  cases h with
  | pure h => cases h <;> exact .pure (PR.mono hr.mem (by cases h' with | pure h => exact h))
  | ptr id off c hk h hp =>
    simp only [X.ren0]
    split
    · rename_i j hj
      obtain ⟨k1, k2, _⟩ := hr.at_ id j hj hk
      exact .ptr _ _ _ (by rw [k1]; exact hk) (by rw [k1, k2]; exact h) hp
    · exact .dead _
  | row id sz n c hk h hp =>
    simp only [X.ren0]
    split
    · rename_i j hj
      obtain ⟨k1, k2, k3⟩ := hr.at_ id j hj hk
      refine .row _ _ _ _ (by rw [k1]; exact hk) ?_ hp
      rw [k1, k2]
      rcases h with h | ⟨h1, ad, h2, h3⟩
      · exact .inl h
      · rw [(k3 ⟨sz, n, h1⟩).1, (k3 ⟨sz, n, h1⟩).2]; exact .inr ⟨h1, ad, h2, h3⟩
    · split
      · rename_i T s xs hg; exact .pure ((hr.lst id T s xs hg c).1 sz n h')
      · exact .dead _
  | rws id sz off n c hk h hp =>
    simp only [X.ren0]
    split
    · rename_i j hj
      obtain ⟨k1, k2, k3⟩ := hr.at_ id j hj hk
      refine .rws _ _ _ _ _ (by rw [k1]; exact hk) ?_ hp
      rw [k1, k2]
      rcases h with h | ⟨n', ad, m, h1, h2⟩
      · exact .inl h
      · rw [(k3 ⟨sz, n', h1⟩).2]; exact .inr ⟨n', ad, m, h1, h2⟩
    · split
      · rename_i T s xs hg; exact .pure ((hr.lst id T s xs hg c).2 sz off n h')
      · exact .dead _
  | _ => exact .dead _
theorem Ren.ren0s {r : Nat → Option Nat} {getC : Nat → Obj} (hr : Ren r getC K K') {us : List AV} {ds : List Value} (h : VRs K us ds) : VRs K' (us.map (X.ren0 r getC)) ds := by
  refine ⟨by rw [List.length_map]; exact h.1, fun i u d hu hd => ?_⟩
  rw [List.getElem?_map] at hu
  cases hx : us[i]? with
  | none => rw [hx] at hu; cases hu
  | some x => rw [hx] at hu; injection hu with hu; subst hu; exact hr.ren0 (h.2 i x d hx hd)
theorem Ren.ren {r : Nat → Option Nat} {getC : Nat → Obj} (hr : Ren r getC K K') {u : AV} {c : Value} (h : VR K u c) : VR K' (X.ren r getC u) c := by
  cases hu : u with
  | agg cs => subst hu; obtain ⟨ds, rfl, hd⟩ := h.agg_inv; simpa [X.ren] using VR.mkAgg (hr.ren0s hd)
  | fn f cs => subst hu; obtain ⟨ds, rfl, hd⟩ := h.fn_inv; simpa [X.ren] using VR.mkFn (f := f) (hr.ren0s hd)
  | _ => subst hu; exact hr.ren0 h
theorem Ren.rens {r : Nat → Option Nat} {getC : Nat → Obj} (hr : Ren r getC K K') {us : List AV} {ds : List Value} (h : VRs K us ds) : VRs K' (us.map (X.ren r getC)) ds := by
  refine ⟨by rw [List.length_map]; exact h.1, fun i u d hu hd => ?_⟩
  rw [List.getElem?_map] at hu
  cases hx : us[i]? with
  | none => rw [hx] at hu; cases hu
  | some x => rw [hx] at hu; injection hu with hu; subst hu; exact hr.ren (h.2 i x d hx hd)

theorem getO_eq (l : List Obj) (n : Nat) : getO l n = (l[n]?).getD .hole := by induction l generalizing n with | nil => simp [getO] | cons x xs ih => cases n <;> simp [getO, ih]
theorem idx_some {p : List Nat} {i j : Nat} (h : idx p i = some j) : p[j]? = some i := by
  induction p generalizing j with
  | nil => simp [idx] at h
  | cons x xs ih =>
    simp only [idx] at h
    split at h
    · rename_i hx; cases h; simp [beq_eq' hx]
    · split at h
      · rename_i n hn; cases h; simpa using ih hn
      · cases h
theorem idx_none {p : List Nat} {i : Nat} (h : idx p i = none) : i ∉ p := by
  induction p with
  | nil => simp
  | cons x xs ih =>
    simp only [idx] at h
    split at h
    · cases h
    · rename_i hx
      split at h
      · cases h
      · rename_i hn
        have : x ≠ i := Nat.ne_of_beq_eq_false hx
        simp [Ne.symm this, ih hn]
theorem hasN_iff {l : List Nat} {n : Nat} : hasN l n = true ↔ n ∈ l := by
  induction l with
  | nil => simp [hasN]
  | cons x xs ih =>
    simp only [hasN]
    split
    · rename_i hx; simp [beq_eq' hx]
    · rename_i hx
      have : x ≠ n := Nat.ne_of_beq_eq_false hx
      simp [Ne.symm this, ih]
theorem nodupB_iff {l : List Nat} : nodupB l = true ↔ l.Nodup := by
  induction l with
  | nil => simp [nodupB]
  | cons x xs ih =>
    simp only [nodupB, List.nodup_cons, ← hasN_iff]
    cases hasN xs x <;> simp [ih]
def Ctx.sub (K : Ctx) (p : List Nat) : Ctx :=
  { M := K.M, blk := fun j => K.blk (p.getD j 0), cap := fun j => K.cap (p.getD j 0), off := fun j => K.off (p.getD j 0), kind := fun j => match p[j]? with | some id => K.kind id | none => .hole }
theorem sub_at {p : List Nat} {j id : Nat} (h : p[j]? = some id) : (K.sub p).kind j = K.kind id ∧ (K.sub p).blk j = K.blk id ∧ (K.sub p).cap j = K.cap id ∧ (K.sub p).off j = K.off id := by
  refine ⟨by simp [Ctx.sub, h], by simp [Ctx.sub, List.getD, h], by simp [Ctx.sub, List.getD, h], by simp [Ctx.sub, List.getD, h]⟩
theorem sub_own {p : List Nat} {j : Nat} (h : (K.sub p).own j) : ∃ id, p[j]? = some id ∧ K.own id ∧ (K.sub p).blk j = K.blk id := by
  cases hj : p[j]? with
  | none => unfold Ctx.own at h; simp [Ctx.sub, hj] at h
  | some id =>
    obtain ⟨k1, k2, k3, _⟩ := sub_at (K := K) hj
    refine ⟨id, rfl, ?_, k2⟩
    unfold Ctx.own at h ⊢
    rw [k1, k3] at h
    exact h
theorem renO_kind (r : Nat → Option Nat) (getC : Nat → Obj) (o : Obj) : (renO r getC o).kind = o.kind := by cases o <;> rfl
theorem Rel.ren_sub (h : Rel K get w) (p : List Nat) : Ren (idx p) get K (K.sub p) :=
  ⟨fun _ _ _ h => h, fun id j hj _ => by obtain ⟨k1, k2, k3, k4⟩ := sub_at (K := K) (idx_some hj); exact ⟨k1, k2, fun _ => ⟨k3, k4⟩⟩, fun id T sz xs hg c => ⟨fun s n hv => frz_list h hg hv, fun s o n hv => frz_list_sub h hg hv⟩⟩
theorem Rel.sub (h : Rel K get w) {p : List Nat} (hp : p.Nodup) : Rel (K.sub p) (getO (p.map fun id => renO (idx p) get (get id))) w := by
  have hget : ∀ {j id : Nat}, p[j]? = some id → getO (p.map fun id => renO (idx p) get (get id)) j = renO (idx p) get (get id) := fun hj => by rw [getO_eq, List.getElem?_map, hj]; rfl
  have hnone : ∀ {j : Nat}, p[j]? = none → getO (p.map fun id => renO (idx p) get (get id)) j = .hole := fun hj => by rw [getO_eq, List.getElem?_map, hj]; rfl
  refine ⟨fun j => ?_, h.mem, fun j => ?_, fun i j hi hj hb => ?_, fun j o hj => ?_⟩
  · cases hj : p[j]? with
    | none => rw [hnone hj]; simp [Ctx.sub, hj, Obj.kind]
    | some id => rw [hget hj, (sub_at hj).1, renO_kind]; exact h.kinds id
  · cases hj : p[j]? with
    | none => rw [hnone hj]; trivial
    | some id =>
      obtain ⟨k1, k2, k3, k4⟩ := sub_at (K := K) hj
      rw [hget hj]
      have hob := h.obj id
      cases hg : get id with
      | hole => trivial
      | gone => trivial
      | vars T cs =>
        rw [hg] at hob
        obtain ⟨ds, d1, d2, d3⟩ := hob
        exact ⟨ds, by rw [k2]; exact d1, (h.ren_sub p).ren0s d2, d3⟩
      | row T sz xs =>
        rw [hg] at hob
        obtain ⟨d0, d1, d2, d3⟩ := hob
        exact ⟨d0, by rw [k3]; exact d1, by rw [k3]; exact d2, by rw [k2, k3, k4]; exact d3⟩
      | frz T sz xs =>
        rw [hg] at hob
        obtain ⟨d0, d1, d2, d3⟩ := hob
        exact ⟨d0, by rw [k3]; exact d1, by rw [k3]; exact d2, by rw [k2, k4]; exact d3⟩
  · obtain ⟨x, hx, ox, bx⟩ := sub_own hi
    obtain ⟨y, hy, oy, byy⟩ := sub_own hj
    have := h.inj x y ox oy (by rw [← bx, ← byy]; exact hb)
    subst this
    exact (List.getElem?_inj (List.getElem?_eq_some_iff.1 hx).1 hp).1 (hx.trans hy.symm)
  · obtain ⟨x, hx, ox, bx⟩ := sub_own hj
    rw [bx]; exact h.sep x o ox
end
end Go.Proofs.Ytidgcfgkcidkiaa.X
