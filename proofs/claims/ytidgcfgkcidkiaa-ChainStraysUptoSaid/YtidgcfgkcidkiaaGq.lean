/- A library of no program: a region that draws its order. -/
import Derived.Test.YtidgcfgkcidkiaaGp
namespace Go.Proofs.Ytidgcfgkcidkiaa.X
open Go Go.Proofs.Ytidgcfgkcidkiaa.L Go.RowKit
set_option linter.unusedVariables false
set_option linter.unusedSimpArgs false

structure Tr where
  o : Oper
  g : List Gd
  base : Nat
  E : Eff
  ob : List Prop
  g' : List Gd

abbrev SS := (Nat → Option AV) × (Nat → Obj)
def app (s : SS) (t : Tr) : SS := (updE s.1 t.o.dst t.E.v, updG s.2 t.E.wr)
def stL (s : SS) : List Tr → SS
  | [] => s
  | t :: r => stL (app s t) r
def foldX (X : Nat → Bool) : Nat → SS → List Tr → SS
  | _, s, [] => s
  | i, s, t :: r => foldX X (i + 1) (if X i = true then app s t else s) r
def rcOf (ds : List (Option Nat)) (t : Tr) : Rc := ⟨t.o.dst, slotsOf ds t.o, t.E.rd, rangeN t.base t.E.nf ++ t.E.wr.map (·.1)⟩

section
variable {P : Program} {K K' : Ctx} {a : Act} {w w' : World} {nt : Nat} {ds : List (Option Nat)}

theorem trace : ∀ (l : List Oper) (e : Env) (os : List Obj) (g : List Gd) (e' : Env) (os' : List Obj) (rs : List Rc) (ob : List Prop) (g' : List Gd), runOps P nt ds l e os g = some (e', os', rs, ob, g') →
    ∃ T : List Tr, T.map (·.o) = l ∧ rs = T.map (rcOf ds) ∧ (AllP ob → ∀ t ∈ T, AllP t.ob) ∧
      (∀ i t, T[i]? = some t → stepA P ds (stL (look e, getO os) (T.take i)).1 (stL (look e, getO os) (T.take i)).2 t.base t.o t.g = some (t.E, t.ob, t.g') ∧ (∀ j, j < t.E.nf → (stL (look e, getO os) (T.take i)).2 (t.base + j) = .hole) ∧ dstB nt t.o.dst = true) ∧
      (look e', getO os') = stL (look e, getO os) T
  | [], e, os, g, e', os', rs, ob, g', h => by
    cases h
    exact ⟨[], rfl, rfl, fun _ t ht => by simp at ht, fun i t ht => by simp at ht, rfl⟩
  | o :: r, e, os, g, e', os', rs, ob, g', h => by
    simp only [runOps] at h
    split at h
    · rename_i E ob1 g1 hst hd
      split at h
      · rename_i e2 os2 rs2 ob2 g2 hrec
        cases h
        obtain ⟨T, h1, h2, h3, h4, h5⟩ := trace r _ _ _ _ _ _ _ _ hrec
        have hs : (look (putE e o.dst E.v), getO (setsO os E.wr)) = app (look e, getO os) ⟨o, g, os.length, E, ob1, g1⟩ := by
          simp only [app, look_put, getO_sets]
        rw [hs] at h4 h5
        refine ⟨⟨o, g, os.length, E, ob1, g1⟩ :: T, by simp [h1], by simp [h2, rcOf], fun ho t ht => ?_, fun i t ht => ?_, h5⟩
        · rw [AllP.append_iff] at ho
          rcases List.mem_cons.1 ht with rfl | ht
          · exact ho.1
          · exact h3 ho.2 t ht
        · cases i with
          | zero =>
            simp at ht; subst ht
            exact ⟨hst, fun j _ => getO_out os j, hd⟩
          | succ i => exact h4 i t (by simpa using ht)
      · cases h
    · cases h
theorem foldX_take : ∀ (T : List Tr) (i k : Nat) (s : SS), foldX (fun j => decide (j < i + k)) i s T = stL s (T.take k)
  | [], i, k, s => by simp [foldX, stL]
  | t :: r, i, k, s => by
    cases k with
    | zero =>
      simp only [foldX, Nat.add_zero, Nat.lt_irrefl, decide_false, Bool.false_eq_true, if_false, List.take_zero, stL]
      have : foldX (fun j => decide (j < i)) (i + 1) s r = s := by
        have key : ∀ (r : List Tr) (j : Nat), i ≤ j → foldX (fun j => decide (j < i)) j s r = s := by
          intro r
          induction r with
          | nil => intros; rfl
          | cons u us ih =>
            intro j hj
            simp only [foldX]
            rw [if_neg (by simp; omega)]
            exact ih (j + 1) (by omega)
        exact key r (i + 1) (by omega)
      exact this
    | succ k =>
      simp only [foldX, List.take_succ_cons, stL]
      rw [if_pos (by simp)]
      have := foldX_take r (i + 1) k (app s t)
      rw [show i + 1 + k = i + (k + 1) by omega] at this
      exact this
theorem foldX_slot (X Y : Nat → Bool) (t : Nat) : ∀ (T : List Tr) (i : Nat) (s s' : SS), s.1 t = s'.1 t → (∀ k u, T[k]? = some u → u.o.dst = some t → X (i + k) = Y (i + k)) → (foldX X i s T).1 t = (foldX Y i s' T).1 t
  | [], i, s, s', h, _ => h
  | u :: r, i, s, s', h, hw => by
    simp only [foldX]
    refine foldX_slot X Y t r (i + 1) _ _ ?_ fun k v hk hd => by
      have := hw (k + 1) v (by simpa using hk) hd
      rwa [show i + (k + 1) = i + 1 + k by omega] at this
    by_cases hd : u.o.dst = some t
    · have := hw 0 u rfl hd
      simp only [Nat.add_zero] at this
      rw [this]
      split
      · simp [app, updE, hd]
      · exact h
    · have e1 : ∀ s : SS, (app s u).1 t = s.1 t := fun s => by
        simp only [app, updE]
        cases hu : u.o.dst with
        | none => rfl
        | some d => rw [hu] at hd; simp only; rw [if_neg fun h => hd (by rw [h])]
      split <;> split <;> simp [e1, h]
theorem updG_out' {g : Nat → Obj} : ∀ {wr : List (Nat × Obj)} {id : Nat}, id ∉ wr.map (·.1) → updG g wr id = g id
  | [], id, _ => rfl
  | (n, o) :: r, id, h => by
    simp only [List.map_cons, List.mem_cons, not_or] at h
    simp only [updG]
    rw [updG_out' h.2]
    simp [putG, h.1]
theorem updG_at {g g' : Nat → Obj} : ∀ {wr : List (Nat × Obj)} {id : Nat}, g id = g' id → updG g wr id = updG g' wr id
  | [], id, h => h
  | (n, o) :: r, id, h => by
    simp only [updG]
    exact updG_at (by simp only [putG]; split <;> first | rfl | exact h)
theorem foldX_obj (X Y : Nat → Bool) (id : Nat) : ∀ (T : List Tr) (i : Nat) (s s' : SS), s.2 id = s'.2 id → (∀ k u, T[k]? = some u → id ∈ u.E.wr.map (·.1) → X (i + k) = Y (i + k)) → (foldX X i s T).2 id = (foldX Y i s' T).2 id
  | [], i, s, s', h, _ => h
  | u :: r, i, s, s', h, hw => by
    simp only [foldX]
    refine foldX_obj X Y id r (i + 1) _ _ ?_ fun k v hk hd => by
      have := hw (k + 1) v (by simpa using hk) hd
      rwa [show i + (k + 1) = i + 1 + k by omega] at this
    by_cases hd : id ∈ u.E.wr.map (·.1)
    · have := hw 0 u rfl hd
      simp only [Nat.add_zero] at this
      rw [this]
      split
      · exact updG_at h
      · exact h
    · have e1 : ∀ s : SS, (app s u).2 id = s.2 id := fun s => updG_out' hd
      split <;> split <;> simp [e1, h]

theorem meets_iff {a b : List Nat} : meets a b = true ↔ ∃ x, x ∈ a ∧ x ∈ b := by
  induction a with
  | nil => simp [meets]
  | cons x xs ih =>
    simp only [meets]
    split
    · rename_i h; simp only [true_iff]; exact ⟨x, by simp, hasN_iff.1 h⟩
    · rename_i h
      rw [ih]
      have : x ∉ b := fun hx => by rw [hasN_iff.2 hx] at h; cases h
      constructor
      · rintro ⟨y, h1, h2⟩; exact ⟨y, by simp [h1], h2⟩
      · rintro ⟨y, h1, h2⟩
        rcases List.mem_cons.1 h1 with rfl | h1
        · exact absurd h2 this
        · exact ⟨y, h1, h2⟩
theorem okOne_spec {r : Rc} {m : Nat} : ∀ {l : List Rc} {j : Nat}, okOne r m j l = true → ∀ k s, l[k]? = some s → conf s r = true → m.testBit (j + k) = true
  | [], j, _, k, s, hk, _ => by simp at hk
  | x :: xs, j, h, k, s, hk, hc => by
    simp only [okOne] at h
    split at h
    · cases h
    · rename_i hn
      cases k with
      | zero =>
        simp at hk; subst hk
        rw [Nat.add_zero]
        cases hb : m.testBit j with
        | true => rfl
        | false => exact absurd hb (hn hc)
      | succ k =>
        have := okOne_spec h k s (by simpa using hk) hc
        rwa [show j + (k + 1) = j + 1 + k by omega]
theorem okAll_spec : ∀ {rs ahead : List Rc} {ms : List Nat}, okAll ahead rs ms = true → ∀ k r, rs[k]? = some r → ∃ m, ms[k]? = some m ∧ ∀ j s, (ahead ++ rs)[j]? = some s → j < ahead.length + k → conf s r = true → m.testBit j = true
  | [], ahead, ms, _, k, r, hk => by simp at hk
  | x :: xs, ahead, [], h, k, r, hk => by simp [okAll] at h
  | x :: xs, ahead, m :: ms, h, k, r, hk => by
    simp only [okAll] at h
    split at h
    · rename_i h1
      cases k with
      | zero =>
        simp at hk; subst hk
        refine ⟨m, rfl, fun j s hj hlt hc => ?_⟩
        rw [List.getElem?_append_left (by omega)] at hj
        have := okOne_spec h1 j s hj hc
        rwa [Nat.zero_add] at this
      | succ k =>
        obtain ⟨m', h2, h3⟩ := okAll_spec h k r (by simpa using hk)
        refine ⟨m', by simpa using h2, fun j s hj hlt hc => h3 j s (by simpa using hj) (by simp; omega) hc⟩
    · cases h
theorem maskOf_spec {acc : List Nat} : ∀ {es : List Edge} {j : Nat}, (maskOf acc es).testBit j = true → ∃ e ∈ es, bindsB e = true ∧ (e.on = j ∨ ∃ m, acc[e.on]? = some m ∧ m.testBit j = true)
  | [], j, h => by simp [maskOf] at h
  | e :: es, j, h => by
    simp only [maskOf] at h
    split at h
    · rename_i m hb hm
      rw [Nat.testBit_or, Nat.testBit_or, Bool.or_eq_true, Bool.or_eq_true] at h
      rw [nth_eq] at hm
      rcases h with (h | h) | h
      · rw [Nat.testBit_two_pow] at h
        exact ⟨e, by simp, hb, .inl (by simpa using h)⟩
      · exact ⟨e, by simp, hb, .inr ⟨m, hm, h⟩⟩
      · obtain ⟨e', h1, h2⟩ := maskOf_spec h
        exact ⟨e', by simp [h1], h2⟩
    · obtain ⟨e', h1, h2⟩ := maskOf_spec h
      exact ⟨e', by simp [h1], h2⟩
theorem masks_prefix : ∀ {ops : List Oper} {acc : List Nat} {i : Nat} {m : Nat}, acc[i]? = some m → (masks acc ops)[i]? = some m
  | [], acc, i, m, h => h
  | o :: os, acc, i, m, h => masks_prefix (ops := os) (by rw [List.getElem?_append_left (List.getElem?_eq_some_iff.1 h).1]; exact h)
theorem masks_spec : ∀ {ops : List Oper} {acc : List Nat} {k : Nat} {o : Oper} {m : Nat}, ops[k]? = some o → (masks acc ops)[acc.length + k]? = some m → ∀ j, m.testBit j = true → ∃ e ∈ o.after.toList, bindsB e = true ∧ (e.on = j ∨ ∃ m', (masks acc ops)[e.on]? = some m' ∧ m'.testBit j = true)
  | [], acc, k, o, m, hk, _, j, _ => by simp at hk
  | x :: xs, acc, k, o, m, hk, hm, j, hj => by
    cases k with
    | zero =>
      simp at hk; subst hk
      have h1 : (masks (acc ++ [maskOf acc x.after.toList]) xs)[acc.length]? = some (maskOf acc x.after.toList) := masks_prefix (by rw [List.getElem?_append_right (by omega)]; simp)
      simp only [masks, Nat.add_zero] at hm
      rw [h1] at hm; injection hm with hm; subst hm
      obtain ⟨e, h2, h3, h4⟩ := maskOf_spec hj
      refine ⟨e, h2, h3, h4.imp id ?_⟩
      rintro ⟨m', h5, h6⟩
      exact ⟨m', masks_prefix (ops := x :: xs) h5, h6⟩
    | succ k =>
      simp only [masks] at hm ⊢
      exact masks_spec (ops := xs) (acc := acc ++ [maskOf acc x.after.toList]) (by simpa using hk) (by rw [← hm]; congr 1; simp; omega) j hj
theorem edges_spec : ∀ {ops : List Oper} {i : Nat}, edgesAll i ops = true → ∀ k o, ops[k]? = some o → ∀ e ∈ o.after.toList, bindsB e = true → e.on < i + k
  | [], i, _, k, o, hk => by simp at hk
  | x :: xs, i, h, k, o, hk => by
    simp only [edgesAll] at h
    split at h
    · rename_i h1
      cases k with
      | zero =>
        simp at hk; subst hk
        have key : ∀ (es : List Edge), edgesB i es = true → ∀ e ∈ es, bindsB e = true → e.on < i := by
          intro es
          induction es with
          | nil => intro _ e he; simp at he
          | cons y ys ih =>
            intro h2 e he hb
            simp only [edgesB] at h2
            split at h2
            · cases h2
            · rename_i hn
              rcases List.mem_cons.1 he with rfl | he
              · cases hq : Nat.blt e.on i with
                | true => exact Nat.le_of_ble_eq_true hq
                | false => exact absurd hq (hn hb)
              · exact ih h2 e he hb
        exact fun e he hb => key _ h1 e he hb
      | succ k =>
        intro e he hb
        have := edges_spec h k o (by simpa using hk) e he hb
        omega
    · cases h

/-- How many are still to come. -/
def cnt (X : Nat → Bool) : Nat → Nat
  | 0 => 0
  | n + 1 => cnt X n + if X n = true then 0 else 1
theorem cnt_set {X Y : Nat → Bool} {i : Nat} (h : ∀ j, j ≠ i → Y j = X j) (hx : X i = false) (hy : Y i = true) : ∀ n, cnt Y n + (if i < n then 1 else 0) = cnt X n
  | 0 => by simp [cnt]
  | n + 1 => by
    have ih := cnt_set h hx hy n
    simp only [cnt]
    by_cases hi : i = n
    · subst hi
      simp only [Nat.lt_irrefl, if_false] at ih
      simp only [hx, hy, Nat.lt_succ_self, if_true, Bool.false_eq_true, if_false]
      omega
    · rw [h n (Ne.symm hi)]
      have e : (i < n + 1) ↔ (i < n) := by omega
      simp only [e]
      omega
theorem cnt_zero {X : Nat → Bool} : ∀ {n : Nat}, cnt X n = 0 → ∀ i, i < n → X i = true
  | 0, _, i, hi => by omega
  | n + 1, h, i, hi => by
    simp only [cnt] at h
    by_cases h2 : i = n
    · subst h2
      cases hx : X i with
      | true => rfl
      | false => rw [hx] at h; simp at h
    · exact cnt_zero (X := X) (n := n) (by omega) i (by omega)
theorem cnt_start (n : Nat) : cnt (fun _ => false) n = n := by induction n with | zero => rfl | succ n ih => simp [cnt, ih]

/-- A region whose order is drawn. -/
theorem draw_sound {ops : Array Oper} {Q : Exit → Act → World → Prop} {en en' : Env} {os os' : List Obj} {g g' : List Gd} {rs : List Rc} {ob : List Prop} (h : runOps P nt (ops.toList.map (·.dst)) ops.toList en os g = some (en', os', rs, ob, g')) (ho : AllP ob) (hE : edgesAll 0 ops.toList = true) (hok : okAll [] rs (masks [] ops.toList) = true)
    (K0 : Ctx) (a0 : Act) (w0 : World) (hQ : ∀ K' a' w', RelS K' (look en') (getO os') a' w' → a'.tmps.size = nt → (∀ m, Grow m K0 w0 K' w') → a'.defers = a0.defers → Q .normal a' w')
    (hS : RelS K0 (look en) (getO os) a0 w0) (hsz : a0.tmps.size = nt) : wpAny P .any ops Q ops.size (Array.replicate ops.size false) a0 w0 := by
  obtain ⟨T, hT1, hT2, hT3, hT4, hT5⟩ := trace _ _ _ _ _ _ _ _ _ h
  have hTo := hT3 ho
  generalize hds : ops.toList.map (·.dst) = ds at hT2 hT4
  have hlen : T.length = ops.size := by have := congrArg List.length hT1; simpa using this
  have hop : ∀ (i : Nat) (t : Tr), T[i]? = some t → ops[i]? = some t.o := fun i t ht => by
    have : (T.map (·.o))[i]? = some t.o := by rw [List.getElem?_map, ht]; rfl
    rw [hT1] at this; simpa using this
  let s0 : SS := (look en, getO os)
  have key : ∀ (fuel : Nat) (listed : Array Bool) (K : Ctx) (a : Act) (w : World), listed.size = ops.size → cnt (fun i => listed.getD i false) ops.size = fuel →
      (∀ k, listed.getD k false = true → ∀ m j, (masks [] ops.toList)[k]? = some m → m.testBit j = true → listed.getD j false = true) →
      RelS K (foldX (fun i => listed.getD i false) 0 s0 T).1 (foldX (fun i => listed.getD i false) 0 s0 T).2 a w → a.tmps.size = nt → (∀ m, Grow m K0 w0 K w) → a.defers = a0.defers → wpAny P .any ops Q fuel listed a w := by
    intro fuel
    induction fuel with
    | zero =>
      intro listed K a w hls hcnt hcl hS hsz hG hd
      have hall := cnt_zero hcnt
      refine ⟨?_, ?_⟩
      · cases hr : Region.ready .any ops listed with
        | nil => rfl
        | cons i r =>
          have := mem_ready.1 (show i ∈ Region.ready .any ops listed by rw [hr]; simp)
          obtain ⟨h1, o, h2, _⟩ := this
          have hi := (Array.getElem?_eq_some_iff.1 h2).1
          have h3 := hall i hi
          rw [Array.getD_eq_getD_getElem?, Array.getElem?_eq_getElem (by omega)] at h1 h3
          simp at h1 h3
          rw [h1] at h3; cases h3
      · refine hQ K a w ?_ hsz hG hd
        have e : foldX (fun i => listed.getD i false) 0 s0 T = stL s0 T := by
          have := foldX_take T 0 T.length s0
          rw [List.take_length, Nat.zero_add] at this
          rw [← this]
          refine Prod.ext (funext fun t => ?_) (funext fun id => ?_)
          · exact foldX_slot _ _ t T 0 s0 s0 rfl fun k u hk _ => by
              have hk' := (List.getElem?_eq_some_iff.1 hk).1
              simp only [Nat.zero_add]
              rw [hall k (by omega)]; simp [hk']
          · exact foldX_obj _ _ id T 0 s0 s0 rfl fun k u hk _ => by
              have hk' := (List.getElem?_eq_some_iff.1 hk).1
              simp only [Nat.zero_add]
              rw [hall k (by omega)]; simp [hk']
        rw [e, ← hT5] at hS
        exact hS
    | succ fuel ih =>
      intro listed K a w hls hcnt hcl hS hsz hG hd
      have hmin : ∀ k, k < ops.size → (∀ j, j < k → listed.getD j false = true) → listed.getD k false = false → k ∈ Region.ready .any ops listed := by
        intro k hk hj hf
        refine mem_ready.2 ⟨?_, ops[k], Array.getElem?_eq_getElem hk, fun e he hb => ?_⟩
        · rw [Array.getD_eq_getD_getElem?, Array.getElem?_eq_getElem (by omega)] at hf ⊢
          simpa using hf
        · have := edges_spec hE k ops[k] (by simp [hk]) e (by simpa using he) hb
          exact hj e.on (by omega)
      refine ⟨fun hr => ?_, fun i hi => ?_⟩
      · exfalso
        have hall : ∀ k, k < ops.size → listed.getD k false = true := by
          intro k
          induction k using Nat.strongRecOn with
          | _ k ihk =>
            intro hk
            cases hq : listed.getD k false with
            | true => rfl
            | false =>
              have := hmin k hk (fun j hj => ihk j hj (by omega)) hq
              rw [hr] at this; cases this
        have : ∀ n, n ≤ ops.size → cnt (fun i => listed.getD i false) n = 0 := by
          intro n
          induction n with
          | zero => intro _; rfl
          | succ n ihn => intro hn; simp only [cnt, ihn (by omega), hall n (by omega), if_true]
        rw [this _ (Nat.le_refl _)] at hcnt; omega
      · obtain ⟨h1, o, h2, h3⟩ := mem_ready.1 hi
        have hin := (Array.getElem?_eq_some_iff.1 h2).1
        have hXi : listed.getD i false = false := by
          rw [Array.getD_eq_getD_getElem?, Array.getElem?_eq_getElem (by omega)] at h1 ⊢
          simpa using h1
        obtain ⟨t, ht⟩ : ∃ t, T[i]? = some t := ⟨T[i]'(by omega), List.getElem?_eq_getElem (by omega)⟩
        have hto : t.o = o := by have := hop i t ht; rw [h2] at this; injection this with this; exact this.symm
        subst hto
        obtain ⟨hst, hhole, hdst⟩ := hT4 i t ht
        have hrs : rs[i]? = some (rcOf ds t) := by rw [hT2, List.getElem?_map, ht]; rfl
        obtain ⟨mi, hmi, hbit⟩ := okAll_spec hok i _ hrs
        have hbits : ∀ j, mi.testBit j = true → listed.getD j false = true := by
          intro j hj
          obtain ⟨e, e1, e2, e3⟩ := masks_spec (acc := []) (ops := ops.toList) (k := i) (o := t.o) (by simpa using h2) (by simpa using hmi) j hj
          have hon := h3 e (by simpa using e1) e2
          rcases e3 with rfl | ⟨m', e4, e5⟩
          · exact hon
          · exact hcl _ hon m' j e4 e5
        -- whoever is in the way has come just if it stands ahead in the text
        have way : ∀ k u, T[k]? = some u → (conf (rcOf ds u) (rcOf ds t) = true ∧ conf (rcOf ds t) (rcOf ds u) = true) → listed.getD k false = decide (k < i) := by
          intro k u hk ⟨hc1, hc2⟩
          have hrk : rs[k]? = some (rcOf ds u) := by rw [hT2, List.getElem?_map, hk]; rfl
          rcases Nat.lt_trichotomy k i with hlt | rfl | hgt
          · rw [hbits k (hbit k _ (by simpa using hrk) (by simpa using hlt) hc1)]; simp [hlt]
          · rw [hXi]; simp
          · obtain ⟨mk, hmk, hbk⟩ := okAll_spec hok k _ hrk
            have hb := hbk i _ (by simpa using hrs) (by simpa using hgt) hc2
            cases hq : listed.getD k false with
            | false => simp; omega
            | true => exact absurd (hcl k hq mk i hmk hb) (by rw [hXi]; simp)
        have slot : ∀ x, (x ∈ slotsOf ds t.o ∨ t.o.dst = some x) → ∀ k u, T[k]? = some u → u.o.dst = some x → listed.getD k false = decide (k < i) := by
          intro x hx k u hk hu
          refine way k u hk ⟨?_, ?_⟩
          · unfold conf
            rcases hx with hx | hx
            · have : hasO (rcOf ds t).ss (rcOf ds u).dst = true := by simp only [rcOf, hu, hasO]; exact hasN_iff.2 hx
              simp [this]
            · have : eqO (rcOf ds u).dst (rcOf ds t).dst = true := by simp [rcOf, hu, hx, eqO]
              simp [this]
          · unfold conf
            rcases hx with hx | hx
            · have : hasO (rcOf ds t).ss (rcOf ds u).dst = true := by simp only [rcOf, hu, hasO]; exact hasN_iff.2 hx
              simp [this]
            · have : eqO (rcOf ds t).dst (rcOf ds u).dst = true := by simp [rcOf, hu, hx, eqO]
              simp [this]
        have obj : ∀ x, (x ∈ (rcOf ds t).rd ∨ x ∈ (rcOf ds t).ws) → ∀ k u, T[k]? = some u → x ∈ u.E.wr.map (·.1) → listed.getD k false = decide (k < i) := by
          intro x hx k u hk hu
          have hu' : x ∈ (rcOf ds u).ws := by simp only [rcOf, List.mem_append]; exact .inr hu
          refine way k u hk ⟨?_, ?_⟩
          · unfold conf
            have : meets (rcOf ds u).ws ((rcOf ds t).rd ++ (rcOf ds t).ws) = true := meets_iff.2 ⟨x, hu', List.mem_append.2 hx⟩
            simp [this]
          · unfold conf
            rcases hx with hx | hx
            · have : meets (rcOf ds u).ws (rcOf ds t).rd = true := meets_iff.2 ⟨x, hu', hx⟩
              simp [this]
            · have : meets (rcOf ds t).ws ((rcOf ds u).rd ++ (rcOf ds u).ws) = true := meets_iff.2 ⟨x, hx, List.mem_append.2 (.inr hu')⟩
              simp [this]
        have canon : foldX (fun j => decide (j < i)) 0 s0 T = stL s0 (T.take i) := by
          have := foldX_take T 0 i s0
          rwa [Nat.zero_add] at this
        have eS : ∀ x, (x ∈ slotsOf ds t.o ∨ t.o.dst = some x) → (stL s0 (T.take i)).1 x = (foldX (fun i => listed.getD i false) 0 s0 T).1 x := by
          intro x hx
          rw [← canon]
          exact foldX_slot _ _ x T 0 s0 s0 rfl fun k u hk hu => by rw [Nat.zero_add]; exact (slot x hx k u hk hu).symm
        have eO : ∀ x, (x ∈ (rcOf ds t).rd ∨ x ∈ (rcOf ds t).ws) → (stL s0 (T.take i)).2 x = (foldX (fun i => listed.getD i false) 0 s0 T).2 x := by
          intro x hx
          rw [← canon]
          exact foldX_obj _ _ x T 0 s0 s0 rfl fun k u hk hu => by rw [Nat.zero_add]; exact (obj x hx k u hk hu).symm
        have hstX := stepA_congr hst (fun x hx => eS x (.inl hx)) fun id hid => eO id (.inl hid)
        have memR : ∀ (b n j : Nat), j < n → b + j ∈ rangeN b n := by
          intro b n
          induction n generalizing b with
          | zero => intro j hj; omega
          | succ n ihn =>
            intro j hj
            simp only [rangeN, List.mem_cons]
            cases j with
            | zero => exact .inl rfl
            | succ j => exact .inr (by have := ihn (b + 1) j (by omega); rwa [show b + 1 + j = b + (j + 1) by omega] at this)
        refine stepA_sound hS h2 (by rw [hds]; exact hstX) (hTo t (List.mem_of_getElem? ht)) (fun j hj => ?_) fun K' w' c q1 q2 q3 q4 => ?_
        · rw [← eO (t.base + j) (.inr (by simp only [rcOf, List.mem_append]; exact .inl (memR _ _ _ hj)))]
          exact hhole j hj
        · obtain ⟨n1, n2, n3⟩ := hS.next (d := t.o.dst) hsz hdst q1 q2 q4
          have hset : ∀ j, (listed.setIfInBounds i true).getD j false = if j = i then true else listed.getD j false := by
            intro j
            rw [Array.getD_eq_getD_getElem?, Array.getD_eq_getD_getElem?, Array.getElem?_setIfInBounds]
            by_cases hji : i = j
            · subst hji; simp [show i < listed.size by omega]
            · simp [hji, Ne.symm hji]
          refine ih (listed.setIfInBounds i true) K' _ w' (by simpa using hls) ?_ ?_ ?_ n2 (fun m => (hG m).trans (q3 m)) (n3.trans hd)
          · have := cnt_set (X := fun j => listed.getD j false) (Y := fun j => (listed.setIfInBounds i true).getD j false) (i := i) (fun j hj => by rw [hset, if_neg hj]) hXi (by rw [hset, if_pos rfl]) ops.size
            rw [if_pos hin] at this
            omega
          · intro k hk m j hm hj
            rw [hset] at hk ⊢
            by_cases hki : k = i
            · subst hki
              rw [hmi] at hm; injection hm with hm; subst hm
              split
              · rfl
              · exact hbits j hj
            · rw [if_neg hki] at hk
              split
              · rfl
              · exact hcl k hk m j hm hj
          · have e : foldX (fun j => (listed.setIfInBounds i true).getD j false) 0 s0 T = app (foldX (fun i => listed.getD i false) 0 s0 T) t := by
              have canon1 : foldX (fun j => decide (j < i + 1)) 0 s0 T = app (stL s0 (T.take i)) t := by
                have := foldX_take T 0 (i + 1) s0
                rw [Nat.zero_add] at this
                rw [this, List.take_add_one, ht]
                have key : ∀ (l : List Tr) (s : SS), stL s (l ++ (some t).toList) = app (stL s l) t := by
                  intro l
                  induction l with
                  | nil => intro s; rfl
                  | cons u us ihl => intro s; exact ihl _
                exact key _ _
              refine Prod.ext (funext fun x => ?_) (funext fun x => ?_)
              · by_cases hx : t.o.dst = some x
                · have e1 : (foldX (fun j => (listed.setIfInBounds i true).getD j false) 0 s0 T).1 x = (foldX (fun j => decide (j < i + 1)) 0 s0 T).1 x :=
                    foldX_slot _ _ x T 0 s0 s0 rfl fun k u hk hu => by
                      simp only [Nat.zero_add]
                      rw [hset]
                      by_cases hki : k = i
                      · subst hki; simp
                      · rw [if_neg hki, slot x (.inr hx) k u hk hu]
                        by_cases h9 : k < i
                        · simp [h9, show k < i + 1 by omega]
                        · simp [h9, show ¬ k < i + 1 by omega]
                  rw [e1, canon1]
                  simp [app, updE, hx]
                · have e1 : (foldX (fun j => (listed.setIfInBounds i true).getD j false) 0 s0 T).1 x = (foldX (fun i => listed.getD i false) 0 s0 T).1 x :=
                    foldX_slot _ _ x T 0 s0 s0 rfl fun k u hk hu => by
                      simp only [Nat.zero_add]
                      rw [hset]
                      by_cases hki : k = i
                      · subst hki
                        rw [ht] at hk; injection hk with hk; subst hk
                        exact absurd hu hx
                      · rw [if_neg hki]
                  rw [e1]
                  simp only [app, updE]
                  cases hd : t.o.dst with
                  | none => rfl
                  | some d => rw [hd] at hx; simp only; rw [if_neg fun h => hx (by rw [h])]
              · by_cases hx : x ∈ t.E.wr.map (·.1)
                · have hxw : x ∈ (rcOf ds t).ws := by simp only [rcOf, List.mem_append]; exact .inr hx
                  have e1 : (foldX (fun j => (listed.setIfInBounds i true).getD j false) 0 s0 T).2 x = (foldX (fun j => decide (j < i + 1)) 0 s0 T).2 x :=
                    foldX_obj _ _ x T 0 s0 s0 rfl fun k u hk hu => by
                      simp only [Nat.zero_add]
                      rw [hset]
                      by_cases hki : k = i
                      · subst hki; simp
                      · rw [if_neg hki, obj x (.inr hxw) k u hk hu]
                        by_cases h9 : k < i
                        · simp [h9, show k < i + 1 by omega]
                        · simp [h9, show ¬ k < i + 1 by omega]
                  rw [e1, canon1]
                  exact updG_at (eO x (.inr hxw))
                · have e1 : (foldX (fun j => (listed.setIfInBounds i true).getD j false) 0 s0 T).2 x = (foldX (fun i => listed.getD i false) 0 s0 T).2 x :=
                    foldX_obj _ _ x T 0 s0 s0 rfl fun k u hk hu => by
                      simp only [Nat.zero_add]
                      rw [hset]
                      by_cases hki : k = i
                      · subst hki
                        rw [ht] at hk; injection hk with hk; subst hk
                        exact absurd hu hx
                      · rw [if_neg hki]
                  rw [e1]
                  exact (updG_out' hx).symm
            rw [e]; exact n1
  refine key ops.size _ K0 a0 w0 (by simp) ?_ (fun k hk => ?_) ?_ hsz (fun m => Grow.refl m K0 w0) rfl
  · have e : (fun i => (Array.replicate ops.size false).getD i false) = fun _ => false := by
      funext i
      rw [Array.getD_eq_getD_getElem?, Array.getElem?_replicate]
      split <;> rfl
    rw [e]; exact cnt_start _
  · rw [Array.getD_eq_getD_getElem?, Array.getElem?_replicate] at hk
    split at hk <;> cases hk
  · have e : foldX (fun i => (Array.replicate ops.size false).getD i false) 0 s0 T = s0 := by
      have := foldX_take T 0 0 s0
      simp only [Nat.zero_add, List.take_zero, stL] at this
      rw [← this]
      congr 1
      funext i
      rw [Array.getD_eq_getD_getElem?, Array.getElem?_replicate]
      split <;> simp
    rw [e]; exact hS
end
end Go.Proofs.Ytidgcfgkcidkiaa.X
