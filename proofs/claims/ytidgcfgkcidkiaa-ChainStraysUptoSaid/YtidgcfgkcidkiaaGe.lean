/- A library of no program: the operations that leave memory alone do what they are said to do. -/
import Derived.Test.YtidgcfgkcidkiaaGd
namespace Go.Proofs.Ytidgcfgkcidkiaa.X
open Go Go.Proofs.Ytidgcfgkcidkiaa.L
set_option linter.unusedVariables false
set_option linter.unusedSimpArgs false

section
variable {P : Program} {K : Ctx} {e : Nat → Option AV} {get : Nat → Obj} {a : Act} {w : World}

theorem num_sound {k : IntKind} {raw : Int} {g g' : List Gd} {v : AV} {ob : List Prop} (h : num k raw g = some (v, ob, g')) (ho : AllP ob) : v = .int k raw := by
  unfold num at h
  split at h
  · cases h; rw [ho.1]
  · cases h; rfl
  · cases h
theorem boo_sound {raw : Bool} {g g' : List Gd} {v : AV} {ob : List Prop} (h : boo raw g = some (v, ob, g')) (ho : AllP ob) : v = .bool raw := by
  unfold boo at h
  split at h
  · cases h; rw [ho.1]
  · cases h; rw [ho.1]
  · cases h; rfl
  · cases h
theorem ixA_sound {x : AV} {c : Value} {g g' : List Gd} {i : Nat} {ob : List Prop} (hx : VR K x c) (h : ixA x g = some (i, ob, g')) (ho : AllP ob) : ∃ k, c = .int k (i : Int) := by
  unfold ixA at h
  split at h
  · split at h
    · cases h
      have := hx.int_inv
      rw [ho.1] at this
      exact ⟨_, this⟩
    · cases h
  · cases h
theorem lsA_sound {raw xs : List AV} {g g' : List Gd} {ob : List Prop} (h : lsA raw g = some (xs, ob, g')) (ho : AllP ob) : xs = raw := by
  unfold lsA at h
  split at h
  · cases h; exact ho.1.symm
  · cases h; rfl
  · cases h
theorem elA_sound {xs : List AV} {i : Nat} {x : AV} {g g' : List Gd} {ob : List Prop} (h : elA xs i g = some (x, ob, g')) (ho : AllP ob) : xs[i]? = some x := by
  unfold elA at h
  split at h
  · cases h; exact ho.1
  · cases h
theorem eqKind_eq {a b : IntKind} (h : eqKind a b = true) : a = b := by cases a <;> cases b <;> first | rfl | cases h

/-- The operation yields a value; memory stays. -/
def Yes (P : Program) (K : Ctx) (a : Act) (w : World) (o : Oper) (v : AV) : Prop := ∃ c, (execOp a.eval o).run P w = .ok (.value c) w ∧ VR K v c

theorem binInt_sound {op : BinOp} {k : IntKind} {x y : Int} {g g' : List Gd} {v : AV} {ob : List Prop} (T : TypeId) (h : binInt op k x y g = some (v, ob, g')) (ho : AllP ob) :
    ∃ c, (binOp op T (.int k x) (.int k y)).run P w = .ok c w ∧ VR K v c := by
  cases op <;> simp only [binInt] at h <;> try (cases h; done)
  all_goals first
    | (have := num_sound h ho; subst this; exact ⟨_, by simp [binOp, Op.intArith, Op.intBits], .pure (.int _ _)⟩)
    | (have := boo_sound h ho; subst this; exact ⟨_, by simp [binOp, Op.intCmp], .pure (.bool _)⟩)
    | (split at h
       · rename_i v' o' g'' hn
         cases h
         have := num_sound hn ho.2; subst this
         exact ⟨_, by simp [binOp, Op.intDiv, ho.1], .pure (.int _ _)⟩
       · cases h)
theorem equal_bool {T : TypeId} (hu : P.underlying T = some .bool) (x y : Bool) : (Op.equal T (.bool x) (.bool y)).run P w = .ok (x == y) w := by
  show (Op.equalIn (9999 + 1) T (.bool x) (.bool y)).run P w = _
  unfold Op.equalIn
  rw [Sem.run_bind, run_underlying hu]; rfl
theorem equal_nn {T E : TypeId} (hu : P.underlying T = some (.pointer E)) : (Op.equal T (.pointer none) (.pointer none)).run P w = .ok true w := by
  show (Op.equalIn (9999 + 1) T _ _).run P w = _
  unfold Op.equalIn
  rw [Sem.run_bind, run_underlying hu]; rfl
theorem equal_pn {T E : TypeId} (hu : P.underlying T = some (.pointer E)) (p : Addr) : (Op.equal T (.pointer (some p)) (.pointer none)).run P w = .ok false w := by
  show (Op.equalIn (9999 + 1) T _ _).run P w = _
  unfold Op.equalIn
  rw [Sem.run_bind, run_underlying hu]; rfl
theorem equal_np {T E : TypeId} (hu : P.underlying T = some (.pointer E)) (p : Addr) : (Op.equal T (.pointer none) (.pointer (some p))).run P w = .ok false w := by
  show (Op.equalIn (9999 + 1) T _ _).run P w = _
  unfold Op.equalIn
  rw [Sem.run_bind, run_underlying hu]; rfl
theorem takeN_eq {α : Type} : ∀ (n : Nat) (l r : List α), takeN n l = some r → l.take n = r ∧ r.length = n
  | 0, l, r, h => by cases h; simp
  | n + 1, [], r, h => by cases h
  | n + 1, x :: xs, r, h => by
    simp only [takeN] at h
    split at h
    · rename_i s hs
      cases h
      obtain ⟨h1, h2⟩ := takeN_eq n xs s hs
      simp [h1, h2]
    · cases h
theorem dropN_eq {α : Type} : ∀ (n : Nat) (l : List α), dropN n l = l.drop n
  | 0, l => rfl
  | n + 1, [] => rfl
  | n + 1, x :: xs => by simp [dropN, dropN_eq n xs]
theorem VRs.take_drop {us : List AV} {ds : List Value} (h : VRs K us ds) (n k : Nat) : VRs K ((us.drop n).take k) ((ds.drop n).take k) := by
  refine ⟨by simp [h.1], fun i u d h1 h2 => ?_⟩
  rw [List.getElem?_take] at h1 h2
  split at h1
  · rename_i hi
    rw [if_pos hi] at h2
    rw [List.getElem?_drop] at h1 h2
    exact h.2 _ u d h1 h2
  · cases h1
theorem isAgg_run {T : TypeId} {b : Bool} (h : aggT P T = some b) : (isAgg T).run P w = .ok b w := by
  unfold aggT at h
  split at h
  · rename_i hu; cases h; simp [isAgg, run_underlying hu]
  · rename_i hu; cases h; simp [isAgg, run_underlying hu]
  · rename_i d hn1 hn2 hu
    cases h
    unfold isAgg
    rw [Sem.run_bind, run_underlying hu]
    simp only [Result.andThen_ok]
    cases d <;> first | rfl | exact absurd hu (hn1 _) | exact absurd hu (hn2 _ _)
  · cases h
theorem size_run {T : TypeId} {i : TypeInfo} (h : P.info? T = some i) : (sizeOf T).run P w = .ok (P.cellsOf T) w := by simp [sizeOf, typeInfo, h, Program.cellsOf]
/-- A part of cells is the value of a type there. -/
theorem partA_sound {T : TypeId} {off : Nat} {cs : List AV} {ds : List Value} {v : AV} (h : partA P T off cs = some v) (hd : VRs K cs ds) :
    ∃ c l, VR K v c ∧ (ds.drop off).take (P.cellsOf T) = l ∧ l.length = P.cellsOf T ∧ ((aggT P T = some true ∧ c = .agg l.toArray) ∨ (aggT P T = some false ∧ l = [c])) ∧ (∃ i, P.info? T = some i) := by
  unfold partA at h
  split at h
  · rename_i i l hi hl ht
    cases h
    obtain ⟨h1, h2⟩ := takeN_eq _ _ _ hl
    rw [dropN_eq] at h1
    have := hd.take_drop off (P.cellsOf T)
    rw [h1] at this
    exact ⟨_, _, .mkAgg this, rfl, by rw [← this.1]; exact h2, .inl ⟨ht, rfl⟩, i, hi⟩
  · rename_i i u hi hl ht
    cases h
    obtain ⟨h1, h2⟩ := takeN_eq _ _ _ hl
    rw [dropN_eq] at h1
    have := hd.take_drop off (P.cellsOf T)
    rw [h1] at this
    obtain ⟨c, cs', e, hv, hn⟩ := this.cons_inv
    obtain rfl := hn.nil_inv
    exact ⟨c, _, hv, e, by simpa using h2, .inr ⟨ht, rfl⟩, i, hi⟩
  · cases h
theorem part_run {T : TypeId} {off : Nat} {cs : List AV} {ds : Array Value} {v : AV} (h : partA P T off cs = some v) (hd : VRs K cs ds.toList) :
    ∃ c, (part T ds off).run P w = .ok c w ∧ VR K v c := by
  obtain ⟨c, l, hv, hl, hn, ht, i, hi⟩ := partA_sound h hd
  refine ⟨c, ?_, hv⟩
  unfold part
  rcases ht with ⟨ht, rfl⟩ | ⟨ht, rfl⟩
  · simp only [Sem.run_bind, isAgg_run ht, Result.andThen_ok, size_run hi, if_true, Sem.run_pure]
    congr 2
    apply Array.ext'
    rw [Array.toList_extract, ← hl]
    simp [List.extract_eq_take_drop]
  · simp only [Sem.run_bind, isAgg_run ht, Result.andThen_ok, Bool.false_eq_true, if_false]
    have h0 : ((ds.toList.drop off).take (P.cellsOf T))[0]? = some c := by rw [hl]; rfl
    rw [List.getElem?_take] at h0
    split at h0
    · rw [List.getElem?_drop] at h0
      simp only [Nat.add_zero, Array.getElem?_toList] at h0
      rw [h0]; rfl
    · cases h0
theorem run_all {α : Type} (body : α → Option Bool × Unit → Sem (ForInStep (Option Bool × Unit))) : ∀ (l : List α) (bs : List Bool), l.length = bs.length → (∀ (i : Nat) x b, l[i]? = some x → bs[i]? = some b → (body x (none, ())).run P w = .ok (if b = true then .yield (none, ()) else .done (some false, ())) w) →
    (forIn l (none, ()) body).run P w = .ok (if bs.all (fun b => b) = true then (none, ()) else (some false, ())) w
  | [], [], _, _ => by simp
  | [], b :: bs, h, _ => by simp at h
  | x :: l, [], h, _ => by simp at h
  | x :: l, b :: bs, h, hb => by
    have h0 := hb 0 x b rfl rfl
    have ih := run_all body l bs (by simpa using h) fun i y c hy hc => hb (i + 1) y c (by simpa using hy) (by simpa using hc)
    rw [List.forIn_cons, Sem.run_bind, h0]
    cases b with
    | true => simp only [if_true, Result.andThen_ok, ih, List.all_cons, Bool.true_and]
    | false => simp [List.all_cons]
theorem eqF_spec {rec : TypeId → AV → AV → Option Bool} {pt : TypeId → Nat → Option (AV × AV)} : ∀ {fs : List Field} {r : Bool}, eqF rec pt fs = some r → ∃ bs : List Bool, fs.length = bs.length ∧ r = bs.all (fun b => b) ∧ ∀ (i : Nat) f b, fs[i]? = some f → bs[i]? = some b → eqS f.name "_" = false ∧ ∃ x y, pt f.type f.offset = some (x, y) ∧ rec f.type x y = some b
  | [], r, h => by cases h; exact ⟨[], rfl, rfl, fun i f b hf => by simp at hf⟩
  | f :: fs, r, h => by
    simp only [eqF] at h
    split at h
    · rename_i x y hn hp
      split at h
      · rename_i p q h1 h2
        cases h
        obtain ⟨bs, b1, b2, b3⟩ := eqF_spec h2
        refine ⟨p :: bs, by simp [b1], by simp [b2], fun i g b hg hb => ?_⟩
        cases i with
        | zero => simp at hg hb; subst hg hb; exact ⟨hn, x, y, hp, h1⟩
        | succ i => exact b3 i g b (by simpa using hg) (by simpa using hb)
      · cases h
    · cases h
theorem eqE_spec {rec : TypeId → AV → AV → Option Bool} {pt : TypeId → Nat → Option (AV × AV)} {el n : Nat} : ∀ {k i : Nat} {r : Bool}, eqE rec pt el n i k = some r → ∃ bs : List Bool, k = bs.length ∧ r = bs.all (fun b => b) ∧ ∀ (j : Nat) b, bs[j]? = some b → ∃ x y, pt el ((i + j) * n) = some (x, y) ∧ rec el x y = some b
  | 0, i, r, h => by cases h; exact ⟨[], rfl, rfl, fun j b hb => by simp at hb⟩
  | k + 1, i, r, h => by
    simp only [eqE] at h
    split at h
    · rename_i x y hp
      split at h
      · rename_i p q h1 h2
        cases h
        obtain ⟨bs, b1, b2, b3⟩ := eqE_spec h2
        refine ⟨p :: bs, by simp [b1], by simp [b2], fun j b hb => ?_⟩
        cases j with
        | zero => simp at hb; subst hb; exact ⟨x, y, by simpa using hp, h1⟩
        | succ j =>
          have := b3 j b (by simpa using hb)
          rwa [show i + 1 + j = i + (j + 1) by omega] at this
      · cases h
    · cases h
theorem eqA_sound : ∀ {d : Nat} {T : TypeId} {x y : AV} {r : Bool} {c e : Value} {n : Nat}, eqA P d T x y = some r → VR K x c → VR K y e → d ≤ n → (Op.equalIn n T c e).run P w = .ok r w
  | 0, T, x, y, r, c, e, n, h, _, _, _ => by simp [eqA] at h
  | d + 1, T, x, y, r, c, e, 0, h, _, _, hn => by omega
  | d + 1, T, x, y, r, c, e, n + 1, h, hx, hy, hn => by
    simp only [eqA] at h
    split at h
    · rename_i a b hu
      cases h
      obtain rfl := hx.bool_inv
      obtain rfl := hy.bool_inv
      unfold Op.equalIn
      rw [Sem.run_bind, run_underlying hu]; rfl
    · rename_i k0 k a k' b hu
      split at h
      · rename_i hk
        cases h
        have := eqKind_eq hk; subst this
        obtain rfl := hx.int_inv
        obtain rfl := hy.int_inv
        unfold Op.equalIn
        rw [Sem.run_bind, run_underlying hu]
        simp
      · cases h
    · rename_i fs xs ys hu
      split at h
      · rename_i hst
        obtain ⟨cs, rfl, hcs⟩ := hx.agg_inv
        obtain ⟨es, rfl, hes⟩ := hy.agg_inv
        obtain ⟨bs, b1, b2, b3⟩ := eqF_spec h
        unfold Op.equalIn
        rw [Sem.run_bind, run_underlying hu]
        simp only [Result.andThen_ok, Sem.run_bind, run_program, hst, Bool.false_eq_true, if_false]
        rw [← Array.forIn_toList]
        rw [run_all (P := P) (w := w) _ fs.toList bs b1 fun i f b hf hb => ?_]
        · rw [b2]
          cases bs.all (fun b => b) <;> rfl
        · obtain ⟨hnm, u, v, hp, hr⟩ := b3 i f b hf hb
          have hnm' : f.name ≠ "_" := by simpa [eqS] using hnm
          unfold part2 at hp
          split at hp
          · rename_i u' v' p1 p2
            cases hp
            obtain ⟨c1, q1, q2⟩ := part_run (w := w) p1 hcs
            obtain ⟨c2, q3, q4⟩ := part_run (w := w) p2 hes
            rw [if_pos hnm', Sem.run_bind, q1, Result.andThen_ok, Sem.run_bind, q3, Result.andThen_ok, Sem.run_bind, eqA_sound hr q2 q4 (by omega), Result.andThen_ok]
            cases b <;> rfl
          · cases hp
      · cases h
    · rename_i len el xs ys hu
      split at h
      · rename_i ie hie
        obtain ⟨cs, rfl, hcs⟩ := hx.agg_inv
        obtain ⟨es, rfl, hes⟩ := hy.agg_inv
        obtain ⟨bs, b1, b2, b3⟩ := eqE_spec h
        unfold Op.equalIn
        rw [Sem.run_bind, run_underlying hu]
        simp only [Result.andThen_ok, Sem.run_bind, size_run hie]
        simp only [Std.Legacy.Range.forIn_eq_forIn_range', Std.Legacy.Range.size]
        rw [run_all (P := P) (w := w) _ _ bs (by simp [b1]) fun i k b hk hb => ?_]
        · rw [Result.andThen_ok, b2]
          cases bs.all (fun b => b) <;> rfl
        · have hk' : k = i := by
            have hi : i < len := by rw [b1]; exact (List.getElem?_eq_some_iff.1 hb).1
            rw [List.getElem?_range' (by simpa using hi)] at hk
            injection hk with hk; omega
          subst hk'
          obtain ⟨u, v, hp, hr⟩ := b3 k b hb
          rw [Nat.zero_add] at hp
          unfold part2 at hp
          split at hp
          · rename_i u' v' p1 p2
            cases hp
            obtain ⟨c1, q1, q2⟩ := part_run (w := w) p1 hcs
            obtain ⟨c2, q3, q4⟩ := part_run (w := w) p2 hes
            rw [Sem.run_bind, q1, Result.andThen_ok, Sem.run_bind, q3, Result.andThen_ok, Sem.run_bind, eqA_sound hr q2 q4 (by omega), Result.andThen_ok]
            cases b <;> rfl
          · cases hp
      · cases h
    · cases h
theorem binA_sound {op : BinOp} {T : TypeId} {x y : AV} {c d : Value} {g g' : List Gd} {v : AV} {ob : List Prop} (hx : VR K x c) (hy : VR K y d) (h : binA P op T x y g = some (v, ob, g')) (ho : AllP ob) (X Y : Operand) :
    ∃ r, (do eqGuard op T X Y c d; binOp op T c d : Sem Value).run P w = .ok r w ∧ VR K v r := by
  unfold binA at h
  split at h
  · rename_i k a k' b
    obtain rfl := hx.int_inv
    obtain rfl := hy.int_inv
    have hg : (eqGuard op T X Y (.int k a) (.int k' b)).run P w = .ok () w := by cases op <;> rfl
    simp only [Sem.run_bind, hg, Result.andThen_ok]
    split at h
    · split at h
      · rename_i hn
        cases h
        have := num_sound hn ho.2; subst this
        exact ⟨_, by simp [binOp, Op.shift, Int.not_lt.2 ho.1], .pure (.int _ _)⟩
      · cases h
    · split at h
      · rename_i hn
        cases h
        have := num_sound hn ho.2; subst this
        exact ⟨_, by simp [binOp, Op.shift, Int.not_lt.2 ho.1], .pure (.int _ _)⟩
      · cases h
    · split at h
      · rename_i he
        obtain rfl := eqKind_eq he
        exact binInt_sound T h ho
      · cases h
  · rename_i a b
    obtain rfl := hx.bool_inv
    obtain rfl := hy.bool_inv
    have hg : (eqGuard op T X Y (.bool a) (.bool b)).run P w = .ok () w := by cases op <;> rfl
    simp only [Sem.run_bind, hg, Result.andThen_ok]
    split at h
    · rename_i hu
      have := boo_sound h ho; subst this
      exact ⟨_, by simp [binOp, equal_bool hu], .pure (.bool _)⟩
    · rename_i hu
      have := boo_sound h ho; subst this
      exact ⟨_, by simp [binOp, equal_bool hu], .pure (.bool _)⟩
    · cases h
  · rename_i a b
    obtain rfl := hx.str_inv
    obtain rfl := hy.str_inv
    have hg : (eqGuard op T X Y (.string a) (.string b)).run P w = .ok () w := by cases op <;> rfl
    simp only [Sem.run_bind, hg, Result.andThen_ok]
    split at h
    · have := boo_sound h ho; subst this
      exact ⟨_, by simp [binOp, Op.stringOp], .pure (.bool _)⟩
    · have := boo_sound h ho; subst this
      exact ⟨_, by simp [binOp, Op.stringOp], .pure (.bool _)⟩
    · cases h
  · obtain rfl := hx.nilp_inv
    obtain rfl := hy.nilp_inv
    have hg : (eqGuard op T X Y (.pointer none) (.pointer none)).run P w = .ok () w := by cases op <;> rfl
    simp only [Sem.run_bind, hg, Result.andThen_ok]
    split at h
    · rename_i hu
      cases h
      exact ⟨_, by simp [binOp, equal_nn hu, equal_pn hu, equal_np hu], .pure (.bool _)⟩
    · rename_i hu
      cases h
      exact ⟨_, by simp [binOp, equal_nn hu, equal_pn hu, equal_np hu], .pure (.bool _)⟩
    · cases h
  · rename_i id off
    obtain rfl := hy.nilp_inv
    obtain ⟨p, rfl⟩ : ∃ p, c = .pointer (some p) := by cases hx with | pure h => cases h | ptr id off c hk h hp => exact hp
    have hg : (eqGuard op T X Y (.pointer (some p)) (.pointer none)).run P w = .ok () w := by cases op <;> rfl
    simp only [Sem.run_bind, hg, Result.andThen_ok]
    split at h
    · rename_i hu
      cases h
      exact ⟨_, by simp [binOp, equal_nn hu, equal_pn hu, equal_np hu], .pure (.bool _)⟩
    · rename_i hu
      cases h
      exact ⟨_, by simp [binOp, equal_nn hu, equal_pn hu, equal_np hu], .pure (.bool _)⟩
    · cases h
  · rename_i id off
    obtain rfl := hx.nilp_inv
    obtain ⟨p, rfl⟩ : ∃ p, d = .pointer (some p) := by cases hy with | pure h => cases h | ptr id off c hk h hp => exact hp
    have hg : (eqGuard op T X Y (.pointer none) (.pointer (some p))).run P w = .ok () w := by cases op <;> rfl
    simp only [Sem.run_bind, hg, Result.andThen_ok]
    split at h
    · rename_i hu
      cases h
      exact ⟨_, by simp [binOp, equal_nn hu, equal_pn hu, equal_np hu], .pure (.bool _)⟩
    · rename_i hu
      cases h
      exact ⟨_, by simp [binOp, equal_nn hu, equal_pn hu, equal_np hu], .pure (.bool _)⟩
    · cases h
  · rename_i xs ys
    have hx' := hx
    have hy' := hy
    obtain ⟨cs, rfl, hcs⟩ := hx.agg_inv
    obtain ⟨es, rfl, hes⟩ := hy.agg_inv
    split at h
    · rename_i r hg he
      have := boo_sound h ho; subst this
      have hgr : (eqGuard .eql T X Y (.agg cs) (.agg es)).run P w = .ok () w := by
        simp [eqGuard, hg]
      rw [Sem.run_bind, hgr, Result.andThen_ok]
      have heq := eqA_sound (w := w) (n := 10000) he hx' hy' (by omega)
      refine ⟨.bool r, ?_, .pure (.bool _)⟩
      show (do pure (.bool (← Op.equalIn 10000 T (.agg cs) (.agg es))) : Sem Value).run P w = _
      rw [Sem.run_bind, heq]; rfl
    · rename_i r hg he
      have := boo_sound h ho; subst this
      have hgr : (eqGuard .neq T X Y (.agg cs) (.agg es)).run P w = .ok () w := by
        simp [eqGuard, hg]
      rw [Sem.run_bind, hgr, Result.andThen_ok]
      have heq := eqA_sound (w := w) (n := 10000) he hx' hy' (by omega)
      refine ⟨.bool (!r), ?_, .pure (.bool _)⟩
      show (do pure (.bool (!(← Op.equalIn 10000 T (.agg cs) (.agg es)))) : Sem Value).run P w = _
      rw [Sem.run_bind, heq]; rfl
    · cases h
  · cases h

end
end Go.Proofs.Ytidgcfgkcidkiaa.X
