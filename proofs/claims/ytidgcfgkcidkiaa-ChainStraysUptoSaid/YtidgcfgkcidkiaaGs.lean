/- A library of no program: what a function does. -/
import Derived.Test.YtidgcfgkcidkiaaGr
namespace Go.Proofs.Ytidgcfgkcidkiaa.X
open Go Go.Proofs.Ytidgcfgkcidkiaa.L Go.RowKit
set_option linter.unusedVariables false
set_option linter.unusedSimpArgs false

def envOf : Nat → List AV → Env
  | _, [] => []
  | i, v :: vs => (i, v) :: envOf (i + 1) vs
def resC (P : Program) (objs : List Obj) (T : TypeId) : Option AV → Option AV
  | some (.ptr id off) => (match getO objs id with | .vars _ cs => partA P T off cs | _ => none)
  | _ => none
def resT (P : Program) (objs : List Obj) (e : Env) : List ResultVar → Option (List AV)
  | [] => some []
  | .tmp t :: r => match look e t with | some v => (match resT P objs e r with | some vs => some (v :: vs) | none => none) | none => none
  | .cell b T :: r => match resC P objs T (look e b) with | some v => (match resT P objs e r with | some vs => some (v :: vs) | none => none) | none => none
def resA (P : Program) (objs : List Obj) (fn : Func) (e : Env) : Option AV :=
  match resT P objs e fn.results.toList with
  | some [v] => some v
  | some vs => some (.tup vs)
  | none => none
/-- The variables stay where they were. -/
def exitB : Nat → List Obj → List Nat → Bool
  | _, [], _ => true
  | i, o :: os, p :: ps => match o, Nat.beq p i with | .vars .., false => false | _, _ => exitB (i + 1) os ps
  | _, _ :: _, [] => false
def renV (r : Nat → Option Nat) (get : Nat → Obj) : AV → AV
  | .tup vs => .tup (vs.map (ren r get))
  | v => ren r get v
/-- A run of a function: its code along a path; at its end some rows are frozen, and what is kept is numbered anew. -/
def runF (P : Program) (fn : Func) (cr : List Nat) (n : Nat) (args : List AV) (objs : List Obj) (g : List Gd) (ids p : List Nat) : Option (AV × List Obj × List Prop) :=
  match fn.body with
  | some c =>
    match Nat.ble args.length fn.ntmps, runC P cr objs.length fn.ntmps n c ⟨envOf 0 args, objs⟩ g with
    | true, some (x, S, ob, []) =>
      match x with
      | .exit _ => none
      | _ =>
        let S' := admS ids S
        match resA P S'.objs fn S'.env, exitB 0 objs p, nodupB p with
        | some v, true, true => some (renV (idx p) (getO S'.objs) v, p.map fun id => renO (idx p) (getO S'.objs) (getO S'.objs id), ob)
        | _, _, _ => none
    | _, _ => none
  | none => none

section
variable {P : Program} {K K' : Ctx} {get : Nat → Obj} {a : Act} {w w' : World}

theorem look_env : ∀ (vs : List AV) (i t : Nat), look (envOf i vs) t = if i ≤ t then vs[t - i]? else none
  | [], i, t => by simp [envOf, look]
  | v :: vs, i, t => by
    simp only [envOf, look]
    split
    · rename_i h; rw [beq_eq' h]; simp
    · rename_i h
      have hne := Nat.ne_of_beq_eq_false h
      rw [look_env vs (i + 1) t]
      by_cases h1 : i ≤ t
      · rw [if_pos (by omega), if_pos h1, show t - i = (t - (i + 1)) + 1 by omega]; rfl
      · rw [if_neg (by omega), if_neg h1]
def resOne (a : Act) : ResultVar → Sem Value
  | .tmp t => pure (a.tmps.getD t undef)
  | .cell b t => do loadVar t (← asAddr (a.tmps.getD b undef))
theorem resC_sound {objs : List Obj} {e : Env} (hS : RelS K (look e) (getO objs) a w) {T : TypeId} {b : Nat} {v : AV} (h : resC P objs T (look e b) = some v) : ∃ c, (resOne a (.cell b T)).run P w = .ok c w ∧ VR K v c := by
  unfold resC at h
  split at h
  · rename_i id off hb
    obtain ⟨c0, t1, t2⟩ := hS.env b _ hb
    split at h
    · rename_i T' cs hg
      have hk : K.kind id = .var := by rw [hS.kind, hg]; rfl
      obtain ⟨ds, h1, h2, h3⟩ := by have := hS.rel.obj id; rw [hg] at this; exact this
      cases t2 with
      | pure h => cases h
      | ptr id off c hk' hc hp' =>
        rw [hk] at hc
        obtain rfl := hc.resolve_left (by simp)
        obtain ⟨r, h4, h5⟩ := load_at (P := P) (w := w) (b := K.blk id) (o := 0) h2 (fun j d hd => by rw [Nat.zero_add]; exact cellOf h1 j (by simpa using hd)) h
        rw [Nat.zero_add] at h4
        refine ⟨r, ?_, h5⟩
        show (do loadVar T (← asAddr (a.tmps.getD b undef)) : Sem Value).run P w = _
        rw [Array.getD_eq_getD_getElem?, t1]
        simpa [Instr.loadAt, Instr.sureAddr, asAddr] using h4
    · cases h
  · cases h
theorem resT_sound {objs : List Obj} {e : Env} (hS : RelS K (look e) (getO objs) a w) : ∀ (rs : List ResultVar) (vs : List AV), resT P objs e rs = some vs → ∃ cs : List Value, VRs K vs cs ∧ rs.length = cs.length ∧ ∀ (i : Nat) r c, rs[i]? = some r → cs[i]? = some c → (resOne a r).run P w = .ok c w
  | [], vs, h => by cases h; exact ⟨[], .nil, rfl, fun i r c hr => by simp at hr⟩
  | .tmp t :: r, vs, h => by
    simp only [resT] at h
    split at h
    · rename_i v hv
      split at h
      · rename_i us hus
        cases h
        obtain ⟨cs, h1, h2, h3⟩ := resT_sound hS r us hus
        obtain ⟨c, c1, c2⟩ := hS.env t v hv
        refine ⟨c :: cs, .cons c2 h1, by simp [h2], fun i x y hx hy => ?_⟩
        cases i with
        | zero =>
          simp at hx hy; subst hx hy
          show (pure (a.tmps.getD t undef) : Sem Value).run P w = _
          rw [Sem.run_pure, Array.getD_eq_getD_getElem?, c1]; rfl
        | succ i => exact h3 i x y (by simpa using hx) (by simpa using hy)
      · cases h
    · cases h
  | .cell b T :: r, vs, h => by
    simp only [resT] at h
    split at h
    · rename_i v hv
      split at h
      · rename_i us hus
        cases h
        obtain ⟨cs, h1, h2, h3⟩ := resT_sound hS r us hus
        obtain ⟨c, c1, c2⟩ := resC_sound hS hv
        refine ⟨c :: cs, .cons c2 h1, by simp [h2], fun i x y hx hy => ?_⟩
        cases i with
        | zero => simp at hx hy; subst hx hy; exact c1
        | succ i => exact h3 i x y (by simpa using hx) (by simpa using hy)
      · cases h
    · cases h
theorem resRun : ∀ (rs : List ResultVar) (cs : List Value), rs.length = cs.length → (∀ (i : Nat) r c, rs[i]? = some r → cs[i]? = some c → (resOne a r).run P w = .ok c w) →
    (rs.mapM (resOne a)).run P w = .ok cs w
  | [], [], _, _ => by simp
  | [], c :: cs, h, _ => by simp at h
  | r :: rs, [], h, _ => by simp at h
  | r :: rs, c :: cs, h, hp => by
    have ht := hp 0 r c rfl rfl
    have ih := resRun rs cs (by simpa using h) fun i r c hr hc => hp (i + 1) r c (by simpa using hr) (by simpa using hc)
    rw [List.mapM_cons, Sem.run_bind, ht, Result.andThen_ok, Sem.run_bind, ih, Result.andThen_ok, Sem.run_pure]
theorem resA_sound {objs : List Obj} {fn : Func} {e : Env} (hS : RelS K (look e) (getO objs) a w) {v : AV} (h : resA P objs fn e = some v) : ∃ c, (results fn a.tmps).run P w = .ok c w ∧ VR K v c := by
  have key : ∀ vs, resT P objs e fn.results.toList = some vs → ∃ cs : List Value, VRs K vs cs ∧ (fn.results.mapM (resOne a)).run P w = .ok cs.toArray w := by
    intro vs hvs
    obtain ⟨cs, h1, h2, h3⟩ := resT_sound hS _ _ hvs
    refine ⟨cs, h1, ?_⟩
    rw [Array.mapM_eq_mapM_toList]
    have := resRun (P := P) (w := w) _ cs h2 h3
    simp only [Sem.run_map, this, Result.andThen_ok]
  unfold resA at h
  split at h
  · rename_i u hu
    cases h
    obtain ⟨cs, h1, h2⟩ := key _ hu
    obtain ⟨c, cs', rfl, h3, h4⟩ := h1.cons_inv
    obtain rfl := h4.nil_inv
    refine ⟨c, ?_, h3⟩
    unfold results
    rw [Sem.run_bind]
    refine Eq.trans (congrArg (fun r => Result.andThen r _) h2) ?_
    simp
  · rename_i vs hne hu
    cases h
    obtain ⟨cs, h1, h2⟩ := key _ hu
    refine ⟨.tuple cs.toArray, ?_, .mkTup h1⟩
    unfold results
    rw [Sem.run_bind]
    refine Eq.trans (congrArg (fun r => Result.andThen r _) h2) ?_
    have : ¬ cs.toArray.size = 1 := by
      intro h9
      have : vs.length = 1 := by rw [h1.1]; simpa using h9
      match vs, this with
      | [u], _ => exact hne u rfl
    simp [this]
    intro h9; exact absurd (by simpa using h9) this
  · cases h
theorem exit_spec : ∀ {i : Nat} {os : List Obj} {p : List Nat}, exitB i os p = true → ∀ (j : Nat) T cs, os[j]? = some (.vars T cs) → p[j]? = some (i + j)
  | i, [], p, _, j, T, cs, hj => by simp at hj
  | i, o :: os, [], h, j, T, cs, hj => by simp [exitB] at h
  | i, o :: os, q :: qs, h, j, T, cs, hj => by
    simp only [exitB] at h
    split at h
    · cases h
    · rename_i hn
      cases j with
      | zero =>
        simp at hj; subst hj
        cases hb : Nat.beq q i with
        | true => simp [beq_eq' hb]
        | false => exact absurd hb (hn T cs rfl)
      | succ j =>
        have := exit_spec h j T cs (by simpa using hj)
        rw [show i + 1 + j = i + (j + 1) by omega] at this
        simpa using this
theorem renV_sound {r : Nat → Option Nat} {getC : Nat → Obj} (hr : Ren r getC K K') {u : AV} {c : Value} (h : VR K u c) : VR K' (renV r getC u) c := by
  cases hu : u with
  | tup vs =>
    subst hu
    obtain ⟨ds, rfl, hd⟩ := h.tup_inv
    have := VR.mkTup (hr.rens hd)
    rw [Array.toArray_toList] at this
    exact this
  | _ => subst hu; exact hr.ren h
/-- What a function does, by a run along a path. -/
theorem acalls (hm : P.follows .mixedOrders = true) {f : FuncId} {fn : Func} (hf : P.funcs[f]? = some fn) (hname : (fn.name == "runtime.NumGoroutine") = false) {args : List AV} {objs : List Obj} (cr : List Nat) (n : Nat) (g : List Gd) (ids p : List Nat) {v : AV} {objs' : List Obj} {ob : List Prop}
    (h : runF P fn cr n args objs g ids p = some (v, objs', ob)) (ho : AllP ob) : ACalls P f args objs v objs' := by
  unfold runF at h
  split at h
  · rename_i c hc
    split at h
    · rename_i x S ob1 hlen hrun
      have fin : (match resA P (admS ids S).objs fn (admS ids S).env, exitB 0 objs p, nodupB p with
          | some v, true, true => some (renV (idx p) (getO (admS ids S).objs) v, p.map fun id => renO (idx p) (getO (admS ids S).objs) (getO (admS ids S).objs id), ob1)
          | _, _, _ => none) = some (v, objs', ob) → (x = .normal ∨ x = .ret) → ACalls P f args objs v objs' := by
        intro h hx
        split at h
        · rename_i u hres hex hnd
          cases h
          refine ⟨⟨fn, hf, by rw [hc]; rfl, hname⟩, fun K w cs hR hA => ?_⟩
          have hlen' : cs.length ≤ fn.ntmps := by have := Nat.le_of_ble_eq_true hlen; rw [← hA.1]; exact this
          refine calls_of_wp hf hc ?_
          have hac := (runC_sound hm _ _ _ _ _ _ _ _ hrun ho).code
          refine hac K _ w _ ⟨hR, fun t u hu => ?_⟩ (by simp; omega) fun K1 a1 w1 h1 h2 h3 h4 => ?_
          · simp only at hu
            rw [look_env, if_pos (Nat.zero_le _), Nat.sub_zero] at hu
            obtain ⟨c', k1, k2⟩ := hA.at_ hu
            refine ⟨c', ?_, k2⟩
            have := (List.getElem?_eq_some_iff.1 k1).1
            rw [Array.getElem?_append_left (by simpa using this)]
            simpa using k1
          · obtain ⟨K2, h5, h6⟩ := adm_sound ids h1
            obtain ⟨c', r1, r2⟩ := resA_sound (P := P) h5 hres
            have hnd' := nodupB_iff.1 hnd
            have hG := h3.trans (h6 objs.length)
            have post : a1.defers = [] ∧ ∃ v', (results fn a1.tmps).run P w1 = .ok v' w1 ∧ ∃ K' c, (Ending.returned v') = .returned c ∧ Rel K' (getO (p.map fun id => renO (idx p) (getO (admS ids S).objs) (getO (admS ids S).objs id))) w1 ∧ VR K' (renV (idx p) (getO (admS ids S).objs) u) c ∧ Grow objs.length K w K' w1 := by
              refine ⟨h4, c', r1, K2.sub p, c', rfl, h5.rel.sub hnd', renV_sound (h5.rel.ren_sub p) r2, fun b o v hv => hG.mem b o v hv, fun b o v hv => hG.new b o v hv, fun id hid hk => ?_, fun b hb => ?_, hG.keeps⟩
              · obtain ⟨k1, k2⟩ := hG.var id hid hk
                have hv : ∃ T cs, objs[id]? = some (.vars T cs) := by
                  rw [hR.kinds, getO_eq] at hk
                  rw [List.getElem?_eq_getElem hid] at hk ⊢
                  simp only [Option.getD_some] at hk
                  cases ho : objs[id] <;> rw [ho] at hk <;> first | exact ⟨_, _, rfl⟩ | cases hk
                obtain ⟨T, cs', hv⟩ := hv
                have := exit_spec hex id T cs' hv
                rw [Nat.zero_add] at this
                obtain ⟨q1, q2, _⟩ := sub_at (K := K2) this
                exact ⟨q1.trans k1, q2.trans k2⟩
              · obtain ⟨j, hj, rfl⟩ := hb
                obtain ⟨id, q1, q2, q3⟩ := sub_own hj
                rw [q3]; exact hG.foot _ ⟨id, q2, rfl⟩
            rcases hx with rfl | rfl <;> exact post
        · cases h
      dsimp only at h
      split at h
      · cases h
      · rename_i hne
        refine fin h ?_
        cases x with
        | normal => exact .inl rfl
        | ret => exact .inr rfl
        | exit id => exact absurd rfl (hne id)
    · cases h
  · cases h
/-- What a loop does, by a run along a path. -/
theorem aloop (hm : P.follows .mixedOrders = true) {m0 nt : Nat} {c : Code} {S S' : St} {x : Ex} (cr : List Nat) (n : Nat) (g : List Gd) {ob : List Prop} (h : runC P cr m0 nt n (.loop c) S g = some (x, S', ob, [])) (ho : AllP ob) : ALoop P m0 nt c S x S' :=
  runC_sound hm _ _ _ _ _ _ _ _ h ho
end
/-- The bodies of a function's loops, by number. -/
def loopsOf : Code → List Code
  | .seq a b => loopsOf a ++ loopsOf b
  | .block _ c => loopsOf c
  | .cond _ a b => loopsOf a ++ loopsOf b
  | .loop c => c :: loopsOf c
  | _ => []
def loopB (f : Func) (n : Nat) : Code := match f.body with | some c => (match nth (loopsOf c) n with | some c => c | none => .skip) | none => .skip
/-- A loop's run; at its end what is kept is numbered anew. -/
def runL (P : Program) (cr : List Nat) (m0 nt n : Nat) (c : Code) (S : St) (g : List Gd) (keep p : List Nat) : Option (Ex × St × List Prop) :=
  match runC P cr m0 nt n (.loop c) S g with
  | some (x, S1, ob, []) => (match startsB 0 m0 p, nodupB p with | true, true => some (x, reS keep p S1, ob) | _, _ => none)
  | _ => none
def finF (P : Program) (fn : Func) (objs : List Obj) (S : St) (ids p : List Nat) : Option (AV × List Obj) :=
  let S' := admS ids S
  match resA P S'.objs fn S'.env, exitB 0 objs p, nodupB p with
  | some v, true, true => some (renV (idx p) (getO S'.objs) v, p.map fun id => renO (idx p) (getO S'.objs) (getO S'.objs id))
  | _, _, _ => none
theorem aloopK {P : Program} (hm : P.follows .mixedOrders = true) {m0 nt : Nat} {c : Code} {S S' S1 : St} {x : Ex} (cr : List Nat) (n : Nat) (g : List Gd) (keep p : List Nat) {ob : List Prop} (h : runL P cr m0 nt n c S g keep p = some (x, S1, ob)) (he : S1 = S') (ho : AllP ob) : ALoop P m0 nt c S x S' := by
  subst he
  unfold runL at h
  split at h
  · rename_i x' S2 ob' hr
    split at h
    · rename_i h1 h2
      cases h
      intro K a w Q hS hsz hQ
      refine aloop hm cr n g hr ho K a w Q hS hsz fun K' a' w' k1 k2 k3 k4 => ?_
      obtain ⟨K1, r1, r2⟩ := re_sound h2 h1 k1 (keep := keep)
      exact hQ K1 a' w' r1 k2 (k3.trans r2) k4
    · cases h
  · cases h
theorem acallsK {P : Program} (hm : P.follows .mixedOrders = true) {f : FuncId} {fn : Func} (hf : P.funcs[f]? = some fn) (hname : (fn.name == "runtime.NumGoroutine") = false) {args : List AV} {objs : List Obj} (cr : List Nat) (n : Nat) (g : List Gd) (ids p : List Nat) {v v1 : AV} {objs' objs1 : List Obj} {ob : List Prop}
    (h : runF P fn cr n args objs g ids p = some (v1, objs1, ob)) (he : v1 = v ∧ objs1 = objs') (ho : AllP ob) : ACalls P f args objs v objs' := by
  obtain ⟨rfl, rfl⟩ := he
  exact acalls hm hf hname cr n g ids p h ho
end Go.Proofs.Ytidgcfgkcidkiaa.X
