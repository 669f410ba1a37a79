/- A library of no program: slices of slices, lengths; all operations that leave memory alone. -/
import Derived.Test.YtidgcfgkcidkiaaGf
namespace Go.Proofs.Ytidgcfgkcidkiaa.X
open Go Go.Proofs.Ytidgcfgkcidkiaa.L
set_option linter.unusedVariables false
set_option linter.unusedSimpArgs false

section
variable {P : Program} {K : Ctx} {e : Nat → Option AV} {get : Nat → Obj} {a : Act} {w : World}

theorem bound_run {x : Value} {k : IntKind} {i y : Nat} (hx : x = .int k (i : Int)) (h : i ≤ y) (code : BoundsCode) : (Instr.sliceBound x y code).run P w = .ok i w := by
  subst hx
  have h1 : (i : Int) ≤ (y : Int) := by omega
  simp [Instr.sliceBound, asIntOf, h]
theorem boundA_sound (hS : RelS K e get a w) {d i : Nat} {x : Option Operand} {g g' : List Gd} {ob : List Prop} (h : boundA e d x g = some (i, ob, g')) (ho : AllP ob) :
    (x = none ∧ i = d) ∨ ∃ o k, x = some o ∧ a.eval o = .int k (i : Int) := by
  unfold boundA at h
  split at h
  · cases h; exact .inl ⟨rfl, rfl⟩
  · split at h
    · rename_i v hv
      obtain ⟨k, hk⟩ := ixA_sound (opv_sound hS hv) h ho
      exact .inr ⟨_, k, rfl, hk⟩
    · cases h
/-- The bounds of a slice of a slice. -/
theorem bounds_run (hS : RelS K e get a w) {n l h cap : Nat} {lo hi : Option Operand} {g1 g2 g3 g4 : List Gd} {o1 o2 : List Prop} (hh : boundA e n hi g1 = some (h, o1, g2)) (hl : boundA e 0 lo g3 = some (l, o2, g4)) (ho1 : AllP o1) (ho2 : AllP o2) (h1 : l ≤ h) (h2 : h ≤ n) (h3 : n ≤ cap) :
    (Instr.sliceBounds true n cap (lo.map a.eval) (hi.map a.eval) none).run P w = .ok (l, h, cap) w := by
  have hb := boundA_sound hS hh ho1
  have lb := boundA_sound hS hl ho2
  unfold Instr.sliceBounds
  rcases hb with ⟨rfl, rfl⟩ | ⟨oh, kh, rfl, eh⟩ <;> rcases lb with ⟨rfl, rfl⟩ | ⟨ol, kl, rfl, el⟩
  · simp
  · simp [bound_run (P := P) (w := w) el h1]
  · simp [bound_run (P := P) (w := w) eh (Nat.le_trans h2 h3)]
  · simp [bound_run (P := P) (w := w) eh (Nat.le_trans h2 h3), bound_run (P := P) (w := w) el h1]
theorem slice_run (hS : RelS K e get a w) {T el : TypeId} {i : TypeInfo} (hu : P.underlying T = some (.slice el)) (hi : P.info? el = some i) {ad : Option Addr} {n l h cap : Nat} {lo hi' : Option Operand} {g1 g2 g3 g4 : List Gd} {o1 o2 : List Prop} (hh : boundA e n hi' g1 = some (h, o1, g2)) (hl : boundA e 0 lo g3 = some (l, o2, g4)) (ho1 : AllP o1) (ho2 : AllP o2) (h1 : l ≤ h) (h2 : h ≤ n) (h3 : n ≤ cap) :
    (Instr.sliceAt T (.slice ad n cap) (lo.map a.eval) (hi'.map a.eval) none).run P w = .ok (.slice (if cap = l then ad else ad.map (·.add (l * P.cellsOf el))) (h - l) (cap - l)) w := by
  simp only [Instr.sliceAt, Instr.slice, Sem.run_bind, run_underlying hu, Result.andThen_ok, bounds_run (P := P) hS hh hl ho1 ho2 h1 h2 h3, size_run hi, Sem.run_pure]
theorem sliceA_sound (hS : RelS K e get a w) {T : TypeId} {x v : AV} {c : Value} {lo hi : Option Operand} {g g' : List Gd} {ob : List Prop} (hx : VR K x c) (h : sliceA P e T x lo hi g = some (v, ob, g')) (ho : AllP ob) :
    ∃ r, (Instr.sliceAt T c (lo.map a.eval) (hi.map a.eval) none).run P w = .ok r w ∧ VR K v r := by
  unfold sliceA at h
  split at h
  · rename_i el hu
    split at h
    · cases h
    · rename_i ie hie
      split at h
      · rename_i sz xs
        split at h
        · cases h
        · rename_i hh o1 g1 hb
          split at h
          · cases h
          · rename_i l o2 g2 lb
            split at h
            · rename_i ys o3 g3 hls hsz
              cases h
              simp only [AllP, AllP.append_iff] at ho
              obtain ⟨h1, h2, ⟨p1, p2⟩, p3⟩ := ho
              have hy := lsA_sound hls p3
              cases hx with
              | pure hx =>
                cases hx with
                | lst sz xs ad c b o f hsz' hc hm had hl hM h =>
                  refine ⟨_, slice_run hS hu hie hb lb p1 p2 h1 h2 hc, ?_⟩
                  have hlen : ys.length = hh - l := by rw [hy, List.length_take, List.length_drop]; omega
                  rw [← hlen]
                  have key : ∀ (i : Nat) (x : AV), ys[i]? = some x → xs[l + i]? = some x := by
                    intro i x hx
                    rw [hy, List.getElem?_take] at hx
                    split at hx
                    · rwa [List.getElem?_drop] at hx
                    · cases hx
                  refine .pure (.lst sz ys _ _ b (o + l * sz) (fun i j => f (l + i) j) hsz' (by omega) (by omega) ?_ (fun i x hx => hl _ x (key i x hx)) (fun i x j u hx hu => ?_) fun i x j u hx hu => h _ x j u (key i x hx) hu)
                  · by_cases h0 : ys = []
                    · exact .inl h0
                    · refine .inr ?_
                      have hpos : 0 < ys.length := List.length_pos_iff.2 h0
                      have hne : xs ≠ [] := by rintro rfl; simp at h2; omega
                      rw [if_neg (by omega), had.resolve_left hne, Option.map_some, addr_mid, beq_eq' hsz]
                  · have := hM _ x j u (key i x hx) hu
                    rw [← this]; congr 1
                    rw [Nat.add_mul]; omega
            · cases h
      · rename_i id sz n
        split at h
        · cases h
        · rename_i hh o1 g1 hb
          split at h
          · rename_i l o2 g2 lb hsz
            cases h
            simp only [AllP, AllP.append_iff] at ho
            obtain ⟨h1, h2, p1, p2⟩ := ho
            cases hx with
            | pure hx => cases hx
            | row id sz n c hk h hp =>
              obtain ⟨ad, m, rfl, hm1, hm2, ha⟩ := hp
              refine ⟨_, slice_run hS hu hie hb lb p1 p2 h1 h2 hm1, .rws _ _ _ _ _ hk ?_ ⟨_, _, rfl, by omega, by omega, fun h0 => ?_⟩⟩
              · rcases h with h | ⟨h, ad', hc, had⟩
                · exact .inl h
                · injection hc with e1 e2 e3
                  subst e1
                  refine .inr ⟨n, _, _, h, by omega, rfl, fun h0 => ?_⟩
                  rw [if_neg (by omega), had (by omega), Option.map_some, addr_mid, beq_eq' hsz]
              · obtain ⟨p, rfl⟩ := ha (by omega)
                rw [if_neg (by omega)]; exact ⟨_, rfl⟩
          · cases h
      · rename_i id sz off n
        split at h
        · cases h
        · rename_i hh o1 g1 hb
          split at h
          · rename_i l o2 g2 lb hsz
            cases h
            simp only [AllP, AllP.append_iff] at ho
            obtain ⟨h1, h2, p1, p2⟩ := ho
            cases hx with
            | pure hx => cases hx
            | rws id sz off n c hk h hp =>
              obtain ⟨ad, m, rfl, hm1, hm2, ha⟩ := hp
              refine ⟨_, slice_run hS hu hie hb lb p1 p2 h1 h2 hm1, .rws _ _ _ _ _ hk ?_ ⟨_, _, rfl, by omega, by omega, fun h0 => ?_⟩⟩
              · rcases h with h | ⟨n', ad', m', h, hn, hc, had⟩
                · exact .inl h
                · injection hc with e1 e2 e3
                  subst e1 e3
                  refine .inr ⟨n', _, _, h, by omega, rfl, fun h0 => ?_⟩
                  rw [if_neg (by omega), had (by omega), Option.map_some, addr_mid, beq_eq' hsz, Nat.add_mul, Nat.add_assoc]
              · obtain ⟨p, rfl⟩ := ha (by omega)
                rw [if_neg (by omega)]; exact ⟨_, rfl⟩
          · cases h
      · cases h
  · cases h

theorem lenA_sound {T : TypeId} {x v : AV} {c : Value} {g g' : List Gd} {ob : List Prop} (ats : Array TypeId) (ty : TypeId) (hT : ats[0]? = some T) (hx : VR K x c) (h : lenA P T x g = some (v, ob, g')) (ho : AllP ob) :
    ∃ r, (Builtin.len_ ats ty #[c]).run P w = .ok r w ∧ VR K v r := by
  unfold lenA at h
  split at h
  · rename_i el hu
    cases h
    obtain rfl := hx.nils_inv
    exact ⟨.int .i64 0, by simp [Builtin.len_, hT, run_underlying hu, goInt], .pure (.int _ _)⟩
  · rename_i el sz xs hu
    have := num_sound h ho; subst this
    cases hx with
    | pure hx => cases hx with
      | lst sz xs ad c b o f => exact ⟨_, by simp [Builtin.len_, hT, run_underlying hu, goInt], .pure (.int _ _)⟩
  · rename_i el id sz n hu
    have := num_sound h ho; subst this
    cases hx with
    | pure hx => cases hx
    | row id sz n c hk h hp =>
      obtain ⟨ad, m, rfl, _⟩ := hp
      exact ⟨_, by simp [Builtin.len_, hT, run_underlying hu, goInt], .pure (.int _ _)⟩
  · rename_i el id sz off n hu
    have := num_sound h ho; subst this
    cases hx with
    | pure hx => cases hx
    | rws id sz off n c hk h hp =>
      obtain ⟨ad, m, rfl, _⟩ := hp
      exact ⟨_, by simp [Builtin.len_, hT, run_underlying hu, goInt], .pure (.int _ _)⟩
  · rename_i s hu
    have := num_sound h ho; subst this
    obtain rfl := hx.str_inv
    exact ⟨_, by simp [Builtin.len_, hT, run_underlying hu, goInt], .pure (.int _ _)⟩
  · rename_i n el hu
    cases h
    exact ⟨.int .i64 n, by simp [Builtin.len_, hT, run_underlying hu, goInt], .pure (.int _ _)⟩
  · cases h

theorem list1 {α : Type} {a : Array α} {x : α} (h : a.toList = [x]) : a = #[x] := by cases a; simp at h; subst h; rfl
theorem list2 {α : Type} {a : Array α} {x y : α} (h : a.toList = [x, y]) : a = #[x, y] := by cases a; simp at h; subst h; rfl
theorem pureA_sound (hS : RelS K e get a w) {o : Oper} {v : AV} {g g' : List Gd} {ob : List Prop} (h : pureA P e o g = some (v, ob, g')) (ho : AllP ob) : Yes P K a w o v := by
  unfold pureA at h
  split at h
  · rename_i x hop
    split at h
    · rename_i u hu
      cases h
      exact ⟨_, by simp [execOp, hop], opv_sound hS hu⟩
    · cases h
  · rename_i x hop
    split at h
    · rename_i u hu
      cases h
      exact ⟨_, by simp [execOp, hop], opv_sound hS hu⟩
    · cases h
  · rename_i c x y hop
    split at h
    · rename_i hc
      split at h
      · rename_i u hu
        cases h
        exact ⟨_, by simp [execOp, hop, (opv_sound hS hc).bool_inv, asBool], opv_sound hS hu⟩
      · cases h
    · rename_i hc
      split at h
      · rename_i u hu
        cases h
        exact ⟨_, by simp [execOp, hop, (opv_sound hS hc).bool_inv, asBool], opv_sound hS hu⟩
      · cases h
    · cases h
  · rename_i x hop
    split at h
    · rename_i id off hx
      cases h
      have hv := opv_sound hS hx
      refine ⟨_, ?_, hv⟩
      have : ∃ p, a.eval x = .pointer (some p) := by cases hv with | pure h => cases h | ptr _ _ _ _ _ hp => exact hp
      obtain ⟨p, hp⟩ := this
      simp [execOp, hop, hp]
    · rename_i id sz i off hx
      cases h
      have hv := opv_sound hS hx
      refine ⟨_, ?_, hv⟩
      have : ∃ p, a.eval x = .pointer (some p) := by cases hv with | pure h => cases h | ept _ _ _ _ _ _ _ hp => exact hp
      obtain ⟨p, hp⟩ := this
      simp [execOp, hop, hp]
    · rename_i sz xs i off hx
      cases h
      have hv := opv_sound hS hx
      refine ⟨_, ?_, hv⟩
      have : ∃ p, a.eval x = .pointer (some p) := by
        generalize a.eval x = c at hv
        cases hv with
        | pure h => cases h
        | lpt _ _ _ _ ad => exact ⟨_, rfl⟩
      obtain ⟨p, hp⟩ := this
      simp [execOp, hop, hp]
    · rename_i f cs hx
      cases h
      have hv := opv_sound hS hx
      refine ⟨_, ?_, hv⟩
      obtain ⟨ds, hp, _⟩ := hv.fn_inv
      simp [execOp, hop, hp]
    · cases h
  · rename_i op T x y ty hop
    split at h
    · rename_i u v' hu hv
      obtain ⟨r, h1, h2⟩ := binA_sound (w := w) (opv_sound hS hu) (opv_sound hS hv) h ho x y
      exact ⟨r, by simp only [execOp, hop]; rw [Sem.run_bind, h1]; rfl, h2⟩
    · cases h
  · rename_i T x hop
    split at h
    · rename_i b hb
      cases h
      exact ⟨.bool (!b), by simp [execOp, hop, Op.unary, (opv_sound hS hb).bool_inv], .pure (.bool _)⟩
    · cases h
  · rename_i T x hop
    split at h
    · rename_i k n hn
      have := num_sound h ho; subst this
      exact ⟨_, by simp [execOp, hop, Op.unary, Op.intArith, (opv_sound hS hn).int_inv], .pure (.int _ _)⟩
    · cases h
  · rename_i s d x hop
    split at h
    · rename_i ds k k' n hs hd hn
      have := num_sound h ho; subst this
      exact ⟨_, by simp [execOp, hop, convert, run_underlying hs, run_underlying hd, (opv_sound hS hn).int_inv, Conv.intToInt], .pure (.int _ _)⟩
    · rename_i ds s' hs hd hn
      cases h
      refine ⟨.string s', ?_, .pure (.str _)⟩
      simp only [execOp, hop, convert, Sem.run_bind, run_underlying hs, run_underlying hd, Result.andThen_ok, (opv_sound hS hn).str_inv]
      cases ds <;> rfl
    · cases h
  · rename_i T x i hop
    split at h
    · rename_i f u hf hu
      split at h
      · rename_i ie n hi hn
        split at h
        · rename_i u' hm
          cases h
          obtain ⟨ad, h1, h2⟩ := movA_sound hm (opv_sound hS hu)
          refine ⟨_, ?_, h2⟩
          unfold fieldOf at hf
          split at hf
          · rename_i fs hfs
            have hz : ¬ P.cellsOf f.type = 0 := by rw [hn]; omega
            simp [execOp, hop, Instr.fieldAt, run_underlying hfs, hf, h1, Instr.sureAddr, fieldPlace, size_run hi, hz]
          · cases hf
        · cases h
      · cases h
    · cases h
  · rename_i T x i hop
    split at h
    · rename_i f cs hf hu
      split at h
      · rename_i u hp
        cases h
        obtain ⟨ds, h1, h2⟩ := (opv_sound hS hu).agg_inv
        obtain ⟨c, h3, h4⟩ := part_run (w := w) hp h2
        refine ⟨c, ?_, h4⟩
        unfold fieldOf at hf
        split at hf
        · rename_i fs hfs
          simp [execOp, hop, Instr.field, run_underlying hfs, hf, h1, asAgg, h3]
        · cases hf
      · cases h
    · cases h
  · rename_i T x i hop
    split at h
    · rename_i u v' hu hv
      obtain ⟨r, h1, h2⟩ := indexA_sound (w := w) (opv_sound hS hu) (opv_sound hS hv) h ho
      exact ⟨r, by simp [execOp, hop, h1], h2⟩
    · cases h
  · rename_i T x i hop
    split at h
    · rename_i cs u len el hc hu hT
      split at h
      · rename_i j o1 g1 hj
        split at h
        · rename_i u' hp
          cases h
          obtain ⟨ds, h1, h2⟩ := (opv_sound hS hc).agg_inv
          obtain ⟨c, h3, h4⟩ := part_run (w := w) hp h2
          obtain ⟨k, h5⟩ := ixA_sound (opv_sound hS hu) hj ho.2
          have hjl := ho.1
          obtain ⟨ie, hie⟩ := (partA_sound hp h2).choose_spec.choose_spec.2.2.2.2
          exact ⟨c, by simp [execOp, hop, Instr.index, run_underlying hT, h1, h5, asIntOf, hjl, size_run hie, h3], h4⟩
        · cases h
      · cases h
    · cases h
  · rename_i x i hop
    split at h
    · rename_i vs hv
      split at h
      · rename_i u hu
        cases h
        obtain ⟨ds, h1, h2⟩ := (opv_sound hS hv).tup_inv
        rw [nth_eq] at hu
        obtain ⟨d, h3, h4⟩ := h2.at_ hu
        exact ⟨d, by simp [execOp, hop, Instr.extract, h1, (by simpa using h3 : ds[i]? = some d)], h4⟩
      · cases h
    · cases h
  · rename_i T x lo hi hop
    split at h
    · rename_i u hu
      obtain ⟨r, h1, h2⟩ := sliceA_sound hS (opv_sound hS hu) h ho
      exact ⟨r, by simp only [execOp, hop, Option.map_none, Sem.run_bind, h1, Result.andThen_ok, Sem.run_pure], h2⟩
    · cases h
  · rename_i T parts hop
    split at h
    · rename_i cs hc
      cases h
      obtain ⟨ds, h1, h2⟩ := buildA_sound (w := w) hS hc
      exact ⟨.agg ds, by simp only [execOp, hop, Sem.run_bind, h1, Result.andThen_ok, Sem.run_pure], by simpa using VR.mkAgg h2⟩
    · cases h
  · rename_i f first caps hop
    split at h
    · rename_i vs hf hv
      cases h
      have h1 := opvL_sound hS _ _ hv
      have h2 : first = #[] := by cases first; simp at hf; subst hf; rfl
      refine ⟨.func (.func f) #[] (caps.map a.eval), by simp [execOp, hop, Instr.makeFunc, h2], ?_⟩
      have e : caps.map a.eval = (caps.toList.map a.eval).toArray := by apply Array.ext'; simp
      rw [e]
      exact VR.mkFn (f := f) h1
    · cases h
  · rename_i args ats hop
    split at h
    · rename_i x T rest hargs hats
      split at h
      · rename_i u hu
        have e1 := list1 hargs
        have hT : ats[0]? = some T := by rw [← Array.getElem?_toList, hats]; rfl
        obtain ⟨r, h1, h2⟩ := lenA_sound (w := w) ats o.type hT (opv_sound hS hu) h ho
        exact ⟨r, by simp [execOp, hop, resolve, invoke, builtin, e1, h1], h2⟩
      · cases h
    · cases h
  · rename_i args ats hop
    split at h
    · rename_i k x k' y hargs
      have := num_sound h ho; subst this
      have h1 := opvL_sound hS _ _ hargs
      obtain ⟨c1, r1, e1, v1, h2⟩ := h1.cons_inv
      obtain ⟨c2, r2, e2, v2, h3⟩ := h2.cons_inv
      obtain rfl := h3.nil_inv
      obtain rfl := v1.int_inv
      obtain rfl := v2.int_inv
      subst e2
      rw [← Array.toList_map] at e1
      have e3 := list2 e1
      exact ⟨_, by simp [execOp, hop, resolve, invoke, builtin, e3, min_go], .pure (.int _ _)⟩
    · cases h
  · rename_i args ats hop
    split at h
    · rename_i k x k' y hargs
      have := num_sound h ho; subst this
      have h1 := opvL_sound hS _ _ hargs
      obtain ⟨c1, r1, e1, v1, h2⟩ := h1.cons_inv
      obtain ⟨c2, r2, e2, v2, h3⟩ := h2.cons_inv
      obtain rfl := h3.nil_inv
      obtain rfl := v1.int_inv
      obtain rfl := v2.int_inv
      subst e2
      rw [← Array.toList_map] at e1
      have e3 := list2 e1
      exact ⟨_, by simp [execOp, hop, resolve, invoke, builtin, e3, max_go], .pure (.int _ _)⟩
    · cases h
  · cases h
end
end Go.Proofs.Ytidgcfgkcidkiaa.X
