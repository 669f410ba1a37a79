/- A library of no program: append as an operation. -/
import Derived.Test.YtidgcfgkcidkiaaGk
namespace Go.Proofs.Ytidgcfgkcidkiaa.X
open Go Go.Proofs.Ytidgcfgkcidkiaa.L Go.RowKit
set_option linter.unusedVariables false
set_option linter.unusedSimpArgs false

section
variable {P : Program} {K : Ctx} {e : Nat → Option AV} {get : Nat → Obj} {a : Act} {w : World}

theorem append_exec {o : Oper} {args : Array Operand} {ats : Array TypeId} (hop : o.op = .call { callee := .builtin .append, args, argTypes := ats }) (xs xx : Operand) (h2 : args.toList = [xs, xx]) {v : Value} {w' : World} (hr : (Builtin.append_ ats o.type #[a.eval xs, a.eval xx]).run P w = .ok v w') : (execOp a.eval o).run P w = .ok (.value v) w' := by
  have e := list2 h2
  simp only [execOp, hop, resolve, invoke, builtin, e]
  simp [hr]
theorem appendA_sound (hS : RelS K e get a w) {o : Oper} {next : Act → World → Prop} {Q : Exit → Act → World → Prop} {base : Nat} {tS tX : TypeId} {args : Array Operand} {ats : Array TypeId} {xs xx : Operand} {s x : AV} {g g' : List Gd} {E : Eff} {ob : List Prop} (hop : o.op = .call { callee := .builtin .append, args, argTypes := ats }) (h2 : args.toList = [xs, xx]) (hats : ats.toList = [tS, tX])
    (hs : VR K s (a.eval xs)) (hx : VR K x (a.eval xx)) (hb : get base = .hole) (h : appendA P get base tS tX s x g = some (E, ob, g')) (ho : AllP ob)
    (hn : Then P K get a w o E next) : o.wp P a w next Q := by
  have hkb : K.kind base = .hole := by rw [hS.kind, hb]; rfl
  unfold appendA at h
  split at h
  · rename_i el hu ht
    obtain rfl := beq_eq' ht
    have eats := list2 hats
    split at h
    · rename_i i hi
      split at h
      · rename_i ys rd z hsrc hz
        obtain ⟨i', zv, hi', hzv, hcz, hzl⟩ := zeroA_inv hz
        rw [hi] at hi'; injection hi' with hi'; subst hi'
        have hzs : zv.cells.size = i.size := by
          have := (cst_cells (K := K) hcz).1.1
          simp at this; omega
        split at h
        · split at h
          · rename_i n1 zs o1 g1 hsz hls
            cases h
            have h0 : 0 < i.size := by rw [hsz]; omega
            have hzs' := lsA_sound hls ho.2
            subst hzs'
            obtain ⟨ad2, m2, L, hc, l1, l2, l3, l4⟩ := srcA_sound hS h0 hx hsrc
            have hs' := hs.nils_inv
            obtain ⟨ad', c', w', b', pre', r1, r2, r3, r4, r5⟩ := append_run (P := P) (w := w) hu hi hzv hzs o.type (ad := none) (n := 0) (c := 0) (pre := []) (live := []) (m := zs.length) (c2 := m2) (by simp) l1 (Nat.le_refl _) (Nat.zero_le _) (fun h => absurd rfl h) l4 (l2.one l1 h0) h0 (fun _ => .inl rfl) (by rw [Nat.zero_add]; exact ho.1) (by rw [Nat.zero_add]; exact l3)
            rw [Nat.zero_add] at r1 r2
            have hrun := append_exec (P := P) (a := a) (w := w) hop xs xx h2 (by rw [eats, hs', hc]; exact r1)
            have hk' : Keeps (fun x => K.own base ∧ K.blk base = x) w w' := r4.mono fun _ _ h => absurd rfl h.1
            have hB : ∃ B, w.heap.size ≤ B ∧ (c' ≠ 0 → b' = B) := by
              by_cases hc0 : c' = 0
              · exact ⟨w.heap.size, Nat.le_refl _, fun h => absurd hc0 h⟩
              · obtain ⟨_, _, h9⟩ := r5 hc0
                exact ⟨b', h9.resolve_left (fun h => h.1 rfl), fun _ => rfl⟩
            obtain ⟨B, hB1, hB2⟩ := hB
            obtain ⟨q1, q2, q3⟩ := hS.rel.put (id := base) (o := .row el i.size zs) (b := B) (c := c') (f := pre'.length) (w' := w') hk' (.inl hkb) (fun _ => hB1)
              ⟨h0, by rw [put_cap]; exact r2, by rw [put_cap]; exact r3, fun hne => by
                rw [put_cap] at hne ⊢
                rw [put_blk, put_off]
                obtain ⟨_, ⟨dead', d1, d2⟩, _⟩ := r5 hne
                rw [← hB2 hne]
                refine ⟨_, d1, by simp at d2 ⊢; omega, ?_⟩
                show PRows K.M _ _ (List.drop pre'.length (pre' ++ ([] ++ L ++ dead')))
                rw [List.drop_left]
                simpa using l2.left⟩
            refine then_value hn hrun q1 q2 q3 ?_
            rintro v ⟨rfl⟩
            exact .row _ _ _ _ (by rw [put_kind]; simp [Obj.kind]) (.inr ⟨.inl (by rw [put_kind]; rfl), _, by rw [put_cap], fun hne => by rw [put_cap] at hne; rw [put_blk, put_off, ← hB2 hne]; exact (r5 hne).1⟩) ⟨_, _, rfl, r2, r3, fun hne => ⟨_, (r5 hne).1⟩⟩
          · cases h
        · rename_i id sh n
          split at h
          · rename_i T' sz ws hg
            split at h
            · rename_i zs o1 g1 hT hsz hrd hby1 hls
              cases h
              obtain rfl := beq_eq' hT
              have hszE := beq_eq' hsz
              subst hszE
              have hob := hS.rel.obj id
              rw [hg] at hob
              obtain ⟨h0, p1, p2, p3⟩ := hob
              have hk : K.kind id = .row i.size ws.length := by rw [hS.kind, hg]; rfl
              have hzs' := lsA_sound hls ho.2
              subst hzs'
              obtain ⟨ad2, m2, L, hc, l1, l2, l3, l4⟩ := srcA_sound hS h0 hx hsrc
              have hne : base ≠ id := by rintro rfl; rw [hb] at hg; cases hg
              generalize hc1 : a.eval xs = c1 at hs
              cases hs with
              | pure hs => cases hs
              | row _ _ _ _ hk' hq hp =>
                rw [hk] at hq
                obtain ⟨hq0, ad, hcv, had⟩ := hq.resolve_left (by simp)
                have : sh = i.size ∧ n = ws.length := by
                  rcases hq0 with hq0 | hq0 <;> first | (injection hq0 with e1 e2; exact ⟨e1.symm, e2.symm⟩) | cases hq0
                obtain ⟨rfl, rfl⟩ := this
                have hbytes : (ws.length + ys.length) * i.bytes ≤ 140737488355328 := ho.1
                have hmax : ws.length + ys.length ≤ maxLen := by
                  have := Nat.le_mul_of_pos_right (ws.length + ys.length) (Nat.le_of_ble_eq_true hby1)
                  simp only [maxLen]; omega
                have hlive : ∃ live : List Value, live.length = ws.length * i.size ∧ PRows K.M i.size ws live ∧ ∃ pre : List Value, (K.cap id ≠ 0 → pre.length = K.off id) ∧ (K.cap id ≠ 0 → ∃ dead, w.heap[K.blk id]? = some (.cells (pre ++ (live ++ dead)).toArray T' (0, 0)) ∧ (live ++ dead).length = K.cap id * i.size) := by
                  by_cases hcap : K.cap id = 0
                  · have : ws = [] := List.eq_nil_of_length_eq_zero (by omega)
                    subst this
                    exact ⟨[], by simp, fun i x hx => by simp at hx, [], fun h => absurd hcap h, fun h => absurd hcap h⟩
                  · obtain ⟨ds, d1, d2, d3⟩ := p3 hcap
                    have hle : ws.length * i.size ≤ (ds.toList.drop (K.off id)).length := by rw [show (ds.toList.drop (K.off id)).length = K.cap id * i.size by simp; omega]; exact Nat.mul_le_mul_right _ p1
                    obtain ⟨s1, s2, s3⟩ := d3.sub 0 ws.length (by omega) hle
                    rw [Nat.zero_mul, List.drop_zero] at s1 s2
                    rw [List.drop_zero, List.take_length] at s1
                    refine ⟨_, s2, s1, ds.toList.take (K.off id), fun _ => by simp; omega, fun _ => ⟨(ds.toList.drop (K.off id)).drop (ws.length * i.size), ?_, ?_⟩⟩
                    · rw [List.take_append_drop, List.take_append_drop]; simpa using d1
                    · rw [List.take_append_drop]; simp; omega
                obtain ⟨live, v1, v2, pre, v0, v3⟩ := hlive
                have had : K.cap id ≠ 0 → ad = some ⟨K.blk id, pre.length, none⟩ := fun h => by rw [v0 h]; exact had h
                obtain ⟨ad', c', w', b', pre', r1, r2, r3, r4, r5⟩ := append_run (P := P) (w := w) hu hi hzv hzs o.type (ad := ad) (ad2 := ad2) (n := ws.length) (c := K.cap id) (pre := pre) (live := live) (live2 := L) (m := ys.length) (c2 := m2) v1 l1 p1 p2 (fun hcap => by
                    obtain ⟨dead, d1, d2⟩ := v3 hcap
                    exact ⟨K.blk id, dead, had hcap, d1, d2⟩) l4 (l2.one l1 h0) h0 (fun _ => by cases ad; exact .inl rfl; exact .inr ⟨_, rfl⟩) hbytes hmax
                have hrun := append_exec (P := P) (a := a) (w := w) hop xs xx h2 (by rw [eats, hc1, hcv, hc]; exact r1)
                have hown : K.cap id ≠ 0 → K.own id := fun h => by unfold Ctx.own; rw [hk]; exact h
                have hB : ∃ B, ((K.own id ∧ K.blk id = B) ∨ w.heap.size ≤ B) ∧ (c' ≠ 0 → b' = B) := by
                  by_cases hc0 : c' = 0
                  · exact ⟨w.heap.size, .inr (Nat.le_refl _), fun h => absurd hc0 h⟩
                  · obtain ⟨_, _, h9⟩ := r5 hc0
                    refine ⟨b', ?_, fun _ => rfl⟩
                    rcases h9 with ⟨h8, h9⟩ | h9
                    · rw [had h8] at h9; injection h9 with h9; injection h9 with h9
                      exact .inl ⟨hown h8, h9⟩
                    · exact .inr h9
                obtain ⟨B, hB1, hB2⟩ := hB
                let K' : Ctx := (K.put id .gone (K.blk id) (K.cap id) (K.off id)).put base (Obj.row T' i.size (ws ++ ys)).kind B c' pre'.length
                have kid : K'.kind id = .gone := by show (if id = base then _ else if id = id then _ else _) = _; rw [if_neg (Ne.symm hne), if_pos rfl]
                have kba : K'.kind base = .row i.size (ws ++ ys).length := put_kind
                have bba : K'.blk base = B := put_blk
                have cba : K'.cap base = c' := put_cap
                have oba : K'.off base = pre'.length := put_off
                have hoth : ∀ j, ¬ (j = id ∨ j = base) → K'.kind j = K.kind j ∧ K'.blk j = K.blk j ∧ K'.cap j = K.cap j ∧ K'.off j = K.off j := by
                  intro j hj
                  have h8 : j ≠ id := fun h => hj (.inl h)
                  have h9 : j ≠ base := fun h => hj (.inr h)
                  exact ⟨by simp [K', Ctx.put, h8, h9], by simp [K', Ctx.put, h8, h9], by simp [K', Ctx.put, h8, h9], by simp [K', Ctx.put, h8, h9]⟩
                have hle : K.le K' := ⟨fun _ _ _ h => h, fun j hj => by
                  by_cases h8 : j = id
                  · subst h8; exact .inl kid
                  · by_cases h9 : j = base
                    · subst h9; exact absurd hkb hj
                    · obtain ⟨q1, q2, q3, q4⟩ := hoth j (fun h => h.elim h8 h9)
                      exact .inr ⟨q2, q3, q4, .inl q1⟩⟩
                have hnid : ¬ K'.own id := by unfold Ctx.own; rw [kid]; exact fun h => h
                obtain ⟨q1, q3⟩ := hS.rel.change (K' := K') (get' := updG get [(id, .gone), (base, .row T' i.size (ws ++ ys))]) (w' := w') (fun j => j = id ∨ j = base) hle
                  (fun j hj => by
                    obtain ⟨q1, q2, q3, q4⟩ := hoth j hj
                    have h8 : j ≠ id := fun h => hj (.inl h)
                    have h9 : j ≠ base := fun h => hj (.inr h)
                    exact ⟨q1, q2, q3, q4, by simp [updG, putG, h8, h9]⟩)
                  (r4.mono fun k _ ⟨h8, h9⟩ => by
                    rw [had h8] at h9; injection h9 with h9; injection h9 with h9
                    exact ⟨id, .inl rfl, hown h8, h9⟩)
                  (by
                    rintro j (rfl | rfl)
                    · rw [kid]; simp [updG, putG, Ne.symm hne, Obj.kind]
                    · rw [kba]; simp [updG, putG, Obj.kind])
                  (by
                    rintro j (rfl | rfl) hv
                    · rw [hk] at hv; cases hv
                    · rw [hkb] at hv; cases hv)
                  (by
                    rintro j (rfl | rfl)
                    · simp [updG, putG, Ne.symm hne, OR]
                    · simp only [updG, putG, if_true]
                      refine ⟨h0, by rw [cba]; simpa using r2, by rw [cba]; exact r3, fun hne' => ?_⟩
                      rw [cba] at hne' ⊢
                      rw [bba, oba]
                      obtain ⟨_, ⟨dead', d1, d2⟩, _⟩ := r5 hne'
                      rw [← hB2 hne']
                      refine ⟨_, d1, by simp at d2 ⊢; omega, ?_⟩
                      show PRows K.M _ _ (List.drop pre'.length (pre' ++ (live ++ L ++ dead')))
                      rw [List.drop_left]
                      exact (v2.append l2 v1).left)
                  (by
                    rintro j (rfl | rfl) hj
                    · exact absurd hj hnid
                    · rw [bba]
                      rcases hB1 with ⟨h8, h9⟩ | h8
                      · exact .inl ⟨id, .inl rfl, h8, h9⟩
                      · exact .inr h8)
                  (by
                    rintro j k (rfl | rfl) (rfl | rfl) hj hk _
                    · rfl
                    · exact absurd hj hnid
                    · exact absurd hk hnid
                    · rfl)
                  (fun b o v hv => .inl hv)
                refine then_value hn hrun q1 hle q3 ?_
                rintro v ⟨rfl⟩
                rw [List.length_append] at kba ⊢
                exact .row _ _ _ _ (by rw [kba]; simp) (.inr ⟨.inl kba, _, by rw [cba], fun hne => by rw [cba] at hne; rw [bba, oba, ← hB2 hne]; exact (r5 hne).1⟩) ⟨_, _, rfl, r2, r3, fun hne => ⟨_, (r5 hne).1⟩⟩
            · cases h
          · cases h
        · cases h
      · cases h
    · cases h
  · cases h
end
end Go.Proofs.Ytidgcfgkcidkiaa.X
