/- A library of no program: the run is right. -/
import Derived.Test.YtidgcfgkcidkiaaGq
namespace Go.Proofs.Ytidgcfgkcidkiaa.X
open Go Go.Proofs.Ytidgcfgkcidkiaa.L Go.RowKit
set_option linter.unusedVariables false
set_option linter.unusedSimpArgs false

section
variable {P : Program} {K K' : Ctx} {e : Nat → Option AV} {get : Nat → Obj} {a : Act} {w w' : World} {m0 nt : Nat} {cr : List Nat}

theorem loop_of {c : Code} {Q : Exit → Act → World → Prop} (h : LoopFrom P c Q a w) : (Code.loop c).wp P Q a w := fun b k cs =>
  let ⟨e, a', w', q, r⟩ := h b k cs; ⟨e, a', w', q, .of_steps (.one step_loop) r⟩
theorem loop_go {c : Code} {Q : Exit → Act → World → Prop} (h : c.wp P (Exit.then (LoopFrom P c Q) Q) a w) : LoopFrom P c Q a w := by
  intro b k cs
  obtain ⟨e, a₁, w₁, hq, harr⟩ := h b (.inLoop c :: k) cs
  cases e with
  | normal =>
    obtain ⟨e₂, a₂, w₂, hq₂, harr₂⟩ := hq b k cs
    exact ⟨e₂, a₂, w₂, hq₂, .of_steps (Steps.trans harr (.one step_inLoop)) harr₂⟩
  | exit id => exact ⟨_, a₁, w₁, hq, .pass (x := .inLoop c) rfl (fun _ _ => .inl (by simp)) harr⟩
  | goto l => exact ⟨_, a₁, w₁, hq, .pass (x := .inLoop c) rfl (fun _ _ => .inl (by simp)) harr⟩
  | ret => exact ⟨_, a₁, w₁, hq, .pass (x := .inLoop c) rfl (fun _ _ => .inl (by simp)) harr⟩
  | panic ch => exact ⟨_, a₁, w₁, hq, .pass (x := .inLoop c) rfl (fun _ _ => .inl (by simp)) harr⟩
  | outgrown => exact ⟨_, a₁, w₁, hq, .pass (x := .inLoop c) rfl (fun _ _ => .inl (by simp)) harr⟩

theorem look_keepE {cr : List Nat} {e : Env} {t : Nat} {v : AV} (h : look (keepE cr e) t = some v) : look e t = some v := by
  induction e with
  | nil => cases h
  | cons x xs ih =>
    obtain ⟨k, u⟩ := x
    simp only [keepE] at h
    split at h
    · simp only [look] at h ⊢
      split at h
      · exact h
      · exact ih h
    · rename_i hk
      have hne : hasN cr t = true := by
        clear ih
        induction xs with
        | nil => cases h
        | cons y ys ih =>
          obtain ⟨k', u'⟩ := y
          simp only [keepE] at h
          split at h
          · rename_i hk'
            simp only [look] at h
            split at h
            · rename_i hb; rw [← beq_eq' hb]; exact hk'
            · exact ih h
          · exact ih h
      simp only [look]
      split
      · rename_i hb
        rw [beq_eq' hb] at hk
        rw [hne] at hk; cases hk
      · exact ih h
theorem region_sound (hm : P.follows .mixedOrders = true) {id : Nat} {ops : Array Oper} {draw : Bool} {S S' : St} {g g' : List Gd} {ob : List Prop} (h : runRegion P cr nt ops draw S g = some (S', ob, g')) (ho : AllP ob) : ACode P m0 nt (.region id ops draw) S .normal S' := by
  intro K a w Q hS hsz hQ
  unfold runRegion at h
  split at h
  · rename_i en os rs ob' g1 hr
    split at h
    · cases h
      refine wp_region ?_
      have := runOps_sound (Q := Q) ops.toList 0 _ _ _ _ _ _ _ _ K a w rfl hr ho hS hsz fun K' a' w' k1 k2 k3 k4 => ?_
      · rwa [Nat.sub_zero, ← List.range_eq_range'] at this
      · exact hQ K' a' w' ⟨k1.rel, fun t v hv => k1.env t v (look_keepE hv)⟩ k2 (k3 m0) k4
    · split at h
      · rename_i hE hok
        cases h
        refine wp_region_any hm ?_
        obtain ⟨r1, r2⟩ := hS.rel.keep0 (w' := w.drew) ((Keeps.refl _ _).drew)
        exact draw_sound hr ho hE hok K a w.drew (fun K' a' w' k1 k2 k3 k4 => hQ K' a' w' ⟨k1.rel, fun t v hv => k1.env t v (look_keepE hv)⟩ k2 ((r2 m0).trans (k3 m0)) k4) ⟨r1, hS.env⟩ hsz
      · cases h
  · cases h

theorem getO_frz (ids : List Nat) : ∀ (l : List Obj) (i j : Nat), getO (frzO ids i l) j = (match getO l j, hasN ids (i + j) with | .row T sz xs, true => .frz T sz xs | o, _ => o)
  | [], i, j => by simp [frzO, getO]
  | o :: os, i, 0 => by simp [frzO, getO]; rfl
  | o :: os, i, j + 1 => by
    simp only [frzO, getO]
    rw [getO_frz ids os (i + 1) j, show i + 1 + j = i + (j + 1) by omega]
theorem getO_frzB (ids : List Nat) (l : List Obj) : getO (frzO ids 0 l) = frzB (hasN ids) (getO l) := by
  funext j
  rw [getO_frz, Nat.zero_add]
  unfold frzB
  cases getO l j <;> cases hasN ids j <;> rfl
theorem conv0_VR (h : Rel K get w) {u : AV} {c : Value} (hv : VR K u c) : VR K (conv0 get u) c := by
  cases u with
  | row id s n =>
    simp only [conv0]
    split
    · rename_i T sz xs hg; exact .pure (frz_list h hg hv)
    · exact hv
  | rws id s o n =>
    simp only [conv0]
    split
    · rename_i T sz xs hg; exact .pure (frz_list_sub h hg hv)
    · exact hv
  | _ => exact hv
theorem conv0s_VR (h : Rel K get w) {us : List AV} {ds : List Value} (hv : VRs K us ds) : VRs K (us.map (conv0 get)) ds := by
  refine ⟨by rw [List.length_map]; exact hv.1, fun i u d hu hd => ?_⟩
  rw [List.getElem?_map] at hu
  cases hx : us[i]? with
  | none => rw [hx] at hu; cases hu
  | some x => rw [hx] at hu; injection hu with hu; subst hu; exact conv0_VR h (hv.2 i x d hx hd)
theorem conv_VR (h : Rel K get w) {u : AV} {c : Value} (hv : VR K u c) : VR K (conv get u) c := by
  cases hu : u with
  | agg cs => subst hu; obtain ⟨ds, rfl, hd⟩ := hv.agg_inv; simpa [conv] using VR.mkAgg (conv0s_VR h hd)
  | _ => subst hu; exact conv0_VR h hv
theorem look_map (f : AV → AV) (e : Env) (t : Nat) : look (e.map fun kv => (kv.1, f kv.2)) t = (look e t).map f := by
  induction e with
  | nil => rfl
  | cons x xs ih =>
    obtain ⟨k, v⟩ := x
    simp only [List.map_cons, look]
    split
    · rfl
    · exact ih
theorem convO_kind (get : Nat → Obj) (o : Obj) : (convO get o).kind = o.kind := by cases o <;> rfl
theorem Rel.convO (h : Rel K get w) {l : List Obj} (hg : getO l = get) : Rel K (getO (l.map (convO get))) w := by
  have e : ∀ i, getO (l.map (X.convO get)) i = X.convO get (get i) := by
    intro i
    rw [getO_eq, List.getElem?_map, ← hg]
    simp only [getO_eq]
    cases l[i]? <;> rfl
  refine ⟨fun i => by rw [e, convO_kind]; exact h.kinds i, h.mem, fun i => ?_, h.inj, h.sep⟩
  rw [e]
  have := h.obj i
  cases hi : get i with
  | vars T cs =>
    rw [hi] at this
    obtain ⟨ds, d1, d2, d3⟩ := this
    exact ⟨ds, d1, conv0s_VR h d2, d3⟩
  | _ => rw [hi] at this; exact this
theorem adm_sound {S : St} (ids : List Nat) (hS : RelS K (look S.env) (getO S.objs) a w) : ∃ K', RelS K' (look (admS ids S).env) (getO (admS ids S).objs) a w ∧ ∀ m, Grow m K w K' w := by
  obtain ⟨r1, r2⟩ := hS.rel.frz (hasN ids)
  refine ⟨_, ⟨?_, fun t v hv => ?_⟩, r2⟩
  · simp only [admS]
    rw [getO_frzB]
    exact r1.convO (getO_frzB ids S.objs)
  · simp only [admS] at hv
    rw [look_map] at hv
    cases hl : look S.env t with
    | none => rw [hl] at hv; cases hv
    | some u =>
      rw [hl] at hv
      injection hv with hv
      subst hv
      obtain ⟨c, c1, c2⟩ := hS.env t u hl
      rw [getO_frzB]
      exact ⟨c, c1, conv_VR r1 (c2.mono (frz_le _))⟩
theorem look_keepS {f : AV → AV} {e : Env} {keep : List Nat} {t : Nat} {v : AV} (h : look (keepS keep f e) t = some v) : ∃ u, look e t = some u ∧ v = f u := by
  induction keep with
  | nil => cases h
  | cons k ks ih =>
    simp only [keepS] at h
    split at h
    · rename_i u hu
      simp only [look] at h
      split at h
      · rename_i hb
        rw [beq_eq' hb] at hu
        injection h with h
        exact ⟨u, hu, h.symm⟩
      · exact ih h
    · exact ih h
theorem starts_spec : ∀ {i m : Nat} {p : List Nat}, startsB i m p = true → ∀ j, j < m → p[j]? = some (i + j)
  | i, 0, p, _, j, hj => by omega
  | i, m + 1, [], h, j, hj => by simp [startsB] at h
  | i, m + 1, x :: xs, h, j, hj => by
    simp only [startsB] at h
    split at h
    · rename_i hb
      cases j with
      | zero => simp [beq_eq' hb]
      | succ j =>
        have := starts_spec h j (by omega)
        rw [show i + 1 + j = i + (j + 1) by omega] at this
        simpa using this
    · cases h
theorem re_sound {S : St} {keep p : List Nat} (hp : nodupB p = true) (hs : startsB 0 m0 p = true) (hS : RelS K (look S.env) (getO S.objs) a w) : ∃ K', RelS K' (look (reS keep p S).env) (getO (reS keep p S).objs) a w ∧ Grow m0 K w K' w := by
  have hnd := nodupB_iff.1 hp
  refine ⟨K.sub p, ⟨hS.rel.sub hnd, fun t v hv => ?_⟩, fun _ _ _ h => h, fun _ _ _ h => .inl h, fun id hid hk => ?_, fun b hb => ?_, Keeps.refl _ _⟩
  · obtain ⟨u, h1, rfl⟩ := look_keepS hv
    obtain ⟨c, c1, c2⟩ := hS.env t u h1
    exact ⟨c, c1, (hS.rel.ren_sub p).ren c2⟩
  · have := starts_spec hs id hid
    rw [Nat.zero_add] at this
    obtain ⟨k1, k2, k3, _⟩ := sub_at (K := K) this
    exact ⟨k1.trans hk, k2⟩
  · obtain ⟨j, hj, rfl⟩ := hb
    obtain ⟨id, h1, h2, h3⟩ := sub_own hj
    exact .inl ⟨id, h2, h3.symm⟩

theorem getO_app (l : List Obj) (o : Obj) : getO (l ++ [o]) = putG (getO l) l.length o := by
  funext i
  simp only [getO_eq, putG]
  by_cases h : i < l.length
  · rw [List.getElem?_append_left h, if_neg (by omega)]
  · by_cases h2 : i = l.length
    · subst h2; simp
    · rw [List.getElem?_eq_none (by simp; omega), List.getElem?_eq_none (by omega), if_neg h2]
theorem take_cons_drop {α : Type} (l : List α) (k : Nat) (h : k < l.length) : l.take k ++ l[k] :: l.drop (k + 1) = l := by
  rw [← List.drop_eq_getElem_cons h, List.take_append_drop]
theorem mk_row (hR : Rel K get w) {id : Nat} (hid : K.kind id = .hole) (T : TypeId) {sz : Nat} (hsz : 0 < sz) :
    ∃ K', Rel K' (putG get id (.row T sz [])) w ∧ K.le K' ∧ (∀ m, Grow m K w K' w) ∧ VR K' (.row id sz 0) (.slice none 0 0) := by
  obtain ⟨r1, r2, r3⟩ := hR.put (id := id) (o := .row T sz []) (b := w.heap.size) (c := 0) (f := 0) (w' := w) (Keeps.refl _ _) (.inl hid) (fun _ => Nat.le_refl _)
    ⟨hsz, by simp, by rw [put_cap]; exact Nat.zero_le _, fun h => absurd put_cap h⟩
  refine ⟨_, r1, r2, r3, .row id sz 0 _ (by rw [put_kind]; simp [Obj.kind]) (.inr ⟨.inl (by rw [put_kind]; rfl), none, by rw [put_cap], fun h => absurd put_cap h⟩) ⟨none, 0, rfl, Nat.le_refl _, Nat.zero_le _, fun h => absurd rfl h⟩⟩
theorem mk_sound {S S' : St} {t : Nat} {T : TypeId} {sz : Nat} (h : mkS t T sz S = some S') (hS : RelS K (look S.env) (getO S.objs) a w) : ∃ K', RelS K' (look S'.env) (getO S'.objs) a w ∧ ∀ m, Grow m K w K' w := by
  unfold mkS at h
  split at h
  · rename_i n hl
    cases h
    obtain ⟨K1, r1, r2, r3, r4⟩ := mk_row hS.rel (id := S.objs.length) (by rw [hS.rel.kinds]; have := getO_out S.objs 0; rw [Nat.add_zero] at this; rw [this]; rfl) T (Nat.succ_pos n)
    refine ⟨K1, ⟨by rw [getO_app]; exact r1, fun u v hv => ?_⟩, r3⟩
    simp only [look] at hv
    split at hv
    · rename_i hb
      have := beq_eq' hb
      subst this
      injection hv with hv
      subst hv
      obtain ⟨c, c1, c2⟩ := hS.env _ _ hl
      rw [c2.nils_inv] at c1
      exact ⟨_, c1, r4⟩
    · obtain ⟨c, c1, c2⟩ := hS.env _ _ hv
      exact ⟨c, c1, c2.mono r2⟩
  · cases h
theorem mkc_sound {S S' : St} {id k : Nat} {T : TypeId} {sz : Nat} (h : mkcS id k T sz S = some S') (hS : RelS K (look S.env) (getO S.objs) a w) : ∃ K', RelS K' (look S'.env) (getO S'.objs) a w ∧ ∀ m, Grow m K w K' w := by
  unfold mkcS at h
  split at h
  · rename_i T' cs n hg
    split at h
    · rename_i cs' hn hs
      cases h
      obtain ⟨K1, r1, r2, r3, r4⟩ := mk_row hS.rel (id := S.objs.length) (by rw [hS.rel.kinds]; have := getO_out S.objs 0; rw [Nat.add_zero] at this; rw [this]; rfl) T (Nat.succ_pos n)
      have hne : id ≠ S.objs.length := by
        rintro rfl
        have := getO_out S.objs 0
        rw [Nat.add_zero, hg] at this
        cases this
      have hg1 : putG (getO S.objs) S.objs.length (.row T (n + 1) []) id = .vars T' cs := by rw [putG, if_neg hne]; exact hg
      have hob := r1.obj id
      rw [hg1] at hob
      obtain ⟨ds, h1, h2, h3⟩ := hob
      have hk : K1.kind id = .var := by rw [r1.kinds, hg1]; rfl
      have hob0 := hS.rel.obj id
      rw [hg] at hob0
      obtain ⟨ds0, g1, g2, g3⟩ := hob0
      have hnil : ds.toList[k]? = some (.slice none 0 0) := by
        rw [nth_eq] at hn
        have hb := (r2.at_ id (by rw [hS.rel.kinds, hg]; simp [Obj.kind])).resolve_left (by rw [hk]; simp)
        rw [hb.1, g1] at h1
        injection h1 with h1; injection h1 with h1; subst h1
        obtain ⟨d, d1, d2⟩ := g2.at_ hn
        rw [d1, d2.nils_inv]
      have hset := h2.setN (.cons r4 .nil) hs
      have hkl := (List.getElem?_eq_some_iff.1 hnil)
      have hid : ds.toList.take k ++ [Value.slice none 0 0] ++ ds.toList.drop (k + [Value.slice none 0 0].length) = ds.toList := by
        rw [← hkl.2]
        simpa using take_cons_drop ds.toList k hkl.1
      rw [hid] at hset
      obtain ⟨q1, q2, q3⟩ := r1.put (id := id) (o := .vars T' cs') (b := K1.blk id) (c := K1.cap id) (f := K1.off id) (w' := w) (Keeps.refl _ _) (.inr (.inr ⟨hk.symm, rfl, rfl, rfl⟩)) (fun h => by rw [hk] at h; cases h)
        ⟨ds, by rw [put_blk]; exact h1, VRs.mono (K := K1) (K' := K1.put id (Obj.vars T' cs').kind (K1.blk id) (K1.cap id) (K1.off id)) ⟨fun _ _ _ h => h, fun i hi => by
          by_cases he : i = id
          · subst he; rw [put_kind, put_blk, put_cap, put_off]; exact .inr ⟨rfl, rfl, rfl, .inl hk.symm⟩
          · exact .inr (by simp [Ctx.put, he])⟩ hset, h3⟩
      refine ⟨_, ⟨by rw [getO_set, getO_app]; exact q1, fun u v hv => ?_⟩, fun m => (r3 m).trans (q3 m)⟩
      obtain ⟨c, c1, c2⟩ := hS.env _ _ hv
      exact ⟨c, c1, (c2.mono r2).mono q2⟩
    · cases h
  · cases h
/-- What a piece of code does, or a loop. -/
def AC (P : Program) (m0 nt : Nat) (c : Code) (S : St) (x : Ex) (S' : St) : Prop :=
  match c with
  | .loop b => ALoop P m0 nt b S x S'
  | c => ACode P m0 nt c S x S'
theorem AC.code {c : Code} {S S' : St} {x : Ex} (h : AC P m0 nt c S x S') : ACode P m0 nt c S x S' := by
  cases c with
  | loop b => exact fun K a w Q hS hsz hQ => loop_of (h K a w Q hS hsz hQ)
  | _ => exact h
theorem AC.pre {c : Code} {S S1 S' : St} {x : Ex} (hp : ∀ K a w, RelS K (look S.env) (getO S.objs) a w → ∃ K', RelS K' (look S1.env) (getO S1.objs) a w ∧ ∀ m, Grow m K w K' w) (ih : AC P m0 nt c S1 x S') : AC P m0 nt c S x S' := by
  cases c with
  | loop b =>
    intro K a w Q hS hsz hQ
    obtain ⟨K1, h1, h2⟩ := hp K a w hS
    exact ih K1 a w Q h1 hsz fun K' a' w' k1 k2 k3 k4 => hQ K' a' w' k1 k2 ((h2 m0).trans k3) k4
  | _ =>
    intro K a w Q hS hsz hQ
    obtain ⟨K1, h1, h2⟩ := hp K a w hS
    exact ih K1 a w Q h1 hsz fun K' a' w' k1 k2 k3 k4 => hQ K' a' w' k1 k2 ((h2 m0).trans k3) k4
theorem then_ne {next : Act → World → Prop} {Q : Exit → Act → World → Prop} {x : Ex} (hx : x ≠ .normal) : Exit.then next Q x.toExit = Q x.toExit := by cases x <;> first | exact absurd rfl hx | rfl
theorem runC_sound (hm : P.follows .mixedOrders = true) : ∀ (n : Nat) (c : Code) (S : St) (g : List Gd) (x : Ex) (S' : St) (ob : List Prop) (g' : List Gd), runC P cr m0 nt n c S g = some (x, S', ob, g') → AllP ob → AC P m0 nt c S x S'
  | 0, c, S, g, x, S', ob, g', h, _ => by simp [runC] at h
  | n + 1, c, S, g, x, S', ob, g', h, ho => by
    unfold runC at h
    split at h
    · cases ‹_›
    · -- fz
      rename_i c' S1 u1 u2 u3 u4 n' ids g1 hn
      injection hn with hn
      subst hn
      have ih := runC_sound hm _ c' _ _ _ _ _ _ h ho
      cases c' with
      | loop b =>
        intro K a w Q hS hsz hQ
        obtain ⟨K1, h1, h2⟩ := adm_sound ids hS
        exact ih K1 a w Q h1 hsz fun K' a' w' k1 k2 k3 k4 => hQ K' a' w' k1 k2 ((h2 m0).trans k3) k4
      | _ =>
        intro K a w Q hS hsz hQ
        obtain ⟨K1, h1, h2⟩ := adm_sound ids hS
        exact ih K1 a w Q h1 hsz fun K' a' w' k1 k2 k3 k4 => hQ K' a' w' k1 k2 ((h2 m0).trans k3) k4
    · -- mk
      split at h
      · rename_i S2 hmk
        have ih := runC_sound hm _ _ _ _ _ _ _ _ h ho
        refine AC.pre (fun K a w hS => mk_sound hmk hS) ih
      · cases h
    · -- mkc
      split at h
      · rename_i S2 hmk
        have ih := runC_sound hm _ _ _ _ _ _ _ _ h ho
        refine AC.pre (fun K a w hS => mkc_sound hmk hS) ih
      · cases h
    · -- mk
      split at h
      · rename_i S2 hmk
        have ih := runC_sound hm _ _ _ _ _ _ _ _ h ho
        refine AC.pre (fun K a w hS => mk_sound hmk hS) ih
      · cases h
    · -- mkc
      split at h
      · rename_i S2 hmk
        have ih := runC_sound hm _ _ _ _ _ _ _ _ h ho
        refine AC.pre (fun K a w hS => mkc_sound hmk hS) ih
      · cases h
    · cases h
      exact fun K a w Q hS hsz hQ => wp_skip (hQ K a w hS hsz (Grow.refl _ _ _) rfl)
    · cases h
      exact fun K a w Q hS hsz hQ => wp_ret (hQ K a w hS hsz (Grow.refl _ _ _) rfl)
    · cases h
      exact fun K a w Q hS hsz hQ => wp_exit (hQ K a w hS hsz (Grow.refl _ _ _) rfl)
    · -- seq
      rename_i S1 g1 n' c1 c2 hnf hn
      injection hnf with hnf
      subst hnf
      split at h
      · rename_i S2 ob1 g2 h1
        split at h
        · rename_i x2 S3 ob2 g3 h2
          cases h
          rw [AllP.append_iff] at ho
          have i1 := (runC_sound hm _ _ _ _ _ _ _ _ h1 ho.1).code
          have i2 := (runC_sound hm _ _ _ _ _ _ _ _ h2 ho.2).code
          exact fun K a w Q hS hsz hQ => wp_seq (i1 K a w _ hS hsz fun K1 a1 w1 k1 k2 k3 k4 => i2 K1 a1 w1 Q k1 k2 fun K' a' w' q1 q2 q3 q4 => hQ K' a' w' q1 q2 (k3.trans q3) (q4.trans k4))
        · cases h
      · rename_i hne
        have i1 := (runC_sound hm _ _ _ _ _ _ _ _ h ho).code
        have hx : x ≠ .normal := fun hx => by subst hx; exact hne _ _ _ h
        exact fun K a w Q hS hsz hQ => wp_seq (i1 K a w _ hS hsz fun K1 a1 w1 k1 k2 k3 k4 => by rw [then_ne hx]; exact hQ K1 a1 w1 k1 k2 k3 k4)
    · -- block
      rename_i S1 g1 n' id c1 hnf hn
      injection hnf with hnf
      subst hnf
      split at h
      · rename_i i S2 ob1 g2 h1
        have hob : AllP ob1 := by split at h <;> (cases h; exact ho)
        have i1 := (runC_sound hm _ _ _ _ _ _ _ _ h1 hob).code
        split at h
        · rename_i hb
          cases h
          have := beq_eq' hb
          subst this
          exact fun K a w Q hS hsz hQ => wp_block (i1 K a w _ hS hsz fun K1 a1 w1 k1 k2 k3 k4 => by
            show Exit.inBlock i Q (.exit i) a1 w1
            simp only [Exit.inBlock, if_true]
            exact hQ K1 a1 w1 k1 k2 k3 k4)
        · rename_i hb
          cases h
          exact fun K a w Q hS hsz hQ => wp_block (i1 K a w _ hS hsz fun K1 a1 w1 k1 k2 k3 k4 => by
            show Exit.inBlock id Q (.exit i) a1 w1
            simp only [Exit.inBlock, if_neg (Nat.ne_of_beq_eq_false hb)]
            exact hQ K1 a1 w1 k1 k2 k3 k4)
      · rename_i hne
        have i1 := (runC_sound hm _ _ _ _ _ _ _ _ h ho).code
        exact fun K a w Q hS hsz hQ => wp_block (i1 K a w _ hS hsz fun K1 a1 w1 k1 k2 k3 k4 => by
          cases x with
          | exit i => exact absurd h (hne _ _ _ _)
          | normal => exact hQ K1 a1 w1 k1 k2 k3 k4
          | ret => exact hQ K1 a1 w1 k1 k2 k3 k4)
    · -- cond
      rename_i S1 g1 n' cnd c1 c2 hnf hn
      injection hnf with hnf
      subst hnf
      split at h
      · rename_i hc
        have i1 := (runC_sound hm _ _ _ _ _ _ _ _ h ho).code
        exact fun K a w Q hS hsz hQ => wp_cond_true (opv_sound hS hc).bool_inv (i1 K a w Q hS hsz hQ)
      · rename_i hc
        have i1 := (runC_sound hm _ _ _ _ _ _ _ _ h ho).code
        exact fun K a w Q hS hsz hQ => wp_cond_false (opv_sound hS hc).bool_inv (i1 K a w Q hS hsz hQ)
      · cases h
    · -- region
      rename_i S1 g1 n' id ops draw hnf hn
      split at h
      · rename_i S2 ob1 g2 hr
        cases h
        exact region_sound hm hr ho
      · cases h
    · -- a loop that is told
      rename_i n' c1 S1 keep p x1 S2 g1 hn
      split at h
      · rename_i h1 h2
        cases h
        intro K a w Q hS hsz hQ
        obtain ⟨K1, r1, r2⟩ := re_sound h2 h1 hS (keep := keep)
        exact ho.1 K1 a w Q r1 hsz fun K' a' w' k1 k2 k3 k4 => hQ K' a' w' k1 k2 (r2.trans k3) k4
      · cases h
    · -- a round
      rename_i n' c1 S1 g1 hn
      injection hn with hn
      subst hn
      split at h
      · rename_i S2 ob1 g2 h1
        split at h
        · rename_i x2 S3 ob2 g3 h2
          cases h
          rw [AllP.append_iff] at ho
          have i1 := (runC_sound hm _ _ _ _ _ _ _ _ h1 ho.1).code
          have i2 := runC_sound hm _ _ _ _ _ _ _ _ h2 ho.2
          exact fun K a w Q hS hsz hQ => loop_go (i1 K a w _ hS hsz fun K1 a1 w1 k1 k2 k3 k4 => i2 K1 a1 w1 Q k1 k2 fun K' a' w' q1 q2 q3 q4 => hQ K' a' w' q1 q2 (k3.trans q3) (q4.trans k4))
        · cases h
      · rename_i hne
        have i1 := (runC_sound hm _ _ _ _ _ _ _ _ h ho).code
        have hx : x ≠ .normal := fun hx => by subst hx; exact hne _ _ _ h
        exact fun K a w Q hS hsz hQ => loop_go (i1 K a w _ hS hsz fun K1 a1 w1 k1 k2 k3 k4 => by rw [then_ne hx]; exact hQ K1 a1 w1 k1 k2 k3 k4)
    · cases h
end
end Go.Proofs.Ytidgcfgkcidkiaa.X
