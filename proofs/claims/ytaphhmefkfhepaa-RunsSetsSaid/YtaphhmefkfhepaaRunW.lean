/- Package runs: empty, Clone, Of: by runs along paths. -/
import Derived.Test.YtaphhmefkfhepaaRunV
namespace Go.Proofs.Ytaphhmefkfhepaa.Run
open Go Go.RowKit Go.Proofs.Ytaphhmefkfhepaa.L Go.Proofs.Ytaphhmefkfhepaa.X
set_option linter.unusedVariables false
set_option linter.unusedSimpArgs false

theorem lst_down {K : Ctx} {get : Nat → X.Obj} {w : World} (hR : Rel K get w) {l : List Rn} (h64 : All64 l) {c : Value} (hv : VR K (.lst 2 (l.map enc)) c) : SliceK RnR anyA w c l := by
  cases hv with
  | pure h =>
    cases h with
    | lst sz xs ad cp b o f hsz hc hm had hl hM hp =>
      simp only [List.length_map] at hc ⊢
      refine ⟨ad, cp, rfl, hc, hm, ?_⟩
      by_cases h0 : l = []
      · exact .inl h0
      · obtain rfl := had.resolve_left (by simp [h0])
        have cell : ∀ (i : Nat) r, l[i]? = some r → w.cell? ⟨b, o + i * 2, none⟩ = some (.int .u64 r.f) ∧ w.cell? ⟨b, o + i * 2 + 1, none⟩ = some (.int .u64 r.t) := by
          intro i r hr
          have e : (l.map enc)[i]? = some (enc r) := by simp [hr]
          have k1 := hM i _ 0 (.int .u64 r.f) e rfl
          have k2 := hM i _ 1 (.int .u64 r.t) e rfl
          have q1 := hp i _ 0 (.int .u64 r.f) e rfl
          have q2 := hp i _ 1 (.int .u64 r.t) e rfl
          generalize f i 0 = v1 at k1 q1
          generalize f i 1 = v2 at k2 q2
          cases q1; cases q2
          exact ⟨(hR.mem _ _ _ k1).1, (hR.mem _ _ _ k2).1⟩
        obtain ⟨r0, hr0⟩ := get_of (l := l) (k := 0) (by cases l; simp at h0; simp)
        obtain ⟨cs, T, fz, hb, _⟩ := cell_block (cell 0 r0 hr0).1
        have hat : ∀ (j : Nat) v, w.cell? ⟨b, o + j, none⟩ = some v → (cs.toList.drop o)[j]? = some v := by
          intro j v hv
          rw [cell_of_row w _ _ cs T fz hb] at hv
          rw [List.getElem?_drop]; simpa using hv
        have hlen : o + l.length * 2 ≤ cs.size := by
          obtain ⟨r, hr⟩ := get_of (l := l) (k := l.length - 1) (by have := List.length_pos_iff.2 h0; omega)
          have := (cell _ r hr).2
          rw [cell_of_row w _ _ cs T fz hb] at this
          have := (Array.getElem?_eq_some_iff.1 this).1
          have := List.length_pos_iff.2 h0
          omega
        refine .inr ⟨b, cs.toList.take o, (cs.toList.drop o).take (l.length * 2), (cs.toList.drop o).drop (l.length * 2), T, fz, ?_, trivial, ?_, ?_⟩
        · rw [List.length_take, Array.length_toList, Nat.min_eq_left (by omega)]
        · rw [hb, List.append_assoc, List.take_append_drop, List.take_append_drop]
        · exact cells_run l _ fun i r hr => ⟨hat _ _ (cell i r hr).1, by have := (cell i r hr).2; rw [Nat.add_assoc] at this; exact hat _ _ this, h64 r (List.mem_of_getElem? hr)⟩
theorem clone_ac (l : List Rn) (h64 : All64 l) (hb : l.length ≤ 1099511627776) : ACalls Try.prog 34 [.lst 2 (l.map enc)] [] (.row 0 2 l.length) [.row 30 2 (l.map enc)] := by
  refine ⟨⟨_, Try.func34, rfl, rfl⟩, fun K w cs hR hcs => ?_⟩
  obtain ⟨v, vs, rfl, hv, hvs⟩ := hcs.cons_inv
  obtain rfl := hvs.nil_inv
  refine (clone_calls v l anyA w (lst_down hR h64 hv) hb).mono ?_
  rintro e w' ⟨v', rfl, ho, hn, hk⟩
  obtain ⟨b, cp, o, h1, h2, h3, hup⟩ := own_up (T := 30) ho w.heap.size
  let o1 : X.Obj := .row 30 2 (l.map enc)
  obtain ⟨u1, u2⟩ := hup (K.put 0 o1.kind b cp o) 0 (by rw [put_kind]; simp [o1, Obj.kind]) put_cap put_blk put_off
  have hhole : K.kind 0 = .hole := by rw [hR.kinds]; rfl
  obtain ⟨r1, r2⟩ := hR.change (K' := K.put 0 o1.kind b cp o) (get' := getO [o1]) (w' := w') (fun i => i = 0) ⟨fun _ _ _ h => h, fun i hi => by
      by_cases h0 : i = 0
      · subst h0; exact absurd hhole hi
      · exact .inr (by simp [Ctx.put, h0])⟩ (fun i hi => ⟨by simp [Ctx.put, hi], by simp [Ctx.put, hi], by simp [Ctx.put, hi], by simp [Ctx.put, hi], by
        match i, hi with
        | 0, hi => exact absurd rfl hi
        | n + 1, _ => simp [getO]⟩) (hk.mono fun _ _ h => h.elim) (by rintro i rfl; rw [put_kind]; rfl) (by rintro i rfl hv; rw [hhole] at hv; cases hv) (by rintro i rfl; exact u1) (by
      rintro i rfl ho
      have hc : cp ≠ 0 := by unfold Ctx.own at ho; rw [put_kind, put_cap] at ho; simpa [o1, Obj.kind] using ho
      rw [put_blk]
      exact .inr (hn b ((h1 b).2 ⟨hc, rfl⟩))) (by rintro i j rfl rfl; intros; rfl) (fun b o v h => .inl h)
  exact ⟨_, _, rfl, r1, u2, r2 _⟩

theorem empty_ac (r : Rn) : ACalls Try.prog 36 [enc r] [] (.bool (decide (r.t ≤ r.f))) [] := by
  refine acallsK mixed Try.func36 rfl [0, 1, 2] 1000 ([.k]) [] [] (v1 := AV.bool (decide (Rn.t r ≤ Rn.f r))) (objs1 := []) (ob := []) (by kernel_rfl) (by first | exact rfl | exact ⟨rfl, rfl⟩ | (simp []; done)) trivial

theorem good_snoc {l : List Rn} {x : Rn} (h : Good l) (hx : 0 ≤ x.f ∧ x.f < x.t ∧ x.t ≤ 18446744073709551615) (hl : ∀ y, l.getLast? = some y → y.t < x.f) : Good (l ++ [x]) := by
  refine good_append.2 ⟨h, good_cons hx (by simp) good_nil, fun y hy z hz => ?_⟩
  simp at hz; subst hz
  cases hg : l.getLast? with
  | none => simp at hg; subst hg; cases hy
  | some u =>
    have h1 := hl u hg
    obtain ⟨l', rfl⟩ := List.getLast?_eq_some_iff.1 hg
    obtain ⟨_, g2, g3⟩ := good_append.1 h
    rcases List.mem_append.1 hy with hy | hy
    · have := g3 y hy u (by simp)
      have := g2.head.1
      omega
    · simp at hy; subst hy; exact h1
theorem good_take {l : List Rn} (h : Good l) (k : Nat) : Good (l.take k) := by
  have := h
  rw [← List.take_append_drop k l] at this
  exact (good_append.1 this).1
/-- Run k's test in Of: what holds of the list up to it. -/
theorem good_step {l : List Rn} (h64 : All64 l) {k : Nat} {x : Rn} (hx : l[k]? = some x) (h : Good (l.take k)) (hne : ¬ x.t ≤ x.f) (hp : k = 0 ∨ ∃ y, l[k - 1]? = some y ∧ ¬ x.f ≤ y.t) : Good (l.take (k + 1)) := by
  rw [List.take_add_one, hx]
  refine good_snoc h ((h64 x (List.mem_of_getElem? hx)).bounds (by omega)) fun y hy => ?_
  rcases hp with rfl | ⟨z, hz, hzx⟩
  · simp at hy
  · have hlt := (List.getElem?_eq_some_iff.1 hx).1
    by_cases h0 : k = 0
    · subst h0; simp at hy
    · rw [List.getLast?_eq_getElem?, List.length_take, Nat.min_eq_left (by omega), List.getElem?_take, if_pos (by omega), hz] at hy
      injection hy with hy; subst hy; omega
theorem good_pre {l : List Rn} (h : Good l) {k : Nat} {x y : Rn} (hk : 0 < k) (hx : l[k]? = some x) (hy : l[k - 1]? = some y) : y.t < x.f := by
  have hp := h.apart
  rw [List.pairwise_iff_getElem] at hp
  obtain ⟨h1, rfl⟩ := List.getElem?_eq_some_iff.1 hx
  obtain ⟨h2, rfl⟩ := List.getElem?_eq_some_iff.1 hy
  exact hp _ _ h2 h1 (by omega)
theorem wrap_pred {k : Nat} (hk : 0 < k) (hb : k ≤ 1099511627776) : IntKind.i64.wrap ((k : Int) - 1) = ((k - 1 : Nat) : Int) := by
  simp [IntKind.wrap, IntKind.bits, IntKind.signed]; omega
theorem of_loop_good (l : List Rn) (hg : Good l) (hb : l.length ≤ 1099511627775) : ∀ (n k : Nat), l.length = k + n →
    ALoop Try.prog 0 Try.f29.ntmps (loopB Try.f29 0) ⟨[(8, .int .i64 k), (7, .int .i64 l.length), (6, .lst 2 (l.map enc)), (0, .lst 2 (l.map enc))], []⟩ (.exit 0) ⟨[(0, .lst 2 (l.map enc))], []⟩
  | 0, k, hk => by
    refine aloopK mixed [0, 2, 3, 4, 5, 6, 7, 8, 9, 29] 1000 ([.go, .f]) [0] [] (S1 := { env := [(0, AV.lst 2 (List.map enc l))], objs := [] }) (ob := [decide ((↑k : Int) < (↑(List.length l) : Int)) = false]) (by kernel_rfl) (by first | exact rfl | exact ⟨rfl, rfl⟩ | (simp []; done)) ⟨(by first | exact rfl | (simp []; done) | (simp []; omega) | omega), trivial⟩
  | n + 1, k, hk => by
    obtain ⟨x, hx⟩ := get_of (l := l) (k := k) (by omega)
    have he : decide (x.t ≤ x.f) = false := by have := hg.each x (List.mem_of_getElem? hx); simp; omega
    have hm := empty_ac x
    rw [he] at hm
    by_cases h0 : k = 0
    · refine aloopK mixed [0, 2, 3, 4, 5, 6, 7, 8, 9, 29] 1000 ([.go, .t, .ix k, .el (enc x), .call [] false true (.bool false) [], .f, .n ((k+1:Nat):Int), .lp [8,7,6,0] [] (.exit 0) ⟨[(0, AV.lst 2 (List.map enc l))], []⟩]) [0] [] (S1 := { env := [(0, AV.lst 2 (List.map enc l))], objs := [] }) (ob := [decide ((↑k : Int) < (↑(List.length l) : Int)) = true,
      k < List.length (List.map enc l),
      (↑k : Int) = (↑k : Int),
      (List.map enc l)[k]? = some (AV.agg [AV.int IntKind.u64 (Rn.f x), AV.int IntKind.u64 (Rn.t x)]),
      ACalls Try.prog 36 [AV.agg [AV.int IntKind.u64 (Rn.f x), AV.int IntKind.u64 (Rn.t x)]] [] (AV.bool false) [],
      decide ((↑k : Int) > 0) = false,
      IntKind.wrap IntKind.i64 ((↑k : Int) + 1) = (↑(k + 1) : Int),
      ALoop Try.prog 0 35 (loopB Try.f29 0) { env := [(8, AV.int IntKind.i64 (↑(k + 1) : Int)), (7, AV.int IntKind.i64 (↑(List.length l) : Int)), (6, AV.lst 2 (List.map enc l)), (0, AV.lst 2 (List.map enc l))], objs := [] } (Ex.exit 0) { env := [(0, AV.lst 2 (List.map enc l))], objs := [] }]) (by kernel_rfl) (by first | exact rfl | exact ⟨rfl, rfl⟩ | (simp [hx, enc]; done) | (exact wrap64 (by omega))) ⟨(by first | exact rfl | (simp [hx, enc]; done) | (simp [hx, enc]; omega) | omega | (exact wrap64 (by omega))), (by first | exact rfl | (simp [hx, enc]; done) | (simp [hx, enc]; omega) | omega | (exact wrap64 (by omega))), (by first | exact rfl | (simp [hx, enc]; done) | (simp [hx, enc]; omega) | omega | (exact wrap64 (by omega))), (by first | exact rfl | (simp [hx, enc]; done) | (simp [hx, enc]; omega) | omega | (exact wrap64 (by omega))), ?q118_1, (by first | exact rfl | (simp [hx, enc]; done) | (simp [hx, enc]; omega) | omega | (exact wrap64 (by omega))), (by first | exact rfl | (simp [hx, enc]; done) | (simp [hx, enc]; omega) | omega | (exact wrap64 (by omega))), ?q118_2, trivial⟩
      · exact hm
      · exact of_loop_good l hg hb n (k + 1) (by omega)
    · obtain ⟨y, hy⟩ := get_of (l := l) (k := k - 1) (by omega)
      have := good_pre hg (by omega) hx hy
      refine aloopK mixed [0, 2, 3, 4, 5, 6, 7, 8, 9, 29] 1000 ([.go, .t, .ix k, .el (enc x), .call [] false true (.bool false) [], .t, .n ((k - 1 : Nat) : Int), .ix (k-1), .el (enc y), .f, .n ((k+1:Nat):Int), .lp [8,7,6,0] [] (.exit 0) ⟨[(0, AV.lst 2 (List.map enc l))], []⟩]) [0] [] (S1 := { env := [(0, AV.lst 2 (List.map enc l))], objs := [] }) (ob := [decide ((↑k : Int) < (↑(List.length l) : Int)) = true,
      k < List.length (List.map enc l),
      (↑k : Int) = (↑k : Int),
      (List.map enc l)[k]? = some (AV.agg [AV.int IntKind.u64 (Rn.f x), AV.int IntKind.u64 (Rn.t x)]),
      ACalls Try.prog 36 [AV.agg [AV.int IntKind.u64 (Rn.f x), AV.int IntKind.u64 (Rn.t x)]] [] (AV.bool false) [],
      decide ((↑k : Int) > 0) = true,
      IntKind.wrap IntKind.i64 ((↑k : Int) - 1) = (↑(k - 1) : Int),
      k - 1 < List.length (List.map enc l),
      (↑(k - 1) : Int) = (↑(k - 1) : Int),
      (List.map enc l)[k - 1]? = some (AV.agg [AV.int IntKind.u64 (Rn.f y), AV.int IntKind.u64 (Rn.t y)]),
      decide (Rn.f x ≤ Rn.t y) = false,
      IntKind.wrap IntKind.i64 ((↑k : Int) + 1) = (↑(k + 1) : Int),
      ALoop Try.prog 0 35 (loopB Try.f29 0) { env := [(8, AV.int IntKind.i64 (↑(k + 1) : Int)), (7, AV.int IntKind.i64 (↑(List.length l) : Int)), (6, AV.lst 2 (List.map enc l)), (0, AV.lst 2 (List.map enc l))], objs := [] } (Ex.exit 0) { env := [(0, AV.lst 2 (List.map enc l))], objs := [] }]) (by kernel_rfl) (by first | exact rfl | exact ⟨rfl, rfl⟩ | (simp [hx, hy, enc]; done) | (first | exact wrap64 (by omega) | exact wrap_pred (by omega) (by omega))) ⟨(by first | exact rfl | (simp [hx, hy, enc]; done) | (simp [hx, hy, enc]; omega) | omega | (first | exact wrap64 (by omega) | exact wrap_pred (by omega) (by omega))), (by first | exact rfl | (simp [hx, hy, enc]; done) | (simp [hx, hy, enc]; omega) | omega | (first | exact wrap64 (by omega) | exact wrap_pred (by omega) (by omega))), (by first | exact rfl | (simp [hx, hy, enc]; done) | (simp [hx, hy, enc]; omega) | omega | (first | exact wrap64 (by omega) | exact wrap_pred (by omega) (by omega))), (by first | exact rfl | (simp [hx, hy, enc]; done) | (simp [hx, hy, enc]; omega) | omega | (first | exact wrap64 (by omega) | exact wrap_pred (by omega) (by omega))), ?q123_1, (by first | exact rfl | (simp [hx, hy, enc]; done) | (simp [hx, hy, enc]; omega) | omega | (first | exact wrap64 (by omega) | exact wrap_pred (by omega) (by omega))), (by first | exact rfl | (simp [hx, hy, enc]; done) | (simp [hx, hy, enc]; omega) | omega | (first | exact wrap64 (by omega) | exact wrap_pred (by omega) (by omega))), (by first | exact rfl | (simp [hx, hy, enc]; done) | (simp [hx, hy, enc]; omega) | omega | (first | exact wrap64 (by omega) | exact wrap_pred (by omega) (by omega))), (by first | exact rfl | (simp [hx, hy, enc]; done) | (simp [hx, hy, enc]; omega) | omega | (first | exact wrap64 (by omega) | exact wrap_pred (by omega) (by omega))), (by first | exact rfl | (simp [hx, hy, enc]; done) | (simp [hx, hy, enc]; omega) | omega | (first | exact wrap64 (by omega) | exact wrap_pred (by omega) (by omega))), (by first | exact rfl | (simp [hx, hy, enc]; done) | (simp [hx, hy, enc]; omega) | omega | (first | exact wrap64 (by omega) | exact wrap_pred (by omega) (by omega))), (by first | exact rfl | (simp [hx, hy, enc]; done) | (simp [hx, hy, enc]; omega) | omega | (first | exact wrap64 (by omega) | exact wrap_pred (by omega) (by omega))), ?q123_2, trivial⟩
      · exact hm
      · exact of_loop_good l hg hb n (k + 1) (by omega)
theorem of_loop_bad (l : List Rn) (h64 : All64 l) (hg : ¬ Good l) (hb : l.length ≤ 1099511627775) : ∀ (n k : Nat), l.length = k + n → Good (l.take k) →
    ALoop Try.prog 0 Try.f29.ntmps (loopB Try.f29 0) ⟨[(8, .int .i64 k), (7, .int .i64 l.length), (6, .lst 2 (l.map enc)), (0, .lst 2 (l.map enc))], []⟩ .ret ⟨[(2, .nilp), (3, .bool false)], []⟩
  | 0, k, hk, ht => absurd (by rwa [List.take_of_length_le (by omega)] at ht) hg
  | n + 1, k, hk, ht => by
    obtain ⟨x, hx⟩ := get_of (l := l) (k := k) (by omega)
    have hm := empty_ac x
    by_cases he : x.t ≤ x.f
    · rw [show decide (x.t ≤ x.f) = true by simpa using he] at hm
      refine aloopK mixed [0, 2, 3, 4, 5, 6, 7, 8, 9, 29] 1000 ([.go, .t, .ix k, .el (enc x), .call [] false true (.bool true) []]) [2, 3] [] (S1 := { env := [(2, AV.nilp), (3, AV.bool false)], objs := [] }) (ob := [decide ((↑k : Int) < (↑(List.length l) : Int)) = true,
      k < List.length (List.map enc l),
      (↑k : Int) = (↑k : Int),
      (List.map enc l)[k]? = some (AV.agg [AV.int IntKind.u64 (Rn.f x), AV.int IntKind.u64 (Rn.t x)]),
      ACalls Try.prog 36 [AV.agg [AV.int IntKind.u64 (Rn.f x), AV.int IntKind.u64 (Rn.t x)]] [] (AV.bool true) []]) (by kernel_rfl) (by first | exact rfl | exact ⟨rfl, rfl⟩ | (simp [hx, enc]; done)) ⟨(by first | exact rfl | (simp [hx, enc]; done) | (simp [hx, enc]; omega) | omega), (by first | exact rfl | (simp [hx, enc]; done) | (simp [hx, enc]; omega) | omega), (by first | exact rfl | (simp [hx, enc]; done) | (simp [hx, enc]; omega) | omega), (by first | exact rfl | (simp [hx, enc]; done) | (simp [hx, enc]; omega) | omega), ?q134_1, trivial⟩
      exact hm
    · rw [show decide (x.t ≤ x.f) = false by simpa using he] at hm
      by_cases h0 : k = 0
      · have ih := of_loop_bad l h64 hg hb n (k + 1) (by omega) (good_step h64 hx ht he (.inl h0))
        refine aloopK mixed [0, 2, 3, 4, 5, 6, 7, 8, 9, 29] 1000 ([.go, .t, .ix k, .el (enc x), .call [] false true (.bool false) [], .f, .n ((k+1:Nat):Int), .lp [8,7,6,0] [] .ret ⟨[(2, .nilp), (3, .bool false)], []⟩]) [2, 3] [] (S1 := { env := [(2, AV.nilp), (3, AV.bool false)], objs := [] }) (ob := [decide ((↑k : Int) < (↑(List.length l) : Int)) = true,
      k < List.length (List.map enc l),
      (↑k : Int) = (↑k : Int),
      (List.map enc l)[k]? = some (AV.agg [AV.int IntKind.u64 (Rn.f x), AV.int IntKind.u64 (Rn.t x)]),
      ACalls Try.prog 36 [AV.agg [AV.int IntKind.u64 (Rn.f x), AV.int IntKind.u64 (Rn.t x)]] [] (AV.bool false) [],
      decide ((↑k : Int) > 0) = false,
      IntKind.wrap IntKind.i64 ((↑k : Int) + 1) = (↑(k + 1) : Int),
      ALoop Try.prog 0 35 (loopB Try.f29 0) { env := [(8, AV.int IntKind.i64 (↑(k + 1) : Int)), (7, AV.int IntKind.i64 (↑(List.length l) : Int)), (6, AV.lst 2 (List.map enc l)), (0, AV.lst 2 (List.map enc l))], objs := [] } Ex.ret { env := [(2, AV.nilp), (3, AV.bool false)], objs := [] }]) (by kernel_rfl) (by first | exact rfl | exact ⟨rfl, rfl⟩ | (simp [hx, enc]; done) | (exact wrap64 (by omega))) ⟨(by first | exact rfl | (simp [hx, enc]; done) | (simp [hx, enc]; omega) | omega | (exact wrap64 (by omega))), (by first | exact rfl | (simp [hx, enc]; done) | (simp [hx, enc]; omega) | omega | (exact wrap64 (by omega))), (by first | exact rfl | (simp [hx, enc]; done) | (simp [hx, enc]; omega) | omega | (exact wrap64 (by omega))), (by first | exact rfl | (simp [hx, enc]; done) | (simp [hx, enc]; omega) | omega | (exact wrap64 (by omega))), ?q139_1, (by first | exact rfl | (simp [hx, enc]; done) | (simp [hx, enc]; omega) | omega | (exact wrap64 (by omega))), (by first | exact rfl | (simp [hx, enc]; done) | (simp [hx, enc]; omega) | omega | (exact wrap64 (by omega))), ?q139_2, trivial⟩
        · exact hm
        · exact ih
      · obtain ⟨y, hy⟩ := get_of (l := l) (k := k - 1) (by omega)
        by_cases hxy : x.f ≤ y.t
        · refine aloopK mixed [0, 2, 3, 4, 5, 6, 7, 8, 9, 29] 1000 ([.go, .t, .ix k, .el (enc x), .call [] false true (.bool false) [], .t, .n ((k - 1 : Nat) : Int), .ix (k-1), .el (enc y), .t]) [2, 3] [] (S1 := { env := [(2, AV.nilp), (3, AV.bool false)], objs := [] }) (ob := [decide ((↑k : Int) < (↑(List.length l) : Int)) = true,
      k < List.length (List.map enc l),
      (↑k : Int) = (↑k : Int),
      (List.map enc l)[k]? = some (AV.agg [AV.int IntKind.u64 (Rn.f x), AV.int IntKind.u64 (Rn.t x)]),
      ACalls Try.prog 36 [AV.agg [AV.int IntKind.u64 (Rn.f x), AV.int IntKind.u64 (Rn.t x)]] [] (AV.bool false) [],
      decide ((↑k : Int) > 0) = true,
      IntKind.wrap IntKind.i64 ((↑k : Int) - 1) = (↑(k - 1) : Int),
      k - 1 < List.length (List.map enc l),
      (↑(k - 1) : Int) = (↑(k - 1) : Int),
      (List.map enc l)[k - 1]? = some (AV.agg [AV.int IntKind.u64 (Rn.f y), AV.int IntKind.u64 (Rn.t y)]),
      decide (Rn.f x ≤ Rn.t y) = true]) (by kernel_rfl) (by first | exact rfl | exact ⟨rfl, rfl⟩ | (simp [hx, hy, enc, hxy]; done) | (exact wrap_pred (by omega) (by omega))) ⟨(by first | exact rfl | (simp [hx, hy, enc, hxy]; done) | (simp [hx, hy, enc, hxy]; omega) | omega | (exact wrap_pred (by omega) (by omega))), (by first | exact rfl | (simp [hx, hy, enc, hxy]; done) | (simp [hx, hy, enc, hxy]; omega) | omega | (exact wrap_pred (by omega) (by omega))), (by first | exact rfl | (simp [hx, hy, enc, hxy]; done) | (simp [hx, hy, enc, hxy]; omega) | omega | (exact wrap_pred (by omega) (by omega))), (by first | exact rfl | (simp [hx, hy, enc, hxy]; done) | (simp [hx, hy, enc, hxy]; omega) | omega | (exact wrap_pred (by omega) (by omega))), ?q144_1, (by first | exact rfl | (simp [hx, hy, enc, hxy]; done) | (simp [hx, hy, enc, hxy]; omega) | omega | (exact wrap_pred (by omega) (by omega))), (by first | exact rfl | (simp [hx, hy, enc, hxy]; done) | (simp [hx, hy, enc, hxy]; omega) | omega | (exact wrap_pred (by omega) (by omega))), (by first | exact rfl | (simp [hx, hy, enc, hxy]; done) | (simp [hx, hy, enc, hxy]; omega) | omega | (exact wrap_pred (by omega) (by omega))), (by first | exact rfl | (simp [hx, hy, enc, hxy]; done) | (simp [hx, hy, enc, hxy]; omega) | omega | (exact wrap_pred (by omega) (by omega))), (by first | exact rfl | (simp [hx, hy, enc, hxy]; done) | (simp [hx, hy, enc, hxy]; omega) | omega | (exact wrap_pred (by omega) (by omega))), (by first | exact rfl | (simp [hx, hy, enc, hxy]; done) | (simp [hx, hy, enc, hxy]; omega) | omega | (exact wrap_pred (by omega) (by omega))), trivial⟩
          exact hm
        · have ih := of_loop_bad l h64 hg hb n (k + 1) (by omega) (good_step h64 hx ht he (.inr ⟨y, hy, hxy⟩))
          refine aloopK mixed [0, 2, 3, 4, 5, 6, 7, 8, 9, 29] 1000 ([.go, .t, .ix k, .el (enc x), .call [] false true (.bool false) [], .t, .n ((k - 1 : Nat) : Int), .ix (k-1), .el (enc y), .f, .n ((k+1:Nat):Int), .lp [8,7,6,0] [] .ret ⟨[(2, .nilp), (3, .bool false)], []⟩]) [2, 3] [] (S1 := { env := [(2, AV.nilp), (3, AV.bool false)], objs := [] }) (ob := [decide ((↑k : Int) < (↑(List.length l) : Int)) = true,
      k < List.length (List.map enc l),
      (↑k : Int) = (↑k : Int),
      (List.map enc l)[k]? = some (AV.agg [AV.int IntKind.u64 (Rn.f x), AV.int IntKind.u64 (Rn.t x)]),
      ACalls Try.prog 36 [AV.agg [AV.int IntKind.u64 (Rn.f x), AV.int IntKind.u64 (Rn.t x)]] [] (AV.bool false) [],
      decide ((↑k : Int) > 0) = true,
      IntKind.wrap IntKind.i64 ((↑k : Int) - 1) = (↑(k - 1) : Int),
      k - 1 < List.length (List.map enc l),
      (↑(k - 1) : Int) = (↑(k - 1) : Int),
      (List.map enc l)[k - 1]? = some (AV.agg [AV.int IntKind.u64 (Rn.f y), AV.int IntKind.u64 (Rn.t y)]),
      decide (Rn.f x ≤ Rn.t y) = false,
      IntKind.wrap IntKind.i64 ((↑k : Int) + 1) = (↑(k + 1) : Int),
      ALoop Try.prog 0 35 (loopB Try.f29 0) { env := [(8, AV.int IntKind.i64 (↑(k + 1) : Int)), (7, AV.int IntKind.i64 (↑(List.length l) : Int)), (6, AV.lst 2 (List.map enc l)), (0, AV.lst 2 (List.map enc l))], objs := [] } Ex.ret { env := [(2, AV.nilp), (3, AV.bool false)], objs := [] }]) (by kernel_rfl) (by first | exact rfl | exact ⟨rfl, rfl⟩ | (simp [hx, hy, enc]; done) | (first | exact wrap64 (by omega) | exact wrap_pred (by omega) (by omega))) ⟨(by first | exact rfl | (simp [hx, hy, enc]; done) | (simp [hx, hy, enc]; omega) | omega | (first | exact wrap64 (by omega) | exact wrap_pred (by omega) (by omega))), (by first | exact rfl | (simp [hx, hy, enc]; done) | (simp [hx, hy, enc]; omega) | omega | (first | exact wrap64 (by omega) | exact wrap_pred (by omega) (by omega))), (by first | exact rfl | (simp [hx, hy, enc]; done) | (simp [hx, hy, enc]; omega) | omega | (first | exact wrap64 (by omega) | exact wrap_pred (by omega) (by omega))), (by first | exact rfl | (simp [hx, hy, enc]; done) | (simp [hx, hy, enc]; omega) | omega | (first | exact wrap64 (by omega) | exact wrap_pred (by omega) (by omega))), ?q147_1, (by first | exact rfl | (simp [hx, hy, enc]; done) | (simp [hx, hy, enc]; omega) | omega | (first | exact wrap64 (by omega) | exact wrap_pred (by omega) (by omega))), (by first | exact rfl | (simp [hx, hy, enc]; done) | (simp [hx, hy, enc]; omega) | omega | (first | exact wrap64 (by omega) | exact wrap_pred (by omega) (by omega))), (by first | exact rfl | (simp [hx, hy, enc]; done) | (simp [hx, hy, enc]; omega) | omega | (first | exact wrap64 (by omega) | exact wrap_pred (by omega) (by omega))), (by first | exact rfl | (simp [hx, hy, enc]; done) | (simp [hx, hy, enc]; omega) | omega | (first | exact wrap64 (by omega) | exact wrap_pred (by omega) (by omega))), (by first | exact rfl | (simp [hx, hy, enc]; done) | (simp [hx, hy, enc]; omega) | omega | (first | exact wrap64 (by omega) | exact wrap_pred (by omega) (by omega))), (by first | exact rfl | (simp [hx, hy, enc]; done) | (simp [hx, hy, enc]; omega) | omega | (first | exact wrap64 (by omega) | exact wrap_pred (by omega) (by omega))), (by first | exact rfl | (simp [hx, hy, enc]; done) | (simp [hx, hy, enc]; omega) | omega | (first | exact wrap64 (by omega) | exact wrap_pred (by omega) (by omega))), ?q147_2, trivial⟩
          · exact hm
          · exact ih
theorem of_good_ac (l : List Rn) (hg : Good l) (hb : l.length ≤ 1099511627775) : ACalls Try.prog 29 [.lst 2 (l.map enc)] [] (.tup [.ptr 0 0, .bool true]) (setObjs l) := by
  refine acallsK mixed Try.func29 rfl [0, 2, 3, 4, 5, 6, 7, 8, 9, 29] 1000 ([.n l.length, .lp [8,7,6,0] [] (.exit 0) ⟨[(0, AV.lst 2 (List.map enc l))], []⟩, .call [] false false (.row 0 2 l.length) [.row 30 2 (l.map enc)]]) [] [1,0] (v1 := AV.tup [AV.ptr 0 0, AV.bool true]) (objs1 := [Obj.vars 62 [AV.row 1 2 (List.length l)], Obj.row 30 2 (List.map enc l)]) (ob := [(↑(List.length (List.map enc l)) : Int) = (↑(List.length l) : Int),
      ALoop Try.prog 0 35 (loopB Try.f29 0) { env := [(8, AV.int IntKind.i64 0), (7, AV.int IntKind.i64 (↑(List.length l) : Int)), (6, AV.lst 2 (List.map enc l)), (0, AV.lst 2 (List.map enc l))], objs := [] } (Ex.exit 0) { env := [(0, AV.lst 2 (List.map enc l))], objs := [] },
      ACalls Try.prog 34 [AV.lst 2 (List.map enc l)] [] (AV.row 0 2 (List.length l)) [Obj.row 30 2 (List.map enc l)]]) (by kernel_rfl) (by first | exact rfl | exact ⟨rfl, rfl⟩ | (simp [setObjs]; done)) ⟨(by first | exact rfl | (simp [setObjs]; done) | (simp [setObjs]; omega) | omega), ?q151_1, ?q151_2, trivial⟩
  · exact of_loop_good l hg hb l.length 0 (by simp)
  · exact clone_ac l hg.all (by omega)
theorem of_bad_ac (l : List Rn) (h64 : All64 l) (hg : ¬ Good l) (hb : l.length ≤ 1099511627775) : ACalls Try.prog 29 [.lst 2 (l.map enc)] [] (.tup [.nilp, .bool false]) [] := by
  refine acallsK mixed Try.func29 rfl [0, 2, 3, 4, 5, 6, 7, 8, 9, 29] 1000 ([.n l.length, .lp [8,7,6,0] [] .ret ⟨[(2, .nilp), (3, .bool false)], []⟩]) [] [] (v1 := AV.tup [AV.nilp, AV.bool false]) (objs1 := []) (ob := [(↑(List.length (List.map enc l)) : Int) = (↑(List.length l) : Int),
      ALoop Try.prog 0 35 (loopB Try.f29 0) { env := [(8, AV.int IntKind.i64 0), (7, AV.int IntKind.i64 (↑(List.length l) : Int)), (6, AV.lst 2 (List.map enc l)), (0, AV.lst 2 (List.map enc l))], objs := [] } Ex.ret { env := [(2, AV.nilp), (3, AV.bool false)], objs := [] }]) (by kernel_rfl) (by first | exact rfl | exact ⟨rfl, rfl⟩ | (simp []; done)) ⟨(by first | exact rfl | (simp []; done) | (simp []; omega) | omega), ?q155_1, trivial⟩
  exact of_loop_bad l h64 hg hb l.length 0 (by simp) good_nil
end Go.Proofs.Ytaphhmefkfhepaa.Run
