/- The law RunsCount: by runs along paths. -/
import Derived.Test.YtaphhmefkfhepaaRunMv
import Derived.Test.YtaphhmefkfhepaaRunX
namespace Go.Proofs.Ytaphhmefkfhepaa.Run
open Go Go.RowKit Go.Proofs.Ytaphhmefkfhepaa.L Go.Proofs.Ytaphhmefkfhepaa.X
set_option linter.unusedVariables false
set_option linter.unusedSimpArgs false

theorem put_count_le {l : List Rn} (h : Good l) {r : Rn} (hr : Run64 r) (hf : r.f < r.t) : countL (putL l r) - countL l ≤ r.t - r.f := by
  have h1 := met_spec h (run_good hr hf) h.all (run_good hr hf).all
  have h2 := count_two h (run_good hr hf) h1.1 (putL_good h hr) h1.2.1 fun n => by rw [putL_mem h hr, mem_cons]; exact ⟨fun h => h.imp id .inl, fun h => h.imp id fun h => h.resolve_right (mem_nil n)⟩
  have h3 := h1.1.count
  simp only [countL] at h2
  omega
theorem cut_count_eq {l : List Rn} (h : Good l) {r : Rn} (hr : Run64 r) (hf : r.f < r.t) : countL (putL l r) - countL (cutL (putL l r) r) = r.t - r.f := by
  have hp := putL_good h hr
  have h2 := count_two (cutL_good hp hr) (run_good hr hf) good_nil hp (fun n => by
    rw [cutL_mem hp hr, mem_cons]
    refine ⟨fun h => absurd h (mem_nil n), fun h => absurd (h.2.resolve_right (mem_nil n)) h.1.2⟩) (fun n => by
    rw [cutL_mem hp hr, mem_cons, putL_mem h hr]
    constructor
    · intro h
      by_cases hi : In r n
      · exact .inr (.inl hi)
      · exact .inl ⟨h, hi⟩
    · rintro (h | h)
      · exact h.1
      · exact .inr (h.resolve_right (mem_nil n)))
  simp only [countL] at h2
  omega
theorem cut_again {l : List Rn} (h : Good l) {r : Rn} (hr : Run64 r) : cutL (cutL l r) r = cutL l r :=
  good_unique (cutL_good (cutL_good h hr) hr) (cutL_good h hr) fun n _ => by rw [cutL_mem (cutL_good h hr) hr, cutL_mem h hr]; exact ⟨fun h => h.1, fun h => ⟨h, h.2⟩⟩
theorem put_len {l : List Rn} (h : Good l) {r : Rn} (hr : Run64 r) : (putL l r).length ≤ l.length + 1 := by
  have := (putAll_spec [r] l h (fun x hx => by simp at hx; subst hx; exact hr)).2.2
  simpa [putAll] using this
theorem cut_len {l : List Rn} (h : Good l) {r : Rn} (hr : Run64 r) : (cutL l r).length ≤ l.length + 1 := by
  have := (cutAll_spec [r] l h (fun x hx => by simp at hx; subst hx; exact hr)).2.2
  simpa [cutAll] using this
theorem co_ac (a b : List Rn) (r : Rn) (ha : All64 a) (hb : All64 b) (hr : Run64 r) : ACalls Try.prog 7 [.lst 2 (a.map enc), .lst 2 (b.map enc), enc r] [] (.bool true) [] := by
  obtain ⟨gA, _, lA⟩ := build_spec ha
  obtain ⟨gB, _, lB⟩ := build_spec hb
  have qa := built_ac a ha
  have qb := built_ac b hb
  generalize buildL a = A at gA lA qa
  generalize buildL b = B at gB lB qb
  obtain ⟨gM, eM, lM⟩ := met_spec gA gB gA.all gB.all
  obtain ⟨gJ, eJ, lJ⟩ := join_spec gA.all gB.all
  have qM := meet_two gA gB (by omega) (by omega)
  have qJ := join_two gA gB (by omega) (by omega)
  have hc := count_two gA gB gM gJ eM eJ
  generalize metL A B = M at gM lM qM hc
  generalize joinL A B = J at gJ lJ qJ hc
  have cM := count_ac gM (by omega)
  have cJ := count_ac gJ (by omega)
  have cA := count_ac gA (by omega)
  have cB := count_ac gB (by omega)
  have gP := putL_good gA hr
  have lP := put_len gA hr
  have cP := count_ac gP (by omega)
  have qin := add_ac gA hr (by omega)
  have qag := add_ac gP hr (by omega)
  rw [put_again gA hr, Int.sub_self] at qag
  have gQ := cutL_good gP hr
  have lQ := cut_len gP hr
  have cQ := count_ac gQ (by omega)
  have qout := drop_ac gP hr (by omega)
  have qle := drop_ac gQ hr (by omega)
  rw [cut_again gP hr, Int.sub_self] at qle
  have b1 := gA.count
  have b2 := gP.count
  have b3 := gQ.count
  have b4 := put_count gA hr
  have b5 := cut_count gP hr
  have hMJ : IntKind.u64.wrap (countL M + countL J) = wu (countL A + countL B) := by rw [wrap_wu, hc]
  have hAB : IntKind.u64.wrap (countL A + countL B) = wu (countL A + countL B) := wrap_wu _
  have hP : IntKind.u64.wrap (countL A + (countL (putL A r) - countL A)) = countL (putL A r) := by rw [show countL A + (countL (putL A r) - countL A) = countL (putL A r) by omega]; exact wrap_u64 b2.1 b2.2
  have hQ : IntKind.u64.wrap (countL (putL A r) - (countL (putL A r) - countL (cutL (putL A r) r))) = countL (cutL (putL A r) r) := by rw [show countL (putL A r) - (countL (putL A r) - countL (cutL (putL A r) r)) = countL (cutL (putL A r) r) by omega]; exact wrap_u64 b3.1 b3.2
  by_cases hf : r.f < r.t
  · have b6 := put_count_le gA hr hf
    have b7 := cut_count_eq gA hr hf
    have h1 : ¬ r.t ≤ r.f := by omega
    have r1 := hr.1.u64
    have r2 := hr.2.u64
    have nf := hasO_of gQ (n := r.f) (b := false) (by simp; intro h; rw [cutL_mem gP hr] at h; exact h.2 ⟨by omega, hf⟩)
    have nt := hasO_of gQ (n := r.t - 1) (b := false) (by simp; intro h; rw [cutL_mem gP hr] at h; exact h.2 ⟨by omega, by omega⟩)
    refine acallsK mixed Try.func7 rfl [0, 1, 2, 5, 6, 7, 8, 9, 10, 11, 12, 13, 14, 15, 16, 45, 87, 92] 1000 ([.call [] false false (.ptr 0 0) (setObjs A), .call [] false false (.ptr 0 0) (setObjs B), .call [1, 2, 3, 4] false false (.ptr 4 0) (setObjs2 A B ++ [.vars 62 [.row 5 2 M.length], .row 30 2 (M.map enc)]),  .call [1, 6, 3, 8] false false (.ptr 4 0) (setObjs2 A B ++ [.vars 62 [.row 5 2 J.length], .row 30 2 (J.map enc)]),  .call [9, 10] false false (.int .u64 (countL M)) (setObjs M), .call [15, 16] false false (.int .u64 (countL J)) (setObjs J), .n (wu (countL A + countL B)), .call [1, 12] false false (.int .u64 (countL A)) (setObjs A), .call [3, 14] false false (.int .u64 (countL B)) (setObjs B), .n (wu (countL A + countL B)), .f,  .call [1, 22] false false (.int .u64 (countL A)) (setObjs A), .call [1, 26] false false (.int .u64 (countL (putL A r) - countL A)) (setObjs (putL A r)), .call [1, 28] false false (.int .u64 0) (setObjs (putL A r)), .call [1, 30] false false (.int .u64 (countL (putL A r))) (setObjs (putL A r)),  .call [1, 32] false false (.int .u64 (countL (putL A r) - countL (cutL (putL A r) r))) (setObjs (cutL (putL A r) r)), .call [1, 34] false false (.int .u64 0) (setObjs (cutL (putL A r) r)), .f, .f, .n (countL (putL A r)), .f, .call [1, 36] false false (.int .u64 (countL (cutL (putL A r) r))) (setObjs (cutL (putL A r) r)), .n (countL (cutL (putL A r) r)), .f, .f, .f, .call [] false true (.bool true) [], .n (r.t - r.f), .t, .call [1, 38] false false (.bool false) (setObjs (cutL (putL A r) r)), .n (r.t - 1), .call [1, 40] false false (.bool false) (setObjs (cutL (putL A r) r))]) [] [] (v1 := AV.bool !false) (objs1 := []) (ob := [ACalls Try.prog 10 [AV.lst 2 (List.map enc a)] [] (AV.ptr 0 0) [Obj.vars 62 [AV.row 1 2 (List.length A)], Obj.row 30 2 (List.map enc A)],
      ACalls Try.prog 10 [AV.lst 2 (List.map enc b)] [] (AV.ptr 0 0) [Obj.vars 62 [AV.row 1 2 (List.length B)], Obj.row 30 2 (List.map enc B)],
      ACalls Try.prog 30 [AV.ptr 0 0, AV.ptr 2 0] [Obj.vars 62 [AV.row 1 2 (List.length A)], Obj.row 30 2 (List.map enc A), Obj.vars 62 [AV.row 3 2 (List.length B)], Obj.row 30 2 (List.map enc B)] (AV.ptr 4 0) [Obj.vars 62 [AV.row 1 2 (List.length A)], Obj.row 30 2 (List.map enc A), Obj.vars 62 [AV.row 3 2 (List.length B)], Obj.row 30 2 (List.map enc B), Obj.vars 62 [AV.row 5 2 (List.length M)], Obj.row 30 2 (List.map enc M)],
      ACalls Try.prog 31 [AV.ptr 0 0, AV.ptr 2 0] [Obj.vars 62 [AV.row 1 2 (List.length A)], Obj.row 30 2 (List.map enc A), Obj.vars 62 [AV.row 3 2 (List.length B)], Obj.row 30 2 (List.map enc B)] (AV.ptr 4 0) [Obj.vars 62 [AV.row 1 2 (List.length A)], Obj.row 30 2 (List.map enc A), Obj.vars 62 [AV.row 3 2 (List.length B)], Obj.row 30 2 (List.map enc B), Obj.vars 62 [AV.row 5 2 (List.length J)], Obj.row 30 2 (List.map enc J)],
      ACalls Try.prog 25 [AV.ptr 0 0] [Obj.vars 62 [AV.row 1 2 (List.length M)], Obj.row 30 2 (List.map enc M)] (AV.int IntKind.u64 (countL M)) [Obj.vars 62 [AV.row 1 2 (List.length M)], Obj.row 30 2 (List.map enc M)],
      ACalls Try.prog 25 [AV.ptr 0 0] [Obj.vars 62 [AV.row 1 2 (List.length J)], Obj.row 30 2 (List.map enc J)] (AV.int IntKind.u64 (countL J)) [Obj.vars 62 [AV.row 1 2 (List.length J)], Obj.row 30 2 (List.map enc J)],
      IntKind.wrap IntKind.u64 (countL M + countL J) = wu (countL A + countL B),
      ACalls Try.prog 25 [AV.ptr 0 0] [Obj.vars 62 [AV.row 1 2 (List.length A)], Obj.row 30 2 (List.map enc A)] (AV.int IntKind.u64 (countL A)) [Obj.vars 62 [AV.row 1 2 (List.length A)], Obj.row 30 2 (List.map enc A)],
      ACalls Try.prog 25 [AV.ptr 0 0] [Obj.vars 62 [AV.row 1 2 (List.length B)], Obj.row 30 2 (List.map enc B)] (AV.int IntKind.u64 (countL B)) [Obj.vars 62 [AV.row 1 2 (List.length B)], Obj.row 30 2 (List.map enc B)],
      IntKind.wrap IntKind.u64 (countL A + countL B) = wu (countL A + countL B),
      (wu (countL A + countL B) != wu (countL A + countL B)) = false,
      ACalls Try.prog 25 [AV.ptr 0 0] [Obj.vars 62 [AV.row 1 2 (List.length A)], Obj.row 30 2 (List.map enc A)] (AV.int IntKind.u64 (countL A)) [Obj.vars 62 [AV.row 1 2 (List.length A)], Obj.row 30 2 (List.map enc A)],
      ACalls Try.prog 21 [AV.ptr 0 0, AV.agg [AV.int IntKind.u64 (Rn.f r), AV.int IntKind.u64 (Rn.t r)]] [Obj.vars 62 [AV.row 1 2 (List.length A)], Obj.row 30 2 (List.map enc A)] (AV.int IntKind.u64 (countL (putL A r) - countL A)) [Obj.vars 62 [AV.row 1 2 (List.length (putL A r))], Obj.row 30 2 (List.map enc (putL A r))],
      ACalls Try.prog 21 [AV.ptr 0 0, AV.agg [AV.int IntKind.u64 (Rn.f r), AV.int IntKind.u64 (Rn.t r)]] [Obj.vars 62 [AV.row 1 2 (List.length (putL A r))], Obj.row 30 2 (List.map enc (putL A r))] (AV.int IntKind.u64 0) [Obj.vars 62 [AV.row 1 2 (List.length (putL A r))], Obj.row 30 2 (List.map enc (putL A r))],
      ACalls Try.prog 25 [AV.ptr 0 0] [Obj.vars 62 [AV.row 1 2 (List.length (putL A r))], Obj.row 30 2 (List.map enc (putL A r))] (AV.int IntKind.u64 (countL (putL A r))) [Obj.vars 62 [AV.row 1 2 (List.length (putL A r))], Obj.row 30 2 (List.map enc (putL A r))],
      ACalls Try.prog 18 [AV.ptr 0 0, AV.agg [AV.int IntKind.u64 (Rn.f r), AV.int IntKind.u64 (Rn.t r)]] [Obj.vars 62 [AV.row 1 2 (List.length (putL A r))], Obj.row 30 2 (List.map enc (putL A r))] (AV.int IntKind.u64 (countL (putL A r) - countL (cutL (putL A r) r))) [Obj.vars 62 [AV.row 1 2 (List.length (cutL (putL A r) r))], Obj.row 30 2 (List.map enc (cutL (putL A r) r))],
      ACalls Try.prog 18 [AV.ptr 0 0, AV.agg [AV.int IntKind.u64 (Rn.f r), AV.int IntKind.u64 (Rn.t r)]] [Obj.vars 62 [AV.row 1 2 (List.length (cutL (putL A r) r))], Obj.row 30 2 (List.map enc (cutL (putL A r) r))] (AV.int IntKind.u64 0) [Obj.vars 62 [AV.row 1 2 (List.length (cutL (putL A r) r))], Obj.row 30 2 (List.map enc (cutL (putL A r) r))],
      ((0 : Int) != (0 : Int)) = false,
      ((0 : Int) != (0 : Int)) = false,
      IntKind.wrap IntKind.u64 (countL A + (countL (putL A r) - countL A)) = countL (putL A r),
      (countL (putL A r) != countL (putL A r)) = false,
      ACalls Try.prog 25 [AV.ptr 0 0] [Obj.vars 62 [AV.row 1 2 (List.length (cutL (putL A r) r))], Obj.row 30 2 (List.map enc (cutL (putL A r) r))] (AV.int IntKind.u64 (countL (cutL (putL A r) r))) [Obj.vars 62 [AV.row 1 2 (List.length (cutL (putL A r) r))], Obj.row 30 2 (List.map enc (cutL (putL A r) r))],
      IntKind.wrap IntKind.u64 (countL (putL A r) - (countL (putL A r) - countL (cutL (putL A r) r))) = countL (cutL (putL A r) r),
      (countL (cutL (putL A r) r) != countL (cutL (putL A r) r)) = false,
      decide (countL (putL A r) - countL (cutL (putL A r) r) < countL (putL A r) - countL A) = false,
      decide (Rn.f r ≥ Rn.t r) = false,
      ACalls Try.prog 14 [] [] (AV.bool true) [],
      IntKind.wrap IntKind.u64 (Rn.t r - Rn.f r) = Rn.t r - Rn.f r,
      (countL (putL A r) - countL (cutL (putL A r) r) == Rn.t r - Rn.f r) = true,
      ACalls Try.prog 27 [AV.ptr 0 0, AV.int IntKind.u64 (Rn.f r)] [Obj.vars 62 [AV.row 1 2 (List.length (cutL (putL A r) r))], Obj.row 30 2 (List.map enc (cutL (putL A r) r))] (AV.bool false) [Obj.vars 62 [AV.row 1 2 (List.length (cutL (putL A r) r))], Obj.row 30 2 (List.map enc (cutL (putL A r) r))],
      IntKind.wrap IntKind.u64 (Rn.t r - (1 : Int)) = Rn.t r - (1 : Int),
      ACalls Try.prog 27 [AV.ptr 0 0, AV.int IntKind.u64 (Rn.t r - 1)] [Obj.vars 62 [AV.row 1 2 (List.length (cutL (putL A r) r))], Obj.row 30 2 (List.map enc (cutL (putL A r) r))] (AV.bool false) [Obj.vars 62 [AV.row 1 2 (List.length (cutL (putL A r) r))], Obj.row 30 2 (List.map enc (cutL (putL A r) r))]]) (by kernel_rfl) (by first | exact rfl | exact ⟨rfl, rfl⟩ | (simp [setObjs, setObjs2, h1]; done) | (first | omega | exact hMJ | exact hAB | exact hP | exact hQ | exact wrap_u64 (by omega) (by omega))) ⟨?q85_1, ?q85_2, ?q85_3, ?q85_4, ?q85_5, ?q85_6, (by first | exact rfl | (simp [setObjs, setObjs2, h1]; done) | (simp [setObjs, setObjs2, h1]; omega) | omega | (first | omega | exact hMJ | exact hAB | exact hP | exact hQ | exact wrap_u64 (by omega) (by omega))), ?q85_7, ?q85_8, (by first | exact rfl | (simp [setObjs, setObjs2, h1]; done) | (simp [setObjs, setObjs2, h1]; omega) | omega | (first | omega | exact hMJ | exact hAB | exact hP | exact hQ | exact wrap_u64 (by omega) (by omega))), (by first | exact rfl | (simp [setObjs, setObjs2, h1]; done) | (simp [setObjs, setObjs2, h1]; omega) | omega | (first | omega | exact hMJ | exact hAB | exact hP | exact hQ | exact wrap_u64 (by omega) (by omega))), ?q85_9, ?q85_10, ?q85_11, ?q85_12, ?q85_13, ?q85_14, (by first | exact rfl | (simp [setObjs, setObjs2, h1]; done) | (simp [setObjs, setObjs2, h1]; omega) | omega | (first | omega | exact hMJ | exact hAB | exact hP | exact hQ | exact wrap_u64 (by omega) (by omega))), (by first | exact rfl | (simp [setObjs, setObjs2, h1]; done) | (simp [setObjs, setObjs2, h1]; omega) | omega | (first | omega | exact hMJ | exact hAB | exact hP | exact hQ | exact wrap_u64 (by omega) (by omega))), (by first | exact rfl | (simp [setObjs, setObjs2, h1]; done) | (simp [setObjs, setObjs2, h1]; omega) | omega | (first | omega | exact hMJ | exact hAB | exact hP | exact hQ | exact wrap_u64 (by omega) (by omega))), (by first | exact rfl | (simp [setObjs, setObjs2, h1]; done) | (simp [setObjs, setObjs2, h1]; omega) | omega | (first | omega | exact hMJ | exact hAB | exact hP | exact hQ | exact wrap_u64 (by omega) (by omega))), ?q85_15, (by first | exact rfl | (simp [setObjs, setObjs2, h1]; done) | (simp [setObjs, setObjs2, h1]; omega) | omega | (first | omega | exact hMJ | exact hAB | exact hP | exact hQ | exact wrap_u64 (by omega) (by omega))), (by first | exact rfl | (simp [setObjs, setObjs2, h1]; done) | (simp [setObjs, setObjs2, h1]; omega) | omega | (first | omega | exact hMJ | exact hAB | exact hP | exact hQ | exact wrap_u64 (by omega) (by omega))), (by first | exact rfl | (simp [setObjs, setObjs2, h1]; done) | (simp [setObjs, setObjs2, h1]; omega) | omega | (first | omega | exact hMJ | exact hAB | exact hP | exact hQ | exact wrap_u64 (by omega) (by omega))), (by first | exact rfl | (simp [setObjs, setObjs2, h1]; done) | (simp [setObjs, setObjs2, h1]; omega) | omega | (first | omega | exact hMJ | exact hAB | exact hP | exact hQ | exact wrap_u64 (by omega) (by omega))), ?q85_16, (by first | exact rfl | (simp [setObjs, setObjs2, h1]; done) | (simp [setObjs, setObjs2, h1]; omega) | omega | (first | omega | exact hMJ | exact hAB | exact hP | exact hQ | exact wrap_u64 (by omega) (by omega))), (by first | exact rfl | (simp [setObjs, setObjs2, h1]; done) | (simp [setObjs, setObjs2, h1]; omega) | omega | (first | omega | exact hMJ | exact hAB | exact hP | exact hQ | exact wrap_u64 (by omega) (by omega))), ?q85_17, (by first | exact rfl | (simp [setObjs, setObjs2, h1]; done) | (simp [setObjs, setObjs2, h1]; omega) | omega | (first | omega | exact hMJ | exact hAB | exact hP | exact hQ | exact wrap_u64 (by omega) (by omega))), ?q85_18, trivial⟩
    · exact qa
    · exact qb
    · exact qM
    · exact qJ
    · exact cM
    · exact cJ
    · exact cA
    · exact cB
    · exact cA
    · exact qin
    · exact qag
    · exact cP
    · exact qout
    · exact qle
    · exact cQ
    · exact alive_ac
    · exact nf
    · exact nt
  · have p1 : putL A r = A := by unfold putL; rw [if_neg hf]
    have h1 : r.t ≤ r.f := by omega
    have p2 : cutL A r = A := by unfold cutL; rw [if_neg hf]
    refine acallsK mixed Try.func7 rfl [0, 1, 2, 5, 6, 7, 8, 9, 10, 11, 12, 13, 14, 15, 16, 45, 87, 92] 1000 ([.call [] false false (.ptr 0 0) (setObjs A), .call [] false false (.ptr 0 0) (setObjs B), .call [1, 2, 3, 4] false false (.ptr 4 0) (setObjs2 A B ++ [.vars 62 [.row 5 2 M.length], .row 30 2 (M.map enc)]),  .call [1, 6, 3, 8] false false (.ptr 4 0) (setObjs2 A B ++ [.vars 62 [.row 5 2 J.length], .row 30 2 (J.map enc)]),  .call [9, 10] false false (.int .u64 (countL M)) (setObjs M), .call [15, 16] false false (.int .u64 (countL J)) (setObjs J), .n (wu (countL A + countL B)), .call [1, 12] false false (.int .u64 (countL A)) (setObjs A), .call [3, 14] false false (.int .u64 (countL B)) (setObjs B), .n (wu (countL A + countL B)), .f,  .call [1, 22] false false (.int .u64 (countL A)) (setObjs A), .call [1, 26] false false (.int .u64 (countL (putL A r) - countL A)) (setObjs (putL A r)), .call [1, 28] false false (.int .u64 0) (setObjs (putL A r)), .call [1, 30] false false (.int .u64 (countL (putL A r))) (setObjs (putL A r)),  .call [1, 32] false false (.int .u64 (countL (putL A r) - countL (cutL (putL A r) r))) (setObjs (cutL (putL A r) r)), .call [1, 34] false false (.int .u64 0) (setObjs (cutL (putL A r) r)), .f, .f, .n (countL (putL A r)), .f, .call [1, 36] false false (.int .u64 (countL (cutL (putL A r) r))) (setObjs (cutL (putL A r) r)), .n (countL (cutL (putL A r) r)), .f, .f, .t, .call [] false true (.bool true) [], .t, .t]) [] [] (v1 := AV.bool true) (objs1 := []) (ob := [ACalls Try.prog 10 [AV.lst 2 (List.map enc a)] [] (AV.ptr 0 0) [Obj.vars 62 [AV.row 1 2 (List.length A)], Obj.row 30 2 (List.map enc A)],
      ACalls Try.prog 10 [AV.lst 2 (List.map enc b)] [] (AV.ptr 0 0) [Obj.vars 62 [AV.row 1 2 (List.length B)], Obj.row 30 2 (List.map enc B)],
      ACalls Try.prog 30 [AV.ptr 0 0, AV.ptr 2 0] [Obj.vars 62 [AV.row 1 2 (List.length A)], Obj.row 30 2 (List.map enc A), Obj.vars 62 [AV.row 3 2 (List.length B)], Obj.row 30 2 (List.map enc B)] (AV.ptr 4 0) [Obj.vars 62 [AV.row 1 2 (List.length A)], Obj.row 30 2 (List.map enc A), Obj.vars 62 [AV.row 3 2 (List.length B)], Obj.row 30 2 (List.map enc B), Obj.vars 62 [AV.row 5 2 (List.length M)], Obj.row 30 2 (List.map enc M)],
      ACalls Try.prog 31 [AV.ptr 0 0, AV.ptr 2 0] [Obj.vars 62 [AV.row 1 2 (List.length A)], Obj.row 30 2 (List.map enc A), Obj.vars 62 [AV.row 3 2 (List.length B)], Obj.row 30 2 (List.map enc B)] (AV.ptr 4 0) [Obj.vars 62 [AV.row 1 2 (List.length A)], Obj.row 30 2 (List.map enc A), Obj.vars 62 [AV.row 3 2 (List.length B)], Obj.row 30 2 (List.map enc B), Obj.vars 62 [AV.row 5 2 (List.length J)], Obj.row 30 2 (List.map enc J)],
      ACalls Try.prog 25 [AV.ptr 0 0] [Obj.vars 62 [AV.row 1 2 (List.length M)], Obj.row 30 2 (List.map enc M)] (AV.int IntKind.u64 (countL M)) [Obj.vars 62 [AV.row 1 2 (List.length M)], Obj.row 30 2 (List.map enc M)],
      ACalls Try.prog 25 [AV.ptr 0 0] [Obj.vars 62 [AV.row 1 2 (List.length J)], Obj.row 30 2 (List.map enc J)] (AV.int IntKind.u64 (countL J)) [Obj.vars 62 [AV.row 1 2 (List.length J)], Obj.row 30 2 (List.map enc J)],
      IntKind.wrap IntKind.u64 (countL M + countL J) = wu (countL A + countL B),
      ACalls Try.prog 25 [AV.ptr 0 0] [Obj.vars 62 [AV.row 1 2 (List.length A)], Obj.row 30 2 (List.map enc A)] (AV.int IntKind.u64 (countL A)) [Obj.vars 62 [AV.row 1 2 (List.length A)], Obj.row 30 2 (List.map enc A)],
      ACalls Try.prog 25 [AV.ptr 0 0] [Obj.vars 62 [AV.row 1 2 (List.length B)], Obj.row 30 2 (List.map enc B)] (AV.int IntKind.u64 (countL B)) [Obj.vars 62 [AV.row 1 2 (List.length B)], Obj.row 30 2 (List.map enc B)],
      IntKind.wrap IntKind.u64 (countL A + countL B) = wu (countL A + countL B),
      (wu (countL A + countL B) != wu (countL A + countL B)) = false,
      ACalls Try.prog 25 [AV.ptr 0 0] [Obj.vars 62 [AV.row 1 2 (List.length A)], Obj.row 30 2 (List.map enc A)] (AV.int IntKind.u64 (countL A)) [Obj.vars 62 [AV.row 1 2 (List.length A)], Obj.row 30 2 (List.map enc A)],
      ACalls Try.prog 21 [AV.ptr 0 0, AV.agg [AV.int IntKind.u64 (Rn.f r), AV.int IntKind.u64 (Rn.t r)]] [Obj.vars 62 [AV.row 1 2 (List.length A)], Obj.row 30 2 (List.map enc A)] (AV.int IntKind.u64 (countL (putL A r) - countL A)) [Obj.vars 62 [AV.row 1 2 (List.length (putL A r))], Obj.row 30 2 (List.map enc (putL A r))],
      ACalls Try.prog 21 [AV.ptr 0 0, AV.agg [AV.int IntKind.u64 (Rn.f r), AV.int IntKind.u64 (Rn.t r)]] [Obj.vars 62 [AV.row 1 2 (List.length (putL A r))], Obj.row 30 2 (List.map enc (putL A r))] (AV.int IntKind.u64 0) [Obj.vars 62 [AV.row 1 2 (List.length (putL A r))], Obj.row 30 2 (List.map enc (putL A r))],
      ACalls Try.prog 25 [AV.ptr 0 0] [Obj.vars 62 [AV.row 1 2 (List.length (putL A r))], Obj.row 30 2 (List.map enc (putL A r))] (AV.int IntKind.u64 (countL (putL A r))) [Obj.vars 62 [AV.row 1 2 (List.length (putL A r))], Obj.row 30 2 (List.map enc (putL A r))],
      ACalls Try.prog 18 [AV.ptr 0 0, AV.agg [AV.int IntKind.u64 (Rn.f r), AV.int IntKind.u64 (Rn.t r)]] [Obj.vars 62 [AV.row 1 2 (List.length (putL A r))], Obj.row 30 2 (List.map enc (putL A r))] (AV.int IntKind.u64 (countL (putL A r) - countL (cutL (putL A r) r))) [Obj.vars 62 [AV.row 1 2 (List.length (cutL (putL A r) r))], Obj.row 30 2 (List.map enc (cutL (putL A r) r))],
      ACalls Try.prog 18 [AV.ptr 0 0, AV.agg [AV.int IntKind.u64 (Rn.f r), AV.int IntKind.u64 (Rn.t r)]] [Obj.vars 62 [AV.row 1 2 (List.length (cutL (putL A r) r))], Obj.row 30 2 (List.map enc (cutL (putL A r) r))] (AV.int IntKind.u64 0) [Obj.vars 62 [AV.row 1 2 (List.length (cutL (putL A r) r))], Obj.row 30 2 (List.map enc (cutL (putL A r) r))],
      ((0 : Int) != (0 : Int)) = false,
      ((0 : Int) != (0 : Int)) = false,
      IntKind.wrap IntKind.u64 (countL A + (countL (putL A r) - countL A)) = countL (putL A r),
      (countL (putL A r) != countL (putL A r)) = false,
      ACalls Try.prog 25 [AV.ptr 0 0] [Obj.vars 62 [AV.row 1 2 (List.length (cutL (putL A r) r))], Obj.row 30 2 (List.map enc (cutL (putL A r) r))] (AV.int IntKind.u64 (countL (cutL (putL A r) r))) [Obj.vars 62 [AV.row 1 2 (List.length (cutL (putL A r) r))], Obj.row 30 2 (List.map enc (cutL (putL A r) r))],
      IntKind.wrap IntKind.u64 (countL (putL A r) - (countL (putL A r) - countL (cutL (putL A r) r))) = countL (cutL (putL A r) r),
      (countL (cutL (putL A r) r) != countL (cutL (putL A r) r)) = false,
      decide (countL (putL A r) - countL (cutL (putL A r) r) < countL (putL A r) - countL A) = false,
      decide (Rn.f r ≥ Rn.t r) = true,
      ACalls Try.prog 14 [] [] (AV.bool true) [],
      (countL (putL A r) - countL A == (0 : Int)) = true,
      (countL (putL A r) - countL (cutL (putL A r) r) == (0 : Int)) = true]) (by kernel_rfl) (by first | exact rfl | exact ⟨rfl, rfl⟩ | (simp [setObjs, setObjs2, p1, p2, h1]; done) | (first | omega | exact hMJ | exact hAB | exact hP | exact hQ | exact wrap_u64 (by omega) (by omega))) ⟨?q111_1, ?q111_2, ?q111_3, ?q111_4, ?q111_5, ?q111_6, (by first | exact rfl | (simp [setObjs, setObjs2, p1, p2, h1]; done) | (simp [setObjs, setObjs2, p1, p2, h1]; omega) | omega | (first | omega | exact hMJ | exact hAB | exact hP | exact hQ | exact wrap_u64 (by omega) (by omega))), ?q111_7, ?q111_8, (by first | exact rfl | (simp [setObjs, setObjs2, p1, p2, h1]; done) | (simp [setObjs, setObjs2, p1, p2, h1]; omega) | omega | (first | omega | exact hMJ | exact hAB | exact hP | exact hQ | exact wrap_u64 (by omega) (by omega))), (by first | exact rfl | (simp [setObjs, setObjs2, p1, p2, h1]; done) | (simp [setObjs, setObjs2, p1, p2, h1]; omega) | omega | (first | omega | exact hMJ | exact hAB | exact hP | exact hQ | exact wrap_u64 (by omega) (by omega))), ?q111_9, ?q111_10, ?q111_11, ?q111_12, ?q111_13, ?q111_14, (by first | exact rfl | (simp [setObjs, setObjs2, p1, p2, h1]; done) | (simp [setObjs, setObjs2, p1, p2, h1]; omega) | omega | (first | omega | exact hMJ | exact hAB | exact hP | exact hQ | exact wrap_u64 (by omega) (by omega))), (by first | exact rfl | (simp [setObjs, setObjs2, p1, p2, h1]; done) | (simp [setObjs, setObjs2, p1, p2, h1]; omega) | omega | (first | omega | exact hMJ | exact hAB | exact hP | exact hQ | exact wrap_u64 (by omega) (by omega))), (by first | exact rfl | (simp [setObjs, setObjs2, p1, p2, h1]; done) | (simp [setObjs, setObjs2, p1, p2, h1]; omega) | omega | (first | omega | exact hMJ | exact hAB | exact hP | exact hQ | exact wrap_u64 (by omega) (by omega))), (by first | exact rfl | (simp [setObjs, setObjs2, p1, p2, h1]; done) | (simp [setObjs, setObjs2, p1, p2, h1]; omega) | omega | (first | omega | exact hMJ | exact hAB | exact hP | exact hQ | exact wrap_u64 (by omega) (by omega))), ?q111_15, (by first | exact rfl | (simp [setObjs, setObjs2, p1, p2, h1]; done) | (simp [setObjs, setObjs2, p1, p2, h1]; omega) | omega | (first | omega | exact hMJ | exact hAB | exact hP | exact hQ | exact wrap_u64 (by omega) (by omega))), (by first | exact rfl | (simp [setObjs, setObjs2, p1, p2, h1]; done) | (simp [setObjs, setObjs2, p1, p2, h1]; omega) | omega | (first | omega | exact hMJ | exact hAB | exact hP | exact hQ | exact wrap_u64 (by omega) (by omega))), (by first | exact rfl | (simp [setObjs, setObjs2, p1, p2, h1]; done) | (simp [setObjs, setObjs2, p1, p2, h1]; omega) | omega | (first | omega | exact hMJ | exact hAB | exact hP | exact hQ | exact wrap_u64 (by omega) (by omega))), (by first | exact rfl | (simp [setObjs, setObjs2, p1, p2, h1]; done) | (simp [setObjs, setObjs2, p1, p2, h1]; omega) | omega | (first | omega | exact hMJ | exact hAB | exact hP | exact hQ | exact wrap_u64 (by omega) (by omega))), ?q111_16, (by first | exact rfl | (simp [setObjs, setObjs2, p1, p2, h1]; done) | (simp [setObjs, setObjs2, p1, p2, h1]; omega) | omega | (first | omega | exact hMJ | exact hAB | exact hP | exact hQ | exact wrap_u64 (by omega) (by omega))), (by first | exact rfl | (simp [setObjs, setObjs2, p1, p2, h1]; done) | (simp [setObjs, setObjs2, p1, p2, h1]; omega) | omega | (first | omega | exact hMJ | exact hAB | exact hP | exact hQ | exact wrap_u64 (by omega) (by omega))), trivial⟩
    · exact qa
    · exact qb
    · exact qM
    · exact qJ
    · exact cM
    · exact cJ
    · exact cA
    · exact cB
    · exact cA
    · exact qin
    · exact qag
    · exact cP
    · exact qout
    · exact qle
    · exact cQ
    · exact alive_ac
end Go.Proofs.Ytaphhmefkfhepaa.Run
