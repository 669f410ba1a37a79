/- The law RunsPlays: by runs along paths. -/
import Derived.Test.YtaphhmefkfhepaaRunYQ
import Derived.Test.YtaphhmefkfhepaaRunX
namespace Go.Proofs.Ytaphhmefkfhepaa.Run
open Go Go.RowKit Go.Proofs.Ytaphhmefkfhepaa.L Go.Proofs.Ytaphhmefkfhepaa.X
set_option linter.unusedVariables false
set_option linter.unusedSimpArgs false

/-- An act of the script. -/
structure ActR where
  drop : Bool
  copy : Bool
  r : Rn
def encA (a : ActR) : AV := .agg [.bool a.drop, .bool a.copy, .int .u64 a.r.f, .int .u64 a.r.t]

theorem plays_calls {L : List Rn} (gL : Good L) (lL : L.length ≤ 1000) (m f : Int) :
    ACalls Try.prog 12 [.ptr 0 0, .int .u64 m] (setObjs L) (nextA (findR L m) m) (setObjs L) ∧
    ACalls Try.prog 22 [.lst 2 (L.map enc), .int .u64 m] [] (nextA (findR L m) m) [] ∧
    ACalls Try.prog 11 [.ptr 0 0] (setObjs L) (.row 2 2 L.length) (setObjs L ++ [.row 30 2 (L.map enc)]) ∧
    ACalls Try.prog 24 [.lst 2 (L.map enc)] [] (.row 0 2 L.length) [.row 39 2 (L.map enc)] ∧
    ACalls Try.prog 23 [.lst 2 (L.map enc), .lst 2 (L.map enc)] [] (.bool true) [] ∧
    ACalls Try.prog 25 [.ptr 0 0] (setObjs L) (.int .u64 (countL L)) (setObjs L) ∧
    ACalls Try.prog 16 [.lst 2 (L.map enc)] [] (.int .u64 (countL L)) [] ∧
    ACalls Try.prog 13 [.ptr 0 0, .int .u64 m] (setObjs L) (.int .u64 (gapO (findR L m) m)) (setObjs L) ∧
    ACalls Try.prog 26 [.lst 2 (L.map enc), .int .u64 m] [] (.int .u64 (gapO (findR L m) m)) [] ∧
    ACalls Try.prog 27 [.ptr 0 0, .int .u64 m] (setObjs L) (.bool (Run.hasO (findR L m) m)) (setObjs L) ∧
    ACalls Try.prog 28 [.lst 2 (L.map enc), .int .u64 m] [] (.bool (Run.hasO (findR L m) m)) [] ∧
    ACalls Try.prog 27 [.ptr 0 0, .int .u64 f] (setObjs L) (.bool (Run.hasO (findR L f) f)) (setObjs L) ∧
    ACalls Try.prog 28 [.lst 2 (L.map enc), .int .u64 f] [] (.bool (Run.hasO (findR L f) f)) [] := by
  have q1 := refcount_ac L (by omega)
  rw [gL.wu_count] at q1
  have q2 := refnext_ac L m (by omega)
  rw [refNext_eq gL] at q2
  have q3 := refgap_ac L m (by omega)
  rw [refGap_eq gL] at q3
  have q4 := refhas_ac L m (by omega)
  rw [refHas_eq gL] at q4
  have q5 := refhas_ac L f (by omega)
  rw [refHas_eq gL] at q5
  have q6 := same_ac L L (by omega)
  rw [show decide (L = L) = true by simp] at q6
  exact ⟨next_ac gL m, q2, runs_ac gL (by omega), told_ac L (by omega), q6, count_ac gL (by omega), q1, gap_ac gL m, q3, has_ac gL m, q4, has_ac gL f, q5⟩

theorem plays_loop (s : List ActR) (m : Int) (h64 : ∀ a ∈ s, Run64 a.r) : ∀ (n k : Nat) (l : List Rn), s.length = k + n → k ≤ 60 → Good l → l.length ≤ k →
    ALoop Try.prog 0 Try.f4.ntmps (loopB Try.f4 0) ⟨[(7, .int .i64 k), (6, .lst 2 (l.map enc)), (5, .ptr 0 0), (0, .lst 4 (s.map encA)), (1, .int .u64 m)], setObjs l⟩ (.exit 0) ⟨[], []⟩
  | 0, k, l, h, h60, hg, hl => by
    refine aloopK mixed [0, 1, 4, 5, 6, 7, 8, 9, 10, 11, 12, 13, 14, 15, 16, 25, 29, 54, 55, 65, 79, 146] 1000 ([.go, .n s.length, .f]) [] [] (S1 := { env := [], objs := [] }) (ob := [(↑(List.length (List.map encA s)) : Int) = (↑(List.length s) : Int),
      decide ((↑k : Int) < (↑(List.length s) : Int)) = false]) (by kernel_rfl) (by first | exact rfl | exact ⟨rfl, rfl⟩ | (simp []; done)) ⟨(by first | exact rfl | (simp []; done) | (simp []; omega) | omega), (by first | exact rfl | (simp []; done) | (simp []; omega) | omega), trivial⟩
  | n + 1, k, l, h, h60', hg, hl => by
    obtain ⟨a, hx⟩ := get_of (l := s) (k := k) (by omega)
    have hr := h64 a (List.mem_of_getElem? hx)
    by_cases h60 : k < 60
    · have c0 := refcount_ac l (by omega)
      rw [hg.wu_count] at c0
      have hcl := hg.count
      cases hc : a.copy with
      | true =>
        have cCopy := copy_ac hg (by omega)
        have cDrop := drop_ac hg hr (by omega)
        have ih := plays_loop s m h64 n (k + 1) l (by omega) (by omega) hg (by omega)
        have hd := hc
        obtain ⟨cNext, cRNext, cRuns, cTold, cSame, cSCount, cCount, cGap, cRGap, cHas, cRHas, cHasF, cRHasF⟩ := plays_calls hg (by omega) m a.r.f
        cases hf : findR l m with
        | none =>
          rw [hf] at cNext cRNext
          refine aloopK mixed [0, 1, 4, 5, 6, 7, 8, 9, 10, 11, 12, 13, 14, 15, 16, 25, 29, 54, 55, 65, 79, 146] 1000 ([.go, .n s.length, .t, .t, .ix k, .el (encA a), .call [] false true (.int .u64 (countL l)) [], .t, .call [0, 1] false false (.ptr 2 0) (setObjs l ++ [.vars 62 [.row 3 2 l.length], .row 30 2 (l.map enc)]), .call [0, 5] false false (.int .u64 (countL l - countL (cutL l a.r))) (setObjs (cutL l a.r)), .call [6, 7] false false (.tup [.int .u64 0, .bool false]) (setObjs l), .call [] false true (.tup [.int .u64 0, .bool false]) [], .call [6, 11] false false (.row 2 2 l.length) (setObjs l ++ [.row 30 2 (l.map enc)]), .call [] false false (.row 0 2 l.length) [.row 39 2 (l.map enc)], .call [] false true (.bool true) [], .call [6, 13] false false (.int .u64 (countL l)) (setObjs l), .call [] false true (.int .u64 (countL l)) [], .f, .f, .f, .call [6, 17] false false (.int .u64 (gapO (findR l m) m)) (setObjs l), .call [] false true (.int .u64 (gapO (findR l m) m)) [], .f, .call [6, 19] false false (.bool (Run.hasO (findR l m) m)) (setObjs l), .call [] false true (.bool (Run.hasO (findR l m) m)) [], .f, .call [6, 21] false false (.bool (Run.hasO (findR l a.r.f) a.r.f)) (setObjs l), .call [] false true (.bool (Run.hasO (findR l a.r.f) a.r.f)) [], .f, .n ((k + 1 : Nat) : Int), .lp [7, 6, 5, 0, 1] [6, 23] (.exit 0) ⟨[], []⟩]) [] [] (S1 := { env := [], objs := [] }) (ob := [(↑(List.length (List.map encA s)) : Int) = (↑(List.length s) : Int),
      decide ((↑k : Int) < (↑(List.length s) : Int)) = true,
      decide ((↑k : Int) < (60 : Int)) = true,
      k < List.length (List.map encA s),
      (↑k : Int) = (↑k : Int),
      (List.map encA s)[k]? = some (AV.agg [AV.bool (ActR.drop a), AV.bool (ActR.copy a), AV.int IntKind.u64 (Rn.f (ActR.r a)), AV.int IntKind.u64 (Rn.t (ActR.r a))]),
      ACalls Try.prog 16 [AV.lst 2 (List.map enc l)] [] (AV.int IntKind.u64 (countL l)) [],
      ActR.copy a = true,
      ACalls Try.prog 17 [AV.ptr 0 0] [Obj.vars 62 [AV.row 1 2 (List.length l)], Obj.row 30 2 (List.map enc l)] (AV.ptr 2 0) [Obj.vars 62 [AV.row 1 2 (List.length l)], Obj.row 30 2 (List.map enc l), Obj.vars 62 [AV.row 3 2 (List.length l)], Obj.row 30 2 (List.map enc l)],
      ACalls Try.prog 18 [AV.ptr 0 0, AV.agg [AV.int IntKind.u64 (Rn.f (ActR.r a)), AV.int IntKind.u64 (Rn.t (ActR.r a))]] [Obj.vars 62 [AV.row 1 2 (List.length l)], Obj.row 30 2 (List.map enc l)] (AV.int IntKind.u64 (countL l - countL (cutL l (ActR.r a)))) [Obj.vars 62 [AV.row 1 2 (List.length (cutL l (ActR.r a)))], Obj.row 30 2 (List.map enc (cutL l (ActR.r a)))],
      ACalls Try.prog 12 [AV.ptr 0 0, AV.int IntKind.u64 m] [Obj.vars 62 [AV.row 1 2 (List.length l)], Obj.row 30 2 (List.map enc l)] (AV.tup [AV.int IntKind.u64 0, AV.bool false]) [Obj.vars 62 [AV.row 1 2 (List.length l)], Obj.row 30 2 (List.map enc l)],
      ACalls Try.prog 22 [AV.lst 2 (List.map enc l), AV.int IntKind.u64 m] [] (AV.tup [AV.int IntKind.u64 0, AV.bool false]) [],
      ACalls Try.prog 11 [AV.ptr 0 0] [Obj.vars 62 [AV.row 1 2 (List.length l)], Obj.row 30 2 (List.map enc l)] (AV.row 2 2 (List.length l)) [Obj.vars 62 [AV.row 1 2 (List.length l)], Obj.row 30 2 (List.map enc l), Obj.row 30 2 (List.map enc l)],
      ACalls Try.prog 24 [AV.lst 2 (List.map enc l)] [] (AV.row 0 2 (List.length l)) [Obj.row 39 2 (List.map enc l)],
      ACalls Try.prog 23 [AV.lst 2 (List.map enc l), AV.lst 2 (List.map enc l)] [] (AV.bool true) [],
      ACalls Try.prog 25 [AV.ptr 0 0] [Obj.vars 62 [AV.row 1 2 (List.length l)], Obj.row 30 2 (List.map enc l)] (AV.int IntKind.u64 (countL l)) [Obj.vars 62 [AV.row 1 2 (List.length l)], Obj.row 30 2 (List.map enc l)],
      ACalls Try.prog 16 [AV.lst 2 (List.map enc l)] [] (AV.int IntKind.u64 (countL l)) [],
      (countL l != countL l) = false,
      ((0 : Int) != (0 : Int)) = false,
      (!false == false) = false,
      ACalls Try.prog 13 [AV.ptr 0 0, AV.int IntKind.u64 m] [Obj.vars 62 [AV.row 1 2 (List.length l)], Obj.row 30 2 (List.map enc l)] (AV.int IntKind.u64 (gapO (findR l m) m)) [Obj.vars 62 [AV.row 1 2 (List.length l)], Obj.row 30 2 (List.map enc l)],
      ACalls Try.prog 26 [AV.lst 2 (List.map enc l), AV.int IntKind.u64 m] [] (AV.int IntKind.u64 (gapO (findR l m) m)) [],
      (gapO (findR l m) m != gapO (findR l m) m) = false,
      ACalls Try.prog 27 [AV.ptr 0 0, AV.int IntKind.u64 m] [Obj.vars 62 [AV.row 1 2 (List.length l)], Obj.row 30 2 (List.map enc l)] (AV.bool (hasO (findR l m) m)) [Obj.vars 62 [AV.row 1 2 (List.length l)], Obj.row 30 2 (List.map enc l)],
      ACalls Try.prog 28 [AV.lst 2 (List.map enc l), AV.int IntKind.u64 m] [] (AV.bool (hasO (findR l m) m)) [],
      (!hasO (findR l m) m == hasO (findR l m) m) = false,
      ACalls Try.prog 27 [AV.ptr 0 0, AV.int IntKind.u64 (Rn.f (ActR.r a))] [Obj.vars 62 [AV.row 1 2 (List.length l)], Obj.row 30 2 (List.map enc l)] (AV.bool (hasO (findR l (Rn.f (ActR.r a))) (Rn.f (ActR.r a)))) [Obj.vars 62 [AV.row 1 2 (List.length l)], Obj.row 30 2 (List.map enc l)],
      ACalls Try.prog 28 [AV.lst 2 (List.map enc l), AV.int IntKind.u64 (Rn.f (ActR.r a))] [] (AV.bool (hasO (findR l (Rn.f (ActR.r a))) (Rn.f (ActR.r a)))) [],
      (!hasO (findR l (Rn.f (ActR.r a))) (Rn.f (ActR.r a)) == hasO (findR l (Rn.f (ActR.r a))) (Rn.f (ActR.r a))) = false,
      IntKind.wrap IntKind.i64 ((↑k : Int) + (1 : Int)) = (↑(k + (1 : Nat)) : Int),
      ALoop Try.prog 0 148 (loopB Try.f4 0) { env := [(7, AV.int IntKind.i64 (↑(k + 1) : Int)), (6, AV.lst 2 (List.map enc l)), (5, AV.ptr 0 0), (0, AV.lst 4 (List.map encA s)), (1, AV.int IntKind.u64 m)], objs := [Obj.vars 62 [AV.row 1 2 (List.length l)], Obj.row 30 2 (List.map enc l)] } (Ex.exit 0) { env := [], objs := [] }]) (by kernel_rfl) (by first | exact rfl | exact ⟨rfl, rfl⟩ | (simp [hx, encA, h60, hd, hc]; done) | (first | exact wrap64 (by omega) | exact wrap_u64 (by omega) (by omega))) ⟨(by first | exact rfl | (simp [hx, encA, h60, hd, hc]; done) | (simp [hx, encA, h60, hd, hc]; omega) | omega | (first | exact wrap64 (by omega) | exact wrap_u64 (by omega) (by omega))), (by first | exact rfl | (simp [hx, encA, h60, hd, hc]; done) | (simp [hx, encA, h60, hd, hc]; omega) | omega | (first | exact wrap64 (by omega) | exact wrap_u64 (by omega) (by omega))), (by first | exact rfl | (simp [hx, encA, h60, hd, hc]; done) | (simp [hx, encA, h60, hd, hc]; omega) | omega | (first | exact wrap64 (by omega) | exact wrap_u64 (by omega) (by omega))), (by first | exact rfl | (simp [hx, encA, h60, hd, hc]; done) | (simp [hx, encA, h60, hd, hc]; omega) | omega | (first | exact wrap64 (by omega) | exact wrap_u64 (by omega) (by omega))), (by first | exact rfl | (simp [hx, encA, h60, hd, hc]; done) | (simp [hx, encA, h60, hd, hc]; omega) | omega | (first | exact wrap64 (by omega) | exact wrap_u64 (by omega) (by omega))), (by first | exact rfl | (simp [hx, encA, h60, hd, hc]; done) | (simp [hx, encA, h60, hd, hc]; omega) | omega | (first | exact wrap64 (by omega) | exact wrap_u64 (by omega) (by omega))), ?q64_1, (by first | exact rfl | (simp [hx, encA, h60, hd, hc]; done) | (simp [hx, encA, h60, hd, hc]; omega) | omega | (first | exact wrap64 (by omega) | exact wrap_u64 (by omega) (by omega))), ?q64_2, ?q64_3, ?q64_4, ?q64_5, ?q64_6, ?q64_7, ?q64_8, ?q64_9, ?q64_10, (by first | exact rfl | (simp [hx, encA, h60, hd, hc]; done) | (simp [hx, encA, h60, hd, hc]; omega) | omega | (first | exact wrap64 (by omega) | exact wrap_u64 (by omega) (by omega))), (by first | exact rfl | (simp [hx, encA, h60, hd, hc]; done) | (simp [hx, encA, h60, hd, hc]; omega) | omega | (first | exact wrap64 (by omega) | exact wrap_u64 (by omega) (by omega))), (by first | exact rfl | (simp [hx, encA, h60, hd, hc]; done) | (simp [hx, encA, h60, hd, hc]; omega) | omega | (first | exact wrap64 (by omega) | exact wrap_u64 (by omega) (by omega))), ?q64_11, ?q64_12, (by first | exact rfl | (simp [hx, encA, h60, hd, hc]; done) | (simp [hx, encA, h60, hd, hc]; omega) | omega | (first | exact wrap64 (by omega) | exact wrap_u64 (by omega) (by omega))), ?q64_13, ?q64_14, (by first | exact rfl | (simp [hx, encA, h60, hd, hc]; done) | (simp [hx, encA, h60, hd, hc]; omega) | omega | (first | exact wrap64 (by omega) | exact wrap_u64 (by omega) (by omega))), ?q64_15, ?q64_16, (by first | exact rfl | (simp [hx, encA, h60, hd, hc]; done) | (simp [hx, encA, h60, hd, hc]; omega) | omega | (first | exact wrap64 (by omega) | exact wrap_u64 (by omega) (by omega))), (by first | exact rfl | (simp [hx, encA, h60, hd, hc]; done) | (simp [hx, encA, h60, hd, hc]; omega) | omega | (first | exact wrap64 (by omega) | exact wrap_u64 (by omega) (by omega))), ?q64_17, trivial⟩
          · exact c0
          · exact cCopy
          · exact cDrop
          · exact cNext
          · exact cRNext
          · exact cRuns
          · exact cTold
          · exact cSame
          · exact cSCount
          · exact cCount
          · exact cGap
          · exact cRGap
          · exact cHas
          · exact cRHas
          · exact cHasF
          · exact cRHasF
          · exact ih
        | some y =>
          rw [hf] at cNext cRNext
          refine aloopK mixed [0, 1, 4, 5, 6, 7, 8, 9, 10, 11, 12, 13, 14, 15, 16, 25, 29, 54, 55, 65, 79, 146] 1000 ([.go, .n s.length, .t, .t, .ix k, .el (encA a), .call [] false true (.int .u64 (countL l)) [], .t, .call [0, 1] false false (.ptr 2 0) (setObjs l ++ [.vars 62 [.row 3 2 l.length], .row 30 2 (l.map enc)]), .call [0, 5] false false (.int .u64 (countL l - countL (cutL l a.r))) (setObjs (cutL l a.r)), .call [6, 7] false false (.tup [.int .u64 (max m y.f), .bool true]) (setObjs l), .call [] false true (.tup [.int .u64 (max m y.f), .bool true]) [], .call [6, 11] false false (.row 2 2 l.length) (setObjs l ++ [.row 30 2 (l.map enc)]), .call [] false false (.row 0 2 l.length) [.row 39 2 (l.map enc)], .call [] false true (.bool true) [], .call [6, 13] false false (.int .u64 (countL l)) (setObjs l), .call [] false true (.int .u64 (countL l)) [], .f, .f, .f, .call [6, 17] false false (.int .u64 (gapO (findR l m) m)) (setObjs l), .call [] false true (.int .u64 (gapO (findR l m) m)) [], .f, .call [6, 19] false false (.bool (Run.hasO (findR l m) m)) (setObjs l), .call [] false true (.bool (Run.hasO (findR l m) m)) [], .f, .call [6, 21] false false (.bool (Run.hasO (findR l a.r.f) a.r.f)) (setObjs l), .call [] false true (.bool (Run.hasO (findR l a.r.f) a.r.f)) [], .f, .n ((k + 1 : Nat) : Int), .lp [7, 6, 5, 0, 1] [6, 23] (.exit 0) ⟨[], []⟩]) [] [] (S1 := { env := [], objs := [] }) (ob := [(↑(List.length (List.map encA s)) : Int) = (↑(List.length s) : Int),
      decide ((↑k : Int) < (↑(List.length s) : Int)) = true,
      decide ((↑k : Int) < (60 : Int)) = true,
      k < List.length (List.map encA s),
      (↑k : Int) = (↑k : Int),
      (List.map encA s)[k]? = some (AV.agg [AV.bool (ActR.drop a), AV.bool (ActR.copy a), AV.int IntKind.u64 (Rn.f (ActR.r a)), AV.int IntKind.u64 (Rn.t (ActR.r a))]),
      ACalls Try.prog 16 [AV.lst 2 (List.map enc l)] [] (AV.int IntKind.u64 (countL l)) [],
      ActR.copy a = true,
      ACalls Try.prog 17 [AV.ptr 0 0] [Obj.vars 62 [AV.row 1 2 (List.length l)], Obj.row 30 2 (List.map enc l)] (AV.ptr 2 0) [Obj.vars 62 [AV.row 1 2 (List.length l)], Obj.row 30 2 (List.map enc l), Obj.vars 62 [AV.row 3 2 (List.length l)], Obj.row 30 2 (List.map enc l)],
      ACalls Try.prog 18 [AV.ptr 0 0, AV.agg [AV.int IntKind.u64 (Rn.f (ActR.r a)), AV.int IntKind.u64 (Rn.t (ActR.r a))]] [Obj.vars 62 [AV.row 1 2 (List.length l)], Obj.row 30 2 (List.map enc l)] (AV.int IntKind.u64 (countL l - countL (cutL l (ActR.r a)))) [Obj.vars 62 [AV.row 1 2 (List.length (cutL l (ActR.r a)))], Obj.row 30 2 (List.map enc (cutL l (ActR.r a)))],
      ACalls Try.prog 12 [AV.ptr 0 0, AV.int IntKind.u64 m] [Obj.vars 62 [AV.row 1 2 (List.length l)], Obj.row 30 2 (List.map enc l)] (AV.tup [AV.int IntKind.u64 (max m (Rn.f y)), AV.bool true]) [Obj.vars 62 [AV.row 1 2 (List.length l)], Obj.row 30 2 (List.map enc l)],
      ACalls Try.prog 22 [AV.lst 2 (List.map enc l), AV.int IntKind.u64 m] [] (AV.tup [AV.int IntKind.u64 (max m (Rn.f y)), AV.bool true]) [],
      ACalls Try.prog 11 [AV.ptr 0 0] [Obj.vars 62 [AV.row 1 2 (List.length l)], Obj.row 30 2 (List.map enc l)] (AV.row 2 2 (List.length l)) [Obj.vars 62 [AV.row 1 2 (List.length l)], Obj.row 30 2 (List.map enc l), Obj.row 30 2 (List.map enc l)],
      ACalls Try.prog 24 [AV.lst 2 (List.map enc l)] [] (AV.row 0 2 (List.length l)) [Obj.row 39 2 (List.map enc l)],
      ACalls Try.prog 23 [AV.lst 2 (List.map enc l), AV.lst 2 (List.map enc l)] [] (AV.bool true) [],
      ACalls Try.prog 25 [AV.ptr 0 0] [Obj.vars 62 [AV.row 1 2 (List.length l)], Obj.row 30 2 (List.map enc l)] (AV.int IntKind.u64 (countL l)) [Obj.vars 62 [AV.row 1 2 (List.length l)], Obj.row 30 2 (List.map enc l)],
      ACalls Try.prog 16 [AV.lst 2 (List.map enc l)] [] (AV.int IntKind.u64 (countL l)) [],
      (countL l != countL l) = false,
      (max m (Rn.f y) != max m (Rn.f y)) = false,
      (!true == true) = false,
      ACalls Try.prog 13 [AV.ptr 0 0, AV.int IntKind.u64 m] [Obj.vars 62 [AV.row 1 2 (List.length l)], Obj.row 30 2 (List.map enc l)] (AV.int IntKind.u64 (gapO (findR l m) m)) [Obj.vars 62 [AV.row 1 2 (List.length l)], Obj.row 30 2 (List.map enc l)],
      ACalls Try.prog 26 [AV.lst 2 (List.map enc l), AV.int IntKind.u64 m] [] (AV.int IntKind.u64 (gapO (findR l m) m)) [],
      (gapO (findR l m) m != gapO (findR l m) m) = false,
      ACalls Try.prog 27 [AV.ptr 0 0, AV.int IntKind.u64 m] [Obj.vars 62 [AV.row 1 2 (List.length l)], Obj.row 30 2 (List.map enc l)] (AV.bool (hasO (findR l m) m)) [Obj.vars 62 [AV.row 1 2 (List.length l)], Obj.row 30 2 (List.map enc l)],
      ACalls Try.prog 28 [AV.lst 2 (List.map enc l), AV.int IntKind.u64 m] [] (AV.bool (hasO (findR l m) m)) [],
      (!hasO (findR l m) m == hasO (findR l m) m) = false,
      ACalls Try.prog 27 [AV.ptr 0 0, AV.int IntKind.u64 (Rn.f (ActR.r a))] [Obj.vars 62 [AV.row 1 2 (List.length l)], Obj.row 30 2 (List.map enc l)] (AV.bool (hasO (findR l (Rn.f (ActR.r a))) (Rn.f (ActR.r a)))) [Obj.vars 62 [AV.row 1 2 (List.length l)], Obj.row 30 2 (List.map enc l)],
      ACalls Try.prog 28 [AV.lst 2 (List.map enc l), AV.int IntKind.u64 (Rn.f (ActR.r a))] [] (AV.bool (hasO (findR l (Rn.f (ActR.r a))) (Rn.f (ActR.r a)))) [],
      (!hasO (findR l (Rn.f (ActR.r a))) (Rn.f (ActR.r a)) == hasO (findR l (Rn.f (ActR.r a))) (Rn.f (ActR.r a))) = false,
      IntKind.wrap IntKind.i64 ((↑k : Int) + (1 : Int)) = (↑(k + (1 : Nat)) : Int),
      ALoop Try.prog 0 148 (loopB Try.f4 0) { env := [(7, AV.int IntKind.i64 (↑(k + 1) : Int)), (6, AV.lst 2 (List.map enc l)), (5, AV.ptr 0 0), (0, AV.lst 4 (List.map encA s)), (1, AV.int IntKind.u64 m)], objs := [Obj.vars 62 [AV.row 1 2 (List.length l)], Obj.row 30 2 (List.map enc l)] } (Ex.exit 0) { env := [], objs := [] }]) (by kernel_rfl) (by first | exact rfl | exact ⟨rfl, rfl⟩ | (simp [hx, encA, h60, hd, hc]; done) | (first | exact wrap64 (by omega) | exact wrap_u64 (by omega) (by omega))) ⟨(by first | exact rfl | (simp [hx, encA, h60, hd, hc]; done) | (simp [hx, encA, h60, hd, hc]; omega) | omega | (first | exact wrap64 (by omega) | exact wrap_u64 (by omega) (by omega))), (by first | exact rfl | (simp [hx, encA, h60, hd, hc]; done) | (simp [hx, encA, h60, hd, hc]; omega) | omega | (first | exact wrap64 (by omega) | exact wrap_u64 (by omega) (by omega))), (by first | exact rfl | (simp [hx, encA, h60, hd, hc]; done) | (simp [hx, encA, h60, hd, hc]; omega) | omega | (first | exact wrap64 (by omega) | exact wrap_u64 (by omega) (by omega))), (by first | exact rfl | (simp [hx, encA, h60, hd, hc]; done) | (simp [hx, encA, h60, hd, hc]; omega) | omega | (first | exact wrap64 (by omega) | exact wrap_u64 (by omega) (by omega))), (by first | exact rfl | (simp [hx, encA, h60, hd, hc]; done) | (simp [hx, encA, h60, hd, hc]; omega) | omega | (first | exact wrap64 (by omega) | exact wrap_u64 (by omega) (by omega))), (by first | exact rfl | (simp [hx, encA, h60, hd, hc]; done) | (simp [hx, encA, h60, hd, hc]; omega) | omega | (first | exact wrap64 (by omega) | exact wrap_u64 (by omega) (by omega))), ?q84_1, (by first | exact rfl | (simp [hx, encA, h60, hd, hc]; done) | (simp [hx, encA, h60, hd, hc]; omega) | omega | (first | exact wrap64 (by omega) | exact wrap_u64 (by omega) (by omega))), ?q84_2, ?q84_3, ?q84_4, ?q84_5, ?q84_6, ?q84_7, ?q84_8, ?q84_9, ?q84_10, (by first | exact rfl | (simp [hx, encA, h60, hd, hc]; done) | (simp [hx, encA, h60, hd, hc]; omega) | omega | (first | exact wrap64 (by omega) | exact wrap_u64 (by omega) (by omega))), (by first | exact rfl | (simp [hx, encA, h60, hd, hc]; done) | (simp [hx, encA, h60, hd, hc]; omega) | omega | (first | exact wrap64 (by omega) | exact wrap_u64 (by omega) (by omega))), (by first | exact rfl | (simp [hx, encA, h60, hd, hc]; done) | (simp [hx, encA, h60, hd, hc]; omega) | omega | (first | exact wrap64 (by omega) | exact wrap_u64 (by omega) (by omega))), ?q84_11, ?q84_12, (by first | exact rfl | (simp [hx, encA, h60, hd, hc]; done) | (simp [hx, encA, h60, hd, hc]; omega) | omega | (first | exact wrap64 (by omega) | exact wrap_u64 (by omega) (by omega))), ?q84_13, ?q84_14, (by first | exact rfl | (simp [hx, encA, h60, hd, hc]; done) | (simp [hx, encA, h60, hd, hc]; omega) | omega | (first | exact wrap64 (by omega) | exact wrap_u64 (by omega) (by omega))), ?q84_15, ?q84_16, (by first | exact rfl | (simp [hx, encA, h60, hd, hc]; done) | (simp [hx, encA, h60, hd, hc]; omega) | omega | (first | exact wrap64 (by omega) | exact wrap_u64 (by omega) (by omega))), (by first | exact rfl | (simp [hx, encA, h60, hd, hc]; done) | (simp [hx, encA, h60, hd, hc]; omega) | omega | (first | exact wrap64 (by omega) | exact wrap_u64 (by omega) (by omega))), ?q84_17, trivial⟩
          · exact c0
          · exact cCopy
          · exact cDrop
          · exact cNext
          · exact cRNext
          · exact cRuns
          · exact cTold
          · exact cSame
          · exact cSCount
          · exact cCount
          · exact cGap
          · exact cRGap
          · exact cHas
          · exact cRHas
          · exact cHasF
          · exact cRHasF
          · exact ih
      | false =>
        cases hd : a.drop with
        | true =>
          have gL := cutL_good hg hr
          have lL := cutL_length hg hr
          have cRef := refdrop_ac l a.r (by omega)
          have cAct := drop_ac hg hr (by omega)
          have ih := plays_loop s m h64 n (k + 1) (cutL l a.r) (by omega) (by omega) gL (by omega)
          have hcL := gL.count
          have hle := cut_count hg hr
          rw [refDrop_eq hg hr] at cRef
          generalize cutL l a.r = L at gL lL cRef cAct ih hcL hle
          obtain ⟨cNext, cRNext, cRuns, cTold, cSame, cSCount, cCount, cGap, cRGap, cHas, cRHas, cHasF, cRHasF⟩ := plays_calls gL (by omega) m a.r.f
          cases hf : findR L m with
          | none =>
            rw [hf] at cNext cRNext
            refine aloopK mixed [0, 1, 4, 5, 6, 7, 8, 9, 10, 11, 12, 13, 14, 15, 16, 25, 29, 54, 55, 65, 79, 146] 1000 ([.go, .n s.length, .t, .t, .ix k, .el (encA a), .call [] false true (.int .u64 (countL l)) [], .f, .t, .call [] true false (.row 0 2 L.length) [.row 39 2 (L.map enc)], .call [0, 1] false false (.int .u64 (countL l - countL L)) (setObjs L), .call [] false true (.int .u64 (countL L)) [], .n (countL l - countL L), .f, .call [0, 6] false false (.tup [.int .u64 0, .bool false]) (setObjs L), .call [] false true (.tup [.int .u64 0, .bool false]) [], .call [0, 8] false false (.row 2 2 L.length) (setObjs L ++ [.row 30 2 (L.map enc)]), .call [] false false (.row 0 2 L.length) [.row 39 2 (L.map enc)], .call [] false true (.bool true) [], .call [0, 10] false false (.int .u64 (countL L)) (setObjs L), .call [] false true (.int .u64 (countL L)) [], .f, .f, .f, .call [0, 14] false false (.int .u64 (gapO (findR L m) m)) (setObjs L), .call [] false true (.int .u64 (gapO (findR L m) m)) [], .f, .call [0, 16] false false (.bool (Run.hasO (findR L m) m)) (setObjs L), .call [] false true (.bool (Run.hasO (findR L m) m)) [], .f, .call [0, 18] false false (.bool (Run.hasO (findR L a.r.f) a.r.f)) (setObjs L), .call [] false true (.bool (Run.hasO (findR L a.r.f) a.r.f)) [], .f, .n ((k + 1 : Nat) : Int), .lp [7, 6, 5, 0, 1] [0, 20] (.exit 0) ⟨[], []⟩]) [] [] (S1 := { env := [], objs := [] }) (ob := [(↑(List.length (List.map encA s)) : Int) = (↑(List.length s) : Int),
      decide ((↑k : Int) < (↑(List.length s) : Int)) = true,
      decide ((↑k : Int) < (60 : Int)) = true,
      k < List.length (List.map encA s),
      (↑k : Int) = (↑k : Int),
      (List.map encA s)[k]? = some (AV.agg [AV.bool (ActR.drop a), AV.bool (ActR.copy a), AV.int IntKind.u64 (Rn.f (ActR.r a)), AV.int IntKind.u64 (Rn.t (ActR.r a))]),
      ACalls Try.prog 16 [AV.lst 2 (List.map enc l)] [] (AV.int IntKind.u64 (countL l)) [],
      ActR.copy a = false,
      ActR.drop a = true,
      ACalls Try.prog 19 [AV.lst 2 (List.map enc l), AV.agg [AV.int IntKind.u64 (Rn.f (ActR.r a)), AV.int IntKind.u64 (Rn.t (ActR.r a))]] [] (AV.row 0 2 (List.length L)) [Obj.row 39 2 (List.map enc L)],
      ACalls Try.prog 18 [AV.ptr 0 0, AV.agg [AV.int IntKind.u64 (Rn.f (ActR.r a)), AV.int IntKind.u64 (Rn.t (ActR.r a))]] [Obj.vars 62 [AV.row 1 2 (List.length l)], Obj.row 30 2 (List.map enc l)] (AV.int IntKind.u64 (countL l - countL L)) [Obj.vars 62 [AV.row 1 2 (List.length L)], Obj.row 30 2 (List.map enc L)],
      ACalls Try.prog 16 [AV.lst 2 (List.map enc L)] [] (AV.int IntKind.u64 (countL L)) [],
      IntKind.wrap IntKind.u64 (countL l - countL L) = countL l - countL L,
      (countL l - countL L != countL l - countL L) = false,
      ACalls Try.prog 12 [AV.ptr 0 0, AV.int IntKind.u64 m] [Obj.vars 62 [AV.row 1 2 (List.length L)], Obj.row 30 2 (List.map enc L)] (AV.tup [AV.int IntKind.u64 0, AV.bool false]) [Obj.vars 62 [AV.row 1 2 (List.length L)], Obj.row 30 2 (List.map enc L)],
      ACalls Try.prog 22 [AV.lst 2 (List.map enc L), AV.int IntKind.u64 m] [] (AV.tup [AV.int IntKind.u64 0, AV.bool false]) [],
      ACalls Try.prog 11 [AV.ptr 0 0] [Obj.vars 62 [AV.row 1 2 (List.length L)], Obj.row 30 2 (List.map enc L)] (AV.row 2 2 (List.length L)) [Obj.vars 62 [AV.row 1 2 (List.length L)], Obj.row 30 2 (List.map enc L), Obj.row 30 2 (List.map enc L)],
      ACalls Try.prog 24 [AV.lst 2 (List.map enc L)] [] (AV.row 0 2 (List.length L)) [Obj.row 39 2 (List.map enc L)],
      ACalls Try.prog 23 [AV.lst 2 (List.map enc L), AV.lst 2 (List.map enc L)] [] (AV.bool true) [],
      ACalls Try.prog 25 [AV.ptr 0 0] [Obj.vars 62 [AV.row 1 2 (List.length L)], Obj.row 30 2 (List.map enc L)] (AV.int IntKind.u64 (countL L)) [Obj.vars 62 [AV.row 1 2 (List.length L)], Obj.row 30 2 (List.map enc L)],
      ACalls Try.prog 16 [AV.lst 2 (List.map enc L)] [] (AV.int IntKind.u64 (countL L)) [],
      (countL L != countL L) = false,
      ((0 : Int) != (0 : Int)) = false,
      (!false == false) = false,
      ACalls Try.prog 13 [AV.ptr 0 0, AV.int IntKind.u64 m] [Obj.vars 62 [AV.row 1 2 (List.length L)], Obj.row 30 2 (List.map enc L)] (AV.int IntKind.u64 (gapO (findR L m) m)) [Obj.vars 62 [AV.row 1 2 (List.length L)], Obj.row 30 2 (List.map enc L)],
      ACalls Try.prog 26 [AV.lst 2 (List.map enc L), AV.int IntKind.u64 m] [] (AV.int IntKind.u64 (gapO (findR L m) m)) [],
      (gapO (findR L m) m != gapO (findR L m) m) = false,
      ACalls Try.prog 27 [AV.ptr 0 0, AV.int IntKind.u64 m] [Obj.vars 62 [AV.row 1 2 (List.length L)], Obj.row 30 2 (List.map enc L)] (AV.bool (hasO (findR L m) m)) [Obj.vars 62 [AV.row 1 2 (List.length L)], Obj.row 30 2 (List.map enc L)],
      ACalls Try.prog 28 [AV.lst 2 (List.map enc L), AV.int IntKind.u64 m] [] (AV.bool (hasO (findR L m) m)) [],
      (!hasO (findR L m) m == hasO (findR L m) m) = false,
      ACalls Try.prog 27 [AV.ptr 0 0, AV.int IntKind.u64 (Rn.f (ActR.r a))] [Obj.vars 62 [AV.row 1 2 (List.length L)], Obj.row 30 2 (List.map enc L)] (AV.bool (hasO (findR L (Rn.f (ActR.r a))) (Rn.f (ActR.r a)))) [Obj.vars 62 [AV.row 1 2 (List.length L)], Obj.row 30 2 (List.map enc L)],
      ACalls Try.prog 28 [AV.lst 2 (List.map enc L), AV.int IntKind.u64 (Rn.f (ActR.r a))] [] (AV.bool (hasO (findR L (Rn.f (ActR.r a))) (Rn.f (ActR.r a)))) [],
      (!hasO (findR L (Rn.f (ActR.r a))) (Rn.f (ActR.r a)) == hasO (findR L (Rn.f (ActR.r a))) (Rn.f (ActR.r a))) = false,
      IntKind.wrap IntKind.i64 ((↑k : Int) + (1 : Int)) = (↑(k + (1 : Nat)) : Int),
      ALoop Try.prog 0 148 (loopB Try.f4 0) { env := [(7, AV.int IntKind.i64 (↑(k + 1) : Int)), (6, AV.lst 2 (List.map enc L)), (5, AV.ptr 0 0), (0, AV.lst 4 (List.map encA s)), (1, AV.int IntKind.u64 m)], objs := [Obj.vars 62 [AV.row 1 2 (List.length L)], Obj.row 30 2 (List.map enc L)] } (Ex.exit 0) { env := [], objs := [] }]) (by kernel_rfl) (by first | exact rfl | exact ⟨rfl, rfl⟩ | (simp [hx, encA, h60, hd, hc]; done) | (first | exact wrap64 (by omega) | exact wrap_u64 (by omega) (by omega))) ⟨(by first | exact rfl | (simp [hx, encA, h60, hd, hc]; done) | (simp [hx, encA, h60, hd, hc]; omega) | omega | (first | exact wrap64 (by omega) | exact wrap_u64 (by omega) (by omega))), (by first | exact rfl | (simp [hx, encA, h60, hd, hc]; done) | (simp [hx, encA, h60, hd, hc]; omega) | omega | (first | exact wrap64 (by omega) | exact wrap_u64 (by omega) (by omega))), (by first | exact rfl | (simp [hx, encA, h60, hd, hc]; done) | (simp [hx, encA, h60, hd, hc]; omega) | omega | (first | exact wrap64 (by omega) | exact wrap_u64 (by omega) (by omega))), (by first | exact rfl | (simp [hx, encA, h60, hd, hc]; done) | (simp [hx, encA, h60, hd, hc]; omega) | omega | (first | exact wrap64 (by omega) | exact wrap_u64 (by omega) (by omega))), (by first | exact rfl | (simp [hx, encA, h60, hd, hc]; done) | (simp [hx, encA, h60, hd, hc]; omega) | omega | (first | exact wrap64 (by omega) | exact wrap_u64 (by omega) (by omega))), (by first | exact rfl | (simp [hx, encA, h60, hd, hc]; done) | (simp [hx, encA, h60, hd, hc]; omega) | omega | (first | exact wrap64 (by omega) | exact wrap_u64 (by omega) (by omega))), ?q118_1, (by first | exact rfl | (simp [hx, encA, h60, hd, hc]; done) | (simp [hx, encA, h60, hd, hc]; omega) | omega | (first | exact wrap64 (by omega) | exact wrap_u64 (by omega) (by omega))), (by first | exact rfl | (simp [hx, encA, h60, hd, hc]; done) | (simp [hx, encA, h60, hd, hc]; omega) | omega | (first | exact wrap64 (by omega) | exact wrap_u64 (by omega) (by omega))), ?q118_2, ?q118_3, ?q118_4, (by first | exact rfl | (simp [hx, encA, h60, hd, hc]; done) | (simp [hx, encA, h60, hd, hc]; omega) | omega | (first | exact wrap64 (by omega) | exact wrap_u64 (by omega) (by omega))), (by first | exact rfl | (simp [hx, encA, h60, hd, hc]; done) | (simp [hx, encA, h60, hd, hc]; omega) | omega | (first | exact wrap64 (by omega) | exact wrap_u64 (by omega) (by omega))), ?q118_5, ?q118_6, ?q118_7, ?q118_8, ?q118_9, ?q118_10, ?q118_11, (by first | exact rfl | (simp [hx, encA, h60, hd, hc]; done) | (simp [hx, encA, h60, hd, hc]; omega) | omega | (first | exact wrap64 (by omega) | exact wrap_u64 (by omega) (by omega))), (by first | exact rfl | (simp [hx, encA, h60, hd, hc]; done) | (simp [hx, encA, h60, hd, hc]; omega) | omega | (first | exact wrap64 (by omega) | exact wrap_u64 (by omega) (by omega))), (by first | exact rfl | (simp [hx, encA, h60, hd, hc]; done) | (simp [hx, encA, h60, hd, hc]; omega) | omega | (first | exact wrap64 (by omega) | exact wrap_u64 (by omega) (by omega))), ?q118_12, ?q118_13, (by first | exact rfl | (simp [hx, encA, h60, hd, hc]; done) | (simp [hx, encA, h60, hd, hc]; omega) | omega | (first | exact wrap64 (by omega) | exact wrap_u64 (by omega) (by omega))), ?q118_14, ?q118_15, (by first | exact rfl | (simp [hx, encA, h60, hd, hc]; done) | (simp [hx, encA, h60, hd, hc]; omega) | omega | (first | exact wrap64 (by omega) | exact wrap_u64 (by omega) (by omega))), ?q118_16, ?q118_17, (by first | exact rfl | (simp [hx, encA, h60, hd, hc]; done) | (simp [hx, encA, h60, hd, hc]; omega) | omega | (first | exact wrap64 (by omega) | exact wrap_u64 (by omega) (by omega))), (by first | exact rfl | (simp [hx, encA, h60, hd, hc]; done) | (simp [hx, encA, h60, hd, hc]; omega) | omega | (first | exact wrap64 (by omega) | exact wrap_u64 (by omega) (by omega))), ?q118_18, trivial⟩
            · exact c0
            · exact cRef
            · exact cAct
            · exact cCount
            · exact cNext
            · exact cRNext
            · exact cRuns
            · exact cTold
            · exact cSame
            · exact cSCount
            · exact cCount
            · exact cGap
            · exact cRGap
            · exact cHas
            · exact cRHas
            · exact cHasF
            · exact cRHasF
            · exact ih
          | some y =>
            rw [hf] at cNext cRNext
            refine aloopK mixed [0, 1, 4, 5, 6, 7, 8, 9, 10, 11, 12, 13, 14, 15, 16, 25, 29, 54, 55, 65, 79, 146] 1000 ([.go, .n s.length, .t, .t, .ix k, .el (encA a), .call [] false true (.int .u64 (countL l)) [], .f, .t, .call [] true false (.row 0 2 L.length) [.row 39 2 (L.map enc)], .call [0, 1] false false (.int .u64 (countL l - countL L)) (setObjs L), .call [] false true (.int .u64 (countL L)) [], .n (countL l - countL L), .f, .call [0, 6] false false (.tup [.int .u64 (max m y.f), .bool true]) (setObjs L), .call [] false true (.tup [.int .u64 (max m y.f), .bool true]) [], .call [0, 8] false false (.row 2 2 L.length) (setObjs L ++ [.row 30 2 (L.map enc)]), .call [] false false (.row 0 2 L.length) [.row 39 2 (L.map enc)], .call [] false true (.bool true) [], .call [0, 10] false false (.int .u64 (countL L)) (setObjs L), .call [] false true (.int .u64 (countL L)) [], .f, .f, .f, .call [0, 14] false false (.int .u64 (gapO (findR L m) m)) (setObjs L), .call [] false true (.int .u64 (gapO (findR L m) m)) [], .f, .call [0, 16] false false (.bool (Run.hasO (findR L m) m)) (setObjs L), .call [] false true (.bool (Run.hasO (findR L m) m)) [], .f, .call [0, 18] false false (.bool (Run.hasO (findR L a.r.f) a.r.f)) (setObjs L), .call [] false true (.bool (Run.hasO (findR L a.r.f) a.r.f)) [], .f, .n ((k + 1 : Nat) : Int), .lp [7, 6, 5, 0, 1] [0, 20] (.exit 0) ⟨[], []⟩]) [] [] (S1 := { env := [], objs := [] }) (ob := [(↑(List.length (List.map encA s)) : Int) = (↑(List.length s) : Int),
      decide ((↑k : Int) < (↑(List.length s) : Int)) = true,
      decide ((↑k : Int) < (60 : Int)) = true,
      k < List.length (List.map encA s),
      (↑k : Int) = (↑k : Int),
      (List.map encA s)[k]? = some (AV.agg [AV.bool (ActR.drop a), AV.bool (ActR.copy a), AV.int IntKind.u64 (Rn.f (ActR.r a)), AV.int IntKind.u64 (Rn.t (ActR.r a))]),
      ACalls Try.prog 16 [AV.lst 2 (List.map enc l)] [] (AV.int IntKind.u64 (countL l)) [],
      ActR.copy a = false,
      ActR.drop a = true,
      ACalls Try.prog 19 [AV.lst 2 (List.map enc l), AV.agg [AV.int IntKind.u64 (Rn.f (ActR.r a)), AV.int IntKind.u64 (Rn.t (ActR.r a))]] [] (AV.row 0 2 (List.length L)) [Obj.row 39 2 (List.map enc L)],
      ACalls Try.prog 18 [AV.ptr 0 0, AV.agg [AV.int IntKind.u64 (Rn.f (ActR.r a)), AV.int IntKind.u64 (Rn.t (ActR.r a))]] [Obj.vars 62 [AV.row 1 2 (List.length l)], Obj.row 30 2 (List.map enc l)] (AV.int IntKind.u64 (countL l - countL L)) [Obj.vars 62 [AV.row 1 2 (List.length L)], Obj.row 30 2 (List.map enc L)],
      ACalls Try.prog 16 [AV.lst 2 (List.map enc L)] [] (AV.int IntKind.u64 (countL L)) [],
      IntKind.wrap IntKind.u64 (countL l - countL L) = countL l - countL L,
      (countL l - countL L != countL l - countL L) = false,
      ACalls Try.prog 12 [AV.ptr 0 0, AV.int IntKind.u64 m] [Obj.vars 62 [AV.row 1 2 (List.length L)], Obj.row 30 2 (List.map enc L)] (AV.tup [AV.int IntKind.u64 (max m (Rn.f y)), AV.bool true]) [Obj.vars 62 [AV.row 1 2 (List.length L)], Obj.row 30 2 (List.map enc L)],
      ACalls Try.prog 22 [AV.lst 2 (List.map enc L), AV.int IntKind.u64 m] [] (AV.tup [AV.int IntKind.u64 (max m (Rn.f y)), AV.bool true]) [],
      ACalls Try.prog 11 [AV.ptr 0 0] [Obj.vars 62 [AV.row 1 2 (List.length L)], Obj.row 30 2 (List.map enc L)] (AV.row 2 2 (List.length L)) [Obj.vars 62 [AV.row 1 2 (List.length L)], Obj.row 30 2 (List.map enc L), Obj.row 30 2 (List.map enc L)],
      ACalls Try.prog 24 [AV.lst 2 (List.map enc L)] [] (AV.row 0 2 (List.length L)) [Obj.row 39 2 (List.map enc L)],
      ACalls Try.prog 23 [AV.lst 2 (List.map enc L), AV.lst 2 (List.map enc L)] [] (AV.bool true) [],
      ACalls Try.prog 25 [AV.ptr 0 0] [Obj.vars 62 [AV.row 1 2 (List.length L)], Obj.row 30 2 (List.map enc L)] (AV.int IntKind.u64 (countL L)) [Obj.vars 62 [AV.row 1 2 (List.length L)], Obj.row 30 2 (List.map enc L)],
      ACalls Try.prog 16 [AV.lst 2 (List.map enc L)] [] (AV.int IntKind.u64 (countL L)) [],
      (countL L != countL L) = false,
      (max m (Rn.f y) != max m (Rn.f y)) = false,
      (!true == true) = false,
      ACalls Try.prog 13 [AV.ptr 0 0, AV.int IntKind.u64 m] [Obj.vars 62 [AV.row 1 2 (List.length L)], Obj.row 30 2 (List.map enc L)] (AV.int IntKind.u64 (gapO (findR L m) m)) [Obj.vars 62 [AV.row 1 2 (List.length L)], Obj.row 30 2 (List.map enc L)],
      ACalls Try.prog 26 [AV.lst 2 (List.map enc L), AV.int IntKind.u64 m] [] (AV.int IntKind.u64 (gapO (findR L m) m)) [],
      (gapO (findR L m) m != gapO (findR L m) m) = false,
      ACalls Try.prog 27 [AV.ptr 0 0, AV.int IntKind.u64 m] [Obj.vars 62 [AV.row 1 2 (List.length L)], Obj.row 30 2 (List.map enc L)] (AV.bool (hasO (findR L m) m)) [Obj.vars 62 [AV.row 1 2 (List.length L)], Obj.row 30 2 (List.map enc L)],
      ACalls Try.prog 28 [AV.lst 2 (List.map enc L), AV.int IntKind.u64 m] [] (AV.bool (hasO (findR L m) m)) [],
      (!hasO (findR L m) m == hasO (findR L m) m) = false,
      ACalls Try.prog 27 [AV.ptr 0 0, AV.int IntKind.u64 (Rn.f (ActR.r a))] [Obj.vars 62 [AV.row 1 2 (List.length L)], Obj.row 30 2 (List.map enc L)] (AV.bool (hasO (findR L (Rn.f (ActR.r a))) (Rn.f (ActR.r a)))) [Obj.vars 62 [AV.row 1 2 (List.length L)], Obj.row 30 2 (List.map enc L)],
      ACalls Try.prog 28 [AV.lst 2 (List.map enc L), AV.int IntKind.u64 (Rn.f (ActR.r a))] [] (AV.bool (hasO (findR L (Rn.f (ActR.r a))) (Rn.f (ActR.r a)))) [],
      (!hasO (findR L (Rn.f (ActR.r a))) (Rn.f (ActR.r a)) == hasO (findR L (Rn.f (ActR.r a))) (Rn.f (ActR.r a))) = false,
      IntKind.wrap IntKind.i64 ((↑k : Int) + (1 : Int)) = (↑(k + (1 : Nat)) : Int),
      ALoop Try.prog 0 148 (loopB Try.f4 0) { env := [(7, AV.int IntKind.i64 (↑(k + 1) : Int)), (6, AV.lst 2 (List.map enc L)), (5, AV.ptr 0 0), (0, AV.lst 4 (List.map encA s)), (1, AV.int IntKind.u64 m)], objs := [Obj.vars 62 [AV.row 1 2 (List.length L)], Obj.row 30 2 (List.map enc L)] } (Ex.exit 0) { env := [], objs := [] }]) (by kernel_rfl) (by first | exact rfl | exact ⟨rfl, rfl⟩ | (simp [hx, encA, h60, hd, hc]; done) | (first | exact wrap64 (by omega) | exact wrap_u64 (by omega) (by omega))) ⟨(by first | exact rfl | (simp [hx, encA, h60, hd, hc]; done) | (simp [hx, encA, h60, hd, hc]; omega) | omega | (first | exact wrap64 (by omega) | exact wrap_u64 (by omega) (by omega))), (by first | exact rfl | (simp [hx, encA, h60, hd, hc]; done) | (simp [hx, encA, h60, hd, hc]; omega) | omega | (first | exact wrap64 (by omega) | exact wrap_u64 (by omega) (by omega))), (by first | exact rfl | (simp [hx, encA, h60, hd, hc]; done) | (simp [hx, encA, h60, hd, hc]; omega) | omega | (first | exact wrap64 (by omega) | exact wrap_u64 (by omega) (by omega))), (by first | exact rfl | (simp [hx, encA, h60, hd, hc]; done) | (simp [hx, encA, h60, hd, hc]; omega) | omega | (first | exact wrap64 (by omega) | exact wrap_u64 (by omega) (by omega))), (by first | exact rfl | (simp [hx, encA, h60, hd, hc]; done) | (simp [hx, encA, h60, hd, hc]; omega) | omega | (first | exact wrap64 (by omega) | exact wrap_u64 (by omega) (by omega))), (by first | exact rfl | (simp [hx, encA, h60, hd, hc]; done) | (simp [hx, encA, h60, hd, hc]; omega) | omega | (first | exact wrap64 (by omega) | exact wrap_u64 (by omega) (by omega))), ?q139_1, (by first | exact rfl | (simp [hx, encA, h60, hd, hc]; done) | (simp [hx, encA, h60, hd, hc]; omega) | omega | (first | exact wrap64 (by omega) | exact wrap_u64 (by omega) (by omega))), (by first | exact rfl | (simp [hx, encA, h60, hd, hc]; done) | (simp [hx, encA, h60, hd, hc]; omega) | omega | (first | exact wrap64 (by omega) | exact wrap_u64 (by omega) (by omega))), ?q139_2, ?q139_3, ?q139_4, (by first | exact rfl | (simp [hx, encA, h60, hd, hc]; done) | (simp [hx, encA, h60, hd, hc]; omega) | omega | (first | exact wrap64 (by omega) | exact wrap_u64 (by omega) (by omega))), (by first | exact rfl | (simp [hx, encA, h60, hd, hc]; done) | (simp [hx, encA, h60, hd, hc]; omega) | omega | (first | exact wrap64 (by omega) | exact wrap_u64 (by omega) (by omega))), ?q139_5, ?q139_6, ?q139_7, ?q139_8, ?q139_9, ?q139_10, ?q139_11, (by first | exact rfl | (simp [hx, encA, h60, hd, hc]; done) | (simp [hx, encA, h60, hd, hc]; omega) | omega | (first | exact wrap64 (by omega) | exact wrap_u64 (by omega) (by omega))), (by first | exact rfl | (simp [hx, encA, h60, hd, hc]; done) | (simp [hx, encA, h60, hd, hc]; omega) | omega | (first | exact wrap64 (by omega) | exact wrap_u64 (by omega) (by omega))), (by first | exact rfl | (simp [hx, encA, h60, hd, hc]; done) | (simp [hx, encA, h60, hd, hc]; omega) | omega | (first | exact wrap64 (by omega) | exact wrap_u64 (by omega) (by omega))), ?q139_12, ?q139_13, (by first | exact rfl | (simp [hx, encA, h60, hd, hc]; done) | (simp [hx, encA, h60, hd, hc]; omega) | omega | (first | exact wrap64 (by omega) | exact wrap_u64 (by omega) (by omega))), ?q139_14, ?q139_15, (by first | exact rfl | (simp [hx, encA, h60, hd, hc]; done) | (simp [hx, encA, h60, hd, hc]; omega) | omega | (first | exact wrap64 (by omega) | exact wrap_u64 (by omega) (by omega))), ?q139_16, ?q139_17, (by first | exact rfl | (simp [hx, encA, h60, hd, hc]; done) | (simp [hx, encA, h60, hd, hc]; omega) | omega | (first | exact wrap64 (by omega) | exact wrap_u64 (by omega) (by omega))), (by first | exact rfl | (simp [hx, encA, h60, hd, hc]; done) | (simp [hx, encA, h60, hd, hc]; omega) | omega | (first | exact wrap64 (by omega) | exact wrap_u64 (by omega) (by omega))), ?q139_18, trivial⟩
            · exact c0
            · exact cRef
            · exact cAct
            · exact cCount
            · exact cNext
            · exact cRNext
            · exact cRuns
            · exact cTold
            · exact cSame
            · exact cSCount
            · exact cCount
            · exact cGap
            · exact cRGap
            · exact cHas
            · exact cRHas
            · exact cHasF
            · exact cRHasF
            · exact ih
        | false =>
          have gL := putL_good hg hr
          have lL := putL_length hg hr
          have cRef := refadd_ac l a.r (by omega)
          have cAct := add_ac hg hr (by omega)
          have ih := plays_loop s m h64 n (k + 1) (putL l a.r) (by omega) (by omega) gL (by omega)
          have hcL := gL.count
          have hle := put_count hg hr
          rw [refAdd_eq hg hr] at cRef
          generalize putL l a.r = L at gL lL cRef cAct ih hcL hle
          obtain ⟨cNext, cRNext, cRuns, cTold, cSame, cSCount, cCount, cGap, cRGap, cHas, cRHas, cHasF, cRHasF⟩ := plays_calls gL (by omega) m a.r.f
          cases hf : findR L m with
        | none =>
          rw [hf] at cNext cRNext
          refine aloopK mixed [0, 1, 4, 5, 6, 7, 8, 9, 10, 11, 12, 13, 14, 15, 16, 25, 29, 54, 55, 65, 79, 146] 1000 ([.go, .n s.length, .t, .t, .ix k, .el (encA a), .call [] false true (.int .u64 (countL l)) [], .f, .f, .call [] true false (.row 0 2 L.length) [.row 39 2 (L.map enc)], .call [0, 1] false false (.int .u64 (countL L - countL l)) (setObjs L), .call [] false true (.int .u64 (countL L)) [], .n (countL L - countL l), .f, .call [0, 6] false false (.tup [.int .u64 0, .bool false]) (setObjs L), .call [] false true (.tup [.int .u64 0, .bool false]) [], .call [0, 8] false false (.row 2 2 L.length) (setObjs L ++ [.row 30 2 (L.map enc)]), .call [] false false (.row 0 2 L.length) [.row 39 2 (L.map enc)], .call [] false true (.bool true) [], .call [0, 10] false false (.int .u64 (countL L)) (setObjs L), .call [] false true (.int .u64 (countL L)) [], .f, .f, .f, .call [0, 14] false false (.int .u64 (gapO (findR L m) m)) (setObjs L), .call [] false true (.int .u64 (gapO (findR L m) m)) [], .f, .call [0, 16] false false (.bool (Run.hasO (findR L m) m)) (setObjs L), .call [] false true (.bool (Run.hasO (findR L m) m)) [], .f, .call [0, 18] false false (.bool (Run.hasO (findR L a.r.f) a.r.f)) (setObjs L), .call [] false true (.bool (Run.hasO (findR L a.r.f) a.r.f)) [], .f, .n ((k + 1 : Nat) : Int), .lp [7, 6, 5, 0, 1] [0, 20] (.exit 0) ⟨[], []⟩]) [] [] (S1 := { env := [], objs := [] }) (ob := [(↑(List.length (List.map encA s)) : Int) = (↑(List.length s) : Int),
      decide ((↑k : Int) < (↑(List.length s) : Int)) = true,
      decide ((↑k : Int) < (60 : Int)) = true,
      k < List.length (List.map encA s),
      (↑k : Int) = (↑k : Int),
      (List.map encA s)[k]? = some (AV.agg [AV.bool (ActR.drop a), AV.bool (ActR.copy a), AV.int IntKind.u64 (Rn.f (ActR.r a)), AV.int IntKind.u64 (Rn.t (ActR.r a))]),
      ACalls Try.prog 16 [AV.lst 2 (List.map enc l)] [] (AV.int IntKind.u64 (countL l)) [],
      ActR.copy a = false,
      ActR.drop a = false,
      ACalls Try.prog 20 [AV.lst 2 (List.map enc l), AV.agg [AV.int IntKind.u64 (Rn.f (ActR.r a)), AV.int IntKind.u64 (Rn.t (ActR.r a))]] [] (AV.row 0 2 (List.length L)) [Obj.row 39 2 (List.map enc L)],
      ACalls Try.prog 21 [AV.ptr 0 0, AV.agg [AV.int IntKind.u64 (Rn.f (ActR.r a)), AV.int IntKind.u64 (Rn.t (ActR.r a))]] [Obj.vars 62 [AV.row 1 2 (List.length l)], Obj.row 30 2 (List.map enc l)] (AV.int IntKind.u64 (countL L - countL l)) [Obj.vars 62 [AV.row 1 2 (List.length L)], Obj.row 30 2 (List.map enc L)],
      ACalls Try.prog 16 [AV.lst 2 (List.map enc L)] [] (AV.int IntKind.u64 (countL L)) [],
      IntKind.wrap IntKind.u64 (countL L - countL l) = countL L - countL l,
      (countL L - countL l != countL L - countL l) = false,
      ACalls Try.prog 12 [AV.ptr 0 0, AV.int IntKind.u64 m] [Obj.vars 62 [AV.row 1 2 (List.length L)], Obj.row 30 2 (List.map enc L)] (AV.tup [AV.int IntKind.u64 0, AV.bool false]) [Obj.vars 62 [AV.row 1 2 (List.length L)], Obj.row 30 2 (List.map enc L)],
      ACalls Try.prog 22 [AV.lst 2 (List.map enc L), AV.int IntKind.u64 m] [] (AV.tup [AV.int IntKind.u64 0, AV.bool false]) [],
      ACalls Try.prog 11 [AV.ptr 0 0] [Obj.vars 62 [AV.row 1 2 (List.length L)], Obj.row 30 2 (List.map enc L)] (AV.row 2 2 (List.length L)) [Obj.vars 62 [AV.row 1 2 (List.length L)], Obj.row 30 2 (List.map enc L), Obj.row 30 2 (List.map enc L)],
      ACalls Try.prog 24 [AV.lst 2 (List.map enc L)] [] (AV.row 0 2 (List.length L)) [Obj.row 39 2 (List.map enc L)],
      ACalls Try.prog 23 [AV.lst 2 (List.map enc L), AV.lst 2 (List.map enc L)] [] (AV.bool true) [],
      ACalls Try.prog 25 [AV.ptr 0 0] [Obj.vars 62 [AV.row 1 2 (List.length L)], Obj.row 30 2 (List.map enc L)] (AV.int IntKind.u64 (countL L)) [Obj.vars 62 [AV.row 1 2 (List.length L)], Obj.row 30 2 (List.map enc L)],
      ACalls Try.prog 16 [AV.lst 2 (List.map enc L)] [] (AV.int IntKind.u64 (countL L)) [],
      (countL L != countL L) = false,
      ((0 : Int) != (0 : Int)) = false,
      (!false == false) = false,
      ACalls Try.prog 13 [AV.ptr 0 0, AV.int IntKind.u64 m] [Obj.vars 62 [AV.row 1 2 (List.length L)], Obj.row 30 2 (List.map enc L)] (AV.int IntKind.u64 (gapO (findR L m) m)) [Obj.vars 62 [AV.row 1 2 (List.length L)], Obj.row 30 2 (List.map enc L)],
      ACalls Try.prog 26 [AV.lst 2 (List.map enc L), AV.int IntKind.u64 m] [] (AV.int IntKind.u64 (gapO (findR L m) m)) [],
      (gapO (findR L m) m != gapO (findR L m) m) = false,
      ACalls Try.prog 27 [AV.ptr 0 0, AV.int IntKind.u64 m] [Obj.vars 62 [AV.row 1 2 (List.length L)], Obj.row 30 2 (List.map enc L)] (AV.bool (hasO (findR L m) m)) [Obj.vars 62 [AV.row 1 2 (List.length L)], Obj.row 30 2 (List.map enc L)],
      ACalls Try.prog 28 [AV.lst 2 (List.map enc L), AV.int IntKind.u64 m] [] (AV.bool (hasO (findR L m) m)) [],
      (!hasO (findR L m) m == hasO (findR L m) m) = false,
      ACalls Try.prog 27 [AV.ptr 0 0, AV.int IntKind.u64 (Rn.f (ActR.r a))] [Obj.vars 62 [AV.row 1 2 (List.length L)], Obj.row 30 2 (List.map enc L)] (AV.bool (hasO (findR L (Rn.f (ActR.r a))) (Rn.f (ActR.r a)))) [Obj.vars 62 [AV.row 1 2 (List.length L)], Obj.row 30 2 (List.map enc L)],
      ACalls Try.prog 28 [AV.lst 2 (List.map enc L), AV.int IntKind.u64 (Rn.f (ActR.r a))] [] (AV.bool (hasO (findR L (Rn.f (ActR.r a))) (Rn.f (ActR.r a)))) [],
      (!hasO (findR L (Rn.f (ActR.r a))) (Rn.f (ActR.r a)) == hasO (findR L (Rn.f (ActR.r a))) (Rn.f (ActR.r a))) = false,
      IntKind.wrap IntKind.i64 ((↑k : Int) + (1 : Int)) = (↑(k + (1 : Nat)) : Int),
      ALoop Try.prog 0 148 (loopB Try.f4 0) { env := [(7, AV.int IntKind.i64 (↑(k + 1) : Int)), (6, AV.lst 2 (List.map enc L)), (5, AV.ptr 0 0), (0, AV.lst 4 (List.map encA s)), (1, AV.int IntKind.u64 m)], objs := [Obj.vars 62 [AV.row 1 2 (List.length L)], Obj.row 30 2 (List.map enc L)] } (Ex.exit 0) { env := [], objs := [] }]) (by kernel_rfl) (by first | exact rfl | exact ⟨rfl, rfl⟩ | (simp [hx, encA, h60, hd, hc]; done) | (first | exact wrap64 (by omega) | exact wrap_u64 (by omega) (by omega))) ⟨(by first | exact rfl | (simp [hx, encA, h60, hd, hc]; done) | (simp [hx, encA, h60, hd, hc]; omega) | omega | (first | exact wrap64 (by omega) | exact wrap_u64 (by omega) (by omega))), (by first | exact rfl | (simp [hx, encA, h60, hd, hc]; done) | (simp [hx, encA, h60, hd, hc]; omega) | omega | (first | exact wrap64 (by omega) | exact wrap_u64 (by omega) (by omega))), (by first | exact rfl | (simp [hx, encA, h60, hd, hc]; done) | (simp [hx, encA, h60, hd, hc]; omega) | omega | (first | exact wrap64 (by omega) | exact wrap_u64 (by omega) (by omega))), (by first | exact rfl | (simp [hx, encA, h60, hd, hc]; done) | (simp [hx, encA, h60, hd, hc]; omega) | omega | (first | exact wrap64 (by omega) | exact wrap_u64 (by omega) (by omega))), (by first | exact rfl | (simp [hx, encA, h60, hd, hc]; done) | (simp [hx, encA, h60, hd, hc]; omega) | omega | (first | exact wrap64 (by omega) | exact wrap_u64 (by omega) (by omega))), (by first | exact rfl | (simp [hx, encA, h60, hd, hc]; done) | (simp [hx, encA, h60, hd, hc]; omega) | omega | (first | exact wrap64 (by omega) | exact wrap_u64 (by omega) (by omega))), ?q172_1, (by first | exact rfl | (simp [hx, encA, h60, hd, hc]; done) | (simp [hx, encA, h60, hd, hc]; omega) | omega | (first | exact wrap64 (by omega) | exact wrap_u64 (by omega) (by omega))), (by first | exact rfl | (simp [hx, encA, h60, hd, hc]; done) | (simp [hx, encA, h60, hd, hc]; omega) | omega | (first | exact wrap64 (by omega) | exact wrap_u64 (by omega) (by omega))), ?q172_2, ?q172_3, ?q172_4, (by first | exact rfl | (simp [hx, encA, h60, hd, hc]; done) | (simp [hx, encA, h60, hd, hc]; omega) | omega | (first | exact wrap64 (by omega) | exact wrap_u64 (by omega) (by omega))), (by first | exact rfl | (simp [hx, encA, h60, hd, hc]; done) | (simp [hx, encA, h60, hd, hc]; omega) | omega | (first | exact wrap64 (by omega) | exact wrap_u64 (by omega) (by omega))), ?q172_5, ?q172_6, ?q172_7, ?q172_8, ?q172_9, ?q172_10, ?q172_11, (by first | exact rfl | (simp [hx, encA, h60, hd, hc]; done) | (simp [hx, encA, h60, hd, hc]; omega) | omega | (first | exact wrap64 (by omega) | exact wrap_u64 (by omega) (by omega))), (by first | exact rfl | (simp [hx, encA, h60, hd, hc]; done) | (simp [hx, encA, h60, hd, hc]; omega) | omega | (first | exact wrap64 (by omega) | exact wrap_u64 (by omega) (by omega))), (by first | exact rfl | (simp [hx, encA, h60, hd, hc]; done) | (simp [hx, encA, h60, hd, hc]; omega) | omega | (first | exact wrap64 (by omega) | exact wrap_u64 (by omega) (by omega))), ?q172_12, ?q172_13, (by first | exact rfl | (simp [hx, encA, h60, hd, hc]; done) | (simp [hx, encA, h60, hd, hc]; omega) | omega | (first | exact wrap64 (by omega) | exact wrap_u64 (by omega) (by omega))), ?q172_14, ?q172_15, (by first | exact rfl | (simp [hx, encA, h60, hd, hc]; done) | (simp [hx, encA, h60, hd, hc]; omega) | omega | (first | exact wrap64 (by omega) | exact wrap_u64 (by omega) (by omega))), ?q172_16, ?q172_17, (by first | exact rfl | (simp [hx, encA, h60, hd, hc]; done) | (simp [hx, encA, h60, hd, hc]; omega) | omega | (first | exact wrap64 (by omega) | exact wrap_u64 (by omega) (by omega))), (by first | exact rfl | (simp [hx, encA, h60, hd, hc]; done) | (simp [hx, encA, h60, hd, hc]; omega) | omega | (first | exact wrap64 (by omega) | exact wrap_u64 (by omega) (by omega))), ?q172_18, trivial⟩
          · exact c0
          · exact cRef
          · exact cAct
          · exact cCount
          · exact cNext
          · exact cRNext
          · exact cRuns
          · exact cTold
          · exact cSame
          · exact cSCount
          · exact cCount
          · exact cGap
          · exact cRGap
          · exact cHas
          · exact cRHas
          · exact cHasF
          · exact cRHasF
          · exact ih
        | some y =>
          rw [hf] at cNext cRNext
          refine aloopK mixed [0, 1, 4, 5, 6, 7, 8, 9, 10, 11, 12, 13, 14, 15, 16, 25, 29, 54, 55, 65, 79, 146] 1000 ([.go, .n s.length, .t, .t, .ix k, .el (encA a), .call [] false true (.int .u64 (countL l)) [], .f, .f, .call [] true false (.row 0 2 L.length) [.row 39 2 (L.map enc)], .call [0, 1] false false (.int .u64 (countL L - countL l)) (setObjs L), .call [] false true (.int .u64 (countL L)) [], .n (countL L - countL l), .f, .call [0, 6] false false (.tup [.int .u64 (max m y.f), .bool true]) (setObjs L), .call [] false true (.tup [.int .u64 (max m y.f), .bool true]) [], .call [0, 8] false false (.row 2 2 L.length) (setObjs L ++ [.row 30 2 (L.map enc)]), .call [] false false (.row 0 2 L.length) [.row 39 2 (L.map enc)], .call [] false true (.bool true) [], .call [0, 10] false false (.int .u64 (countL L)) (setObjs L), .call [] false true (.int .u64 (countL L)) [], .f, .f, .f, .call [0, 14] false false (.int .u64 (gapO (findR L m) m)) (setObjs L), .call [] false true (.int .u64 (gapO (findR L m) m)) [], .f, .call [0, 16] false false (.bool (Run.hasO (findR L m) m)) (setObjs L), .call [] false true (.bool (Run.hasO (findR L m) m)) [], .f, .call [0, 18] false false (.bool (Run.hasO (findR L a.r.f) a.r.f)) (setObjs L), .call [] false true (.bool (Run.hasO (findR L a.r.f) a.r.f)) [], .f, .n ((k + 1 : Nat) : Int), .lp [7, 6, 5, 0, 1] [0, 20] (.exit 0) ⟨[], []⟩]) [] [] (S1 := { env := [], objs := [] }) (ob := [(↑(List.length (List.map encA s)) : Int) = (↑(List.length s) : Int),
      decide ((↑k : Int) < (↑(List.length s) : Int)) = true,
      decide ((↑k : Int) < (60 : Int)) = true,
      k < List.length (List.map encA s),
      (↑k : Int) = (↑k : Int),
      (List.map encA s)[k]? = some (AV.agg [AV.bool (ActR.drop a), AV.bool (ActR.copy a), AV.int IntKind.u64 (Rn.f (ActR.r a)), AV.int IntKind.u64 (Rn.t (ActR.r a))]),
      ACalls Try.prog 16 [AV.lst 2 (List.map enc l)] [] (AV.int IntKind.u64 (countL l)) [],
      ActR.copy a = false,
      ActR.drop a = false,
      ACalls Try.prog 20 [AV.lst 2 (List.map enc l), AV.agg [AV.int IntKind.u64 (Rn.f (ActR.r a)), AV.int IntKind.u64 (Rn.t (ActR.r a))]] [] (AV.row 0 2 (List.length L)) [Obj.row 39 2 (List.map enc L)],
      ACalls Try.prog 21 [AV.ptr 0 0, AV.agg [AV.int IntKind.u64 (Rn.f (ActR.r a)), AV.int IntKind.u64 (Rn.t (ActR.r a))]] [Obj.vars 62 [AV.row 1 2 (List.length l)], Obj.row 30 2 (List.map enc l)] (AV.int IntKind.u64 (countL L - countL l)) [Obj.vars 62 [AV.row 1 2 (List.length L)], Obj.row 30 2 (List.map enc L)],
      ACalls Try.prog 16 [AV.lst 2 (List.map enc L)] [] (AV.int IntKind.u64 (countL L)) [],
      IntKind.wrap IntKind.u64 (countL L - countL l) = countL L - countL l,
      (countL L - countL l != countL L - countL l) = false,
      ACalls Try.prog 12 [AV.ptr 0 0, AV.int IntKind.u64 m] [Obj.vars 62 [AV.row 1 2 (List.length L)], Obj.row 30 2 (List.map enc L)] (AV.tup [AV.int IntKind.u64 (max m (Rn.f y)), AV.bool true]) [Obj.vars 62 [AV.row 1 2 (List.length L)], Obj.row 30 2 (List.map enc L)],
      ACalls Try.prog 22 [AV.lst 2 (List.map enc L), AV.int IntKind.u64 m] [] (AV.tup [AV.int IntKind.u64 (max m (Rn.f y)), AV.bool true]) [],
      ACalls Try.prog 11 [AV.ptr 0 0] [Obj.vars 62 [AV.row 1 2 (List.length L)], Obj.row 30 2 (List.map enc L)] (AV.row 2 2 (List.length L)) [Obj.vars 62 [AV.row 1 2 (List.length L)], Obj.row 30 2 (List.map enc L), Obj.row 30 2 (List.map enc L)],
      ACalls Try.prog 24 [AV.lst 2 (List.map enc L)] [] (AV.row 0 2 (List.length L)) [Obj.row 39 2 (List.map enc L)],
      ACalls Try.prog 23 [AV.lst 2 (List.map enc L), AV.lst 2 (List.map enc L)] [] (AV.bool true) [],
      ACalls Try.prog 25 [AV.ptr 0 0] [Obj.vars 62 [AV.row 1 2 (List.length L)], Obj.row 30 2 (List.map enc L)] (AV.int IntKind.u64 (countL L)) [Obj.vars 62 [AV.row 1 2 (List.length L)], Obj.row 30 2 (List.map enc L)],
      ACalls Try.prog 16 [AV.lst 2 (List.map enc L)] [] (AV.int IntKind.u64 (countL L)) [],
      (countL L != countL L) = false,
      (max m (Rn.f y) != max m (Rn.f y)) = false,
      (!true == true) = false,
      ACalls Try.prog 13 [AV.ptr 0 0, AV.int IntKind.u64 m] [Obj.vars 62 [AV.row 1 2 (List.length L)], Obj.row 30 2 (List.map enc L)] (AV.int IntKind.u64 (gapO (findR L m) m)) [Obj.vars 62 [AV.row 1 2 (List.length L)], Obj.row 30 2 (List.map enc L)],
      ACalls Try.prog 26 [AV.lst 2 (List.map enc L), AV.int IntKind.u64 m] [] (AV.int IntKind.u64 (gapO (findR L m) m)) [],
      (gapO (findR L m) m != gapO (findR L m) m) = false,
      ACalls Try.prog 27 [AV.ptr 0 0, AV.int IntKind.u64 m] [Obj.vars 62 [AV.row 1 2 (List.length L)], Obj.row 30 2 (List.map enc L)] (AV.bool (hasO (findR L m) m)) [Obj.vars 62 [AV.row 1 2 (List.length L)], Obj.row 30 2 (List.map enc L)],
      ACalls Try.prog 28 [AV.lst 2 (List.map enc L), AV.int IntKind.u64 m] [] (AV.bool (hasO (findR L m) m)) [],
      (!hasO (findR L m) m == hasO (findR L m) m) = false,
      ACalls Try.prog 27 [AV.ptr 0 0, AV.int IntKind.u64 (Rn.f (ActR.r a))] [Obj.vars 62 [AV.row 1 2 (List.length L)], Obj.row 30 2 (List.map enc L)] (AV.bool (hasO (findR L (Rn.f (ActR.r a))) (Rn.f (ActR.r a)))) [Obj.vars 62 [AV.row 1 2 (List.length L)], Obj.row 30 2 (List.map enc L)],
      ACalls Try.prog 28 [AV.lst 2 (List.map enc L), AV.int IntKind.u64 (Rn.f (ActR.r a))] [] (AV.bool (hasO (findR L (Rn.f (ActR.r a))) (Rn.f (ActR.r a)))) [],
      (!hasO (findR L (Rn.f (ActR.r a))) (Rn.f (ActR.r a)) == hasO (findR L (Rn.f (ActR.r a))) (Rn.f (ActR.r a))) = false,
      IntKind.wrap IntKind.i64 ((↑k : Int) + (1 : Int)) = (↑(k + (1 : Nat)) : Int),
      ALoop Try.prog 0 148 (loopB Try.f4 0) { env := [(7, AV.int IntKind.i64 (↑(k + 1) : Int)), (6, AV.lst 2 (List.map enc L)), (5, AV.ptr 0 0), (0, AV.lst 4 (List.map encA s)), (1, AV.int IntKind.u64 m)], objs := [Obj.vars 62 [AV.row 1 2 (List.length L)], Obj.row 30 2 (List.map enc L)] } (Ex.exit 0) { env := [], objs := [] }]) (by kernel_rfl) (by first | exact rfl | exact ⟨rfl, rfl⟩ | (simp [hx, encA, h60, hd, hc]; done) | (first | exact wrap64 (by omega) | exact wrap_u64 (by omega) (by omega))) ⟨(by first | exact rfl | (simp [hx, encA, h60, hd, hc]; done) | (simp [hx, encA, h60, hd, hc]; omega) | omega | (first | exact wrap64 (by omega) | exact wrap_u64 (by omega) (by omega))), (by first | exact rfl | (simp [hx, encA, h60, hd, hc]; done) | (simp [hx, encA, h60, hd, hc]; omega) | omega | (first | exact wrap64 (by omega) | exact wrap_u64 (by omega) (by omega))), (by first | exact rfl | (simp [hx, encA, h60, hd, hc]; done) | (simp [hx, encA, h60, hd, hc]; omega) | omega | (first | exact wrap64 (by omega) | exact wrap_u64 (by omega) (by omega))), (by first | exact rfl | (simp [hx, encA, h60, hd, hc]; done) | (simp [hx, encA, h60, hd, hc]; omega) | omega | (first | exact wrap64 (by omega) | exact wrap_u64 (by omega) (by omega))), (by first | exact rfl | (simp [hx, encA, h60, hd, hc]; done) | (simp [hx, encA, h60, hd, hc]; omega) | omega | (first | exact wrap64 (by omega) | exact wrap_u64 (by omega) (by omega))), (by first | exact rfl | (simp [hx, encA, h60, hd, hc]; done) | (simp [hx, encA, h60, hd, hc]; omega) | omega | (first | exact wrap64 (by omega) | exact wrap_u64 (by omega) (by omega))), ?q193_1, (by first | exact rfl | (simp [hx, encA, h60, hd, hc]; done) | (simp [hx, encA, h60, hd, hc]; omega) | omega | (first | exact wrap64 (by omega) | exact wrap_u64 (by omega) (by omega))), (by first | exact rfl | (simp [hx, encA, h60, hd, hc]; done) | (simp [hx, encA, h60, hd, hc]; omega) | omega | (first | exact wrap64 (by omega) | exact wrap_u64 (by omega) (by omega))), ?q193_2, ?q193_3, ?q193_4, (by first | exact rfl | (simp [hx, encA, h60, hd, hc]; done) | (simp [hx, encA, h60, hd, hc]; omega) | omega | (first | exact wrap64 (by omega) | exact wrap_u64 (by omega) (by omega))), (by first | exact rfl | (simp [hx, encA, h60, hd, hc]; done) | (simp [hx, encA, h60, hd, hc]; omega) | omega | (first | exact wrap64 (by omega) | exact wrap_u64 (by omega) (by omega))), ?q193_5, ?q193_6, ?q193_7, ?q193_8, ?q193_9, ?q193_10, ?q193_11, (by first | exact rfl | (simp [hx, encA, h60, hd, hc]; done) | (simp [hx, encA, h60, hd, hc]; omega) | omega | (first | exact wrap64 (by omega) | exact wrap_u64 (by omega) (by omega))), (by first | exact rfl | (simp [hx, encA, h60, hd, hc]; done) | (simp [hx, encA, h60, hd, hc]; omega) | omega | (first | exact wrap64 (by omega) | exact wrap_u64 (by omega) (by omega))), (by first | exact rfl | (simp [hx, encA, h60, hd, hc]; done) | (simp [hx, encA, h60, hd, hc]; omega) | omega | (first | exact wrap64 (by omega) | exact wrap_u64 (by omega) (by omega))), ?q193_12, ?q193_13, (by first | exact rfl | (simp [hx, encA, h60, hd, hc]; done) | (simp [hx, encA, h60, hd, hc]; omega) | omega | (first | exact wrap64 (by omega) | exact wrap_u64 (by omega) (by omega))), ?q193_14, ?q193_15, (by first | exact rfl | (simp [hx, encA, h60, hd, hc]; done) | (simp [hx, encA, h60, hd, hc]; omega) | omega | (first | exact wrap64 (by omega) | exact wrap_u64 (by omega) (by omega))), ?q193_16, ?q193_17, (by first | exact rfl | (simp [hx, encA, h60, hd, hc]; done) | (simp [hx, encA, h60, hd, hc]; omega) | omega | (first | exact wrap64 (by omega) | exact wrap_u64 (by omega) (by omega))), (by first | exact rfl | (simp [hx, encA, h60, hd, hc]; done) | (simp [hx, encA, h60, hd, hc]; omega) | omega | (first | exact wrap64 (by omega) | exact wrap_u64 (by omega) (by omega))), ?q193_18, trivial⟩
          · exact c0
          · exact cRef
          · exact cAct
          · exact cCount
          · exact cNext
          · exact cRNext
          · exact cRuns
          · exact cTold
          · exact cSame
          · exact cSCount
          · exact cCount
          · exact cGap
          · exact cRGap
          · exact cHas
          · exact cRHas
          · exact cHasF
          · exact cRHasF
          · exact ih
    · refine aloopK mixed [0, 1, 4, 5, 6, 7, 8, 9, 10, 11, 12, 13, 14, 15, 16, 25, 29, 54, 55, 65, 79, 146] 1000 ([.go, .n s.length, .t, .f]) [] [] (S1 := { env := [], objs := [] }) (ob := [(↑(List.length (List.map encA s)) : Int) = (↑(List.length s) : Int),
      decide ((↑k : Int) < (↑(List.length s) : Int)) = true,
      decide ((↑k : Int) < (60 : Int)) = false]) (by kernel_rfl) (by first | exact rfl | exact ⟨rfl, rfl⟩ | (simp [h60]; done)) ⟨(by first | exact rfl | (simp [h60]; done) | (simp [h60]; omega) | omega), (by first | exact rfl | (simp [h60]; done) | (simp [h60]; omega) | omega), (by first | exact rfl | (simp [h60]; done) | (simp [h60]; omega) | omega), trivial⟩
theorem plays_ac (s : List ActR) (m : Int) (h64 : ∀ a ∈ s, Run64 a.r) : ACalls Try.prog 4 [.lst 4 (s.map encA), .int .u64 m] [] (.bool true) [] := by
  have h := plays_loop s m h64 s.length 0 [] (by simp) (by omega) good_nil (by simp)
  refine acallsK mixed Try.func4 rfl [0, 1, 4, 5, 6, 7, 8, 9, 10, 11, 12, 13, 14, 15, 16, 25, 29, 54, 55, 65, 79, 146] 1000 ([.call [] false false (.ptr 0 0) (setObjs []), .mk 6 39 2, .fz [2], .lp [7, 6, 5, 0, 1] [0, 1] (.exit 0) ⟨[], []⟩, .call [] false true (.bool true) []]) [] [] (v1 := AV.bool true) (objs1 := []) (ob := [ACalls Try.prog 15 [] [] (AV.ptr 0 0) [Obj.vars 62 [AV.row 1 2 0], Obj.row 30 2 []],
      ALoop Try.prog 0 148 (loopB Try.f4 0) { env := [(7, AV.int IntKind.i64 0), (6, AV.lst 2 []), (5, AV.ptr 0 0), (0, AV.lst 4 (List.map encA s)), (1, AV.int IntKind.u64 m)], objs := [Obj.vars 62 [AV.row 1 2 0], Obj.row 30 2 []] } (Ex.exit 0) { env := [], objs := [] },
      ACalls Try.prog 14 [] [] (AV.bool true) []]) (by kernel_rfl) (by first | exact rfl | exact ⟨rfl, rfl⟩ | (simp []; done)) ⟨?q215_1, ?q215_2, ?q215_3, trivial⟩
  · exact new_acalls
  · exact h
  · exact alive_ac
end Go.Proofs.Ytaphhmefkfhepaa.Run

