/- Package runs, and the law's functions: by runs along paths. -/
import Derived.Test.YtaphhmefkfhepaaRunT
namespace Go.Proofs.Ytaphhmefkfhepaa.Run
open Go Go.RowKit Go.Proofs.Ytaphhmefkfhepaa.L Go.Proofs.Ytaphhmefkfhepaa.X
set_option linter.unusedVariables false
set_option linter.unusedSimpArgs false

theorem runs_nil_ac : ACalls Try.prog 11 [.nilp] [] .nils [] := by
  refine acallsK mixed Try.func11 rfl [0, 2, 4] 1000 ([]) [] [] (v1 := AV.nils) (objs1 := []) (ob := []) (by kernel_rfl) (by first | exact rfl | exact ⟨rfl, rfl⟩ | (simp []; done)) trivial
theorem wrap64 {n : Nat} (h : n < 9223372036854775807) : IntKind.i64.wrap ((n : Int) + 1) = ((n + 1 : Nat) : Int) := by
  simp [IntKind.wrap, IntKind.bits, IntKind.signed]; omega
theorem take_map_step {l : List Rn} {k : Nat} {r : Rn} (h : l[k]? = some r) : (l.take k).map enc ++ [enc r] = (l.take (k + 1)).map enc := by
  rw [List.take_add_one, h]; simp
theorem told_loop (l : List Rn) (hb : l.length ≤ 1099511627775) : ∀ (n k : Nat), l.length = k + n →
    ALoop Try.prog 0 Try.f24.ntmps (loopB Try.f24 0) ⟨[(0, .lst 2 (l.map enc)), (3, .row 0 2 k), (4, .int .i64 k)], [.row 39 2 ((l.take k).map enc)]⟩ (.exit 0)
      ⟨[(3, .row 0 2 l.length)], [.row 39 2 (l.map enc)]⟩
  | 0, k, hk => by
    refine aloopK mixed [0, 2, 3, 4, 8] 1000 ([.go, .n l.length, .f]) [3] [0] (S1 := { env := [(3, AV.row 0 2 k)], objs := [Obj.row 39 2 (List.map enc (List.take k l))] }) (ob := [(↑(List.length (List.map enc l)) : Int) = (↑(List.length l) : Int),
      decide ((↑k : Int) < (↑(List.length l) : Int)) = false]) (by kernel_rfl) (by first | exact rfl | exact ⟨rfl, rfl⟩ | (simp []; done) | (rw [List.take_of_length_le (by omega), show k = l.length by omega])) ⟨(by first | exact rfl | (simp []; done) | (simp []; omega) | omega | (rw [List.take_of_length_le (by omega), show k = l.length by omega])), (by first | exact rfl | (simp []; done) | (simp []; omega) | omega | (rw [List.take_of_length_le (by omega), show k = l.length by omega])), trivial⟩
  | n + 1, k, hk => by
    have hlt : k < l.length := by omega
    obtain ⟨r, hr⟩ : ∃ r, l[k]? = some r := ⟨_, List.getElem?_eq_getElem hlt⟩
    refine aloopK mixed [0, 2, 3, 4, 8] 1000 ([.go, .n l.length, .t, .ix k, .el (enc r), .ix k, .el (enc r), .ls ((l.take (k+1)).map enc), .n ((k+1 : Nat) : Int), .lp [0, 3, 4] [2] (.exit 0) ⟨[(3, .row 0 2 l.length)], [.row 39 2 (l.map enc)]⟩]) [3] [0] (S1 := { env := [(3, AV.row 0 2 (List.length l))], objs := [Obj.row 39 2 (List.map enc l)] }) (ob := [(↑(List.length (List.map enc l)) : Int) = (↑(List.length l) : Int),
      decide ((↑k : Int) < (↑(List.length l) : Int)) = true,
      k < List.length (List.map enc l),
      (↑k : Int) = (↑k : Int),
      (List.map enc l)[k]? = some (AV.agg [AV.int IntKind.u64 (Rn.f r), AV.int IntKind.u64 (Rn.t r)]),
      k < List.length (List.map enc l),
      (↑k : Int) = (↑k : Int),
      (List.map enc l)[k]? = some (AV.agg [AV.int IntKind.u64 (Rn.f r), AV.int IntKind.u64 (Rn.t r)]),
      (List.length (List.map enc (List.take k l)) + List.length [AV.agg [AV.int IntKind.u64 (Rn.f r), AV.int IntKind.u64 (Rn.t r)]]) * 16 ≤ 140737488355328,
      List.map enc (List.take k l) ++ [AV.agg [AV.int IntKind.u64 (Rn.f r), AV.int IntKind.u64 (Rn.t r)]] = List.map enc (List.take (k + 1) l),
      IntKind.wrap IntKind.i64 ((↑k : Int) + 1) = (↑(k + 1) : Int),
      ALoop Try.prog 0 (Func.ntmps Try.f24) (loopB Try.f24 0) { env := [(0, AV.lst 2 (List.map enc l)), (3, AV.row 0 2 (List.length (List.map enc (List.take (k + 1) l)))), (4, AV.int IntKind.i64 (↑(k + 1) : Int))], objs := [Obj.row 39 2 (List.map enc (List.take (k + 1) l))] } (Ex.exit 0) { env := [(3, AV.row 0 2 (List.length l))], objs := [Obj.row 39 2 (List.map enc l)] }]) (by kernel_rfl) (by first | exact rfl | exact ⟨rfl, rfl⟩ | (simp [hr, enc]; done) | (first | exact take_map_step hr | exact wrap64 (by omega) | omega)) ⟨(by first | exact rfl | (simp [hr, enc]; done) | (simp [hr, enc]; omega) | omega | (first | exact take_map_step hr | exact wrap64 (by omega) | omega)), (by first | exact rfl | (simp [hr, enc]; done) | (simp [hr, enc]; omega) | omega | (first | exact take_map_step hr | exact wrap64 (by omega) | omega)), (by first | exact rfl | (simp [hr, enc]; done) | (simp [hr, enc]; omega) | omega | (first | exact take_map_step hr | exact wrap64 (by omega) | omega)), (by first | exact rfl | (simp [hr, enc]; done) | (simp [hr, enc]; omega) | omega | (first | exact take_map_step hr | exact wrap64 (by omega) | omega)), (by first | exact rfl | (simp [hr, enc]; done) | (simp [hr, enc]; omega) | omega | (first | exact take_map_step hr | exact wrap64 (by omega) | omega)), (by first | exact rfl | (simp [hr, enc]; done) | (simp [hr, enc]; omega) | omega | (first | exact take_map_step hr | exact wrap64 (by omega) | omega)), (by first | exact rfl | (simp [hr, enc]; done) | (simp [hr, enc]; omega) | omega | (first | exact take_map_step hr | exact wrap64 (by omega) | omega)), (by first | exact rfl | (simp [hr, enc]; done) | (simp [hr, enc]; omega) | omega | (first | exact take_map_step hr | exact wrap64 (by omega) | omega)), (by first | exact rfl | (simp [hr, enc]; done) | (simp [hr, enc]; omega) | omega | (first | exact take_map_step hr | exact wrap64 (by omega) | omega)), (by first | exact rfl | (simp [hr, enc]; done) | (simp [hr, enc]; omega) | omega | (first | exact take_map_step hr | exact wrap64 (by omega) | omega)), (by first | exact rfl | (simp [hr, enc]; done) | (simp [hr, enc]; omega) | omega | (first | exact take_map_step hr | exact wrap64 (by omega) | omega)), ?q1, trivial⟩
    have e : (List.map enc (List.take (k + 1) l)).length = k + 1 := by simp; omega
    rw [e]
    exact told_loop l hb n (k + 1) (by omega)
theorem told_ac (l : List Rn) (hb : l.length ≤ 1099511627775) : ACalls Try.prog 24 [.lst 2 (l.map enc)] [] (.row 0 2 l.length) [.row 39 2 (l.map enc)] := by
  refine acallsK mixed Try.func24 rfl [0, 2, 3, 4, 8] 1000 ([.mk 3 39 2, .lp [0, 3, 4] [0] (.exit 0) ⟨[(3, .row 0 2 l.length)], [.row 39 2 (l.map enc)]⟩]) [] [0] (v1 := AV.row 0 2 (List.length l)) (objs1 := [Obj.row 39 2 (List.map enc l)]) (ob := [ALoop Try.prog 0 26 (loopB Try.f24 0) { env := [(0, AV.lst 2 (List.map enc l)), (3, AV.row 0 2 0), (4, AV.int IntKind.i64 0)], objs := [Obj.row 39 2 []] } (Ex.exit 0) { env := [(3, AV.row 0 2 (List.length l))], objs := [Obj.row 39 2 (List.map enc l)] }]) (by kernel_rfl) (by first | exact rfl | exact ⟨rfl, rfl⟩ | (simp []; done)) ⟨?q1, trivial⟩
  exact told_loop l hb l.length 0 (by simp)
end Go.Proofs.Ytaphhmefkfhepaa.Run
