/- Layouts: numbers, lists, whether one is wrong: by runs along paths. -/
import Derived.Test.YtidgcfgkcidkiaaChF
namespace Go.Proofs.Ytidgcfgkcidkiaa.Ch
open Go Go.RowKit Go.Proofs.Ytidgcfgkcidkiaa.L Go.Proofs.Ytidgcfgkcidkiaa.X
set_option linter.unusedVariables false
set_option linter.unusedSimpArgs false

def outB (n : Int) : Bool := !inB n 32
theorem outside_ac (n : Int) : ACalls Try.prog 33 [.int .i64 n] [] (.bool (outB n)) [] := by
  by_cases h1 : n < 0
  · rw [show outB n = true by simp [outB, inB]; omega]
    refine acallsK mixed Try.func33 rfl [0, 2] 1000 ([.t]) [] [] (v1 := AV.bool true) (objs1 := []) (ob := [decide (n < (0 : Int)) = true]) (by kernel_rfl) (by first | exact rfl | exact ⟨rfl, rfl⟩ | (simp [h1]; done)) ⟨(by first | exact rfl | (simp [h1]; done) | (simp [h1]; omega) | omega), trivial⟩
  · by_cases h2 : 32 ≤ n
    · rw [show outB n = true by simp [outB, inB]; omega]
      refine acallsK mixed Try.func33 rfl [0, 2] 1000 ([.f, .t]) [] [] (v1 := AV.bool true) (objs1 := []) (ob := [decide (n < (0 : Int)) = false,
      decide (n ≥ (32 : Int)) = true]) (by kernel_rfl) (by first | exact rfl | exact ⟨rfl, rfl⟩ | (simp [h1, h2]; done) | (omega)) ⟨(by first | exact rfl | (simp [h1, h2]; done) | (simp [h1, h2]; omega) | omega | (omega)), (by first | exact rfl | (simp [h1, h2]; done) | (simp [h1, h2]; omega) | omega | (omega)), trivial⟩
    · rw [show outB n = false by simp [outB, inB]; omega]
      refine acallsK mixed Try.func33 rfl [0, 2] 1000 ([.f, .f]) [] [] (v1 := AV.bool false) (objs1 := []) (ob := [decide (n < (0 : Int)) = false,
      decide (n ≥ (32 : Int)) = false]) (by kernel_rfl) (by first | exact rfl | exact ⟨rfl, rfl⟩ | (simp [h1, h2]; done) | (omega)) ⟨(by first | exact rfl | (simp [h1, h2]; done) | (simp [h1, h2]; omega) | omega | (omega)), (by first | exact rfl | (simp [h1, h2]; done) | (simp [h1, h2]; omega) | omega | (omega)), trivial⟩
def lenB (n : Nat) (m : Int) : Bool := decide (0 < n) && decide ((n : Int) ≤ m)
theorem within_seg (l : List AV) (m : Int) : ACalls Try.prog 34 [.lst 2 l, .int .i64 m] [] (.bool (lenB l.length m)) [] := by
  by_cases h1 : 0 < l.length
  · by_cases h2 : (l.length : Int) ≤ m
    · rw [show lenB l.length m = true by simp [lenB, h1, h2]]
      refine acallsK mixed Try.func34 rfl [0, 1, 4] 1000 ([.n l.length, .t, .n l.length, .t]) [] [] (v1 := AV.bool true) (objs1 := []) (ob := [(↑(List.length l) : Int) = (↑(List.length l) : Int),
      decide ((↑(List.length l) : Int) > (0 : Int)) = true,
      (↑(List.length l) : Int) = (↑(List.length l) : Int),
      decide ((↑(List.length l) : Int) ≤ m) = true]) (by kernel_rfl) (by first | exact rfl | exact ⟨rfl, rfl⟩ | (simp [h1, h2]; done)) ⟨(by first | exact rfl | (simp [h1, h2]; done) | (simp [h1, h2]; omega) | omega), (by first | exact rfl | (simp [h1, h2]; done) | (simp [h1, h2]; omega) | omega), (by first | exact rfl | (simp [h1, h2]; done) | (simp [h1, h2]; omega) | omega), (by first | exact rfl | (simp [h1, h2]; done) | (simp [h1, h2]; omega) | omega), trivial⟩
    · rw [show lenB l.length m = false by simp [lenB, h2]]
      refine acallsK mixed Try.func34 rfl [0, 1, 4] 1000 ([.n l.length, .t, .n l.length, .f]) [] [] (v1 := AV.bool false) (objs1 := []) (ob := [(↑(List.length l) : Int) = (↑(List.length l) : Int),
      decide ((↑(List.length l) : Int) > (0 : Int)) = true,
      (↑(List.length l) : Int) = (↑(List.length l) : Int),
      decide ((↑(List.length l) : Int) ≤ m) = false]) (by kernel_rfl) (by first | exact rfl | exact ⟨rfl, rfl⟩ | (simp [h1, h2]; done)) ⟨(by first | exact rfl | (simp [h1, h2]; done) | (simp [h1, h2]; omega) | omega), (by first | exact rfl | (simp [h1, h2]; done) | (simp [h1, h2]; omega) | omega), (by first | exact rfl | (simp [h1, h2]; done) | (simp [h1, h2]; omega) | omega), (by first | exact rfl | (simp [h1, h2]; done) | (simp [h1, h2]; omega) | omega), trivial⟩
  · rw [show lenB l.length m = false by simp [lenB]; omega]
    refine acallsK mixed Try.func34 rfl [0, 1, 4] 1000 ([.n l.length, .f]) [] [] (v1 := AV.bool false) (objs1 := []) (ob := [(↑(List.length l) : Int) = (↑(List.length l) : Int),
      decide ((↑(List.length l) : Int) > (0 : Int)) = false]) (by kernel_rfl) (by first | exact rfl | exact ⟨rfl, rfl⟩ | (simp [h1]; done) | (omega)) ⟨(by first | exact rfl | (simp [h1]; done) | (simp [h1]; omega) | omega | (omega)), (by first | exact rfl | (simp [h1]; done) | (simp [h1]; omega) | omega | (omega)), trivial⟩
theorem within_chains (l : List AV) (m : Int) : ACalls Try.prog 66 [.lst 1 l, .int .i64 m] [] (.bool (lenB l.length m)) [] := by
  by_cases h1 : 0 < l.length
  · by_cases h2 : (l.length : Int) ≤ m
    · rw [show lenB l.length m = true by simp [lenB, h1, h2]]
      refine acallsK mixed Try.func66 rfl [0, 1, 4] 1000 ([.n l.length, .t, .n l.length, .t]) [] [] (v1 := AV.bool true) (objs1 := []) (ob := [(↑(List.length l) : Int) = (↑(List.length l) : Int),
      decide ((↑(List.length l) : Int) > (0 : Int)) = true,
      (↑(List.length l) : Int) = (↑(List.length l) : Int),
      decide ((↑(List.length l) : Int) ≤ m) = true]) (by kernel_rfl) (by first | exact rfl | exact ⟨rfl, rfl⟩ | (simp [h1, h2]; done)) ⟨(by first | exact rfl | (simp [h1, h2]; done) | (simp [h1, h2]; omega) | omega), (by first | exact rfl | (simp [h1, h2]; done) | (simp [h1, h2]; omega) | omega), (by first | exact rfl | (simp [h1, h2]; done) | (simp [h1, h2]; omega) | omega), (by first | exact rfl | (simp [h1, h2]; done) | (simp [h1, h2]; omega) | omega), trivial⟩
    · rw [show lenB l.length m = false by simp [lenB, h2]]
      refine acallsK mixed Try.func66 rfl [0, 1, 4] 1000 ([.n l.length, .t, .n l.length, .f]) [] [] (v1 := AV.bool false) (objs1 := []) (ob := [(↑(List.length l) : Int) = (↑(List.length l) : Int),
      decide ((↑(List.length l) : Int) > (0 : Int)) = true,
      (↑(List.length l) : Int) = (↑(List.length l) : Int),
      decide ((↑(List.length l) : Int) ≤ m) = false]) (by kernel_rfl) (by first | exact rfl | exact ⟨rfl, rfl⟩ | (simp [h1, h2]; done)) ⟨(by first | exact rfl | (simp [h1, h2]; done) | (simp [h1, h2]; omega) | omega), (by first | exact rfl | (simp [h1, h2]; done) | (simp [h1, h2]; omega) | omega), (by first | exact rfl | (simp [h1, h2]; done) | (simp [h1, h2]; omega) | omega), (by first | exact rfl | (simp [h1, h2]; done) | (simp [h1, h2]; omega) | omega), trivial⟩
  · rw [show lenB l.length m = false by simp [lenB]; omega]
    refine acallsK mixed Try.func66 rfl [0, 1, 4] 1000 ([.n l.length, .f]) [] [] (v1 := AV.bool false) (objs1 := []) (ob := [(↑(List.length l) : Int) = (↑(List.length l) : Int),
      decide ((↑(List.length l) : Int) > (0 : Int)) = false]) (by kernel_rfl) (by first | exact rfl | exact ⟨rfl, rfl⟩ | (simp [h1]; done) | (omega)) ⟨(by first | exact rfl | (simp [h1]; done) | (simp [h1]; omega) | omega | (omega)), (by first | exact rfl | (simp [h1]; done) | (simp [h1]; omega) | omega | (omega)), trivial⟩
theorem within_units (l : List AV) (m : Int) : ACalls Try.prog 69 [.lst 1 l, .int .i64 m] [] (.bool (lenB l.length m)) [] := by
  by_cases h1 : 0 < l.length
  · by_cases h2 : (l.length : Int) ≤ m
    · rw [show lenB l.length m = true by simp [lenB, h1, h2]]
      refine acallsK mixed Try.func69 rfl [0, 1, 4] 1000 ([.n l.length, .t, .n l.length, .t]) [] [] (v1 := AV.bool true) (objs1 := []) (ob := [(↑(List.length l) : Int) = (↑(List.length l) : Int),
      decide ((↑(List.length l) : Int) > (0 : Int)) = true,
      (↑(List.length l) : Int) = (↑(List.length l) : Int),
      decide ((↑(List.length l) : Int) ≤ m) = true]) (by kernel_rfl) (by first | exact rfl | exact ⟨rfl, rfl⟩ | (simp [h1, h2]; done)) ⟨(by first | exact rfl | (simp [h1, h2]; done) | (simp [h1, h2]; omega) | omega), (by first | exact rfl | (simp [h1, h2]; done) | (simp [h1, h2]; omega) | omega), (by first | exact rfl | (simp [h1, h2]; done) | (simp [h1, h2]; omega) | omega), (by first | exact rfl | (simp [h1, h2]; done) | (simp [h1, h2]; omega) | omega), trivial⟩
    · rw [show lenB l.length m = false by simp [lenB, h2]]
      refine acallsK mixed Try.func69 rfl [0, 1, 4] 1000 ([.n l.length, .t, .n l.length, .f]) [] [] (v1 := AV.bool false) (objs1 := []) (ob := [(↑(List.length l) : Int) = (↑(List.length l) : Int),
      decide ((↑(List.length l) : Int) > (0 : Int)) = true,
      (↑(List.length l) : Int) = (↑(List.length l) : Int),
      decide ((↑(List.length l) : Int) ≤ m) = false]) (by kernel_rfl) (by first | exact rfl | exact ⟨rfl, rfl⟩ | (simp [h1, h2]; done)) ⟨(by first | exact rfl | (simp [h1, h2]; done) | (simp [h1, h2]; omega) | omega), (by first | exact rfl | (simp [h1, h2]; done) | (simp [h1, h2]; omega) | omega), (by first | exact rfl | (simp [h1, h2]; done) | (simp [h1, h2]; omega) | omega), (by first | exact rfl | (simp [h1, h2]; done) | (simp [h1, h2]; omega) | omega), trivial⟩
  · rw [show lenB l.length m = false by simp [lenB]; omega]
    refine acallsK mixed Try.func69 rfl [0, 1, 4] 1000 ([.n l.length, .f]) [] [] (v1 := AV.bool false) (objs1 := []) (ob := [(↑(List.length l) : Int) = (↑(List.length l) : Int),
      decide ((↑(List.length l) : Int) > (0 : Int)) = false]) (by kernel_rfl) (by first | exact rfl | exact ⟨rfl, rfl⟩ | (simp [h1]; done) | (omega)) ⟨(by first | exact rfl | (simp [h1]; done) | (simp [h1]; omega) | omega | (omega)), (by first | exact rfl | (simp [h1]; done) | (simp [h1]; omega) | omega | (omega)), trivial⟩
def longB (c : List Int) : Bool := !lenB c.length 4
theorem long_ac (c : List Int) : ACalls Try.prog 68 [encU c] [] (.bool (longB c)) [] := by
  have q := within_units (c.map intA) 4
  rw [List.length_map] at q
  refine acallsK mixed Try.func68 rfl [0, 2] 1000 ([.call [] false true (.bool (lenB c.length 4)) []]) [] [] (v1 := AV.bool !lenB (List.length c) 4) (objs1 := []) (ob := [ACalls Try.prog 69 [AV.lst 1 (List.map intA c), AV.int IntKind.i64 4] [] (AV.bool (lenB (List.length c) 4)) []]) (by kernel_rfl) (by first | exact rfl | exact ⟨rfl, rfl⟩ | (simp [encU, longB]; done)) ⟨?q49_1, trivial⟩
  exact q

theorem idx_units (l : List Int) (hb : l.length ≤ 1000000000000) : ∀ (n k : Nat), l.length = k + n →
    ((l.drop k).any outB = false ∧ ALoop Try.prog 0 Try.f78.ntmps (loopB Try.f78 0) ⟨[(8, .int .i64 k), (7, .int .i64 l.length), (0, .lst 1 (l.map intA)), (1, .fn 33 [])], []⟩ (.exit 0) ⟨[], []⟩) ∨
    ((l.drop k).any outB = true ∧ ∃ i : Nat, ALoop Try.prog 0 Try.f78.ntmps (loopB Try.f78 0) ⟨[(8, .int .i64 k), (7, .int .i64 l.length), (0, .lst 1 (l.map intA)), (1, .fn 33 [])], []⟩ .ret ⟨[(4, .int .i64 i)], []⟩)
  | 0, k, h => by
    refine .inl ⟨by rw [List.drop_of_length_le (by omega)]; rfl, ?_⟩
    refine aloopK mixed [0, 1, 4, 5, 7, 8, 9, 16] 1000 ([.go, .f]) [] [] (S1 := { env := [], objs := [] }) (ob := [decide ((↑k : Int) < (↑(List.length l) : Int)) = false]) (by kernel_rfl) (by first | exact rfl | exact ⟨rfl, rfl⟩ | (simp []; done)) ⟨(by first | exact rfl | (simp []; done) | (simp []; omega) | omega), trivial⟩
  | n + 1, k, h => by
    obtain ⟨x, hx⟩ := get_of (l := l) (k := k) (by omega)
    have hc := outside_ac x
    rw [drop_of hx, List.any_cons]
    cases hbad : outB x with
    | true =>
      rw [hbad] at hc
      refine .inr ⟨by simp, k, ?_⟩
      refine aloopK mixed [0, 1, 4, 5, 7, 8, 9, 16] 1000 ([.go, .t, .ix k, .el (intA x), .call [] false true (.bool true) []]) [4] [] (S1 := { env := [(4, AV.int IntKind.i64 (↑k : Int))], objs := [] }) (ob := [decide ((↑k : Int) < (↑(List.length l) : Int)) = true,
      k < List.length (List.map intA l),
      (↑k : Int) = (↑k : Int),
      (List.map intA l)[k]? = some (AV.int IntKind.i64 x),
      ACalls Try.prog 33 [AV.int IntKind.i64 x] [] (AV.bool true) []]) (by kernel_rfl) (by first | exact rfl | exact ⟨rfl, rfl⟩ | (simp [hx, intA]; done)) ⟨(by first | exact rfl | (simp [hx, intA]; done) | (simp [hx, intA]; omega) | omega), (by first | exact rfl | (simp [hx, intA]; done) | (simp [hx, intA]; omega) | omega), (by first | exact rfl | (simp [hx, intA]; done) | (simp [hx, intA]; omega) | omega), (by first | exact rfl | (simp [hx, intA]; done) | (simp [hx, intA]; omega) | omega), ?q66_1, trivial⟩
      exact hc
    | false =>
      rw [hbad] at hc
      obtain ⟨ih1, ih⟩ | ⟨ih1, i, ih⟩ := idx_units l hb n (k + 1) (by omega)
      · refine .inl ⟨by simp [ih1], ?_⟩
        refine aloopK mixed [0, 1, 4, 5, 7, 8, 9, 16] 1000 ([.go, .t, .ix k, .el (intA x), .call [] false true (.bool false) [], .n ((k + 1 : Nat) : Int), .lp [8, 7, 0, 1] [] (.exit 0) ⟨[], []⟩]) [] [] (S1 := { env := [], objs := [] }) (ob := [decide ((↑k : Int) < (↑(List.length l) : Int)) = true,
      k < List.length (List.map intA l),
      (↑k : Int) = (↑k : Int),
      (List.map intA l)[k]? = some (AV.int IntKind.i64 x),
      ACalls Try.prog 33 [AV.int IntKind.i64 x] [] (AV.bool false) [],
      IntKind.wrap IntKind.i64 ((↑k : Int) + (1 : Int)) = (↑(k + (1 : Nat)) : Int),
      ALoop Try.prog 0 19 (loopB Try.f78 0) { env := [(8, AV.int IntKind.i64 (↑(k + 1) : Int)), (7, AV.int IntKind.i64 (↑(List.length l) : Int)), (0, AV.lst 1 (List.map intA l)), (1, AV.fn 33 [])], objs := [] } (Ex.exit 0) { env := [], objs := [] }]) (by kernel_rfl) (by first | exact rfl | exact ⟨rfl, rfl⟩ | (simp [hx, intA]; done) | (first | omega | exact wrap64 (by omega))) ⟨(by first | exact rfl | (simp [hx, intA]; done) | (simp [hx, intA]; omega) | omega | (first | omega | exact wrap64 (by omega))), (by first | exact rfl | (simp [hx, intA]; done) | (simp [hx, intA]; omega) | omega | (first | omega | exact wrap64 (by omega))), (by first | exact rfl | (simp [hx, intA]; done) | (simp [hx, intA]; omega) | omega | (first | omega | exact wrap64 (by omega))), (by first | exact rfl | (simp [hx, intA]; done) | (simp [hx, intA]; omega) | omega | (first | omega | exact wrap64 (by omega))), ?q72_1, (by first | exact rfl | (simp [hx, intA]; done) | (simp [hx, intA]; omega) | omega | (first | omega | exact wrap64 (by omega))), ?q72_2, trivial⟩
        · exact hc
        · exact ih
      · refine .inr ⟨by simp [ih1], i, ?_⟩
        refine aloopK mixed [0, 1, 4, 5, 7, 8, 9, 16] 1000 ([.go, .t, .ix k, .el (intA x), .call [] false true (.bool false) [], .n ((k + 1 : Nat) : Int), .lp [8, 7, 0, 1] [] .ret ⟨[(4, .int .i64 i)], []⟩]) [4] [] (S1 := { env := [(4, AV.int IntKind.i64 (↑i : Int))], objs := [] }) (ob := [decide ((↑k : Int) < (↑(List.length l) : Int)) = true,
      k < List.length (List.map intA l),
      (↑k : Int) = (↑k : Int),
      (List.map intA l)[k]? = some (AV.int IntKind.i64 x),
      ACalls Try.prog 33 [AV.int IntKind.i64 x] [] (AV.bool false) [],
      IntKind.wrap IntKind.i64 ((↑k : Int) + (1 : Int)) = (↑(k + (1 : Nat)) : Int),
      ALoop Try.prog 0 19 (loopB Try.f78 0) { env := [(8, AV.int IntKind.i64 (↑(k + 1) : Int)), (7, AV.int IntKind.i64 (↑(List.length l) : Int)), (0, AV.lst 1 (List.map intA l)), (1, AV.fn 33 [])], objs := [] } Ex.ret { env := [(4, AV.int IntKind.i64 (↑i : Int))], objs := [] }]) (by kernel_rfl) (by first | exact rfl | exact ⟨rfl, rfl⟩ | (simp [hx, intA]; done) | (first | omega | exact wrap64 (by omega))) ⟨(by first | exact rfl | (simp [hx, intA]; done) | (simp [hx, intA]; omega) | omega | (first | omega | exact wrap64 (by omega))), (by first | exact rfl | (simp [hx, intA]; done) | (simp [hx, intA]; omega) | omega | (first | omega | exact wrap64 (by omega))), (by first | exact rfl | (simp [hx, intA]; done) | (simp [hx, intA]; omega) | omega | (first | omega | exact wrap64 (by omega))), (by first | exact rfl | (simp [hx, intA]; done) | (simp [hx, intA]; omega) | omega | (first | omega | exact wrap64 (by omega))), ?q76_1, (by first | exact rfl | (simp [hx, intA]; done) | (simp [hx, intA]; omega) | omega | (first | omega | exact wrap64 (by omega))), ?q76_2, trivial⟩
        · exact hc
        · exact ih
theorem has_units (l : List Int) (hb : l.length ≤ 1000000000000) : ACalls Try.prog 70 [.lst 1 (l.map intA), .fn 33 []] [] (.bool (l.any outB)) [] := by
  obtain ⟨ih1, ih⟩ | ⟨ih1, i, ih⟩ := idx_units l hb l.length 0 (by omega)
  · rw [List.drop_zero] at ih1
    have hi : ACalls Try.prog 78 [.lst 1 (l.map intA), .fn 33 []] [] (.int .i64 (-1)) [] := by
      refine acallsK mixed Try.func78 rfl [0, 1, 4, 5, 7, 8, 9, 16] 1000 ([.n l.length, .lp [8, 7, 0, 1] [] (.exit 0) ⟨[], []⟩]) [] [] (v1 := AV.int IntKind.i64 (-1)) (objs1 := []) (ob := [(↑(List.length (List.map intA l)) : Int) = (↑(List.length l) : Int),
      ALoop Try.prog 0 19 (loopB Try.f78 0) { env := [(8, AV.int IntKind.i64 0), (7, AV.int IntKind.i64 (↑(List.length l) : Int)), (0, AV.lst 1 (List.map intA l)), (1, AV.fn 33 [])], objs := [] } (Ex.exit 0) { env := [], objs := [] }]) (by kernel_rfl) (by first | exact rfl | exact ⟨rfl, rfl⟩ | (simp []; done)) ⟨(by first | exact rfl | (simp []; done) | (simp []; omega) | omega), ?q83_1, trivial⟩
      exact ih
    rw [ih1]
    refine acallsK mixed Try.func70 rfl [0, 1, 4] 1000 ([.call [] false true (.int .i64 (-1)) [], .f]) [] [] (v1 := AV.bool false) (objs1 := []) (ob := [ACalls Try.prog 78 [AV.lst 1 (List.map intA l), AV.fn 33 []] [] (AV.int IntKind.i64 (-1)) [],
      decide ((-1 : Int) ≥ (0 : Int)) = false]) (by kernel_rfl) (by first | exact rfl | exact ⟨rfl, rfl⟩ | (simp []; done)) ⟨?q86_1, (by first | exact rfl | (simp []; done) | (simp []; omega) | omega), trivial⟩
    exact hi
  · rw [List.drop_zero] at ih1
    have hi : ACalls Try.prog 78 [.lst 1 (l.map intA), .fn 33 []] [] (.int .i64 i) [] := by
      refine acallsK mixed Try.func78 rfl [0, 1, 4, 5, 7, 8, 9, 16] 1000 ([.n l.length, .lp [8, 7, 0, 1] [] .ret ⟨[(4, .int .i64 i)], []⟩]) [] [] (v1 := AV.int IntKind.i64 (↑i : Int)) (objs1 := []) (ob := [(↑(List.length (List.map intA l)) : Int) = (↑(List.length l) : Int),
      ALoop Try.prog 0 19 (loopB Try.f78 0) { env := [(8, AV.int IntKind.i64 0), (7, AV.int IntKind.i64 (↑(List.length l) : Int)), (0, AV.lst 1 (List.map intA l)), (1, AV.fn 33 [])], objs := [] } Ex.ret { env := [(4, AV.int IntKind.i64 (↑i : Int))], objs := [] }]) (by kernel_rfl) (by first | exact rfl | exact ⟨rfl, rfl⟩ | (simp []; done)) ⟨(by first | exact rfl | (simp []; done) | (simp []; omega) | omega), ?q90_1, trivial⟩
      exact ih
    rw [ih1]
    refine acallsK mixed Try.func70 rfl [0, 1, 4] 1000 ([.call [] false true (.int .i64 i) [], .t]) [] [] (v1 := AV.bool true) (objs1 := []) (ob := [ACalls Try.prog 78 [AV.lst 1 (List.map intA l), AV.fn 33 []] [] (AV.int IntKind.i64 (↑i : Int)) [],
      decide ((↑i : Int) ≥ (0 : Int)) = true]) (by kernel_rfl) (by first | exact rfl | exact ⟨rfl, rfl⟩ | (simp []; done)) ⟨?q93_1, (by first | exact rfl | (simp []; done) | (simp []; omega) | omega), trivial⟩
    exact hi

theorem idx_chains (l : List (List Int)) (hb : l.length ≤ 1000000000000) : ∀ (n k : Nat), l.length = k + n →
    ((l.drop k).any longB = false ∧ ALoop Try.prog 0 Try.f85.ntmps (loopB Try.f85 0) ⟨[(8, .int .i64 k), (7, .int .i64 l.length), (0, .lst 1 (l.map encU)), (1, .fn 68 [])], []⟩ (.exit 0) ⟨[], []⟩) ∨
    ((l.drop k).any longB = true ∧ ∃ i : Nat, ALoop Try.prog 0 Try.f85.ntmps (loopB Try.f85 0) ⟨[(8, .int .i64 k), (7, .int .i64 l.length), (0, .lst 1 (l.map encU)), (1, .fn 68 [])], []⟩ .ret ⟨[(4, .int .i64 i)], []⟩)
  | 0, k, h => by
    refine .inl ⟨by rw [List.drop_of_length_le (by omega)]; rfl, ?_⟩
    refine aloopK mixed [0, 1, 4, 5, 7, 8, 9, 16] 1000 ([.go, .f]) [] [] (S1 := { env := [], objs := [] }) (ob := [decide ((↑k : Int) < (↑(List.length l) : Int)) = false]) (by kernel_rfl) (by first | exact rfl | exact ⟨rfl, rfl⟩ | (simp []; done)) ⟨(by first | exact rfl | (simp []; done) | (simp []; omega) | omega), trivial⟩
  | n + 1, k, h => by
    obtain ⟨x, hx⟩ := get_of (l := l) (k := k) (by omega)
    have hc := long_ac x
    rw [drop_of hx, List.any_cons]
    cases hbad : longB x with
    | true =>
      rw [hbad] at hc
      refine .inr ⟨by simp, k, ?_⟩
      refine aloopK mixed [0, 1, 4, 5, 7, 8, 9, 16] 1000 ([.go, .t, .ix k, .el (encU x), .call [] false true (.bool true) []]) [4] [] (S1 := { env := [(4, AV.int IntKind.i64 (↑k : Int))], objs := [] }) (ob := [decide ((↑k : Int) < (↑(List.length l) : Int)) = true,
      k < List.length (List.map encU l),
      (↑k : Int) = (↑k : Int),
      (List.map encU l)[k]? = some (AV.lst (nat_lit 1) (List.map intA x)),
      ACalls Try.prog 68 [AV.lst 1 (List.map intA x)] [] (AV.bool true) []]) (by kernel_rfl) (by first | exact rfl | exact ⟨rfl, rfl⟩ | (simp [hx, encU]; done)) ⟨(by first | exact rfl | (simp [hx, encU]; done) | (simp [hx, encU]; omega) | omega), (by first | exact rfl | (simp [hx, encU]; done) | (simp [hx, encU]; omega) | omega), (by first | exact rfl | (simp [hx, encU]; done) | (simp [hx, encU]; omega) | omega), (by first | exact rfl | (simp [hx, encU]; done) | (simp [hx, encU]; omega) | omega), ?q110_1, trivial⟩
      exact hc
    | false =>
      rw [hbad] at hc
      obtain ⟨ih1, ih⟩ | ⟨ih1, i, ih⟩ := idx_chains l hb n (k + 1) (by omega)
      · refine .inl ⟨by simp [ih1], ?_⟩
        refine aloopK mixed [0, 1, 4, 5, 7, 8, 9, 16] 1000 ([.go, .t, .ix k, .el (encU x), .call [] false true (.bool false) [], .n ((k + 1 : Nat) : Int), .lp [8, 7, 0, 1] [] (.exit 0) ⟨[], []⟩]) [] [] (S1 := { env := [], objs := [] }) (ob := [decide ((↑k : Int) < (↑(List.length l) : Int)) = true,
      k < List.length (List.map encU l),
      (↑k : Int) = (↑k : Int),
      (List.map encU l)[k]? = some (AV.lst (nat_lit 1) (List.map intA x)),
      ACalls Try.prog 68 [AV.lst 1 (List.map intA x)] [] (AV.bool false) [],
      IntKind.wrap IntKind.i64 ((↑k : Int) + (1 : Int)) = (↑(k + (1 : Nat)) : Int),
      ALoop Try.prog 0 19 (loopB Try.f85 0) { env := [(8, AV.int IntKind.i64 (↑(k + 1) : Int)), (7, AV.int IntKind.i64 (↑(List.length l) : Int)), (0, AV.lst 1 (List.map encU l)), (1, AV.fn 68 [])], objs := [] } (Ex.exit 0) { env := [], objs := [] }]) (by kernel_rfl) (by first | exact rfl | exact ⟨rfl, rfl⟩ | (simp [hx, encU]; done) | (first | omega | exact wrap64 (by omega))) ⟨(by first | exact rfl | (simp [hx, encU]; done) | (simp [hx, encU]; omega) | omega | (first | omega | exact wrap64 (by omega))), (by first | exact rfl | (simp [hx, encU]; done) | (simp [hx, encU]; omega) | omega | (first | omega | exact wrap64 (by omega))), (by first | exact rfl | (simp [hx, encU]; done) | (simp [hx, encU]; omega) | omega | (first | omega | exact wrap64 (by omega))), (by first | exact rfl | (simp [hx, encU]; done) | (simp [hx, encU]; omega) | omega | (first | omega | exact wrap64 (by omega))), ?q116_1, (by first | exact rfl | (simp [hx, encU]; done) | (simp [hx, encU]; omega) | omega | (first | omega | exact wrap64 (by omega))), ?q116_2, trivial⟩
        · exact hc
        · exact ih
      · refine .inr ⟨by simp [ih1], i, ?_⟩
        refine aloopK mixed [0, 1, 4, 5, 7, 8, 9, 16] 1000 ([.go, .t, .ix k, .el (encU x), .call [] false true (.bool false) [], .n ((k + 1 : Nat) : Int), .lp [8, 7, 0, 1] [] .ret ⟨[(4, .int .i64 i)], []⟩]) [4] [] (S1 := { env := [(4, AV.int IntKind.i64 (↑i : Int))], objs := [] }) (ob := [decide ((↑k : Int) < (↑(List.length l) : Int)) = true,
      k < List.length (List.map encU l),
      (↑k : Int) = (↑k : Int),
      (List.map encU l)[k]? = some (AV.lst (nat_lit 1) (List.map intA x)),
      ACalls Try.prog 68 [AV.lst 1 (List.map intA x)] [] (AV.bool false) [],
      IntKind.wrap IntKind.i64 ((↑k : Int) + (1 : Int)) = (↑(k + (1 : Nat)) : Int),
      ALoop Try.prog 0 19 (loopB Try.f85 0) { env := [(8, AV.int IntKind.i64 (↑(k + 1) : Int)), (7, AV.int IntKind.i64 (↑(List.length l) : Int)), (0, AV.lst 1 (List.map encU l)), (1, AV.fn 68 [])], objs := [] } Ex.ret { env := [(4, AV.int IntKind.i64 (↑i : Int))], objs := [] }]) (by kernel_rfl) (by first | exact rfl | exact ⟨rfl, rfl⟩ | (simp [hx, encU]; done) | (first | omega | exact wrap64 (by omega))) ⟨(by first | exact rfl | (simp [hx, encU]; done) | (simp [hx, encU]; omega) | omega | (first | omega | exact wrap64 (by omega))), (by first | exact rfl | (simp [hx, encU]; done) | (simp [hx, encU]; omega) | omega | (first | omega | exact wrap64 (by omega))), (by first | exact rfl | (simp [hx, encU]; done) | (simp [hx, encU]; omega) | omega | (first | omega | exact wrap64 (by omega))), (by first | exact rfl | (simp [hx, encU]; done) | (simp [hx, encU]; omega) | omega | (first | omega | exact wrap64 (by omega))), ?q120_1, (by first | exact rfl | (simp [hx, encU]; done) | (simp [hx, encU]; omega) | omega | (first | omega | exact wrap64 (by omega))), ?q120_2, trivial⟩
        · exact hc
        · exact ih
theorem has_chains (l : List (List Int)) (hb : l.length ≤ 1000000000000) : ACalls Try.prog 67 [.lst 1 (l.map encU), .fn 68 []] [] (.bool (l.any longB)) [] := by
  obtain ⟨ih1, ih⟩ | ⟨ih1, i, ih⟩ := idx_chains l hb l.length 0 (by omega)
  · rw [List.drop_zero] at ih1
    have hi : ACalls Try.prog 85 [.lst 1 (l.map encU), .fn 68 []] [] (.int .i64 (-1)) [] := by
      refine acallsK mixed Try.func85 rfl [0, 1, 4, 5, 7, 8, 9, 16] 1000 ([.n l.length, .lp [8, 7, 0, 1] [] (.exit 0) ⟨[], []⟩]) [] [] (v1 := AV.int IntKind.i64 (-1)) (objs1 := []) (ob := [(↑(List.length (List.map encU l)) : Int) = (↑(List.length l) : Int),
      ALoop Try.prog 0 19 (loopB Try.f85 0) { env := [(8, AV.int IntKind.i64 0), (7, AV.int IntKind.i64 (↑(List.length l) : Int)), (0, AV.lst 1 (List.map encU l)), (1, AV.fn 68 [])], objs := [] } (Ex.exit 0) { env := [], objs := [] }]) (by kernel_rfl) (by first | exact rfl | exact ⟨rfl, rfl⟩ | (simp []; done)) ⟨(by first | exact rfl | (simp []; done) | (simp []; omega) | omega), ?q127_1, trivial⟩
      exact ih
    rw [ih1]
    refine acallsK mixed Try.func67 rfl [0, 1, 4] 1000 ([.call [] false true (.int .i64 (-1)) [], .f]) [] [] (v1 := AV.bool false) (objs1 := []) (ob := [ACalls Try.prog 85 [AV.lst 1 (List.map encU l), AV.fn 68 []] [] (AV.int IntKind.i64 (-1)) [],
      decide ((-1 : Int) ≥ (0 : Int)) = false]) (by kernel_rfl) (by first | exact rfl | exact ⟨rfl, rfl⟩ | (simp []; done)) ⟨?q130_1, (by first | exact rfl | (simp []; done) | (simp []; omega) | omega), trivial⟩
    exact hi
  · rw [List.drop_zero] at ih1
    have hi : ACalls Try.prog 85 [.lst 1 (l.map encU), .fn 68 []] [] (.int .i64 i) [] := by
      refine acallsK mixed Try.func85 rfl [0, 1, 4, 5, 7, 8, 9, 16] 1000 ([.n l.length, .lp [8, 7, 0, 1] [] .ret ⟨[(4, .int .i64 i)], []⟩]) [] [] (v1 := AV.int IntKind.i64 (↑i : Int)) (objs1 := []) (ob := [(↑(List.length (List.map encU l)) : Int) = (↑(List.length l) : Int),
      ALoop Try.prog 0 19 (loopB Try.f85 0) { env := [(8, AV.int IntKind.i64 0), (7, AV.int IntKind.i64 (↑(List.length l) : Int)), (0, AV.lst 1 (List.map encU l)), (1, AV.fn 68 [])], objs := [] } Ex.ret { env := [(4, AV.int IntKind.i64 (↑i : Int))], objs := [] }]) (by kernel_rfl) (by first | exact rfl | exact ⟨rfl, rfl⟩ | (simp []; done)) ⟨(by first | exact rfl | (simp []; done) | (simp []; omega) | omega), ?q134_1, trivial⟩
      exact ih
    rw [ih1]
    refine acallsK mixed Try.func67 rfl [0, 1, 4] 1000 ([.call [] false true (.int .i64 i) [], .t]) [] [] (v1 := AV.bool true) (objs1 := []) (ob := [ACalls Try.prog 85 [AV.lst 1 (List.map encU l), AV.fn 68 []] [] (AV.int IntKind.i64 (↑i : Int)) [],
      decide ((↑i : Int) ≥ (0 : Int)) = true]) (by kernel_rfl) (by first | exact rfl | exact ⟨rfl, rfl⟩ | (simp []; done)) ⟨?q137_1, (by first | exact rfl | (simp []; done) | (simp []; omega) | omega), trivial⟩
    exact hi
end Go.Proofs.Ytidgcfgkcidkiaa.Ch
