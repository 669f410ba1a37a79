/- Layer cell: what is right, copies. -/
import Derived.Test.YtidgcfgkcidkiaaChA
namespace Go.Proofs.Ytidgcfgkcidkiaa.Ch
open Go Go.RowKit Go.Proofs.Ytidgcfgkcidkiaa.L Go.Proofs.Ytidgcfgkcidkiaa.X
set_option linter.unusedVariables false
set_option linter.unusedSimpArgs false

def lastB (a b : Int) : Bool := (decide (a = 18446744073709551615) || decide (a < 1048576)) && (decide (b = 18446744073709551615) || (decide (b < 1048576) && !decide (a = 18446744073709551615) && decide (b < a)))
theorem lasting_ac (a b : Int) : ACalls Try.prog 54 [.agg [.int .u64 a, .int .u64 b]] [] (.bool (lastB a b)) [] := by
  by_cases h1 : a = 18446744073709551615
  · by_cases h2 : b = 18446744073709551615
    · rw [show lastB a b = true by simp [lastB, h1, h2]]
      refine acallsK mixed Try.func54 rfl [0, 1, 2, 3, 4, 5, 6, 7, 10, 17] 1000 ([.go, .t, .ix 0, .f, .f, .n 1, .go, .t, .ix 1, .f, .t, .f, .n 2, .go, .f]) [] [] (v1 := AV.bool true) (objs1 := []) (ob := [decide ((0 : Int) < (2 : Int)) = true,
      nat_lit 0 < (2 : Nat),
      (0 : Int) = (↑(nat_lit 0) : Int),
      (a != (18446744073709551615 : Int)) = false,
      decide ((0 : Int) > (0 : Int)) = false,
      IntKind.wrap IntKind.i64 ((0 : Int) + (1 : Int)) = (1 : Int),
      decide ((1 : Int) < (2 : Int)) = true,
      nat_lit 1 < (2 : Nat),
      (1 : Int) = (↑(nat_lit 1) : Int),
      (b != (18446744073709551615 : Int)) = false,
      decide ((1 : Int) > (0 : Int)) = true,
      (b != (18446744073709551615 : Int)) = false,
      IntKind.wrap IntKind.i64 ((1 : Int) + (1 : Int)) = (2 : Int),
      decide ((2 : Int) < (2 : Int)) = false]) (by kernel_rfl) (by first | exact rfl | exact ⟨rfl, rfl⟩ | (simp [h1, h2]; done) | (omega)) ⟨(by first | exact rfl | (simp [h1, h2]; done) | (simp [h1, h2]; omega) | omega | (omega)), (by first | exact rfl | (simp [h1, h2]; done) | (simp [h1, h2]; omega) | omega | (omega)), (by first | exact rfl | (simp [h1, h2]; done) | (simp [h1, h2]; omega) | omega | (omega)), (by first | exact rfl | (simp [h1, h2]; done) | (simp [h1, h2]; omega) | omega | (omega)), (by first | exact rfl | (simp [h1, h2]; done) | (simp [h1, h2]; omega) | omega | (omega)), (by first | exact rfl | (simp [h1, h2]; done) | (simp [h1, h2]; omega) | omega | (omega)), (by first | exact rfl | (simp [h1, h2]; done) | (simp [h1, h2]; omega) | omega | (omega)), (by first | exact rfl | (simp [h1, h2]; done) | (simp [h1, h2]; omega) | omega | (omega)), (by first | exact rfl | (simp [h1, h2]; done) | (simp [h1, h2]; omega) | omega | (omega)), (by first | exact rfl | (simp [h1, h2]; done) | (simp [h1, h2]; omega) | omega | (omega)), (by first | exact rfl | (simp [h1, h2]; done) | (simp [h1, h2]; omega) | omega | (omega)), (by first | exact rfl | (simp [h1, h2]; done) | (simp [h1, h2]; omega) | omega | (omega)), (by first | exact rfl | (simp [h1, h2]; done) | (simp [h1, h2]; omega) | omega | (omega)), (by first | exact rfl | (simp [h1, h2]; done) | (simp [h1, h2]; omega) | omega | (omega)), trivial⟩
    · by_cases h3 : b < 1048576
      · rw [show lastB a b = false by simp [lastB, h1, h2, h3]]
        refine acallsK mixed Try.func54 rfl [0, 1, 2, 3, 4, 5, 6, 7, 10, 17] 1000 ([.go, .t, .ix 0, .f, .f, .n 1, .go, .t, .ix 1, .t, .f, .t, .t, .n 0, .ix 0, .t]) [] [] (v1 := AV.bool false) (objs1 := []) (ob := [decide ((0 : Int) < (2 : Int)) = true,
      nat_lit 0 < (2 : Nat),
      (0 : Int) = (↑(nat_lit 0) : Int),
      (a != (18446744073709551615 : Int)) = false,
      decide ((0 : Int) > (0 : Int)) = false,
      IntKind.wrap IntKind.i64 ((0 : Int) + (1 : Int)) = (1 : Int),
      decide ((1 : Int) < (2 : Int)) = true,
      nat_lit 1 < (2 : Nat),
      (1 : Int) = (↑(nat_lit 1) : Int),
      (b != (18446744073709551615 : Int)) = true,
      decide (b ≥ (1048576 : Int)) = false,
      decide ((1 : Int) > (0 : Int)) = true,
      (b != (18446744073709551615 : Int)) = true,
      IntKind.wrap IntKind.i64 ((1 : Int) - (1 : Int)) = (0 : Int),
      nat_lit 0 < (2 : Nat),
      (0 : Int) = (↑(nat_lit 0) : Int),
      (a == (18446744073709551615 : Int)) = true]) (by kernel_rfl) (by first | exact rfl | exact ⟨rfl, rfl⟩ | (simp [h1, h2, h3]; done) | (omega)) ⟨(by first | exact rfl | (simp [h1, h2, h3]; done) | (simp [h1, h2, h3]; omega) | omega | (omega)), (by first | exact rfl | (simp [h1, h2, h3]; done) | (simp [h1, h2, h3]; omega) | omega | (omega)), (by first | exact rfl | (simp [h1, h2, h3]; done) | (simp [h1, h2, h3]; omega) | omega | (omega)), (by first | exact rfl | (simp [h1, h2, h3]; done) | (simp [h1, h2, h3]; omega) | omega | (omega)), (by first | exact rfl | (simp [h1, h2, h3]; done) | (simp [h1, h2, h3]; omega) | omega | (omega)), (by first | exact rfl | (simp [h1, h2, h3]; done) | (simp [h1, h2, h3]; omega) | omega | (omega)), (by first | exact rfl | (simp [h1, h2, h3]; done) | (simp [h1, h2, h3]; omega) | omega | (omega)), (by first | exact rfl | (simp [h1, h2, h3]; done) | (simp [h1, h2, h3]; omega) | omega | (omega)), (by first | exact rfl | (simp [h1, h2, h3]; done) | (simp [h1, h2, h3]; omega) | omega | (omega)), (by first | exact rfl | (simp [h1, h2, h3]; done) | (simp [h1, h2, h3]; omega) | omega | (omega)), (by first | exact rfl | (simp [h1, h2, h3]; done) | (simp [h1, h2, h3]; omega) | omega | (omega)), (by first | exact rfl | (simp [h1, h2, h3]; done) | (simp [h1, h2, h3]; omega) | omega | (omega)), (by first | exact rfl | (simp [h1, h2, h3]; done) | (simp [h1, h2, h3]; omega) | omega | (omega)), (by first | exact rfl | (simp [h1, h2, h3]; done) | (simp [h1, h2, h3]; omega) | omega | (omega)), (by first | exact rfl | (simp [h1, h2, h3]; done) | (simp [h1, h2, h3]; omega) | omega | (omega)), (by first | exact rfl | (simp [h1, h2, h3]; done) | (simp [h1, h2, h3]; omega) | omega | (omega)), (by first | exact rfl | (simp [h1, h2, h3]; done) | (simp [h1, h2, h3]; omega) | omega | (omega)), trivial⟩
      · rw [show lastB a b = false by simp [lastB, h1, h2, h3]]
        refine acallsK mixed Try.func54 rfl [0, 1, 2, 3, 4, 5, 6, 7, 10, 17] 1000 ([.go, .t, .ix 0, .f, .f, .n 1, .go, .t, .ix 1, .t, .t]) [] [] (v1 := AV.bool false) (objs1 := []) (ob := [decide ((0 : Int) < (2 : Int)) = true,
      nat_lit 0 < (2 : Nat),
      (0 : Int) = (↑(nat_lit 0) : Int),
      (a != (18446744073709551615 : Int)) = false,
      decide ((0 : Int) > (0 : Int)) = false,
      IntKind.wrap IntKind.i64 ((0 : Int) + (1 : Int)) = (1 : Int),
      decide ((1 : Int) < (2 : Int)) = true,
      nat_lit 1 < (2 : Nat),
      (1 : Int) = (↑(nat_lit 1) : Int),
      (b != (18446744073709551615 : Int)) = true,
      decide (b ≥ (1048576 : Int)) = true]) (by kernel_rfl) (by first | exact rfl | exact ⟨rfl, rfl⟩ | (simp [h1, h2, h3]; done) | (omega)) ⟨(by first | exact rfl | (simp [h1, h2, h3]; done) | (simp [h1, h2, h3]; omega) | omega | (omega)), (by first | exact rfl | (simp [h1, h2, h3]; done) | (simp [h1, h2, h3]; omega) | omega | (omega)), (by first | exact rfl | (simp [h1, h2, h3]; done) | (simp [h1, h2, h3]; omega) | omega | (omega)), (by first | exact rfl | (simp [h1, h2, h3]; done) | (simp [h1, h2, h3]; omega) | omega | (omega)), (by first | exact rfl | (simp [h1, h2, h3]; done) | (simp [h1, h2, h3]; omega) | omega | (omega)), (by first | exact rfl | (simp [h1, h2, h3]; done) | (simp [h1, h2, h3]; omega) | omega | (omega)), (by first | exact rfl | (simp [h1, h2, h3]; done) | (simp [h1, h2, h3]; omega) | omega | (omega)), (by first | exact rfl | (simp [h1, h2, h3]; done) | (simp [h1, h2, h3]; omega) | omega | (omega)), (by first | exact rfl | (simp [h1, h2, h3]; done) | (simp [h1, h2, h3]; omega) | omega | (omega)), (by first | exact rfl | (simp [h1, h2, h3]; done) | (simp [h1, h2, h3]; omega) | omega | (omega)), (by first | exact rfl | (simp [h1, h2, h3]; done) | (simp [h1, h2, h3]; omega) | omega | (omega)), trivial⟩
  · by_cases h4 : a < 1048576
    · by_cases h2 : b = 18446744073709551615
      · rw [show lastB a b = true by simp [lastB, h1, h2, h4]]
        refine acallsK mixed Try.func54 rfl [0, 1, 2, 3, 4, 5, 6, 7, 10, 17] 1000 ([.go, .t, .ix 0, .t, .f, .f, .n 1, .go, .t, .ix 1, .f, .t, .f, .n 2, .go, .f]) [] [] (v1 := AV.bool true) (objs1 := []) (ob := [decide ((0 : Int) < (2 : Int)) = true,
      nat_lit 0 < (2 : Nat),
      (0 : Int) = (↑(nat_lit 0) : Int),
      (a != (18446744073709551615 : Int)) = true,
      decide (a ≥ (1048576 : Int)) = false,
      decide ((0 : Int) > (0 : Int)) = false,
      IntKind.wrap IntKind.i64 ((0 : Int) + (1 : Int)) = (1 : Int),
      decide ((1 : Int) < (2 : Int)) = true,
      nat_lit 1 < (2 : Nat),
      (1 : Int) = (↑(nat_lit 1) : Int),
      (b != (18446744073709551615 : Int)) = false,
      decide ((1 : Int) > (0 : Int)) = true,
      (b != (18446744073709551615 : Int)) = false,
      IntKind.wrap IntKind.i64 ((1 : Int) + (1 : Int)) = (2 : Int),
      decide ((2 : Int) < (2 : Int)) = false]) (by kernel_rfl) (by first | exact rfl | exact ⟨rfl, rfl⟩ | (simp [h1, h2, h4]; done) | (omega)) ⟨(by first | exact rfl | (simp [h1, h2, h4]; done) | (simp [h1, h2, h4]; omega) | omega | (omega)), (by first | exact rfl | (simp [h1, h2, h4]; done) | (simp [h1, h2, h4]; omega) | omega | (omega)), (by first | exact rfl | (simp [h1, h2, h4]; done) | (simp [h1, h2, h4]; omega) | omega | (omega)), (by first | exact rfl | (simp [h1, h2, h4]; done) | (simp [h1, h2, h4]; omega) | omega | (omega)), (by first | exact rfl | (simp [h1, h2, h4]; done) | (simp [h1, h2, h4]; omega) | omega | (omega)), (by first | exact rfl | (simp [h1, h2, h4]; done) | (simp [h1, h2, h4]; omega) | omega | (omega)), (by first | exact rfl | (simp [h1, h2, h4]; done) | (simp [h1, h2, h4]; omega) | omega | (omega)), (by first | exact rfl | (simp [h1, h2, h4]; done) | (simp [h1, h2, h4]; omega) | omega | (omega)), (by first | exact rfl | (simp [h1, h2, h4]; done) | (simp [h1, h2, h4]; omega) | omega | (omega)), (by first | exact rfl | (simp [h1, h2, h4]; done) | (simp [h1, h2, h4]; omega) | omega | (omega)), (by first | exact rfl | (simp [h1, h2, h4]; done) | (simp [h1, h2, h4]; omega) | omega | (omega)), (by first | exact rfl | (simp [h1, h2, h4]; done) | (simp [h1, h2, h4]; omega) | omega | (omega)), (by first | exact rfl | (simp [h1, h2, h4]; done) | (simp [h1, h2, h4]; omega) | omega | (omega)), (by first | exact rfl | (simp [h1, h2, h4]; done) | (simp [h1, h2, h4]; omega) | omega | (omega)), (by first | exact rfl | (simp [h1, h2, h4]; done) | (simp [h1, h2, h4]; omega) | omega | (omega)), trivial⟩
      · by_cases h3 : b < 1048576
        · by_cases h5 : b < a
          · rw [show lastB a b = true by simp [lastB, h1, h2, h3, h4, h5]]
            refine acallsK mixed Try.func54 rfl [0, 1, 2, 3, 4, 5, 6, 7, 10, 17] 1000 ([.go, .t, .ix 0, .t, .f, .f, .n 1, .go, .t, .ix 1, .t, .f, .t, .t, .n 0, .ix 0, .f, .n 0, .ix 0, .f, .n 2, .go, .f]) [] [] (v1 := AV.bool true) (objs1 := []) (ob := [decide ((0 : Int) < (2 : Int)) = true,
      nat_lit 0 < (2 : Nat),
      (0 : Int) = (↑(nat_lit 0) : Int),
      (a != (18446744073709551615 : Int)) = true,
      decide (a ≥ (1048576 : Int)) = false,
      decide ((0 : Int) > (0 : Int)) = false,
      IntKind.wrap IntKind.i64 ((0 : Int) + (1 : Int)) = (1 : Int),
      decide ((1 : Int) < (2 : Int)) = true,
      nat_lit 1 < (2 : Nat),
      (1 : Int) = (↑(nat_lit 1) : Int),
      (b != (18446744073709551615 : Int)) = true,
      decide (b ≥ (1048576 : Int)) = false,
      decide ((1 : Int) > (0 : Int)) = true,
      (b != (18446744073709551615 : Int)) = true,
      IntKind.wrap IntKind.i64 ((1 : Int) - (1 : Int)) = (0 : Int),
      nat_lit 0 < (2 : Nat),
      (0 : Int) = (↑(nat_lit 0) : Int),
      (a == (18446744073709551615 : Int)) = false,
      IntKind.wrap IntKind.i64 ((1 : Int) - (1 : Int)) = (0 : Int),
      nat_lit 0 < (2 : Nat),
      (0 : Int) = (↑(nat_lit 0) : Int),
      decide (b ≥ a) = false,
      IntKind.wrap IntKind.i64 ((1 : Int) + (1 : Int)) = (2 : Int),
      decide ((2 : Int) < (2 : Int)) = false]) (by kernel_rfl) (by first | exact rfl | exact ⟨rfl, rfl⟩ | (simp [h1, h2, h3, h4, h5]; done) | (omega)) ⟨(by first | exact rfl | (simp [h1, h2, h3, h4, h5]; done) | (simp [h1, h2, h3, h4, h5]; omega) | omega | (omega)), (by first | exact rfl | (simp [h1, h2, h3, h4, h5]; done) | (simp [h1, h2, h3, h4, h5]; omega) | omega | (omega)), (by first | exact rfl | (simp [h1, h2, h3, h4, h5]; done) | (simp [h1, h2, h3, h4, h5]; omega) | omega | (omega)), (by first | exact rfl | (simp [h1, h2, h3, h4, h5]; done) | (simp [h1, h2, h3, h4, h5]; omega) | omega | (omega)), (by first | exact rfl | (simp [h1, h2, h3, h4, h5]; done) | (simp [h1, h2, h3, h4, h5]; omega) | omega | (omega)), (by first | exact rfl | (simp [h1, h2, h3, h4, h5]; done) | (simp [h1, h2, h3, h4, h5]; omega) | omega | (omega)), (by first | exact rfl | (simp [h1, h2, h3, h4, h5]; done) | (simp [h1, h2, h3, h4, h5]; omega) | omega | (omega)), (by first | exact rfl | (simp [h1, h2, h3, h4, h5]; done) | (simp [h1, h2, h3, h4, h5]; omega) | omega | (omega)), (by first | exact rfl | (simp [h1, h2, h3, h4, h5]; done) | (simp [h1, h2, h3, h4, h5]; omega) | omega | (omega)), (by first | exact rfl | (simp [h1, h2, h3, h4, h5]; done) | (simp [h1, h2, h3, h4, h5]; omega) | omega | (omega)), (by first | exact rfl | (simp [h1, h2, h3, h4, h5]; done) | (simp [h1, h2, h3, h4, h5]; omega) | omega | (omega)), (by first | exact rfl | (simp [h1, h2, h3, h4, h5]; done) | (simp [h1, h2, h3, h4, h5]; omega) | omega | (omega)), (by first | exact rfl | (simp [h1, h2, h3, h4, h5]; done) | (simp [h1, h2, h3, h4, h5]; omega) | omega | (omega)), (by first | exact rfl | (simp [h1, h2, h3, h4, h5]; done) | (simp [h1, h2, h3, h4, h5]; omega) | omega | (omega)), (by first | exact rfl | (simp [h1, h2, h3, h4, h5]; done) | (simp [h1, h2, h3, h4, h5]; omega) | omega | (omega)), (by first | exact rfl | (simp [h1, h2, h3, h4, h5]; done) | (simp [h1, h2, h3, h4, h5]; omega) | omega | (omega)), (by first | exact rfl | (simp [h1, h2, h3, h4, h5]; done) | (simp [h1, h2, h3, h4, h5]; omega) | omega | (omega)), (by first | exact rfl | (simp [h1, h2, h3, h4, h5]; done) | (simp [h1, h2, h3, h4, h5]; omega) | omega | (omega)), (by first | exact rfl | (simp [h1, h2, h3, h4, h5]; done) | (simp [h1, h2, h3, h4, h5]; omega) | omega | (omega)), (by first | exact rfl | (simp [h1, h2, h3, h4, h5]; done) | (simp [h1, h2, h3, h4, h5]; omega) | omega | (omega)), (by first | exact rfl | (simp [h1, h2, h3, h4, h5]; done) | (simp [h1, h2, h3, h4, h5]; omega) | omega | (omega)), (by first | exact rfl | (simp [h1, h2, h3, h4, h5]; done) | (simp [h1, h2, h3, h4, h5]; omega) | omega | (omega)), (by first | exact rfl | (simp [h1, h2, h3, h4, h5]; done) | (simp [h1, h2, h3, h4, h5]; omega) | omega | (omega)), (by first | exact rfl | (simp [h1, h2, h3, h4, h5]; done) | (simp [h1, h2, h3, h4, h5]; omega) | omega | (omega)), trivial⟩
          · rw [show lastB a b = false by simp [lastB, h1, h2, h3, h4, h5]]
            refine acallsK mixed Try.func54 rfl [0, 1, 2, 3, 4, 5, 6, 7, 10, 17] 1000 ([.go, .t, .ix 0, .t, .f, .f, .n 1, .go, .t, .ix 1, .t, .f, .t, .t, .n 0, .ix 0, .f, .n 0, .ix 0, .t]) [] [] (v1 := AV.bool false) (objs1 := []) (ob := [decide ((0 : Int) < (2 : Int)) = true,
      nat_lit 0 < (2 : Nat),
      (0 : Int) = (↑(nat_lit 0) : Int),
      (a != (18446744073709551615 : Int)) = true,
      decide (a ≥ (1048576 : Int)) = false,
      decide ((0 : Int) > (0 : Int)) = false,
      IntKind.wrap IntKind.i64 ((0 : Int) + (1 : Int)) = (1 : Int),
      decide ((1 : Int) < (2 : Int)) = true,
      nat_lit 1 < (2 : Nat),
      (1 : Int) = (↑(nat_lit 1) : Int),
      (b != (18446744073709551615 : Int)) = true,
      decide (b ≥ (1048576 : Int)) = false,
      decide ((1 : Int) > (0 : Int)) = true,
      (b != (18446744073709551615 : Int)) = true,
      IntKind.wrap IntKind.i64 ((1 : Int) - (1 : Int)) = (0 : Int),
      nat_lit 0 < (2 : Nat),
      (0 : Int) = (↑(nat_lit 0) : Int),
      (a == (18446744073709551615 : Int)) = false,
      IntKind.wrap IntKind.i64 ((1 : Int) - (1 : Int)) = (0 : Int),
      nat_lit 0 < (2 : Nat),
      (0 : Int) = (↑(nat_lit 0) : Int),
      decide (b ≥ a) = true]) (by kernel_rfl) (by first | exact rfl | exact ⟨rfl, rfl⟩ | (simp [h1, h2, h3, h4, h5]; done) | (omega)) ⟨(by first | exact rfl | (simp [h1, h2, h3, h4, h5]; done) | (simp [h1, h2, h3, h4, h5]; omega) | omega | (omega)), (by first | exact rfl | (simp [h1, h2, h3, h4, h5]; done) | (simp [h1, h2, h3, h4, h5]; omega) | omega | (omega)), (by first | exact rfl | (simp [h1, h2, h3, h4, h5]; done) | (simp [h1, h2, h3, h4, h5]; omega) | omega | (omega)), (by first | exact rfl | (simp [h1, h2, h3, h4, h5]; done) | (simp [h1, h2, h3, h4, h5]; omega) | omega | (omega)), (by first | exact rfl | (simp [h1, h2, h3, h4, h5]; done) | (simp [h1, h2, h3, h4, h5]; omega) | omega | (omega)), (by first | exact rfl | (simp [h1, h2, h3, h4, h5]; done) | (simp [h1, h2, h3, h4, h5]; omega) | omega | (omega)), (by first | exact rfl | (simp [h1, h2, h3, h4, h5]; done) | (simp [h1, h2, h3, h4, h5]; omega) | omega | (omega)), (by first | exact rfl | (simp [h1, h2, h3, h4, h5]; done) | (simp [h1, h2, h3, h4, h5]; omega) | omega | (omega)), (by first | exact rfl | (simp [h1, h2, h3, h4, h5]; done) | (simp [h1, h2, h3, h4, h5]; omega) | omega | (omega)), (by first | exact rfl | (simp [h1, h2, h3, h4, h5]; done) | (simp [h1, h2, h3, h4, h5]; omega) | omega | (omega)), (by first | exact rfl | (simp [h1, h2, h3, h4, h5]; done) | (simp [h1, h2, h3, h4, h5]; omega) | omega | (omega)), (by first | exact rfl | (simp [h1, h2, h3, h4, h5]; done) | (simp [h1, h2, h3, h4, h5]; omega) | omega | (omega)), (by first | exact rfl | (simp [h1, h2, h3, h4, h5]; done) | (simp [h1, h2, h3, h4, h5]; omega) | omega | (omega)), (by first | exact rfl | (simp [h1, h2, h3, h4, h5]; done) | (simp [h1, h2, h3, h4, h5]; omega) | omega | (omega)), (by first | exact rfl | (simp [h1, h2, h3, h4, h5]; done) | (simp [h1, h2, h3, h4, h5]; omega) | omega | (omega)), (by first | exact rfl | (simp [h1, h2, h3, h4, h5]; done) | (simp [h1, h2, h3, h4, h5]; omega) | omega | (omega)), (by first | exact rfl | (simp [h1, h2, h3, h4, h5]; done) | (simp [h1, h2, h3, h4, h5]; omega) | omega | (omega)), (by first | exact rfl | (simp [h1, h2, h3, h4, h5]; done) | (simp [h1, h2, h3, h4, h5]; omega) | omega | (omega)), (by first | exact rfl | (simp [h1, h2, h3, h4, h5]; done) | (simp [h1, h2, h3, h4, h5]; omega) | omega | (omega)), (by first | exact rfl | (simp [h1, h2, h3, h4, h5]; done) | (simp [h1, h2, h3, h4, h5]; omega) | omega | (omega)), (by first | exact rfl | (simp [h1, h2, h3, h4, h5]; done) | (simp [h1, h2, h3, h4, h5]; omega) | omega | (omega)), (by first | exact rfl | (simp [h1, h2, h3, h4, h5]; done) | (simp [h1, h2, h3, h4, h5]; omega) | omega | (omega)), trivial⟩
        · rw [show lastB a b = false by simp [lastB, h1, h2, h3, h4]]
          refine acallsK mixed Try.func54 rfl [0, 1, 2, 3, 4, 5, 6, 7, 10, 17] 1000 ([.go, .t, .ix 0, .t, .f, .f, .n 1, .go, .t, .ix 1, .t, .t]) [] [] (v1 := AV.bool false) (objs1 := []) (ob := [decide ((0 : Int) < (2 : Int)) = true,
      nat_lit 0 < (2 : Nat),
      (0 : Int) = (↑(nat_lit 0) : Int),
      (a != (18446744073709551615 : Int)) = true,
      decide (a ≥ (1048576 : Int)) = false,
      decide ((0 : Int) > (0 : Int)) = false,
      IntKind.wrap IntKind.i64 ((0 : Int) + (1 : Int)) = (1 : Int),
      decide ((1 : Int) < (2 : Int)) = true,
      nat_lit 1 < (2 : Nat),
      (1 : Int) = (↑(nat_lit 1) : Int),
      (b != (18446744073709551615 : Int)) = true,
      decide (b ≥ (1048576 : Int)) = true]) (by kernel_rfl) (by first | exact rfl | exact ⟨rfl, rfl⟩ | (simp [h1, h2, h3, h4]; done) | (omega)) ⟨(by first | exact rfl | (simp [h1, h2, h3, h4]; done) | (simp [h1, h2, h3, h4]; omega) | omega | (omega)), (by first | exact rfl | (simp [h1, h2, h3, h4]; done) | (simp [h1, h2, h3, h4]; omega) | omega | (omega)), (by first | exact rfl | (simp [h1, h2, h3, h4]; done) | (simp [h1, h2, h3, h4]; omega) | omega | (omega)), (by first | exact rfl | (simp [h1, h2, h3, h4]; done) | (simp [h1, h2, h3, h4]; omega) | omega | (omega)), (by first | exact rfl | (simp [h1, h2, h3, h4]; done) | (simp [h1, h2, h3, h4]; omega) | omega | (omega)), (by first | exact rfl | (simp [h1, h2, h3, h4]; done) | (simp [h1, h2, h3, h4]; omega) | omega | (omega)), (by first | exact rfl | (simp [h1, h2, h3, h4]; done) | (simp [h1, h2, h3, h4]; omega) | omega | (omega)), (by first | exact rfl | (simp [h1, h2, h3, h4]; done) | (simp [h1, h2, h3, h4]; omega) | omega | (omega)), (by first | exact rfl | (simp [h1, h2, h3, h4]; done) | (simp [h1, h2, h3, h4]; omega) | omega | (omega)), (by first | exact rfl | (simp [h1, h2, h3, h4]; done) | (simp [h1, h2, h3, h4]; omega) | omega | (omega)), (by first | exact rfl | (simp [h1, h2, h3, h4]; done) | (simp [h1, h2, h3, h4]; omega) | omega | (omega)), (by first | exact rfl | (simp [h1, h2, h3, h4]; done) | (simp [h1, h2, h3, h4]; omega) | omega | (omega)), trivial⟩
    · rw [show lastB a b = false by simp [lastB, h1, h4]]
      refine acallsK mixed Try.func54 rfl [0, 1, 2, 3, 4, 5, 6, 7, 10, 17] 1000 ([.go, .t, .ix 0, .t, .t]) [] [] (v1 := AV.bool false) (objs1 := []) (ob := [decide ((0 : Int) < (2 : Int)) = true,
      nat_lit 0 < (2 : Nat),
      (0 : Int) = (↑(nat_lit 0) : Int),
      (a != (18446744073709551615 : Int)) = true,
      decide (a ≥ (1048576 : Int)) = true]) (by kernel_rfl) (by first | exact rfl | exact ⟨rfl, rfl⟩ | (simp [h1, h4]; done) | (omega)) ⟨(by first | exact rfl | (simp [h1, h4]; done) | (simp [h1, h4]; omega) | omega | (omega)), (by first | exact rfl | (simp [h1, h4]; done) | (simp [h1, h4]; omega) | omega | (omega)), (by first | exact rfl | (simp [h1, h4]; done) | (simp [h1, h4]; omega) | omega | (omega)), (by first | exact rfl | (simp [h1, h4]; done) | (simp [h1, h4]; omega) | omega | (omega)), (by first | exact rfl | (simp [h1, h4]; done) | (simp [h1, h4]; omega) | omega | (omega)), trivial⟩

/-- A Back that is wrong behind another. -/
def badB (last : Int) (x : BackD) : Bool := decide (x.s ≤ last) || decide (16 ≤ x.s) || !lastB x.a x.b
theorem right1_ac (last : Int) (x : BackD) : ACalls Try.prog 53 [encB x, .ptr 0 0] [.vars 3 [.int .i64 last]] (.bool (badB last x)) [.vars 3 [.int .i64 x.s]] := by
  have hl := lasting_ac x.a x.b
  by_cases h1 : x.s ≤ last
  · rw [show badB last x = true by simp [badB, h1]]
    refine acallsK mixed Try.func53 rfl [0, 1, 2, 3, 4] 1000 ([.t]) [] [0] (v1 := AV.bool true) (objs1 := [Obj.vars 3 [AV.int IntKind.i64 (BackD.s x)]]) (ob := [decide (BackD.s x ≤ last) = true]) (by kernel_rfl) (by first | exact rfl | exact ⟨rfl, rfl⟩ | (simp [h1]; done)) ⟨(by first | exact rfl | (simp [h1]; done) | (simp [h1]; omega) | omega), trivial⟩
  · by_cases h2 : 16 ≤ x.s
    · rw [show badB last x = true by simp [badB, h2]]
      refine acallsK mixed Try.func53 rfl [0, 1, 2, 3, 4] 1000 ([.f, .t]) [] [0] (v1 := AV.bool true) (objs1 := [Obj.vars 3 [AV.int IntKind.i64 (BackD.s x)]]) (ob := [decide (BackD.s x ≤ last) = false,
      decide (BackD.s x ≥ (16 : Int)) = true]) (by kernel_rfl) (by first | exact rfl | exact ⟨rfl, rfl⟩ | (simp [h1, h2]; done) | (omega)) ⟨(by first | exact rfl | (simp [h1, h2]; done) | (simp [h1, h2]; omega) | omega | (omega)), (by first | exact rfl | (simp [h1, h2]; done) | (simp [h1, h2]; omega) | omega | (omega)), trivial⟩
    · rw [show badB last x = !lastB x.a x.b by simp [badB, h1, h2]]
      refine acallsK mixed Try.func53 rfl [0, 1, 2, 3, 4] 1000 ([.f, .f, .call [] false true (.bool (lastB x.a x.b)) []]) [] [0] (v1 := AV.bool !lastB (BackD.a x) (BackD.b x)) (objs1 := [Obj.vars 3 [AV.int IntKind.i64 (BackD.s x)]]) (ob := [decide (BackD.s x ≤ last) = false,
      decide (BackD.s x ≥ (16 : Int)) = false,
      ACalls Try.prog 54 [AV.agg [AV.int IntKind.u64 (BackD.a x), AV.int IntKind.u64 (BackD.b x)]] [] (AV.bool (lastB (BackD.a x) (BackD.b x))) []]) (by kernel_rfl) (by first | exact rfl | exact ⟨rfl, rfl⟩ | (simp [h1, h2]; done) | (omega)) ⟨(by first | exact rfl | (simp [h1, h2]; done) | (simp [h1, h2]; omega) | omega | (omega)), (by first | exact rfl | (simp [h1, h2]; done) | (simp [h1, h2]; omega) | omega | (omega)), ?q44_1, trivial⟩
      exact hl
/-- Is one wrong? -/
def scanB : Int → List BackD → Bool
  | v, [] => false
  | v, x :: l => badB v x || scanB x.s l
theorem drop_of {α : Type} {l : List α} {k : Nat} {x : α} (h : l[k]? = some x) : l.drop k = x :: l.drop (k + 1) := by
  obtain ⟨hk, rfl⟩ := List.getElem?_eq_some_iff.1 h
  exact List.drop_eq_getElem_cons hk
def right1V (b : Nat) : AV := .fn 53 [.ptr b 0]
theorem index_loop (l : List BackD) (hb : l.length ≤ 1000000000000) : ∀ (n k : Nat) (v : Int), l.length = k + n → ∃ w,
    (scanB v (l.drop k) = false ∧ ALoop Try.prog 1 Try.f82.ntmps (loopB Try.f82 0) ⟨[(8, .int .i64 k), (7, .int .i64 l.length), (0, .lst 3 (l.map encB)), (1, right1V 0)], [.vars 3 [.int .i64 v]]⟩ (.exit 0) ⟨[], [.vars 3 [.int .i64 w]]⟩) ∨
    (scanB v (l.drop k) = true ∧ ∃ i : Nat, ALoop Try.prog 1 Try.f82.ntmps (loopB Try.f82 0) ⟨[(8, .int .i64 k), (7, .int .i64 l.length), (0, .lst 3 (l.map encB)), (1, right1V 0)], [.vars 3 [.int .i64 v]]⟩ .ret ⟨[(4, .int .i64 i)], [.vars 3 [.int .i64 w]]⟩)
  | 0, k, v, h => by
    refine ⟨v, .inl ⟨by rw [List.drop_of_length_le (by omega)]; rfl, ?_⟩⟩
    refine aloopK mixed [0, 1, 4, 5, 7, 8, 9, 16] 1000 ([.go, .f]) [] [0] (S1 := { env := [], objs := [Obj.vars 3 [AV.int IntKind.i64 v]] }) (ob := [decide ((↑k : Int) < (↑(List.length l) : Int)) = false]) (by kernel_rfl) (by first | exact rfl | exact ⟨rfl, rfl⟩ | (simp []; done)) ⟨(by first | exact rfl | (simp []; done) | (simp []; omega) | omega), trivial⟩
  | n + 1, k, v, h => by
    obtain ⟨x, hx⟩ := get_of (l := l) (k := k) (by omega)
    have hc := right1_ac v x
    rw [drop_of hx]
    cases hbad : badB v x with
    | true =>
      rw [hbad] at hc
      refine ⟨x.s, .inr ⟨by simp [scanB, hbad], k, ?_⟩⟩
      refine aloopK mixed [0, 1, 4, 5, 7, 8, 9, 16] 1000 ([.go, .t, .ix k, .el (encB x), .call [0] false false (.bool true) [.vars 3 [.int .i64 x.s]]]) [4] [0] (S1 := { env := [(4, AV.int IntKind.i64 (↑k : Int))], objs := [Obj.vars 3 [AV.int IntKind.i64 (BackD.s x)]] }) (ob := [decide ((↑k : Int) < (↑(List.length l) : Int)) = true,
      k < List.length (List.map encB l),
      (↑k : Int) = (↑k : Int),
      (List.map encB l)[k]? = some (AV.agg [AV.int IntKind.i64 (BackD.s x), AV.int IntKind.u64 (BackD.a x), AV.int IntKind.u64 (BackD.b x)]),
      ACalls Try.prog 53 [AV.agg [AV.int IntKind.i64 (BackD.s x), AV.int IntKind.u64 (BackD.a x), AV.int IntKind.u64 (BackD.b x)], AV.ptr 0 0] [Obj.vars 3 [AV.int IntKind.i64 v]] (AV.bool true) [Obj.vars 3 [AV.int IntKind.i64 (BackD.s x)]]]) (by kernel_rfl) (by first | exact rfl | exact ⟨rfl, rfl⟩ | (simp [hx, encB]; done)) ⟨(by first | exact rfl | (simp [hx, encB]; done) | (simp [hx, encB]; omega) | omega), (by first | exact rfl | (simp [hx, encB]; done) | (simp [hx, encB]; omega) | omega), (by first | exact rfl | (simp [hx, encB]; done) | (simp [hx, encB]; omega) | omega), (by first | exact rfl | (simp [hx, encB]; done) | (simp [hx, encB]; omega) | omega), ?q68_1, trivial⟩
      exact hc
    | false =>
      rw [hbad] at hc
      obtain ⟨w, ⟨ih1, ih⟩ | ⟨ih1, i, ih⟩⟩ := index_loop l hb n (k + 1) x.s (by omega)
      · refine ⟨w, .inl ⟨by simp [scanB, hbad, ih1], ?_⟩⟩
        refine aloopK mixed [0, 1, 4, 5, 7, 8, 9, 16] 1000 ([.go, .t, .ix k, .el (encB x), .call [0] false false (.bool false) [.vars 3 [.int .i64 x.s]], .n ((k + 1 : Nat) : Int), .lp [8, 7, 0, 1] [0] (.exit 0) ⟨[], [.vars 3 [.int .i64 w]]⟩]) [] [0] (S1 := { env := [], objs := [Obj.vars 3 [AV.int IntKind.i64 w]] }) (ob := [decide ((↑k : Int) < (↑(List.length l) : Int)) = true,
      k < List.length (List.map encB l),
      (↑k : Int) = (↑k : Int),
      (List.map encB l)[k]? = some (AV.agg [AV.int IntKind.i64 (BackD.s x), AV.int IntKind.u64 (BackD.a x), AV.int IntKind.u64 (BackD.b x)]),
      ACalls Try.prog 53 [AV.agg [AV.int IntKind.i64 (BackD.s x), AV.int IntKind.u64 (BackD.a x), AV.int IntKind.u64 (BackD.b x)], AV.ptr 0 0] [Obj.vars 3 [AV.int IntKind.i64 v]] (AV.bool false) [Obj.vars 3 [AV.int IntKind.i64 (BackD.s x)]],
      IntKind.wrap IntKind.i64 ((↑k : Int) + (1 : Int)) = (↑(k + (1 : Nat)) : Int),
      ALoop Try.prog 1 19 (loopB Try.f82 0) { env := [(8, AV.int IntKind.i64 (↑(k + 1) : Int)), (7, AV.int IntKind.i64 (↑(List.length l) : Int)), (0, AV.lst 3 (List.map encB l)), (1, AV.fn 53 [AV.ptr 0 0])], objs := [Obj.vars 3 [AV.int IntKind.i64 (BackD.s x)]] } (Ex.exit 0) { env := [], objs := [Obj.vars 3 [AV.int IntKind.i64 w]] }]) (by kernel_rfl) (by first | exact rfl | exact ⟨rfl, rfl⟩ | (simp [hx, encB]; done) | (first | omega | exact wrap64 (by omega))) ⟨(by first | exact rfl | (simp [hx, encB]; done) | (simp [hx, encB]; omega) | omega | (first | omega | exact wrap64 (by omega))), (by first | exact rfl | (simp [hx, encB]; done) | (simp [hx, encB]; omega) | omega | (first | omega | exact wrap64 (by omega))), (by first | exact rfl | (simp [hx, encB]; done) | (simp [hx, encB]; omega) | omega | (first | omega | exact wrap64 (by omega))), (by first | exact rfl | (simp [hx, encB]; done) | (simp [hx, encB]; omega) | omega | (first | omega | exact wrap64 (by omega))), ?q74_1, (by first | exact rfl | (simp [hx, encB]; done) | (simp [hx, encB]; omega) | omega | (first | omega | exact wrap64 (by omega))), ?q74_2, trivial⟩
        · exact hc
        · exact ih
      · refine ⟨w, .inr ⟨by simp [scanB, hbad, ih1], i, ?_⟩⟩
        refine aloopK mixed [0, 1, 4, 5, 7, 8, 9, 16] 1000 ([.go, .t, .ix k, .el (encB x), .call [0] false false (.bool false) [.vars 3 [.int .i64 x.s]], .n ((k + 1 : Nat) : Int), .lp [8, 7, 0, 1] [0] .ret ⟨[(4, .int .i64 i)], [.vars 3 [.int .i64 w]]⟩]) [4] [0] (S1 := { env := [(4, AV.int IntKind.i64 (↑i : Int))], objs := [Obj.vars 3 [AV.int IntKind.i64 w]] }) (ob := [decide ((↑k : Int) < (↑(List.length l) : Int)) = true,
      k < List.length (List.map encB l),
      (↑k : Int) = (↑k : Int),
      (List.map encB l)[k]? = some (AV.agg [AV.int IntKind.i64 (BackD.s x), AV.int IntKind.u64 (BackD.a x), AV.int IntKind.u64 (BackD.b x)]),
      ACalls Try.prog 53 [AV.agg [AV.int IntKind.i64 (BackD.s x), AV.int IntKind.u64 (BackD.a x), AV.int IntKind.u64 (BackD.b x)], AV.ptr 0 0] [Obj.vars 3 [AV.int IntKind.i64 v]] (AV.bool false) [Obj.vars 3 [AV.int IntKind.i64 (BackD.s x)]],
      IntKind.wrap IntKind.i64 ((↑k : Int) + (1 : Int)) = (↑(k + (1 : Nat)) : Int),
      ALoop Try.prog 1 19 (loopB Try.f82 0) { env := [(8, AV.int IntKind.i64 (↑(k + 1) : Int)), (7, AV.int IntKind.i64 (↑(List.length l) : Int)), (0, AV.lst 3 (List.map encB l)), (1, AV.fn 53 [AV.ptr 0 0])], objs := [Obj.vars 3 [AV.int IntKind.i64 (BackD.s x)]] } Ex.ret { env := [(4, AV.int IntKind.i64 (↑i : Int))], objs := [Obj.vars 3 [AV.int IntKind.i64 w]] }]) (by kernel_rfl) (by first | exact rfl | exact ⟨rfl, rfl⟩ | (simp [hx, encB]; done) | (first | omega | exact wrap64 (by omega))) ⟨(by first | exact rfl | (simp [hx, encB]; done) | (simp [hx, encB]; omega) | omega | (first | omega | exact wrap64 (by omega))), (by first | exact rfl | (simp [hx, encB]; done) | (simp [hx, encB]; omega) | omega | (first | omega | exact wrap64 (by omega))), (by first | exact rfl | (simp [hx, encB]; done) | (simp [hx, encB]; omega) | omega | (first | omega | exact wrap64 (by omega))), (by first | exact rfl | (simp [hx, encB]; done) | (simp [hx, encB]; omega) | omega | (first | omega | exact wrap64 (by omega))), ?q78_1, (by first | exact rfl | (simp [hx, encB]; done) | (simp [hx, encB]; omega) | omega | (first | omega | exact wrap64 (by omega))), ?q78_2, trivial⟩
        · exact hc
        · exact ih
theorem contains_ac (l : List BackD) (hb : l.length ≤ 1000000000000) (v : Int) : ∃ w, ACalls Try.prog 52 [.lst 3 (l.map encB), right1V 0] [.vars 3 [.int .i64 v]] (.bool (scanB v l)) [.vars 3 [.int .i64 w]] := by
  obtain ⟨w, ⟨ih1, ih⟩ | ⟨ih1, i, ih⟩⟩ := index_loop l hb l.length 0 v (by omega)
  · rw [List.drop_zero] at ih1
    have hi : ACalls Try.prog 82 [.lst 3 (l.map encB), right1V 0] [.vars 3 [.int .i64 v]] (.int .i64 (-1)) [.vars 3 [.int .i64 w]] := by
      refine acallsK mixed Try.func82 rfl [0, 1, 4, 5, 7, 8, 9, 16] 1000 ([.n l.length, .lp [8, 7, 0, 1] [0] (.exit 0) ⟨[], [.vars 3 [.int .i64 w]]⟩]) [0] [0] (v1 := AV.int IntKind.i64 (-1)) (objs1 := [Obj.vars 3 [AV.int IntKind.i64 w]]) (ob := [(↑(List.length (List.map encB l)) : Int) = (↑(List.length l) : Int),
      ALoop Try.prog 1 19 (loopB Try.f82 0) { env := [(8, AV.int IntKind.i64 0), (7, AV.int IntKind.i64 (↑(List.length l) : Int)), (0, AV.lst 3 (List.map encB l)), (1, AV.fn 53 [AV.ptr 0 0])], objs := [Obj.vars 3 [AV.int IntKind.i64 v]] } (Ex.exit 0) { env := [], objs := [Obj.vars 3 [AV.int IntKind.i64 w]] }]) (by kernel_rfl) (by first | exact rfl | exact ⟨rfl, rfl⟩ | (simp []; done)) ⟨(by first | exact rfl | (simp []; done) | (simp []; omega) | omega), ?q85_1, trivial⟩
      exact ih
    refine ⟨w, ?_⟩
    rw [ih1]
    refine acallsK mixed Try.func52 rfl [0, 1, 4] 1000 ([.call [0] false false (.int .i64 (-1)) [.vars 3 [.int .i64 w]], .f]) [0] [0] (v1 := AV.bool false) (objs1 := [Obj.vars 3 [AV.int IntKind.i64 w]]) (ob := [ACalls Try.prog 82 [AV.lst 3 (List.map encB l), AV.fn 53 [AV.ptr 0 0]] [Obj.vars 3 [AV.int IntKind.i64 v]] (AV.int IntKind.i64 (-1)) [Obj.vars 3 [AV.int IntKind.i64 w]],
      decide ((-1 : Int) ≥ (0 : Int)) = false]) (by kernel_rfl) (by first | exact rfl | exact ⟨rfl, rfl⟩ | (simp []; done)) ⟨?q89_1, (by first | exact rfl | (simp []; done) | (simp []; omega) | omega), trivial⟩
    exact hi
  · rw [List.drop_zero] at ih1
    have hi : ACalls Try.prog 82 [.lst 3 (l.map encB), right1V 0] [.vars 3 [.int .i64 v]] (.int .i64 i) [.vars 3 [.int .i64 w]] := by
      refine acallsK mixed Try.func82 rfl [0, 1, 4, 5, 7, 8, 9, 16] 1000 ([.n l.length, .lp [8, 7, 0, 1] [0] .ret ⟨[(4, .int .i64 i)], [.vars 3 [.int .i64 w]]⟩]) [0] [0] (v1 := AV.int IntKind.i64 (↑i : Int)) (objs1 := [Obj.vars 3 [AV.int IntKind.i64 w]]) (ob := [(↑(List.length (List.map encB l)) : Int) = (↑(List.length l) : Int),
      ALoop Try.prog 1 19 (loopB Try.f82 0) { env := [(8, AV.int IntKind.i64 0), (7, AV.int IntKind.i64 (↑(List.length l) : Int)), (0, AV.lst 3 (List.map encB l)), (1, AV.fn 53 [AV.ptr 0 0])], objs := [Obj.vars 3 [AV.int IntKind.i64 v]] } Ex.ret { env := [(4, AV.int IntKind.i64 (↑i : Int))], objs := [Obj.vars 3 [AV.int IntKind.i64 w]] }]) (by kernel_rfl) (by first | exact rfl | exact ⟨rfl, rfl⟩ | (simp []; done)) ⟨(by first | exact rfl | (simp []; done) | (simp []; omega) | omega), ?q93_1, trivial⟩
      exact ih
    refine ⟨w, ?_⟩
    rw [ih1]
    refine acallsK mixed Try.func52 rfl [0, 1, 4] 1000 ([.call [0] false false (.int .i64 i) [.vars 3 [.int .i64 w]], .t]) [0] [0] (v1 := AV.bool true) (objs1 := [Obj.vars 3 [AV.int IntKind.i64 w]]) (ob := [ACalls Try.prog 82 [AV.lst 3 (List.map encB l), AV.fn 53 [AV.ptr 0 0]] [Obj.vars 3 [AV.int IntKind.i64 v]] (AV.int IntKind.i64 (↑i : Int)) [Obj.vars 3 [AV.int IntKind.i64 w]],
      decide ((↑i : Int) ≥ (0 : Int)) = true]) (by kernel_rfl) (by first | exact rfl | exact ⟨rfl, rfl⟩ | (simp []; done)) ⟨?q97_1, (by first | exact rfl | (simp []; done) | (simp []; omega) | omega), trivial⟩
    exact hi
def rightC (c : CellD) : Bool :=
  if c.kind = 2 then decide (c.data.length = 0) && decide (c.backs.length = 0)
  else if c.kind = 1 ∧ c.data.length ≤ 100 ∧ c.backs.length ≤ 4 then !scanB (-1) c.backs else false
theorem right_ac (c : CellD) : ACalls Try.prog 23 [encC c] [] (.bool (rightC c)) [] := by
  by_cases h1 : c.kind = 2
  · by_cases h2 : c.data.length = 0
    · by_cases h3 : c.backs.length = 0
      · rw [show rightC c = true by simp only [rightC, h1, h2, h3]; rfl]
        refine acallsK mixed Try.func23 rfl [0, 1, 2, 3, 6, 31] 1000 ([.t, .n c.data.length, .t, .n c.backs.length, .t]) [] [] (v1 := AV.bool true) (objs1 := []) (ob := [(CellD.kind c == (2 : Int)) = true,
      (↑(List.length (List.map byteA (CellD.data c))) : Int) = (↑(List.length (CellD.data c)) : Int),
      ((↑(List.length (CellD.data c)) : Int) == (0 : Int)) = true,
      (↑(List.length (List.map encB (CellD.backs c))) : Int) = (↑(List.length (CellD.backs c)) : Int),
      ((↑(List.length (CellD.backs c)) : Int) == (0 : Int)) = true]) (by kernel_rfl) (by first | exact rfl | exact ⟨rfl, rfl⟩ | (simp [h1, h2, h3]; done) | (omega)) ⟨(by first | exact rfl | (simp [h1, h2, h3]; done) | (simp [h1, h2, h3]; omega) | omega | (omega)), (by first | exact rfl | (simp [h1, h2, h3]; done) | (simp [h1, h2, h3]; omega) | omega | (omega)), (by first | exact rfl | (simp [h1, h2, h3]; done) | (simp [h1, h2, h3]; omega) | omega | (omega)), (by first | exact rfl | (simp [h1, h2, h3]; done) | (simp [h1, h2, h3]; omega) | omega | (omega)), (by first | exact rfl | (simp [h1, h2, h3]; done) | (simp [h1, h2, h3]; omega) | omega | (omega)), trivial⟩
      · rw [show rightC c = false by simp only [rightC, h1, h2, h3]; rfl]
        refine acallsK mixed Try.func23 rfl [0, 1, 2, 3, 6, 31] 1000 ([.t, .n c.data.length, .t, .n c.backs.length, .f]) [] [] (v1 := AV.bool false) (objs1 := []) (ob := [(CellD.kind c == (2 : Int)) = true,
      (↑(List.length (List.map byteA (CellD.data c))) : Int) = (↑(List.length (CellD.data c)) : Int),
      ((↑(List.length (CellD.data c)) : Int) == (0 : Int)) = true,
      (↑(List.length (List.map encB (CellD.backs c))) : Int) = (↑(List.length (CellD.backs c)) : Int),
      ((↑(List.length (CellD.backs c)) : Int) == (0 : Int)) = false]) (by kernel_rfl) (by first | exact rfl | exact ⟨rfl, rfl⟩ | (simp [h1, h2, h3]; done) | (omega)) ⟨(by first | exact rfl | (simp [h1, h2, h3]; done) | (simp [h1, h2, h3]; omega) | omega | (omega)), (by first | exact rfl | (simp [h1, h2, h3]; done) | (simp [h1, h2, h3]; omega) | omega | (omega)), (by first | exact rfl | (simp [h1, h2, h3]; done) | (simp [h1, h2, h3]; omega) | omega | (omega)), (by first | exact rfl | (simp [h1, h2, h3]; done) | (simp [h1, h2, h3]; omega) | omega | (omega)), (by first | exact rfl | (simp [h1, h2, h3]; done) | (simp [h1, h2, h3]; omega) | omega | (omega)), trivial⟩
    · rw [show rightC c = false by simp only [rightC, h1, h2]; rfl]
      refine acallsK mixed Try.func23 rfl [0, 1, 2, 3, 6, 31] 1000 ([.t, .n c.data.length, .f]) [] [] (v1 := AV.bool false) (objs1 := []) (ob := [(CellD.kind c == (2 : Int)) = true,
      (↑(List.length (List.map byteA (CellD.data c))) : Int) = (↑(List.length (CellD.data c)) : Int),
      ((↑(List.length (CellD.data c)) : Int) == (0 : Int)) = false]) (by kernel_rfl) (by first | exact rfl | exact ⟨rfl, rfl⟩ | (simp [h1, h2]; done) | (omega)) ⟨(by first | exact rfl | (simp [h1, h2]; done) | (simp [h1, h2]; omega) | omega | (omega)), (by first | exact rfl | (simp [h1, h2]; done) | (simp [h1, h2]; omega) | omega | (omega)), (by first | exact rfl | (simp [h1, h2]; done) | (simp [h1, h2]; omega) | omega | (omega)), trivial⟩
  · by_cases h2 : c.kind = 1
    · by_cases h3 : c.data.length ≤ 100
      · by_cases h4 : c.backs.length ≤ 4
        · rw [show rightC c = !scanB (-1) c.backs by simp [rightC, h2, h3, h4]]
          obtain ⟨w, hw⟩ := contains_ac c.backs (by omega) (-1)
          refine acallsK mixed Try.func23 rfl [0, 1, 2, 3, 6, 31] 1000 ([.f, .f, .n c.data.length, .f, .n c.backs.length, .f, .call [1] false false (.bool (scanB (-1) c.backs)) [.vars 3 [.int .i64 w]]]) [] [] (v1 := AV.bool !scanB (-1) (CellD.backs c)) (objs1 := []) (ob := [(CellD.kind c == (2 : Int)) = false,
      (CellD.kind c != (1 : Int)) = false,
      (↑(List.length (List.map byteA (CellD.data c))) : Int) = (↑(List.length (CellD.data c)) : Int),
      decide ((↑(List.length (CellD.data c)) : Int) > (100 : Int)) = false,
      (↑(List.length (List.map encB (CellD.backs c))) : Int) = (↑(List.length (CellD.backs c)) : Int),
      decide ((↑(List.length (CellD.backs c)) : Int) > (4 : Int)) = false,
      ACalls Try.prog 52 [AV.lst 3 (List.map encB (CellD.backs c)), AV.fn 53 [AV.ptr 0 0]] [Obj.vars 3 [AV.int IntKind.i64 (-1)]] (AV.bool (scanB (-1) (CellD.backs c))) [Obj.vars 3 [AV.int IntKind.i64 w]]]) (by kernel_rfl) (by first | exact rfl | exact ⟨rfl, rfl⟩ | (simp [h1, h2, h3, h4]; done) | (omega)) ⟨(by first | exact rfl | (simp [h1, h2, h3, h4]; done) | (simp [h1, h2, h3, h4]; omega) | omega | (omega)), (by first | exact rfl | (simp [h1, h2, h3, h4]; done) | (simp [h1, h2, h3, h4]; omega) | omega | (omega)), (by first | exact rfl | (simp [h1, h2, h3, h4]; done) | (simp [h1, h2, h3, h4]; omega) | omega | (omega)), (by first | exact rfl | (simp [h1, h2, h3, h4]; done) | (simp [h1, h2, h3, h4]; omega) | omega | (omega)), (by first | exact rfl | (simp [h1, h2, h3, h4]; done) | (simp [h1, h2, h3, h4]; omega) | omega | (omega)), (by first | exact rfl | (simp [h1, h2, h3, h4]; done) | (simp [h1, h2, h3, h4]; omega) | omega | (omega)), ?q117_1, trivial⟩
          exact hw
        · rw [show rightC c = false by simp [rightC, h2, h3, h4]]
          refine acallsK mixed Try.func23 rfl [0, 1, 2, 3, 6, 31] 1000 ([.f, .f, .n c.data.length, .f, .n c.backs.length, .t]) [] [] (v1 := AV.bool false) (objs1 := []) (ob := [(CellD.kind c == (2 : Int)) = false,
      (CellD.kind c != (1 : Int)) = false,
      (↑(List.length (List.map byteA (CellD.data c))) : Int) = (↑(List.length (CellD.data c)) : Int),
      decide ((↑(List.length (CellD.data c)) : Int) > (100 : Int)) = false,
      (↑(List.length (List.map encB (CellD.backs c))) : Int) = (↑(List.length (CellD.backs c)) : Int),
      decide ((↑(List.length (CellD.backs c)) : Int) > (4 : Int)) = true]) (by kernel_rfl) (by first | exact rfl | exact ⟨rfl, rfl⟩ | (simp [h1, h2, h3, h4]; done) | (omega)) ⟨(by first | exact rfl | (simp [h1, h2, h3, h4]; done) | (simp [h1, h2, h3, h4]; omega) | omega | (omega)), (by first | exact rfl | (simp [h1, h2, h3, h4]; done) | (simp [h1, h2, h3, h4]; omega) | omega | (omega)), (by first | exact rfl | (simp [h1, h2, h3, h4]; done) | (simp [h1, h2, h3, h4]; omega) | omega | (omega)), (by first | exact rfl | (simp [h1, h2, h3, h4]; done) | (simp [h1, h2, h3, h4]; omega) | omega | (omega)), (by first | exact rfl | (simp [h1, h2, h3, h4]; done) | (simp [h1, h2, h3, h4]; omega) | omega | (omega)), (by first | exact rfl | (simp [h1, h2, h3, h4]; done) | (simp [h1, h2, h3, h4]; omega) | omega | (omega)), trivial⟩
      · rw [show rightC c = false by simp [rightC, h2, h3]]
        refine acallsK mixed Try.func23 rfl [0, 1, 2, 3, 6, 31] 1000 ([.f, .f, .n c.data.length, .t]) [] [] (v1 := AV.bool false) (objs1 := []) (ob := [(CellD.kind c == (2 : Int)) = false,
      (CellD.kind c != (1 : Int)) = false,
      (↑(List.length (List.map byteA (CellD.data c))) : Int) = (↑(List.length (CellD.data c)) : Int),
      decide ((↑(List.length (CellD.data c)) : Int) > (100 : Int)) = true]) (by kernel_rfl) (by first | exact rfl | exact ⟨rfl, rfl⟩ | (simp [h1, h2, h3]; done) | (omega)) ⟨(by first | exact rfl | (simp [h1, h2, h3]; done) | (simp [h1, h2, h3]; omega) | omega | (omega)), (by first | exact rfl | (simp [h1, h2, h3]; done) | (simp [h1, h2, h3]; omega) | omega | (omega)), (by first | exact rfl | (simp [h1, h2, h3]; done) | (simp [h1, h2, h3]; omega) | omega | (omega)), (by first | exact rfl | (simp [h1, h2, h3]; done) | (simp [h1, h2, h3]; omega) | omega | (omega)), trivial⟩
    · rw [show rightC c = false by simp [rightC, h1, h2]]
      refine acallsK mixed Try.func23 rfl [0, 1, 2, 3, 6, 31] 1000 ([.f, .t]) [] [] (v1 := AV.bool false) (objs1 := []) (ob := [(CellD.kind c == (2 : Int)) = false,
      (CellD.kind c != (1 : Int)) = true]) (by kernel_rfl) (by first | exact rfl | exact ⟨rfl, rfl⟩ | (simp [h1, h2]; done) | (omega)) ⟨(by first | exact rfl | (simp [h1, h2]; done) | (simp [h1, h2]; omega) | omega | (omega)), (by first | exact rfl | (simp [h1, h2]; done) | (simp [h1, h2]; omega) | omega | (omega)), trivial⟩
end Go.Proofs.Ytidgcfgkcidkiaa.Ch
