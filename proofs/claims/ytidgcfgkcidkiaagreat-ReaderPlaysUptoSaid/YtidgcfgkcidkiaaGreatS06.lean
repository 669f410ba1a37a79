/- Texts of one proof, laid together: Dn, Do, Dp, Dq, Dr, Ds, Du. -/
import Derived.Test.YtidgcfgkcidkiaaGreatS05
namespace Go.Proofs.YtidgcfgkcidkiaaGreat.Ch
open Go Go.RowKit Go.Proofs.YtidgcfgkcidkiaaGreat.L Go.Proofs.YtidgcfgkcidkiaaGreat.X
set_option linter.unusedVariables false
set_option linter.unusedSimpArgs false
theorem place10_ac (r n : Int) : ACalls Tryz.prog 96 [.agg [.int .i64 r, .int .i64 n]] [] (.bool (placeB r n)) [] := by
  by_cases h1 : r = 1
  · rw [show placeB r n = inB n 32 by unfold placeB; rw [if_pos h1]]
    by_cases a1 : 0 ≤ n
    · by_cases a2 : n < 32
      · rw [show inB n 32 = true by simp [inB, a1, a2]]
        refine acallsK mixed Tryz.func96 rfl [0, 1, 2, 3, 5, 6, 9, 11] 1000 ([.t, .t, .t]) [] [] (ob := [(r == (1 : Int)) = true,
 decide (n ≥ (0 : Int)) = true,
 decide (n < (32 : Int)) = true]) (by kernel_rfl) ⟨rfl, rfl⟩ ⟨?z0, ?z1, ?z2, trivial⟩
        case z0|z1|z2 => first | exact rfl | (simp [h1, a1, a2] <;> omega) | omega
      · rw [show inB n 32 = false by simp [inB, a2]]
        refine acallsK mixed Tryz.func96 rfl [0, 1, 2, 3, 5, 6, 9, 11] 1000 ([.t, .t, .f]) [] [] (ob := [(r == (1 : Int)) = true,
 decide (n ≥ (0 : Int)) = true,
 decide (n < (32 : Int)) = false]) (by kernel_rfl) ⟨rfl, rfl⟩ ⟨?z3, ?z4, ?z5, trivial⟩
        case z3|z4|z5 => first | exact rfl | (simp [h1, a1, a2] <;> omega) | omega | (omega)
    · rw [show inB n 32 = false by simp [inB, a1]]
      refine acallsK mixed Tryz.func96 rfl [0, 1, 2, 3, 5, 6, 9, 11] 1000 ([.t, .f]) [] [] (ob := [(r == (1 : Int)) = true,
 decide (n ≥ (0 : Int)) = false]) (by kernel_rfl) ⟨rfl, rfl⟩ ⟨?z6, ?z7, trivial⟩
      case z6|z7 => first | exact rfl | (simp [h1, a1] <;> omega) | omega | (omega)
  · by_cases h2 : r = 2
    · rw [show placeB r n = inB n 32 by unfold placeB; rw [if_neg h1, if_pos h2]]
      by_cases a1 : 0 ≤ n
      · by_cases a2 : n < 32
        · rw [show inB n 32 = true by simp [inB, a1, a2]]
          refine acallsK mixed Tryz.func96 rfl [0, 1, 2, 3, 5, 6, 9, 11] 1000 ([.f, .t, .t, .t]) [] [] (ob := [(r == (1 : Int)) = false,
 (r == (2 : Int)) = true,
 decide (n ≥ (0 : Int)) = true,
 decide (n < (32 : Int)) = true]) (by kernel_rfl) ⟨rfl, rfl⟩ ⟨?z8, ?z9, ?z10, ?z11, trivial⟩
          case z8|z9|z10|z11 => first | exact rfl | (simp [h1, h2, a1, a2] <;> omega) | omega
        · rw [show inB n 32 = false by simp [inB, a2]]
          refine acallsK mixed Tryz.func96 rfl [0, 1, 2, 3, 5, 6, 9, 11] 1000 ([.f, .t, .t, .f]) [] [] (ob := [(r == (1 : Int)) = false,
 (r == (2 : Int)) = true,
 decide (n ≥ (0 : Int)) = true,
 decide (n < (32 : Int)) = false]) (by kernel_rfl) ⟨rfl, rfl⟩ ⟨?z12, ?z13, ?z14, ?z15, trivial⟩
          case z12|z13|z14|z15 => first | exact rfl | (simp [h1, h2, a1, a2] <;> omega) | omega | (omega)
      · rw [show inB n 32 = false by simp [inB, a1]]
        refine acallsK mixed Tryz.func96 rfl [0, 1, 2, 3, 5, 6, 9, 11] 1000 ([.f, .t, .f]) [] [] (ob := [(r == (1 : Int)) = false,
 (r == (2 : Int)) = true,
 decide (n ≥ (0 : Int)) = false]) (by kernel_rfl) ⟨rfl, rfl⟩ ⟨?z16, ?z17, ?z18, trivial⟩
        case z16|z17|z18 => first | exact rfl | (simp [h1, h2, a1] <;> omega) | omega | (omega)
    · by_cases h3 : r = 3
      · rw [show placeB r n = inB n 3 by unfold placeB; rw [if_neg h1, if_neg h2, if_pos h3]]
        by_cases a1 : 0 ≤ n
        · by_cases a2 : n < 3
          · rw [show inB n 3 = true by simp [inB, a1, a2]]
            refine acallsK mixed Tryz.func96 rfl [0, 1, 2, 3, 5, 6, 9, 11] 1000 ([.f, .f, .t, .t, .t]) [] [] (ob := [(r == (1 : Int)) = false,
 (r == (2 : Int)) = false,
 (r == (3 : Int)) = true,
 decide (n ≥ (0 : Int)) = true,
 decide (n < (3 : Int)) = true]) (by kernel_rfl) ⟨rfl, rfl⟩ ⟨?z19, ?z20, ?z21, ?z22, ?z23, trivial⟩
            case z19|z20|z21|z22|z23 => first | exact rfl | (simp [h1, h2, h3, a1, a2] <;> omega) | omega
          · rw [show inB n 3 = false by simp [inB, a2]]
            refine acallsK mixed Tryz.func96 rfl [0, 1, 2, 3, 5, 6, 9, 11] 1000 ([.f, .f, .t, .t, .f]) [] [] (ob := [(r == (1 : Int)) = false,
 (r == (2 : Int)) = false,
 (r == (3 : Int)) = true,
 decide (n ≥ (0 : Int)) = true,
 decide (n < (3 : Int)) = false]) (by kernel_rfl) ⟨rfl, rfl⟩ ⟨?z24, ?z25, ?z26, ?z27, ?z28, trivial⟩
            case z24|z25|z26|z27|z28 => first | exact rfl | (simp [h1, h2, h3, a1, a2] <;> omega) | omega | (omega)
        · rw [show inB n 3 = false by simp [inB, a1]]
          refine acallsK mixed Tryz.func96 rfl [0, 1, 2, 3, 5, 6, 9, 11] 1000 ([.f, .f, .t, .f]) [] [] (ob := [(r == (1 : Int)) = false,
 (r == (2 : Int)) = false,
 (r == (3 : Int)) = true,
 decide (n ≥ (0 : Int)) = false]) (by kernel_rfl) ⟨rfl, rfl⟩ ⟨?z29, ?z30, ?z31, ?z32, trivial⟩
          case z29|z30|z31|z32 => first | exact rfl | (simp [h1, h2, h3, a1] <;> omega) | omega | (omega)
      · by_cases h4 : r = 4
        · rw [show placeB r n = inB n 4 by unfold placeB; rw [if_neg h1, if_neg h2, if_neg h3, if_pos h4]]
          by_cases a1 : 0 ≤ n
          · by_cases a2 : n < 4
            · rw [show inB n 4 = true by simp [inB, a1, a2]]
              refine acallsK mixed Tryz.func96 rfl [0, 1, 2, 3, 5, 6, 9, 11] 1000 ([.f, .f, .f, .t, .t, .t]) [] [] (ob := [(r == (1 : Int)) = false,
 (r == (2 : Int)) = false,
 (r == (3 : Int)) = false,
 (r == (4 : Int)) = true,
 decide (n ≥ (0 : Int)) = true,
 decide (n < (4 : Int)) = true]) (by kernel_rfl) ⟨rfl, rfl⟩ ⟨?z33, ?z34, ?z35, ?z36, ?z37, ?z38, trivial⟩
              case z33|z34|z35|z36|z37|z38 => first | exact rfl | (simp [h1, h2, h3, h4, a1, a2] <;> omega) | omega
            · rw [show inB n 4 = false by simp [inB, a2]]
              refine acallsK mixed Tryz.func96 rfl [0, 1, 2, 3, 5, 6, 9, 11] 1000 ([.f, .f, .f, .t, .t, .f]) [] [] (ob := [(r == (1 : Int)) = false,
 (r == (2 : Int)) = false,
 (r == (3 : Int)) = false,
 (r == (4 : Int)) = true,
 decide (n ≥ (0 : Int)) = true,
 decide (n < (4 : Int)) = false]) (by kernel_rfl) ⟨rfl, rfl⟩ ⟨?z39, ?z40, ?z41, ?z42, ?z43, ?z44, trivial⟩
              case z39|z40|z41|z42|z43|z44 => first | exact rfl | (simp [h1, h2, h3, h4, a1, a2] <;> omega) | omega | (omega)
          · rw [show inB n 4 = false by simp [inB, a1]]
            refine acallsK mixed Tryz.func96 rfl [0, 1, 2, 3, 5, 6, 9, 11] 1000 ([.f, .f, .f, .t, .f]) [] [] (ob := [(r == (1 : Int)) = false,
 (r == (2 : Int)) = false,
 (r == (3 : Int)) = false,
 (r == (4 : Int)) = true,
 decide (n ≥ (0 : Int)) = false]) (by kernel_rfl) ⟨rfl, rfl⟩ ⟨?z45, ?z46, ?z47, ?z48, ?z49, trivial⟩
            case z45|z46|z47|z48|z49 => first | exact rfl | (simp [h1, h2, h3, h4, a1] <;> omega) | omega | (omega)
        · rw [show placeB r n = false by unfold placeB; rw [if_neg h1, if_neg h2, if_neg h3, if_neg h4]]
          refine acallsK mixed Tryz.func96 rfl [0, 1, 2, 3, 5, 6, 9, 11] 1000 ([.f, .f, .f, .f]) [] [] (ob := [(r == (1 : Int)) = false,
 (r == (2 : Int)) = false,
 (r == (3 : Int)) = false,
 (r == (4 : Int)) = false]) (by kernel_rfl) ⟨rfl, rfl⟩ ⟨?z50, ?z51, ?z52, ?z53, trivial⟩
          case z50|z51|z52|z53 => first | exact rfl | (simp [h1, h2, h3, h4] <;> omega) | omega
def ballot10B (r c : Int) : Bool := if r < 0 then false else if 65535 < r then false else if c < 0 then false else if 4 ≤ c then false else true
theorem ballot10B_e0 (r c : Int) (h1 : r < 0) : ACalls Tryz.prog 100 [.agg [.int .i64 r, .int .i64 c]] [] (.bool (ballot10B r c)) [] := by
  rw [show ballot10B r c = false by unfold ballot10B; rw [if_pos h1]]
  refine acallsK mixed Tryz.func100 rfl [0, 1, 2] 1000 ([.f]) [] [] (ob := [decide (r ≥ (0 : Int)) = false]) (by kernel_rfl) ⟨rfl, rfl⟩ ⟨(by first | exact rfl | (simp [h1]; done) | (simp [h1]; omega) | omega | (omega)), trivial⟩
theorem ballot10B_e1 (r c : Int) (h1 : ¬ (r < 0)) (h2 : 65535 < r) : ACalls Tryz.prog 100 [.agg [.int .i64 r, .int .i64 c]] [] (.bool (ballot10B r c)) [] := by
  rw [show ballot10B r c = false by unfold ballot10B; rw [if_neg h1, if_pos h2]]
  refine acallsK mixed Tryz.func100 rfl [0, 1, 2] 1000 ([.t, .f]) [] [] (ob := [decide (r ≥ (0 : Int)) = true,
 decide (r ≤ (65535 : Int)) = false]) (by kernel_rfl) ⟨rfl, rfl⟩ ⟨?z0, ?z1, trivial⟩
  case z0|z1 => first | exact rfl | (simp [h1, h2] <;> omega) | omega | (omega)
theorem ballot10B_e2 (r c : Int) (h1 : ¬ (r < 0)) (h2 : ¬ (65535 < r)) (h3 : c < 0) : ACalls Tryz.prog 100 [.agg [.int .i64 r, .int .i64 c]] [] (.bool (ballot10B r c)) [] := by
  rw [show ballot10B r c = false by unfold ballot10B; rw [if_neg h1, if_neg h2, if_pos h3]]
  refine acallsK mixed Tryz.func100 rfl [0, 1, 2] 1000 ([.t, .t, .f]) [] [] (ob := [decide (r ≥ (0 : Int)) = true,
 decide (r ≤ (65535 : Int)) = true,
 decide (c ≥ (0 : Int)) = false]) (by kernel_rfl) ⟨rfl, rfl⟩ ⟨?z0, ?z1, ?z2, trivial⟩
  case z0|z1|z2 => first | exact rfl | (simp [h1, h2, h3] <;> omega) | omega | (omega)
theorem ballot10B_e3 (r c : Int) (h1 : ¬ (r < 0)) (h2 : ¬ (65535 < r)) (h3 : ¬ (c < 0)) (h4 : 4 ≤ c) : ACalls Tryz.prog 100 [.agg [.int .i64 r, .int .i64 c]] [] (.bool (ballot10B r c)) [] := by
  rw [show ballot10B r c = false by unfold ballot10B; rw [if_neg h1, if_neg h2, if_neg h3, if_pos h4]]
  refine acallsK mixed Tryz.func100 rfl [0, 1, 2] 1000 ([.t, .t, .t, .f]) [] [] (ob := [decide (r ≥ (0 : Int)) = true,
 decide (r ≤ (65535 : Int)) = true,
 decide (c ≥ (0 : Int)) = true,
 decide (c < (4 : Int)) = false]) (by kernel_rfl) ⟨rfl, rfl⟩ ⟨?z0, ?z1, ?z2, ?z3, trivial⟩
  case z0|z1|z2|z3 => first | exact rfl | (simp [h1, h2, h3, h4] <;> omega) | omega | (omega)
theorem ballot10B_e4 (r c : Int) (h1 : ¬ (r < 0)) (h2 : ¬ (65535 < r)) (h3 : ¬ (c < 0)) (h4 : ¬ (4 ≤ c)) : ACalls Tryz.prog 100 [.agg [.int .i64 r, .int .i64 c]] [] (.bool (ballot10B r c)) [] := by
  rw [show ballot10B r c = true by unfold ballot10B; rw [if_neg h1, if_neg h2, if_neg h3, if_neg h4]]
  refine acallsK mixed Tryz.func100 rfl [0, 1, 2] 1000 ([.t, .t, .t, .t]) [] [] (ob := [decide (r ≥ (0 : Int)) = true,
 decide (r ≤ (65535 : Int)) = true,
 decide (c ≥ (0 : Int)) = true,
 decide (c < (4 : Int)) = true]) (by kernel_rfl) ⟨rfl, rfl⟩ ⟨?z0, ?z1, ?z2, ?z3, trivial⟩
  case z0|z1|z2|z3 => first | exact rfl | (simp [h1, h2, h3, h4] <;> omega) | omega | (omega)
theorem ballot10B_ac (r c : Int) : ACalls Tryz.prog 100 [.agg [.int .i64 r, .int .i64 c]] [] (.bool (ballot10B r c)) [] := by
  by_cases h1 : r < 0
  · exact ballot10B_e0 r c h1
  by_cases h2 : 65535 < r
  · exact ballot10B_e1 r c h1 h2
  by_cases h3 : c < 0
  · exact ballot10B_e2 r c h1 h2 h3
  by_cases h4 : 4 ≤ c
  · exact ballot10B_e3 r c h1 h2 h3 h4
  exact ballot10B_e4 r c h1 h2 h3 h4
theorem ballot10_eq (r c : Int) : ballot10B r c = ballotB r c := by
  unfold ballot10B ballotB
  by_cases h1 : r < 0
  · rw [if_pos h1, if_pos (by simp [inB]; omega)]
  · by_cases h2 : 65535 < r
    · rw [if_neg h1, if_pos h2, if_pos (by simp [inB]; omega)]
    · rw [if_neg h1, if_neg h2, if_neg (show ¬ inB r 65536 = false by simp [inB]; omega)]
      by_cases h3 : c < 0
      · rw [if_pos h3, if_pos (by simp [inB]; omega)]
      · by_cases h4 : 4 ≤ c
        · rw [if_neg h3, if_pos h4, if_pos (by simp [inB]; omega)]
        · rw [if_neg h3, if_neg h4, if_neg (by simp [inB]; omega)]
def noCell10B (c : CellD) : Bool := if ¬ c.kind = 0 then false else if ¬ c.data.length = 0 then false else if ¬ c.backs.length = 0 then false else true
theorem noCell10B_e0 (c : CellD) (h1 : ¬ c.kind = 0) : ACalls Tryz.prog 97 [encC c] [] (.bool (noCell10B c)) [] := by
  rw [show noCell10B c = false by unfold noCell10B; rw [if_pos h1]]
  refine acallsK mixed Tryz.func97 rfl [0, 1, 2] 1000 ([.f]) [] [] (ob := [(c.kind == (0 : Int)) = false]) (by kernel_rfl) ⟨rfl, rfl⟩ ⟨(by first | exact rfl | (simp [encC, celC, h1]; done) | (simp [encC, celC, h1]; omega) | omega | (first | omega | exact beq_iff_eq.2 (by omega) | exact beq_eq_false_iff_ne.2 (by omega))), trivial⟩
theorem noCell10B_e1 (c : CellD) (h1 : ¬ (¬ c.kind = 0)) (h2 : ¬ c.data.length = 0) : ACalls Tryz.prog 97 [encC c] [] (.bool (noCell10B c)) [] := by
  rw [show noCell10B c = false by unfold noCell10B; rw [if_neg h1, if_pos h2]]
  refine acallsK mixed Tryz.func97 rfl [0, 1, 2] 1000 ([.t, .n c.data.length, .f]) [] [] (ob := [(c.kind == (0 : Int)) = true,
 ((List.map byteA c.data).length : Int) = (c.data.length : Int),
 ((c.data.length : Int) == (0 : Int)) = false]) (by kernel_rfl) ⟨rfl, rfl⟩ ⟨?z0, ?z1, ?z2, trivial⟩
  case z0|z1|z2 => first | exact rfl | (simp [encC, celC, h1, h2] <;> omega) | omega | (first | omega | exact beq_iff_eq.2 (by omega) | exact beq_eq_false_iff_ne.2 (by omega))
theorem noCell10B_e2 (c : CellD) (h1 : ¬ (¬ c.kind = 0)) (h2 : ¬ (¬ c.data.length = 0)) (h3 : ¬ c.backs.length = 0) : ACalls Tryz.prog 97 [encC c] [] (.bool (noCell10B c)) [] := by
  rw [show noCell10B c = false by unfold noCell10B; rw [if_neg h1, if_neg h2, if_pos h3]]
  refine acallsK mixed Tryz.func97 rfl [0, 1, 2] 1000 ([.t, .n c.data.length, .t, .n c.backs.length, .f]) [] [] (ob := [(c.kind == (0 : Int)) = true,
 ((List.map byteA c.data).length : Int) = (c.data.length : Int),
 ((c.data.length : Int) == (0 : Int)) = true,
 ((List.map encB c.backs).length : Int) = (c.backs.length : Int),
 ((c.backs.length : Int) == (0 : Int)) = false]) (by kernel_rfl) ⟨rfl, rfl⟩ ⟨?z0, ?z1, ?z2, ?z3, ?z4, trivial⟩
  case z0|z1|z2|z3|z4 => first | exact rfl | (simp [encC, celC, h1, h2, h3] <;> omega) | omega | (first | omega | exact beq_iff_eq.2 (by omega) | exact beq_eq_false_iff_ne.2 (by omega))
theorem noCell10B_e3 (c : CellD) (h1 : ¬ (¬ c.kind = 0)) (h2 : ¬ (¬ c.data.length = 0)) (h3 : ¬ (¬ c.backs.length = 0)) : ACalls Tryz.prog 97 [encC c] [] (.bool (noCell10B c)) [] := by
  rw [show noCell10B c = true by unfold noCell10B; rw [if_neg h1, if_neg h2, if_neg h3]]
  refine acallsK mixed Tryz.func97 rfl [0, 1, 2] 1000 ([.t, .n c.data.length, .t, .n c.backs.length, .t]) [] [] (ob := [(c.kind == (0 : Int)) = true,
 ((List.map byteA c.data).length : Int) = (c.data.length : Int),
 ((c.data.length : Int) == (0 : Int)) = true,
 ((List.map encB c.backs).length : Int) = (c.backs.length : Int),
 ((c.backs.length : Int) == (0 : Int)) = true]) (by kernel_rfl) ⟨rfl, rfl⟩ ⟨?z0, ?z1, ?z2, ?z3, ?z4, trivial⟩
  case z0|z1|z2|z3|z4 => first | exact rfl | (simp [encC, celC, h1, h2, h3] <;> omega) | omega | (first | omega | exact beq_iff_eq.2 (by omega) | exact beq_eq_false_iff_ne.2 (by omega))
theorem noCell10B_ac (c : CellD) : ACalls Tryz.prog 97 [encC c] [] (.bool (noCell10B c)) [] := by
  by_cases h1 : ¬ c.kind = 0
  · exact noCell10B_e0 c h1
  by_cases h2 : ¬ c.data.length = 0
  · exact noCell10B_e1 c h1 h2
  by_cases h3 : ¬ c.backs.length = 0
  · exact noCell10B_e2 c h1 h2 h3
  exact noCell10B_e3 c h1 h2 h3
theorem noCell10_eq (c : CellD) : noCell10B c = sameC c cell0 := by
  obtain ⟨k, d, b⟩ := c
  by_cases h : k = 0 <;> cases d <;> cases b <;> simp [noCell10B, sameC, cell0, h]
def noLay10B (l : LayD) : Bool := if ¬ l.epoch = 0 then false else if ¬ l.segs.length = 0 then false else if ¬ l.seq = 0 then false else true
theorem noLay10B_e0 (l : LayD) (h1 : ¬ l.epoch = 0) : ACalls Tryz.prog 101 [encL l] [] (.bool (noLay10B l)) [] := by
  rw [show noLay10B l = false by unfold noLay10B; rw [if_pos h1]]
  refine acallsK mixed Tryz.func101 rfl [0, 1, 2] 1000 ([.f]) [] [] (ob := [(l.epoch == (0 : Int)) = false]) (by kernel_rfl) ⟨rfl, rfl⟩ ⟨(by first | exact rfl | (simp [encL, celL, h1]; done) | (simp [encL, celL, h1]; omega) | omega | (first | omega | exact beq_iff_eq.2 (by omega) | exact beq_eq_false_iff_ne.2 (by omega))), trivial⟩
theorem noLay10B_e1 (l : LayD) (h1 : ¬ (¬ l.epoch = 0)) (h2 : ¬ l.segs.length = 0) : ACalls Tryz.prog 101 [encL l] [] (.bool (noLay10B l)) [] := by
  rw [show noLay10B l = false by unfold noLay10B; rw [if_neg h1, if_pos h2]]
  refine acallsK mixed Tryz.func101 rfl [0, 1, 2] 1000 ([.t, .n l.segs.length, .f]) [] [] (ob := [(l.epoch == (0 : Int)) = true,
 ((List.map encS l.segs).length : Int) = (l.segs.length : Int),
 ((l.segs.length : Int) == (0 : Int)) = false]) (by kernel_rfl) ⟨rfl, rfl⟩ ⟨?z0, ?z1, ?z2, trivial⟩
  case z0|z1|z2 => first | exact rfl | (simp [encL, celL, h1, h2] <;> omega) | omega | (first | omega | exact beq_iff_eq.2 (by omega) | exact beq_eq_false_iff_ne.2 (by omega))
theorem noLay10B_e2 (l : LayD) (h1 : ¬ (¬ l.epoch = 0)) (h2 : ¬ (¬ l.segs.length = 0)) (h3 : ¬ l.seq = 0) : ACalls Tryz.prog 101 [encL l] [] (.bool (noLay10B l)) [] := by
  rw [show noLay10B l = false by unfold noLay10B; rw [if_neg h1, if_neg h2, if_pos h3]]
  refine acallsK mixed Tryz.func101 rfl [0, 1, 2] 1000 ([.t, .n l.segs.length, .t, .f]) [] [] (ob := [(l.epoch == (0 : Int)) = true,
 ((List.map encS l.segs).length : Int) = (l.segs.length : Int),
 ((l.segs.length : Int) == (0 : Int)) = true,
 (l.seq == (0 : Int)) = false]) (by kernel_rfl) ⟨rfl, rfl⟩ ⟨?z0, ?z1, ?z2, ?z3, trivial⟩
  case z0|z1|z2|z3 => first | exact rfl | (simp [encL, celL, h1, h2, h3] <;> omega) | omega | (first | omega | exact beq_iff_eq.2 (by omega) | exact beq_eq_false_iff_ne.2 (by omega))
theorem noLay10B_e3 (l : LayD) (h1 : ¬ (¬ l.epoch = 0)) (h2 : ¬ (¬ l.segs.length = 0)) (h3 : ¬ (¬ l.seq = 0)) : ACalls Tryz.prog 101 [encL l] [] (.bool (noLay10B l)) [] := by
  rw [show noLay10B l = true by unfold noLay10B; rw [if_neg h1, if_neg h2, if_neg h3]]
  refine acallsK mixed Tryz.func101 rfl [0, 1, 2] 1000 ([.t, .n l.segs.length, .t, .t]) [] [] (ob := [(l.epoch == (0 : Int)) = true,
 ((List.map encS l.segs).length : Int) = (l.segs.length : Int),
 ((l.segs.length : Int) == (0 : Int)) = true,
 (l.seq == (0 : Int)) = true]) (by kernel_rfl) ⟨rfl, rfl⟩ ⟨?z0, ?z1, ?z2, ?z3, trivial⟩
  case z0|z1|z2|z3 => first | exact rfl | (simp [encL, celL, h1, h2, h3] <;> omega) | omega | (first | omega | exact beq_iff_eq.2 (by omega) | exact beq_eq_false_iff_ne.2 (by omega))
theorem noLay10B_ac (l : LayD) : ACalls Tryz.prog 101 [encL l] [] (.bool (noLay10B l)) [] := by
  by_cases h1 : ¬ l.epoch = 0
  · exact noLay10B_e0 l h1
  by_cases h2 : ¬ l.segs.length = 0
  · exact noLay10B_e1 l h1 h2
  by_cases h3 : ¬ l.seq = 0
  · exact noLay10B_e2 l h1 h2 h3
  exact noLay10B_e3 l h1 h2 h3
theorem noLay10_eq (l : LayD) : noLay10B l = noLayB l := by
  unfold noLay10B noLayB
  by_cases h1 : l.epoch = 0 <;> by_cases h2 : l.segs.length = 0 <;> by_cases h3 : l.seq = 0 <;> simp [h1, h2, h3]
theorem streams_eq (l : List Int) : streamsB l = (!decide (4 < l.length) && riseB l) := by
  unfold streamsB riseB
  by_cases h : 4 < l.length
  · have : ¬ ((l.length : Int) ≤ 4) := by omega
    simp [h, this]
  · have : ((l.length : Int) ≤ 4) := by omega
    simp [h, this]
theorem scanO_eq : ∀ (l : List BackD) (v : Int), scanO v l = (l.any (fun x => !rightC (oneC x)) || scanI v (l.map (·.s)))
  | [], v => rfl
  | x :: l, v => by
    have h1 : rightC (oneC x) = backs7B [x] := by simp [rightC, oneC, backs7B]
    simp only [scanO, badO, List.any_cons, List.map_cons, scanI, badI, scanO_eq l x.s, h1]
    cases hb : backs7B [x] with
    | false => simp
    | true =>
      have : ¬ 16 ≤ x.s := by
        simp [backs7B, scanB, badB] at hb
        omega
      simp [this]
      cases decide (x.s ≤ v) <;> simp
theorem backs10_eq (l : List BackD) : backs10B l = backsB l := by
  unfold backs10B backsB riseB
  rw [scanO_eq]
  rw [Bool.not_or]
  congr 1
  rw [List.not_any_eq_all_not]
  simp
end Go.Proofs.YtidgcfgkcidkiaaGreat.Ch
namespace Go.Proofs.YtidgcfgkcidkiaaGreat.Ch
open Go Go.RowKit Go.Proofs.YtidgcfgkcidkiaaGreat.L Go.Proofs.YtidgcfgkcidkiaaGreat.X
set_option linter.unusedVariables false
set_option linter.unusedSimpArgs false
def tail10 (m : MsgD) : Bool := placeB m.fr m.fn && (placeB m.tr m.tn && ((sameC m.cell cell0 || rightC m.cell) && (streamsB m.streams && (backsB m.backs && (ballotB m.br m.bc && (ballotB m.pr m.pc && (noLayB m.lay || rightL m.lay)))))))
def right10 (m : MsgD) : Bool := if m.kind < 1 then false else if 14 < m.kind then false else if m.of_ < 0 then false else if 13 < m.of_ then false else if ¬ (m.kind = 14 ↔ 0 < m.of_) then false else if m.id < 0 then false else if 1048576 ≤ m.id then false else if 1048576 < m.epoch then false else if 1048576 < m.addr then false else if m.err < 0 then false else if 255 < m.err then false else tail10 m
theorem right10_e0 (m : MsgD) (hm : m.ok) (hl : ∀ s ∈ m.lay.segs, s.chains.length ≤ 1000000000) (h1 : m.kind < 1) : ACalls Tryz.prog 57 [encM m] [] (.bool (right10 m)) [] := by
  rw [show right10 m = false by unfold right10; rw [if_pos h1]]
  refine acallsK mixed Tryz.func57 rfl [0, 1, 2, 3, 4, 5, 6, 7, 8, 9, 10, 67] 1000 ([.t]) [] [] (ob := [decide (m.kind < (1 : Int)) = true]) (by kernel_rfl) ⟨rfl, rfl⟩ ⟨(by first | exact rfl | (simp [encM, celM, celC, celL, h1]; done) | (simp [encM, celM, celC, celL, h1]; omega) | omega | (first | omega | exact xor_yes h5 | exact xor_no h5)), trivial⟩
theorem right10_e1 (m : MsgD) (hm : m.ok) (hl : ∀ s ∈ m.lay.segs, s.chains.length ≤ 1000000000) (h1 : ¬ (m.kind < 1)) (h2 : 14 < m.kind) : ACalls Tryz.prog 57 [encM m] [] (.bool (right10 m)) [] := by
  rw [show right10 m = false by unfold right10; rw [if_neg h1, if_pos h2]]
  refine acallsK mixed Tryz.func57 rfl [0, 1, 2, 3, 4, 5, 6, 7, 8, 9, 10, 67] 1000 ([.f, .t]) [] [] (ob := [decide (m.kind < (1 : Int)) = false,
 decide (m.kind > (14 : Int)) = true]) (by kernel_rfl) ⟨rfl, rfl⟩ ⟨?z0, ?z1, trivial⟩
  case z0|z1 => first | exact rfl | (simp [encM, celM, celC, celL, h1, h2] <;> omega) | omega | (first | omega | exact xor_yes h5 | exact xor_no h5)
theorem right10_e2 (m : MsgD) (hm : m.ok) (hl : ∀ s ∈ m.lay.segs, s.chains.length ≤ 1000000000) (h1 : ¬ (m.kind < 1)) (h2 : ¬ (14 < m.kind)) (h3 : m.of_ < 0) : ACalls Tryz.prog 57 [encM m] [] (.bool (right10 m)) [] := by
  rw [show right10 m = false by unfold right10; rw [if_neg h1, if_neg h2, if_pos h3]]
  refine acallsK mixed Tryz.func57 rfl [0, 1, 2, 3, 4, 5, 6, 7, 8, 9, 10, 67] 1000 ([.f, .f, .t]) [] [] (ob := [decide (m.kind < (1 : Int)) = false,
 decide (m.kind > (14 : Int)) = false,
 decide (m.of_ < (0 : Int)) = true]) (by kernel_rfl) ⟨rfl, rfl⟩ ⟨?z0, ?z1, ?z2, trivial⟩
  case z0|z1|z2 => first | exact rfl | (simp [encM, celM, celC, celL, h1, h2, h3] <;> omega) | omega | (first | omega | exact xor_yes h5 | exact xor_no h5)
theorem right10_e3 (m : MsgD) (hm : m.ok) (hl : ∀ s ∈ m.lay.segs, s.chains.length ≤ 1000000000) (h1 : ¬ (m.kind < 1)) (h2 : ¬ (14 < m.kind)) (h3 : ¬ (m.of_ < 0)) (h4 : 13 < m.of_) : ACalls Tryz.prog 57 [encM m] [] (.bool (right10 m)) [] := by
  rw [show right10 m = false by unfold right10; rw [if_neg h1, if_neg h2, if_neg h3, if_pos h4]]
  refine acallsK mixed Tryz.func57 rfl [0, 1, 2, 3, 4, 5, 6, 7, 8, 9, 10, 67] 1000 ([.f, .f, .f, .t]) [] [] (ob := [decide (m.kind < (1 : Int)) = false,
 decide (m.kind > (14 : Int)) = false,
 decide (m.of_ < (0 : Int)) = false,
 decide (m.of_ > (13 : Int)) = true]) (by kernel_rfl) ⟨rfl, rfl⟩ ⟨?z0, ?z1, ?z2, ?z3, trivial⟩
  case z0|z1|z2|z3 => first | exact rfl | (simp [encM, celM, celC, celL, h1, h2, h3, h4] <;> omega) | omega | (first | omega | exact xor_yes h5 | exact xor_no h5)
theorem right10_e4 (m : MsgD) (hm : m.ok) (hl : ∀ s ∈ m.lay.segs, s.chains.length ≤ 1000000000) (h1 : ¬ (m.kind < 1)) (h2 : ¬ (14 < m.kind)) (h3 : ¬ (m.of_ < 0)) (h4 : ¬ (13 < m.of_)) (h5 : ¬ (m.kind = 14 ↔ 0 < m.of_)) : ACalls Tryz.prog 57 [encM m] [] (.bool (right10 m)) [] := by
  rw [show right10 m = false by unfold right10; rw [if_neg h1, if_neg h2, if_neg h3, if_neg h4, if_pos h5]]
  refine acallsK mixed Tryz.func57 rfl [0, 1, 2, 3, 4, 5, 6, 7, 8, 9, 10, 67] 1000 ([.f, .f, .f, .f, .k, .k, .t]) [] [] (ob := [decide (m.kind < (1 : Int)) = false,
 decide (m.kind > (14 : Int)) = false,
 decide (m.of_ < (0 : Int)) = false,
 decide (m.of_ > (13 : Int)) = false,
 (!(m.kind == (14 : Int)) == decide (m.of_ > (0 : Int))) = true]) (by kernel_rfl) ⟨rfl, rfl⟩ ⟨?z0, ?z1, ?z2, ?z3, ?z4, trivial⟩
  case z0|z1|z2|z3|z4 => first | exact rfl | (simp [encM, celM, celC, celL, h1, h2, h3, h4, h5] <;> omega) | omega | (first | omega | exact xor_yes h5 | exact xor_no h5)
theorem right10_e5 (m : MsgD) (hm : m.ok) (hl : ∀ s ∈ m.lay.segs, s.chains.length ≤ 1000000000) (h1 : ¬ (m.kind < 1)) (h2 : ¬ (14 < m.kind)) (h3 : ¬ (m.of_ < 0)) (h4 : ¬ (13 < m.of_)) (h5 : ¬ (¬ (m.kind = 14 ↔ 0 < m.of_))) (h6 : m.id < 0) : ACalls Tryz.prog 57 [encM m] [] (.bool (right10 m)) [] := by
  rw [show right10 m = false by unfold right10; rw [if_neg h1, if_neg h2, if_neg h3, if_neg h4, if_neg h5, if_pos h6]]
  refine acallsK mixed Tryz.func57 rfl [0, 1, 2, 3, 4, 5, 6, 7, 8, 9, 10, 67] 1000 ([.f, .f, .f, .f, .k, .k, .f, .t]) [] [] (ob := [decide (m.kind < (1 : Int)) = false,
 decide (m.kind > (14 : Int)) = false,
 decide (m.of_ < (0 : Int)) = false,
 decide (m.of_ > (13 : Int)) = false,
 (!(m.kind == (14 : Int)) == decide (m.of_ > (0 : Int))) = false,
 decide (m.id < (0 : Int)) = true]) (by kernel_rfl) ⟨rfl, rfl⟩ ⟨?z0, ?z1, ?z2, ?z3, ?z4, ?z5, trivial⟩
  case z0|z1|z2|z3|z4|z5 => first | exact rfl | (simp [encM, celM, celC, celL, h1, h2, h3, h4, h5, h6] <;> omega) | omega | (first | omega | exact xor_yes h5 | exact xor_no h5)
theorem right10_e6 (m : MsgD) (hm : m.ok) (hl : ∀ s ∈ m.lay.segs, s.chains.length ≤ 1000000000) (h1 : ¬ (m.kind < 1)) (h2 : ¬ (14 < m.kind)) (h3 : ¬ (m.of_ < 0)) (h4 : ¬ (13 < m.of_)) (h5 : ¬ (¬ (m.kind = 14 ↔ 0 < m.of_))) (h6 : ¬ (m.id < 0)) (h7 : 1048576 ≤ m.id) : ACalls Tryz.prog 57 [encM m] [] (.bool (right10 m)) [] := by
  rw [show right10 m = false by unfold right10; rw [if_neg h1, if_neg h2, if_neg h3, if_neg h4, if_neg h5, if_neg h6, if_pos h7]]
  refine acallsK mixed Tryz.func57 rfl [0, 1, 2, 3, 4, 5, 6, 7, 8, 9, 10, 67] 1000 ([.f, .f, .f, .f, .k, .k, .f, .f, .t]) [] [] (ob := [decide (m.kind < (1 : Int)) = false,
 decide (m.kind > (14 : Int)) = false,
 decide (m.of_ < (0 : Int)) = false,
 decide (m.of_ > (13 : Int)) = false,
 (!(m.kind == (14 : Int)) == decide (m.of_ > (0 : Int))) = false,
 decide (m.id < (0 : Int)) = false,
 decide (m.id ≥ (1048576 : Int)) = true]) (by kernel_rfl) ⟨rfl, rfl⟩ ⟨?z0, ?z1, ?z2, ?z3, ?z4, ?z5, ?z6, trivial⟩
  case z0|z1|z2|z3|z4|z5|z6 => first | exact rfl | (simp [encM, celM, celC, celL, h1, h2, h3, h4, h5, h6, h7] <;> omega) | omega | (first | omega | exact xor_yes h5 | exact xor_no h5)
theorem right10_e7 (m : MsgD) (hm : m.ok) (hl : ∀ s ∈ m.lay.segs, s.chains.length ≤ 1000000000) (h1 : ¬ (m.kind < 1)) (h2 : ¬ (14 < m.kind)) (h3 : ¬ (m.of_ < 0)) (h4 : ¬ (13 < m.of_)) (h5 : ¬ (¬ (m.kind = 14 ↔ 0 < m.of_))) (h6 : ¬ (m.id < 0)) (h7 : ¬ (1048576 ≤ m.id)) (h8 : 1048576 < m.epoch) : ACalls Tryz.prog 57 [encM m] [] (.bool (right10 m)) [] := by
  rw [show right10 m = false by unfold right10; rw [if_neg h1, if_neg h2, if_neg h3, if_neg h4, if_neg h5, if_neg h6, if_neg h7, if_pos h8]]
  refine acallsK mixed Tryz.func57 rfl [0, 1, 2, 3, 4, 5, 6, 7, 8, 9, 10, 67] 1000 ([.f, .f, .f, .f, .k, .k, .f, .f, .f, .t]) [] [] (ob := [decide (m.kind < (1 : Int)) = false,
 decide (m.kind > (14 : Int)) = false,
 decide (m.of_ < (0 : Int)) = false,
 decide (m.of_ > (13 : Int)) = false,
 (!(m.kind == (14 : Int)) == decide (m.of_ > (0 : Int))) = false,
 decide (m.id < (0 : Int)) = false,
 decide (m.id ≥ (1048576 : Int)) = false,
 decide (m.epoch > (1048576 : Int)) = true]) (by kernel_rfl) ⟨rfl, rfl⟩ ⟨?z0, ?z1, ?z2, ?z3, ?z4, ?z5, ?z6, ?z7, trivial⟩
  case z0|z1|z2|z3|z4|z5|z6|z7 => first | exact rfl | (simp [encM, celM, celC, celL, h1, h2, h3, h4, h5, h6, h7, h8] <;> omega) | omega | (first | omega | exact xor_yes h5 | exact xor_no h5)
theorem right10_e8 (m : MsgD) (hm : m.ok) (hl : ∀ s ∈ m.lay.segs, s.chains.length ≤ 1000000000) (h1 : ¬ (m.kind < 1)) (h2 : ¬ (14 < m.kind)) (h3 : ¬ (m.of_ < 0)) (h4 : ¬ (13 < m.of_)) (h5 : ¬ (¬ (m.kind = 14 ↔ 0 < m.of_))) (h6 : ¬ (m.id < 0)) (h7 : ¬ (1048576 ≤ m.id)) (h8 : ¬ (1048576 < m.epoch)) (h9 : 1048576 < m.addr) : ACalls Tryz.prog 57 [encM m] [] (.bool (right10 m)) [] := by
  rw [show right10 m = false by unfold right10; rw [if_neg h1, if_neg h2, if_neg h3, if_neg h4, if_neg h5, if_neg h6, if_neg h7, if_neg h8, if_pos h9]]
  refine acallsK mixed Tryz.func57 rfl [0, 1, 2, 3, 4, 5, 6, 7, 8, 9, 10, 67] 1000 ([.f, .f, .f, .f, .k, .k, .f, .f, .f, .f, .t]) [] [] (ob := [decide (m.kind < (1 : Int)) = false,
 decide (m.kind > (14 : Int)) = false,
 decide (m.of_ < (0 : Int)) = false,
 decide (m.of_ > (13 : Int)) = false,
 (!(m.kind == (14 : Int)) == decide (m.of_ > (0 : Int))) = false,
 decide (m.id < (0 : Int)) = false,
 decide (m.id ≥ (1048576 : Int)) = false,
 decide (m.epoch > (1048576 : Int)) = false,
 decide (m.addr > (1048576 : Int)) = true]) (by kernel_rfl) ⟨rfl, rfl⟩ ⟨?z0, ?z1, ?z2, ?z3, ?z4, ?z5, ?z6, ?z7, ?z8, trivial⟩
  case z0|z1|z2|z3|z4|z5|z6|z7|z8 => first | exact rfl | (simp [encM, celM, celC, celL, h1, h2, h3, h4, h5, h6, h7, h8, h9] <;> omega) | omega | (first | omega | exact xor_yes h5 | exact xor_no h5)
theorem right10_e9 (m : MsgD) (hm : m.ok) (hl : ∀ s ∈ m.lay.segs, s.chains.length ≤ 1000000000) (h1 : ¬ (m.kind < 1)) (h2 : ¬ (14 < m.kind)) (h3 : ¬ (m.of_ < 0)) (h4 : ¬ (13 < m.of_)) (h5 : ¬ (¬ (m.kind = 14 ↔ 0 < m.of_))) (h6 : ¬ (m.id < 0)) (h7 : ¬ (1048576 ≤ m.id)) (h8 : ¬ (1048576 < m.epoch)) (h9 : ¬ (1048576 < m.addr)) (h10 : m.err < 0) : ACalls Tryz.prog 57 [encM m] [] (.bool (right10 m)) [] := by
  rw [show right10 m = false by unfold right10; rw [if_neg h1, if_neg h2, if_neg h3, if_neg h4, if_neg h5, if_neg h6, if_neg h7, if_neg h8, if_neg h9, if_pos h10]]
  refine acallsK mixed Tryz.func57 rfl [0, 1, 2, 3, 4, 5, 6, 7, 8, 9, 10, 67] 1000 ([.f, .f, .f, .f, .k, .k, .f, .f, .f, .f, .f, .t]) [] [] (ob := [decide (m.kind < (1 : Int)) = false,
 decide (m.kind > (14 : Int)) = false,
 decide (m.of_ < (0 : Int)) = false,
 decide (m.of_ > (13 : Int)) = false,
 (!(m.kind == (14 : Int)) == decide (m.of_ > (0 : Int))) = false,
 decide (m.id < (0 : Int)) = false,
 decide (m.id ≥ (1048576 : Int)) = false,
 decide (m.epoch > (1048576 : Int)) = false,
 decide (m.addr > (1048576 : Int)) = false,
 decide (m.err < (0 : Int)) = true]) (by kernel_rfl) ⟨rfl, rfl⟩ ⟨?z0, ?z1, ?z2, ?z3, ?z4, ?z5, ?z6, ?z7, ?z8, ?z9, trivial⟩
  case z0|z1|z2|z3|z4|z5|z6|z7|z8|z9 => first | exact rfl | (simp [encM, celM, celC, celL, h1, h2, h3, h4, h5, h6, h7, h8, h9, h10] <;> omega) | omega | (first | omega | exact xor_yes h5 | exact xor_no h5)
theorem right10_e10 (m : MsgD) (hm : m.ok) (hl : ∀ s ∈ m.lay.segs, s.chains.length ≤ 1000000000) (h1 : ¬ (m.kind < 1)) (h2 : ¬ (14 < m.kind)) (h3 : ¬ (m.of_ < 0)) (h4 : ¬ (13 < m.of_)) (h5 : ¬ (¬ (m.kind = 14 ↔ 0 < m.of_))) (h6 : ¬ (m.id < 0)) (h7 : ¬ (1048576 ≤ m.id)) (h8 : ¬ (1048576 < m.epoch)) (h9 : ¬ (1048576 < m.addr)) (h10 : ¬ (m.err < 0)) (h11 : 255 < m.err) : ACalls Tryz.prog 57 [encM m] [] (.bool (right10 m)) [] := by
  rw [show right10 m = false by unfold right10; rw [if_neg h1, if_neg h2, if_neg h3, if_neg h4, if_neg h5, if_neg h6, if_neg h7, if_neg h8, if_neg h9, if_neg h10, if_pos h11]]
  refine acallsK mixed Tryz.func57 rfl [0, 1, 2, 3, 4, 5, 6, 7, 8, 9, 10, 67] 1000 ([.f, .f, .f, .f, .k, .k, .f, .f, .f, .f, .f, .f, .t]) [] [] (ob := [decide (m.kind < (1 : Int)) = false,
 decide (m.kind > (14 : Int)) = false,
 decide (m.of_ < (0 : Int)) = false,
 decide (m.of_ > (13 : Int)) = false,
 (!(m.kind == (14 : Int)) == decide (m.of_ > (0 : Int))) = false,
 decide (m.id < (0 : Int)) = false,
 decide (m.id ≥ (1048576 : Int)) = false,
 decide (m.epoch > (1048576 : Int)) = false,
 decide (m.addr > (1048576 : Int)) = false,
 decide (m.err < (0 : Int)) = false,
 decide (m.err > (255 : Int)) = true]) (by kernel_rfl) ⟨rfl, rfl⟩ ⟨?z0, ?z1, ?z2, ?z3, ?z4, ?z5, ?z6, ?z7, ?z8, ?z9, ?z10, trivial⟩
  case z0|z1|z2|z3|z4|z5|z6|z7|z8|z9|z10 => first | exact rfl | (simp [encM, celM, celC, celL, h1, h2, h3, h4, h5, h6, h7, h8, h9, h10, h11] <;> omega) | omega | (first | omega | exact xor_yes h5 | exact xor_no h5)
theorem right10_e11 (m : MsgD) (hm : m.ok) (hl : ∀ s ∈ m.lay.segs, s.chains.length ≤ 1000000000) (h1 : ¬ (m.kind < 1)) (h2 : ¬ (14 < m.kind)) (h3 : ¬ (m.of_ < 0)) (h4 : ¬ (13 < m.of_)) (h5 : ¬ (¬ (m.kind = 14 ↔ 0 < m.of_))) (h6 : ¬ (m.id < 0)) (h7 : ¬ (1048576 ≤ m.id)) (h8 : ¬ (1048576 < m.epoch)) (h9 : ¬ (1048576 < m.addr)) (h10 : ¬ (m.err < 0)) (h11 : ¬ (255 < m.err)) (kF : placeB m.fr m.fn = false) (kN : sameC m.cell cell0 = false) (kL : noLayB m.lay = false) : ACalls Tryz.prog 57 [encM m] [] (.bool (right10 m)) [] := by
  have qF := place10_ac m.fr m.fn
  have qT := place10_ac m.tr m.tn
  have qN := noCell10B_ac m.cell
  rw [noCell10_eq] at qN
  have qR := rightR7 m.cell hm.cell.b
  have qS := streams10_ac m.streams hm.st
  have qB := backs10_ac m.backs hm.b
  rw [backs10_eq] at qB
  have qa := ballot10B_ac m.br m.bc
  rw [ballot10_eq] at qa
  have qb := ballot10B_ac m.pr m.pc
  rw [ballot10_eq] at qb
  have qL := noLay10B_ac m.lay
  rw [noLay10_eq] at qL
  have qZ := right9_ac m.lay hl hm.lay.n
  rw [kF] at qF
  rw [kN] at qN
  rw [kL] at qL
  rw [show right10 m = false by unfold right10; rw [if_neg h1, if_neg h2, if_neg h3, if_neg h4, if_neg h5, if_neg h6, if_neg h7, if_neg h8, if_neg h9, if_neg h10, if_neg h11]; unfold tail10; simp [kF, kN, kL]]
  refine acallsK mixed Tryz.func57 rfl [0, 1, 2, 3, 4, 5, 6, 7, 8, 9, 10, 67] 1000 ([.f, .f, .f, .f, .k, .k, .f, .f, .f, .f, .f, .f, .f, .call [] false true (.bool false) [], .call [] false true (.bool (placeB m.tr m.tn)) [], .call [] false true (.bool false) [], .call [] false true (.bool (rightC m.cell)) [], .call [] false true (.bool (streamsB m.streams)) [], .call [] false true (.bool (backsB m.backs)) [], .call [] false true (.bool (ballotB m.br m.bc)) [], .call [] false true (.bool (ballotB m.pr m.pc)) [], .call [] false true (.bool false) [], .call [] false true (.bool (rightL m.lay)) []]) [] [] (ob := [decide (m.kind < (1 : Int)) = false,
 decide (m.kind > (14 : Int)) = false,
 decide (m.of_ < (0 : Int)) = false,
 decide (m.of_ > (13 : Int)) = false,
 (!(m.kind == (14 : Int)) == decide (m.of_ > (0 : Int))) = false,
 decide (m.id < (0 : Int)) = false,
 decide (m.id ≥ (1048576 : Int)) = false,
 decide (m.epoch > (1048576 : Int)) = false,
 decide (m.addr > (1048576 : Int)) = false,
 decide (m.err < (0 : Int)) = false,
 decide (m.err > (255 : Int)) = false,
 _,
 _,
 _,
 _,
 _,
 _,
 _,
 _,
 _,
 _]) (by kernel_rfl) ⟨rfl, rfl⟩ ⟨?z0, ?z1, ?z2, ?z3, ?z4, ?z5, ?z6, ?z7, ?z8, ?z9, ?z10, qF, qT, qN, qR, qS, qB, qa, qb, qL, qZ, trivial⟩
  case z0|z1|z2|z3|z4|z5|z6|z7|z8|z9|z10 => first | exact rfl | (simp [encM, celM, celC, celL, h1, h2, h3, h4, h5, h6, h7, h8, h9, h10, h11, kF, kN, kL] <;> omega) | omega | (first | omega | exact xor_yes h5 | exact xor_no h5)
theorem right10_e12 (m : MsgD) (hm : m.ok) (hl : ∀ s ∈ m.lay.segs, s.chains.length ≤ 1000000000) (h1 : ¬ (m.kind < 1)) (h2 : ¬ (14 < m.kind)) (h3 : ¬ (m.of_ < 0)) (h4 : ¬ (13 < m.of_)) (h5 : ¬ (¬ (m.kind = 14 ↔ 0 < m.of_))) (h6 : ¬ (m.id < 0)) (h7 : ¬ (1048576 ≤ m.id)) (h8 : ¬ (1048576 < m.epoch)) (h9 : ¬ (1048576 < m.addr)) (h10 : ¬ (m.err < 0)) (h11 : ¬ (255 < m.err)) (kF : placeB m.fr m.fn = true) (kT : placeB m.tr m.tn = false) (kN : sameC m.cell cell0 = false) (kL : noLayB m.lay = false) : ACalls Tryz.prog 57 [encM m] [] (.bool (right10 m)) [] := by
  have qF := place10_ac m.fr m.fn
  have qT := place10_ac m.tr m.tn
  have qN := noCell10B_ac m.cell
  rw [noCell10_eq] at qN
  have qR := rightR7 m.cell hm.cell.b
  have qS := streams10_ac m.streams hm.st
  have qB := backs10_ac m.backs hm.b
  rw [backs10_eq] at qB
  have qa := ballot10B_ac m.br m.bc
  rw [ballot10_eq] at qa
  have qb := ballot10B_ac m.pr m.pc
  rw [ballot10_eq] at qb
  have qL := noLay10B_ac m.lay
  rw [noLay10_eq] at qL
  have qZ := right9_ac m.lay hl hm.lay.n
  rw [kF] at qF
  rw [kT] at qT
  rw [kN] at qN
  rw [kL] at qL
  rw [show right10 m = false by unfold right10; rw [if_neg h1, if_neg h2, if_neg h3, if_neg h4, if_neg h5, if_neg h6, if_neg h7, if_neg h8, if_neg h9, if_neg h10, if_neg h11]; unfold tail10; simp [kF, kT, kN, kL]]
  refine acallsK mixed Tryz.func57 rfl [0, 1, 2, 3, 4, 5, 6, 7, 8, 9, 10, 67] 1000 ([.f, .f, .f, .f, .k, .k, .f, .f, .f, .f, .f, .f, .f, .call [] false true (.bool true) [], .call [] false true (.bool false) [], .call [] false true (.bool false) [], .call [] false true (.bool (rightC m.cell)) [], .call [] false true (.bool (streamsB m.streams)) [], .call [] false true (.bool (backsB m.backs)) [], .call [] false true (.bool (ballotB m.br m.bc)) [], .call [] false true (.bool (ballotB m.pr m.pc)) [], .call [] false true (.bool false) [], .call [] false true (.bool (rightL m.lay)) []]) [] [] (ob := [decide (m.kind < (1 : Int)) = false,
 decide (m.kind > (14 : Int)) = false,
 decide (m.of_ < (0 : Int)) = false,
 decide (m.of_ > (13 : Int)) = false,
 (!(m.kind == (14 : Int)) == decide (m.of_ > (0 : Int))) = false,
 decide (m.id < (0 : Int)) = false,
 decide (m.id ≥ (1048576 : Int)) = false,
 decide (m.epoch > (1048576 : Int)) = false,
 decide (m.addr > (1048576 : Int)) = false,
 decide (m.err < (0 : Int)) = false,
 decide (m.err > (255 : Int)) = false,
 _,
 _,
 _,
 _,
 _,
 _,
 _,
 _,
 _,
 _]) (by kernel_rfl) ⟨rfl, rfl⟩ ⟨?z0, ?z1, ?z2, ?z3, ?z4, ?z5, ?z6, ?z7, ?z8, ?z9, ?z10, qF, qT, qN, qR, qS, qB, qa, qb, qL, qZ, trivial⟩
  case z0|z1|z2|z3|z4|z5|z6|z7|z8|z9|z10 => first | exact rfl | (simp [encM, celM, celC, celL, h1, h2, h3, h4, h5, h6, h7, h8, h9, h10, h11, kF, kT, kN, kL] <;> omega) | omega | (first | omega | exact xor_yes h5 | exact xor_no h5)
theorem right10_e13 (m : MsgD) (hm : m.ok) (hl : ∀ s ∈ m.lay.segs, s.chains.length ≤ 1000000000) (h1 : ¬ (m.kind < 1)) (h2 : ¬ (14 < m.kind)) (h3 : ¬ (m.of_ < 0)) (h4 : ¬ (13 < m.of_)) (h5 : ¬ (¬ (m.kind = 14 ↔ 0 < m.of_))) (h6 : ¬ (m.id < 0)) (h7 : ¬ (1048576 ≤ m.id)) (h8 : ¬ (1048576 < m.epoch)) (h9 : ¬ (1048576 < m.addr)) (h10 : ¬ (m.err < 0)) (h11 : ¬ (255 < m.err)) (kF : placeB m.fr m.fn = true) (kT : placeB m.tr m.tn = true) (kN : sameC m.cell cell0 = false) (kR : rightC m.cell = false) (kL : noLayB m.lay = false) : ACalls Tryz.prog 57 [encM m] [] (.bool (right10 m)) [] := by
  have qF := place10_ac m.fr m.fn
  have qT := place10_ac m.tr m.tn
  have qN := noCell10B_ac m.cell
  rw [noCell10_eq] at qN
  have qR := rightR7 m.cell hm.cell.b
  have qS := streams10_ac m.streams hm.st
  have qB := backs10_ac m.backs hm.b
  rw [backs10_eq] at qB
  have qa := ballot10B_ac m.br m.bc
  rw [ballot10_eq] at qa
  have qb := ballot10B_ac m.pr m.pc
  rw [ballot10_eq] at qb
  have qL := noLay10B_ac m.lay
  rw [noLay10_eq] at qL
  have qZ := right9_ac m.lay hl hm.lay.n
  rw [kF] at qF
  rw [kT] at qT
  rw [kN] at qN
  rw [kR] at qR
  rw [kL] at qL
  rw [show right10 m = false by unfold right10; rw [if_neg h1, if_neg h2, if_neg h3, if_neg h4, if_neg h5, if_neg h6, if_neg h7, if_neg h8, if_neg h9, if_neg h10, if_neg h11]; unfold tail10; simp [kF, kT, kN, kR, kL]]
  refine acallsK mixed Tryz.func57 rfl [0, 1, 2, 3, 4, 5, 6, 7, 8, 9, 10, 67] 1000 ([.f, .f, .f, .f, .k, .k, .f, .f, .f, .f, .f, .f, .f, .call [] false true (.bool true) [], .call [] false true (.bool true) [], .call [] false true (.bool false) [], .call [] false true (.bool false) [], .call [] false true (.bool (streamsB m.streams)) [], .call [] false true (.bool (backsB m.backs)) [], .call [] false true (.bool (ballotB m.br m.bc)) [], .call [] false true (.bool (ballotB m.pr m.pc)) [], .call [] false true (.bool false) [], .call [] false true (.bool (rightL m.lay)) []]) [] [] (ob := [decide (m.kind < (1 : Int)) = false,
 decide (m.kind > (14 : Int)) = false,
 decide (m.of_ < (0 : Int)) = false,
 decide (m.of_ > (13 : Int)) = false,
 (!(m.kind == (14 : Int)) == decide (m.of_ > (0 : Int))) = false,
 decide (m.id < (0 : Int)) = false,
 decide (m.id ≥ (1048576 : Int)) = false,
 decide (m.epoch > (1048576 : Int)) = false,
 decide (m.addr > (1048576 : Int)) = false,
 decide (m.err < (0 : Int)) = false,
 decide (m.err > (255 : Int)) = false,
 _,
 _,
 _,
 _,
 _,
 _,
 _,
 _,
 _,
 _]) (by kernel_rfl) ⟨rfl, rfl⟩ ⟨?z0, ?z1, ?z2, ?z3, ?z4, ?z5, ?z6, ?z7, ?z8, ?z9, ?z10, qF, qT, qN, qR, qS, qB, qa, qb, qL, qZ, trivial⟩
  case z0|z1|z2|z3|z4|z5|z6|z7|z8|z9|z10 => first | exact rfl | (simp [encM, celM, celC, celL, h1, h2, h3, h4, h5, h6, h7, h8, h9, h10, h11, kF, kT, kN, kR, kL] <;> omega) | omega | (first | omega | exact xor_yes h5 | exact xor_no h5)
theorem right10_e14 (m : MsgD) (hm : m.ok) (hl : ∀ s ∈ m.lay.segs, s.chains.length ≤ 1000000000) (h1 : ¬ (m.kind < 1)) (h2 : ¬ (14 < m.kind)) (h3 : ¬ (m.of_ < 0)) (h4 : ¬ (13 < m.of_)) (h5 : ¬ (¬ (m.kind = 14 ↔ 0 < m.of_))) (h6 : ¬ (m.id < 0)) (h7 : ¬ (1048576 ≤ m.id)) (h8 : ¬ (1048576 < m.epoch)) (h9 : ¬ (1048576 < m.addr)) (h10 : ¬ (m.err < 0)) (h11 : ¬ (255 < m.err)) (kF : placeB m.fr m.fn = true) (kT : placeB m.tr m.tn = true) (kN : sameC m.cell cell0 = false) (kR : rightC m.cell = true) (kS : streamsB m.streams = false) (kL : noLayB m.lay = false) : ACalls Tryz.prog 57 [encM m] [] (.bool (right10 m)) [] := by
  have qF := place10_ac m.fr m.fn
  have qT := place10_ac m.tr m.tn
  have qN := noCell10B_ac m.cell
  rw [noCell10_eq] at qN
  have qR := rightR7 m.cell hm.cell.b
  have qS := streams10_ac m.streams hm.st
  have qB := backs10_ac m.backs hm.b
  rw [backs10_eq] at qB
  have qa := ballot10B_ac m.br m.bc
  rw [ballot10_eq] at qa
  have qb := ballot10B_ac m.pr m.pc
  rw [ballot10_eq] at qb
  have qL := noLay10B_ac m.lay
  rw [noLay10_eq] at qL
  have qZ := right9_ac m.lay hl hm.lay.n
  rw [kF] at qF
  rw [kT] at qT
  rw [kN] at qN
  rw [kR] at qR
  rw [kS] at qS
  rw [kL] at qL
  rw [show right10 m = false by unfold right10; rw [if_neg h1, if_neg h2, if_neg h3, if_neg h4, if_neg h5, if_neg h6, if_neg h7, if_neg h8, if_neg h9, if_neg h10, if_neg h11]; unfold tail10; simp [kF, kT, kN, kR, kS, kL]]
  refine acallsK mixed Tryz.func57 rfl [0, 1, 2, 3, 4, 5, 6, 7, 8, 9, 10, 67] 1000 ([.f, .f, .f, .f, .k, .k, .f, .f, .f, .f, .f, .f, .f, .call [] false true (.bool true) [], .call [] false true (.bool true) [], .call [] false true (.bool false) [], .call [] false true (.bool true) [], .call [] false true (.bool false) [], .call [] false true (.bool (backsB m.backs)) [], .call [] false true (.bool (ballotB m.br m.bc)) [], .call [] false true (.bool (ballotB m.pr m.pc)) [], .call [] false true (.bool false) [], .call [] false true (.bool (rightL m.lay)) []]) [] [] (ob := [decide (m.kind < (1 : Int)) = false,
 decide (m.kind > (14 : Int)) = false,
 decide (m.of_ < (0 : Int)) = false,
 decide (m.of_ > (13 : Int)) = false,
 (!(m.kind == (14 : Int)) == decide (m.of_ > (0 : Int))) = false,
 decide (m.id < (0 : Int)) = false,
 decide (m.id ≥ (1048576 : Int)) = false,
 decide (m.epoch > (1048576 : Int)) = false,
 decide (m.addr > (1048576 : Int)) = false,
 decide (m.err < (0 : Int)) = false,
 decide (m.err > (255 : Int)) = false,
 _,
 _,
 _,
 _,
 _,
 _,
 _,
 _,
 _,
 _]) (by kernel_rfl) ⟨rfl, rfl⟩ ⟨?z0, ?z1, ?z2, ?z3, ?z4, ?z5, ?z6, ?z7, ?z8, ?z9, ?z10, qF, qT, qN, qR, qS, qB, qa, qb, qL, qZ, trivial⟩
  case z0|z1|z2|z3|z4|z5|z6|z7|z8|z9|z10 => first | exact rfl | (simp [encM, celM, celC, celL, h1, h2, h3, h4, h5, h6, h7, h8, h9, h10, h11, kF, kT, kN, kR, kS, kL] <;> omega) | omega | (first | omega | exact xor_yes h5 | exact xor_no h5)
theorem right10_e15 (m : MsgD) (hm : m.ok) (hl : ∀ s ∈ m.lay.segs, s.chains.length ≤ 1000000000) (h1 : ¬ (m.kind < 1)) (h2 : ¬ (14 < m.kind)) (h3 : ¬ (m.of_ < 0)) (h4 : ¬ (13 < m.of_)) (h5 : ¬ (¬ (m.kind = 14 ↔ 0 < m.of_))) (h6 : ¬ (m.id < 0)) (h7 : ¬ (1048576 ≤ m.id)) (h8 : ¬ (1048576 < m.epoch)) (h9 : ¬ (1048576 < m.addr)) (h10 : ¬ (m.err < 0)) (h11 : ¬ (255 < m.err)) (kF : placeB m.fr m.fn = true) (kT : placeB m.tr m.tn = true) (kN : sameC m.cell cell0 = false) (kR : rightC m.cell = true) (kS : streamsB m.streams = true) (kB : backsB m.backs = false) (kL : noLayB m.lay = false) : ACalls Tryz.prog 57 [encM m] [] (.bool (right10 m)) [] := by
  have qF := place10_ac m.fr m.fn
  have qT := place10_ac m.tr m.tn
  have qN := noCell10B_ac m.cell
  rw [noCell10_eq] at qN
  have qR := rightR7 m.cell hm.cell.b
  have qS := streams10_ac m.streams hm.st
  have qB := backs10_ac m.backs hm.b
  rw [backs10_eq] at qB
  have qa := ballot10B_ac m.br m.bc
  rw [ballot10_eq] at qa
  have qb := ballot10B_ac m.pr m.pc
  rw [ballot10_eq] at qb
  have qL := noLay10B_ac m.lay
  rw [noLay10_eq] at qL
  have qZ := right9_ac m.lay hl hm.lay.n
  rw [kF] at qF
  rw [kT] at qT
  rw [kN] at qN
  rw [kR] at qR
  rw [kS] at qS
  rw [kB] at qB
  rw [kL] at qL
  rw [show right10 m = false by unfold right10; rw [if_neg h1, if_neg h2, if_neg h3, if_neg h4, if_neg h5, if_neg h6, if_neg h7, if_neg h8, if_neg h9, if_neg h10, if_neg h11]; unfold tail10; simp [kF, kT, kN, kR, kS, kB, kL]]
  refine acallsK mixed Tryz.func57 rfl [0, 1, 2, 3, 4, 5, 6, 7, 8, 9, 10, 67] 1000 ([.f, .f, .f, .f, .k, .k, .f, .f, .f, .f, .f, .f, .f, .call [] false true (.bool true) [], .call [] false true (.bool true) [], .call [] false true (.bool false) [], .call [] false true (.bool true) [], .call [] false true (.bool true) [], .call [] false true (.bool false) [], .call [] false true (.bool (ballotB m.br m.bc)) [], .call [] false true (.bool (ballotB m.pr m.pc)) [], .call [] false true (.bool false) [], .call [] false true (.bool (rightL m.lay)) []]) [] [] (ob := [decide (m.kind < (1 : Int)) = false,
 decide (m.kind > (14 : Int)) = false,
 decide (m.of_ < (0 : Int)) = false,
 decide (m.of_ > (13 : Int)) = false,
 (!(m.kind == (14 : Int)) == decide (m.of_ > (0 : Int))) = false,
 decide (m.id < (0 : Int)) = false,
 decide (m.id ≥ (1048576 : Int)) = false,
 decide (m.epoch > (1048576 : Int)) = false,
 decide (m.addr > (1048576 : Int)) = false,
 decide (m.err < (0 : Int)) = false,
 decide (m.err > (255 : Int)) = false,
 _,
 _,
 _,
 _,
 _,
 _,
 _,
 _,
 _,
 _]) (by kernel_rfl) ⟨rfl, rfl⟩ ⟨?z0, ?z1, ?z2, ?z3, ?z4, ?z5, ?z6, ?z7, ?z8, ?z9, ?z10, qF, qT, qN, qR, qS, qB, qa, qb, qL, qZ, trivial⟩
  case z0|z1|z2|z3|z4|z5|z6|z7|z8|z9|z10 => first | exact rfl | (simp [encM, celM, celC, celL, h1, h2, h3, h4, h5, h6, h7, h8, h9, h10, h11, kF, kT, kN, kR, kS, kB, kL] <;> omega) | omega | (first | omega | exact xor_yes h5 | exact xor_no h5)
theorem right10_e16 (m : MsgD) (hm : m.ok) (hl : ∀ s ∈ m.lay.segs, s.chains.length ≤ 1000000000) (h1 : ¬ (m.kind < 1)) (h2 : ¬ (14 < m.kind)) (h3 : ¬ (m.of_ < 0)) (h4 : ¬ (13 < m.of_)) (h5 : ¬ (¬ (m.kind = 14 ↔ 0 < m.of_))) (h6 : ¬ (m.id < 0)) (h7 : ¬ (1048576 ≤ m.id)) (h8 : ¬ (1048576 < m.epoch)) (h9 : ¬ (1048576 < m.addr)) (h10 : ¬ (m.err < 0)) (h11 : ¬ (255 < m.err)) (kF : placeB m.fr m.fn = true) (kT : placeB m.tr m.tn = true) (kN : sameC m.cell cell0 = false) (kR : rightC m.cell = true) (kS : streamsB m.streams = true) (kB : backsB m.backs = true) (ka : ballotB m.br m.bc = false) (kL : noLayB m.lay = false) : ACalls Tryz.prog 57 [encM m] [] (.bool (right10 m)) [] := by
  have qF := place10_ac m.fr m.fn
  have qT := place10_ac m.tr m.tn
  have qN := noCell10B_ac m.cell
  rw [noCell10_eq] at qN
  have qR := rightR7 m.cell hm.cell.b
  have qS := streams10_ac m.streams hm.st
  have qB := backs10_ac m.backs hm.b
  rw [backs10_eq] at qB
  have qa := ballot10B_ac m.br m.bc
  rw [ballot10_eq] at qa
  have qb := ballot10B_ac m.pr m.pc
  rw [ballot10_eq] at qb
  have qL := noLay10B_ac m.lay
  rw [noLay10_eq] at qL
  have qZ := right9_ac m.lay hl hm.lay.n
  rw [kF] at qF
  rw [kT] at qT
  rw [kN] at qN
  rw [kR] at qR
  rw [kS] at qS
  rw [kB] at qB
  rw [ka] at qa
  rw [kL] at qL
  rw [show right10 m = false by unfold right10; rw [if_neg h1, if_neg h2, if_neg h3, if_neg h4, if_neg h5, if_neg h6, if_neg h7, if_neg h8, if_neg h9, if_neg h10, if_neg h11]; unfold tail10; simp [kF, kT, kN, kR, kS, kB, ka, kL]]
  refine acallsK mixed Tryz.func57 rfl [0, 1, 2, 3, 4, 5, 6, 7, 8, 9, 10, 67] 1000 ([.f, .f, .f, .f, .k, .k, .f, .f, .f, .f, .f, .f, .f, .call [] false true (.bool true) [], .call [] false true (.bool true) [], .call [] false true (.bool false) [], .call [] false true (.bool true) [], .call [] false true (.bool true) [], .call [] false true (.bool true) [], .call [] false true (.bool false) [], .call [] false true (.bool (ballotB m.pr m.pc)) [], .call [] false true (.bool false) [], .call [] false true (.bool (rightL m.lay)) []]) [] [] (ob := [decide (m.kind < (1 : Int)) = false,
 decide (m.kind > (14 : Int)) = false,
 decide (m.of_ < (0 : Int)) = false,
 decide (m.of_ > (13 : Int)) = false,
 (!(m.kind == (14 : Int)) == decide (m.of_ > (0 : Int))) = false,
 decide (m.id < (0 : Int)) = false,
 decide (m.id ≥ (1048576 : Int)) = false,
 decide (m.epoch > (1048576 : Int)) = false,
 decide (m.addr > (1048576 : Int)) = false,
 decide (m.err < (0 : Int)) = false,
 decide (m.err > (255 : Int)) = false,
 _,
 _,
 _,
 _,
 _,
 _,
 _,
 _,
 _,
 _]) (by kernel_rfl) ⟨rfl, rfl⟩ ⟨?z0, ?z1, ?z2, ?z3, ?z4, ?z5, ?z6, ?z7, ?z8, ?z9, ?z10, qF, qT, qN, qR, qS, qB, qa, qb, qL, qZ, trivial⟩
  case z0|z1|z2|z3|z4|z5|z6|z7|z8|z9|z10 => first | exact rfl | (simp [encM, celM, celC, celL, h1, h2, h3, h4, h5, h6, h7, h8, h9, h10, h11, kF, kT, kN, kR, kS, kB, ka, kL] <;> omega) | omega | (first | omega | exact xor_yes h5 | exact xor_no h5)
theorem right10_e17 (m : MsgD) (hm : m.ok) (hl : ∀ s ∈ m.lay.segs, s.chains.length ≤ 1000000000) (h1 : ¬ (m.kind < 1)) (h2 : ¬ (14 < m.kind)) (h3 : ¬ (m.of_ < 0)) (h4 : ¬ (13 < m.of_)) (h5 : ¬ (¬ (m.kind = 14 ↔ 0 < m.of_))) (h6 : ¬ (m.id < 0)) (h7 : ¬ (1048576 ≤ m.id)) (h8 : ¬ (1048576 < m.epoch)) (h9 : ¬ (1048576 < m.addr)) (h10 : ¬ (m.err < 0)) (h11 : ¬ (255 < m.err)) (kF : placeB m.fr m.fn = true) (kT : placeB m.tr m.tn = true) (kN : sameC m.cell cell0 = false) (kR : rightC m.cell = true) (kS : streamsB m.streams = true) (kB : backsB m.backs = true) (ka : ballotB m.br m.bc = true) (kb : ballotB m.pr m.pc = false) (kL : noLayB m.lay = false) : ACalls Tryz.prog 57 [encM m] [] (.bool (right10 m)) [] := by
  have qF := place10_ac m.fr m.fn
  have qT := place10_ac m.tr m.tn
  have qN := noCell10B_ac m.cell
  rw [noCell10_eq] at qN
  have qR := rightR7 m.cell hm.cell.b
  have qS := streams10_ac m.streams hm.st
  have qB := backs10_ac m.backs hm.b
  rw [backs10_eq] at qB
  have qa := ballot10B_ac m.br m.bc
  rw [ballot10_eq] at qa
  have qb := ballot10B_ac m.pr m.pc
  rw [ballot10_eq] at qb
  have qL := noLay10B_ac m.lay
  rw [noLay10_eq] at qL
  have qZ := right9_ac m.lay hl hm.lay.n
  rw [kF] at qF
  rw [kT] at qT
  rw [kN] at qN
  rw [kR] at qR
  rw [kS] at qS
  rw [kB] at qB
  rw [ka] at qa
  rw [kb] at qb
  rw [kL] at qL
  rw [show right10 m = false by unfold right10; rw [if_neg h1, if_neg h2, if_neg h3, if_neg h4, if_neg h5, if_neg h6, if_neg h7, if_neg h8, if_neg h9, if_neg h10, if_neg h11]; unfold tail10; simp [kF, kT, kN, kR, kS, kB, ka, kb, kL]]
  refine acallsK mixed Tryz.func57 rfl [0, 1, 2, 3, 4, 5, 6, 7, 8, 9, 10, 67] 1000 ([.f, .f, .f, .f, .k, .k, .f, .f, .f, .f, .f, .f, .f, .call [] false true (.bool true) [], .call [] false true (.bool true) [], .call [] false true (.bool false) [], .call [] false true (.bool true) [], .call [] false true (.bool true) [], .call [] false true (.bool true) [], .call [] false true (.bool true) [], .call [] false true (.bool false) [], .call [] false true (.bool false) [], .call [] false true (.bool (rightL m.lay)) []]) [] [] (ob := [decide (m.kind < (1 : Int)) = false,
 decide (m.kind > (14 : Int)) = false,
 decide (m.of_ < (0 : Int)) = false,
 decide (m.of_ > (13 : Int)) = false,
 (!(m.kind == (14 : Int)) == decide (m.of_ > (0 : Int))) = false,
 decide (m.id < (0 : Int)) = false,
 decide (m.id ≥ (1048576 : Int)) = false,
 decide (m.epoch > (1048576 : Int)) = false,
 decide (m.addr > (1048576 : Int)) = false,
 decide (m.err < (0 : Int)) = false,
 decide (m.err > (255 : Int)) = false,
 _,
 _,
 _,
 _,
 _,
 _,
 _,
 _,
 _,
 _]) (by kernel_rfl) ⟨rfl, rfl⟩ ⟨?z0, ?z1, ?z2, ?z3, ?z4, ?z5, ?z6, ?z7, ?z8, ?z9, ?z10, qF, qT, qN, qR, qS, qB, qa, qb, qL, qZ, trivial⟩
  case z0|z1|z2|z3|z4|z5|z6|z7|z8|z9|z10 => first | exact rfl | (simp [encM, celM, celC, celL, h1, h2, h3, h4, h5, h6, h7, h8, h9, h10, h11, kF, kT, kN, kR, kS, kB, ka, kb, kL] <;> omega) | omega | (first | omega | exact xor_yes h5 | exact xor_no h5)
theorem right10_e18 (m : MsgD) (hm : m.ok) (hl : ∀ s ∈ m.lay.segs, s.chains.length ≤ 1000000000) (h1 : ¬ (m.kind < 1)) (h2 : ¬ (14 < m.kind)) (h3 : ¬ (m.of_ < 0)) (h4 : ¬ (13 < m.of_)) (h5 : ¬ (¬ (m.kind = 14 ↔ 0 < m.of_))) (h6 : ¬ (m.id < 0)) (h7 : ¬ (1048576 ≤ m.id)) (h8 : ¬ (1048576 < m.epoch)) (h9 : ¬ (1048576 < m.addr)) (h10 : ¬ (m.err < 0)) (h11 : ¬ (255 < m.err)) (kF : placeB m.fr m.fn = true) (kT : placeB m.tr m.tn = true) (kN : sameC m.cell cell0 = false) (kR : rightC m.cell = true) (kS : streamsB m.streams = true) (kB : backsB m.backs = true) (ka : ballotB m.br m.bc = true) (kb : ballotB m.pr m.pc = true) (kL : noLayB m.lay = false) : ACalls Tryz.prog 57 [encM m] [] (.bool (right10 m)) [] := by
  have qF := place10_ac m.fr m.fn
  have qT := place10_ac m.tr m.tn
  have qN := noCell10B_ac m.cell
  rw [noCell10_eq] at qN
  have qR := rightR7 m.cell hm.cell.b
  have qS := streams10_ac m.streams hm.st
  have qB := backs10_ac m.backs hm.b
  rw [backs10_eq] at qB
  have qa := ballot10B_ac m.br m.bc
  rw [ballot10_eq] at qa
  have qb := ballot10B_ac m.pr m.pc
  rw [ballot10_eq] at qb
  have qL := noLay10B_ac m.lay
  rw [noLay10_eq] at qL
  have qZ := right9_ac m.lay hl hm.lay.n
  rw [kF] at qF
  rw [kT] at qT
  rw [kN] at qN
  rw [kR] at qR
  rw [kS] at qS
  rw [kB] at qB
  rw [ka] at qa
  rw [kb] at qb
  rw [kL] at qL
  rw [show right10 m = rightL m.lay by unfold right10; rw [if_neg h1, if_neg h2, if_neg h3, if_neg h4, if_neg h5, if_neg h6, if_neg h7, if_neg h8, if_neg h9, if_neg h10, if_neg h11]; unfold tail10; simp [kF, kT, kN, kR, kS, kB, ka, kb, kL]]
  refine acallsK mixed Tryz.func57 rfl [0, 1, 2, 3, 4, 5, 6, 7, 8, 9, 10, 67] 1000 ([.f, .f, .f, .f, .k, .k, .f, .f, .f, .f, .f, .f, .f, .call [] false true (.bool true) [], .call [] false true (.bool true) [], .call [] false true (.bool false) [], .call [] false true (.bool true) [], .call [] false true (.bool true) [], .call [] false true (.bool true) [], .call [] false true (.bool true) [], .call [] false true (.bool true) [], .call [] false true (.bool false) [], .call [] false true (.bool (rightL m.lay)) []]) [] [] (ob := [decide (m.kind < (1 : Int)) = false,
 decide (m.kind > (14 : Int)) = false,
 decide (m.of_ < (0 : Int)) = false,
 decide (m.of_ > (13 : Int)) = false,
 (!(m.kind == (14 : Int)) == decide (m.of_ > (0 : Int))) = false,
 decide (m.id < (0 : Int)) = false,
 decide (m.id ≥ (1048576 : Int)) = false,
 decide (m.epoch > (1048576 : Int)) = false,
 decide (m.addr > (1048576 : Int)) = false,
 decide (m.err < (0 : Int)) = false,
 decide (m.err > (255 : Int)) = false,
 _,
 _,
 _,
 _,
 _,
 _,
 _,
 _,
 _,
 _]) (by kernel_rfl) ⟨rfl, rfl⟩ ⟨?z0, ?z1, ?z2, ?z3, ?z4, ?z5, ?z6, ?z7, ?z8, ?z9, ?z10, qF, qT, qN, qR, qS, qB, qa, qb, qL, qZ, trivial⟩
  case z0|z1|z2|z3|z4|z5|z6|z7|z8|z9|z10 => first | exact rfl | (simp [encM, celM, celC, celL, h1, h2, h3, h4, h5, h6, h7, h8, h9, h10, h11, kF, kT, kN, kR, kS, kB, ka, kb, kL] <;> omega) | omega | (first | omega | exact xor_yes h5 | exact xor_no h5)
theorem right10_e19 (m : MsgD) (hm : m.ok) (hl : ∀ s ∈ m.lay.segs, s.chains.length ≤ 1000000000) (h1 : ¬ (m.kind < 1)) (h2 : ¬ (14 < m.kind)) (h3 : ¬ (m.of_ < 0)) (h4 : ¬ (13 < m.of_)) (h5 : ¬ (¬ (m.kind = 14 ↔ 0 < m.of_))) (h6 : ¬ (m.id < 0)) (h7 : ¬ (1048576 ≤ m.id)) (h8 : ¬ (1048576 < m.epoch)) (h9 : ¬ (1048576 < m.addr)) (h10 : ¬ (m.err < 0)) (h11 : ¬ (255 < m.err)) (kF : placeB m.fr m.fn = false) (kN : sameC m.cell cell0 = false) (kL : noLayB m.lay = true) : ACalls Tryz.prog 57 [encM m] [] (.bool (right10 m)) [] := by
  have qF := place10_ac m.fr m.fn
  have qT := place10_ac m.tr m.tn
  have qN := noCell10B_ac m.cell
  rw [noCell10_eq] at qN
  have qR := rightR7 m.cell hm.cell.b
  have qS := streams10_ac m.streams hm.st
  have qB := backs10_ac m.backs hm.b
  rw [backs10_eq] at qB
  have qa := ballot10B_ac m.br m.bc
  rw [ballot10_eq] at qa
  have qb := ballot10B_ac m.pr m.pc
  rw [ballot10_eq] at qb
  have qL := noLay10B_ac m.lay
  rw [noLay10_eq] at qL
  rw [kF] at qF
  rw [kN] at qN
  rw [kL] at qL
  rw [show right10 m = false by unfold right10; rw [if_neg h1, if_neg h2, if_neg h3, if_neg h4, if_neg h5, if_neg h6, if_neg h7, if_neg h8, if_neg h9, if_neg h10, if_neg h11]; unfold tail10; simp [kF, kN, kL]]
  refine acallsK mixed Tryz.func57 rfl [0, 1, 2, 3, 4, 5, 6, 7, 8, 9, 10, 67] 1000 ([.f, .f, .f, .f, .k, .k, .f, .f, .f, .f, .f, .f, .f, .call [] false true (.bool false) [], .call [] false true (.bool (placeB m.tr m.tn)) [], .call [] false true (.bool false) [], .call [] false true (.bool (rightC m.cell)) [], .call [] false true (.bool (streamsB m.streams)) [], .call [] false true (.bool (backsB m.backs)) [], .call [] false true (.bool (ballotB m.br m.bc)) [], .call [] false true (.bool (ballotB m.pr m.pc)) [], .call [] false true (.bool true) []]) [] [] (ob := [decide (m.kind < (1 : Int)) = false,
 decide (m.kind > (14 : Int)) = false,
 decide (m.of_ < (0 : Int)) = false,
 decide (m.of_ > (13 : Int)) = false,
 (!(m.kind == (14 : Int)) == decide (m.of_ > (0 : Int))) = false,
 decide (m.id < (0 : Int)) = false,
 decide (m.id ≥ (1048576 : Int)) = false,
 decide (m.epoch > (1048576 : Int)) = false,
 decide (m.addr > (1048576 : Int)) = false,
 decide (m.err < (0 : Int)) = false,
 decide (m.err > (255 : Int)) = false,
 _,
 _,
 _,
 _,
 _,
 _,
 _,
 _,
 _]) (by kernel_rfl) ⟨rfl, rfl⟩ ⟨?z0, ?z1, ?z2, ?z3, ?z4, ?z5, ?z6, ?z7, ?z8, ?z9, ?z10, qF, qT, qN, qR, qS, qB, qa, qb, qL, trivial⟩
  case z0|z1|z2|z3|z4|z5|z6|z7|z8|z9|z10 => first | exact rfl | (simp [encM, celM, celC, celL, h1, h2, h3, h4, h5, h6, h7, h8, h9, h10, h11, kF, kN, kL] <;> omega) | omega | (first | omega | exact xor_yes h5 | exact xor_no h5)
theorem right10_e20 (m : MsgD) (hm : m.ok) (hl : ∀ s ∈ m.lay.segs, s.chains.length ≤ 1000000000) (h1 : ¬ (m.kind < 1)) (h2 : ¬ (14 < m.kind)) (h3 : ¬ (m.of_ < 0)) (h4 : ¬ (13 < m.of_)) (h5 : ¬ (¬ (m.kind = 14 ↔ 0 < m.of_))) (h6 : ¬ (m.id < 0)) (h7 : ¬ (1048576 ≤ m.id)) (h8 : ¬ (1048576 < m.epoch)) (h9 : ¬ (1048576 < m.addr)) (h10 : ¬ (m.err < 0)) (h11 : ¬ (255 < m.err)) (kF : placeB m.fr m.fn = true) (kT : placeB m.tr m.tn = false) (kN : sameC m.cell cell0 = false) (kL : noLayB m.lay = true) : ACalls Tryz.prog 57 [encM m] [] (.bool (right10 m)) [] := by
  have qF := place10_ac m.fr m.fn
  have qT := place10_ac m.tr m.tn
  have qN := noCell10B_ac m.cell
  rw [noCell10_eq] at qN
  have qR := rightR7 m.cell hm.cell.b
  have qS := streams10_ac m.streams hm.st
  have qB := backs10_ac m.backs hm.b
  rw [backs10_eq] at qB
  have qa := ballot10B_ac m.br m.bc
  rw [ballot10_eq] at qa
  have qb := ballot10B_ac m.pr m.pc
  rw [ballot10_eq] at qb
  have qL := noLay10B_ac m.lay
  rw [noLay10_eq] at qL
  rw [kF] at qF
  rw [kT] at qT
  rw [kN] at qN
  rw [kL] at qL
  rw [show right10 m = false by unfold right10; rw [if_neg h1, if_neg h2, if_neg h3, if_neg h4, if_neg h5, if_neg h6, if_neg h7, if_neg h8, if_neg h9, if_neg h10, if_neg h11]; unfold tail10; simp [kF, kT, kN, kL]]
  refine acallsK mixed Tryz.func57 rfl [0, 1, 2, 3, 4, 5, 6, 7, 8, 9, 10, 67] 1000 ([.f, .f, .f, .f, .k, .k, .f, .f, .f, .f, .f, .f, .f, .call [] false true (.bool true) [], .call [] false true (.bool false) [], .call [] false true (.bool false) [], .call [] false true (.bool (rightC m.cell)) [], .call [] false true (.bool (streamsB m.streams)) [], .call [] false true (.bool (backsB m.backs)) [], .call [] false true (.bool (ballotB m.br m.bc)) [], .call [] false true (.bool (ballotB m.pr m.pc)) [], .call [] false true (.bool true) []]) [] [] (ob := [decide (m.kind < (1 : Int)) = false,
 decide (m.kind > (14 : Int)) = false,
 decide (m.of_ < (0 : Int)) = false,
 decide (m.of_ > (13 : Int)) = false,
 (!(m.kind == (14 : Int)) == decide (m.of_ > (0 : Int))) = false,
 decide (m.id < (0 : Int)) = false,
 decide (m.id ≥ (1048576 : Int)) = false,
 decide (m.epoch > (1048576 : Int)) = false,
 decide (m.addr > (1048576 : Int)) = false,
 decide (m.err < (0 : Int)) = false,
 decide (m.err > (255 : Int)) = false,
 _,
 _,
 _,
 _,
 _,
 _,
 _,
 _,
 _]) (by kernel_rfl) ⟨rfl, rfl⟩ ⟨?z0, ?z1, ?z2, ?z3, ?z4, ?z5, ?z6, ?z7, ?z8, ?z9, ?z10, qF, qT, qN, qR, qS, qB, qa, qb, qL, trivial⟩
  case z0|z1|z2|z3|z4|z5|z6|z7|z8|z9|z10 => first | exact rfl | (simp [encM, celM, celC, celL, h1, h2, h3, h4, h5, h6, h7, h8, h9, h10, h11, kF, kT, kN, kL] <;> omega) | omega | (first | omega | exact xor_yes h5 | exact xor_no h5)
theorem right10_e21 (m : MsgD) (hm : m.ok) (hl : ∀ s ∈ m.lay.segs, s.chains.length ≤ 1000000000) (h1 : ¬ (m.kind < 1)) (h2 : ¬ (14 < m.kind)) (h3 : ¬ (m.of_ < 0)) (h4 : ¬ (13 < m.of_)) (h5 : ¬ (¬ (m.kind = 14 ↔ 0 < m.of_))) (h6 : ¬ (m.id < 0)) (h7 : ¬ (1048576 ≤ m.id)) (h8 : ¬ (1048576 < m.epoch)) (h9 : ¬ (1048576 < m.addr)) (h10 : ¬ (m.err < 0)) (h11 : ¬ (255 < m.err)) (kF : placeB m.fr m.fn = true) (kT : placeB m.tr m.tn = true) (kN : sameC m.cell cell0 = false) (kR : rightC m.cell = false) (kL : noLayB m.lay = true) : ACalls Tryz.prog 57 [encM m] [] (.bool (right10 m)) [] := by
  have qF := place10_ac m.fr m.fn
  have qT := place10_ac m.tr m.tn
  have qN := noCell10B_ac m.cell
  rw [noCell10_eq] at qN
  have qR := rightR7 m.cell hm.cell.b
  have qS := streams10_ac m.streams hm.st
  have qB := backs10_ac m.backs hm.b
  rw [backs10_eq] at qB
  have qa := ballot10B_ac m.br m.bc
  rw [ballot10_eq] at qa
  have qb := ballot10B_ac m.pr m.pc
  rw [ballot10_eq] at qb
  have qL := noLay10B_ac m.lay
  rw [noLay10_eq] at qL
  rw [kF] at qF
  rw [kT] at qT
  rw [kN] at qN
  rw [kR] at qR
  rw [kL] at qL
  rw [show right10 m = false by unfold right10; rw [if_neg h1, if_neg h2, if_neg h3, if_neg h4, if_neg h5, if_neg h6, if_neg h7, if_neg h8, if_neg h9, if_neg h10, if_neg h11]; unfold tail10; simp [kF, kT, kN, kR, kL]]
  refine acallsK mixed Tryz.func57 rfl [0, 1, 2, 3, 4, 5, 6, 7, 8, 9, 10, 67] 1000 ([.f, .f, .f, .f, .k, .k, .f, .f, .f, .f, .f, .f, .f, .call [] false true (.bool true) [], .call [] false true (.bool true) [], .call [] false true (.bool false) [], .call [] false true (.bool false) [], .call [] false true (.bool (streamsB m.streams)) [], .call [] false true (.bool (backsB m.backs)) [], .call [] false true (.bool (ballotB m.br m.bc)) [], .call [] false true (.bool (ballotB m.pr m.pc)) [], .call [] false true (.bool true) []]) [] [] (ob := [decide (m.kind < (1 : Int)) = false,
 decide (m.kind > (14 : Int)) = false,
 decide (m.of_ < (0 : Int)) = false,
 decide (m.of_ > (13 : Int)) = false,
 (!(m.kind == (14 : Int)) == decide (m.of_ > (0 : Int))) = false,
 decide (m.id < (0 : Int)) = false,
 decide (m.id ≥ (1048576 : Int)) = false,
 decide (m.epoch > (1048576 : Int)) = false,
 decide (m.addr > (1048576 : Int)) = false,
 decide (m.err < (0 : Int)) = false,
 decide (m.err > (255 : Int)) = false,
 _,
 _,
 _,
 _,
 _,
 _,
 _,
 _,
 _]) (by kernel_rfl) ⟨rfl, rfl⟩ ⟨?z0, ?z1, ?z2, ?z3, ?z4, ?z5, ?z6, ?z7, ?z8, ?z9, ?z10, qF, qT, qN, qR, qS, qB, qa, qb, qL, trivial⟩
  case z0|z1|z2|z3|z4|z5|z6|z7|z8|z9|z10 => first | exact rfl | (simp [encM, celM, celC, celL, h1, h2, h3, h4, h5, h6, h7, h8, h9, h10, h11, kF, kT, kN, kR, kL] <;> omega) | omega | (first | omega | exact xor_yes h5 | exact xor_no h5)
theorem right10_e22 (m : MsgD) (hm : m.ok) (hl : ∀ s ∈ m.lay.segs, s.chains.length ≤ 1000000000) (h1 : ¬ (m.kind < 1)) (h2 : ¬ (14 < m.kind)) (h3 : ¬ (m.of_ < 0)) (h4 : ¬ (13 < m.of_)) (h5 : ¬ (¬ (m.kind = 14 ↔ 0 < m.of_))) (h6 : ¬ (m.id < 0)) (h7 : ¬ (1048576 ≤ m.id)) (h8 : ¬ (1048576 < m.epoch)) (h9 : ¬ (1048576 < m.addr)) (h10 : ¬ (m.err < 0)) (h11 : ¬ (255 < m.err)) (kF : placeB m.fr m.fn = true) (kT : placeB m.tr m.tn = true) (kN : sameC m.cell cell0 = false) (kR : rightC m.cell = true) (kS : streamsB m.streams = false) (kL : noLayB m.lay = true) : ACalls Tryz.prog 57 [encM m] [] (.bool (right10 m)) [] := by
  have qF := place10_ac m.fr m.fn
  have qT := place10_ac m.tr m.tn
  have qN := noCell10B_ac m.cell
  rw [noCell10_eq] at qN
  have qR := rightR7 m.cell hm.cell.b
  have qS := streams10_ac m.streams hm.st
  have qB := backs10_ac m.backs hm.b
  rw [backs10_eq] at qB
  have qa := ballot10B_ac m.br m.bc
  rw [ballot10_eq] at qa
  have qb := ballot10B_ac m.pr m.pc
  rw [ballot10_eq] at qb
  have qL := noLay10B_ac m.lay
  rw [noLay10_eq] at qL
  rw [kF] at qF
  rw [kT] at qT
  rw [kN] at qN
  rw [kR] at qR
  rw [kS] at qS
  rw [kL] at qL
  rw [show right10 m = false by unfold right10; rw [if_neg h1, if_neg h2, if_neg h3, if_neg h4, if_neg h5, if_neg h6, if_neg h7, if_neg h8, if_neg h9, if_neg h10, if_neg h11]; unfold tail10; simp [kF, kT, kN, kR, kS, kL]]
  refine acallsK mixed Tryz.func57 rfl [0, 1, 2, 3, 4, 5, 6, 7, 8, 9, 10, 67] 1000 ([.f, .f, .f, .f, .k, .k, .f, .f, .f, .f, .f, .f, .f, .call [] false true (.bool true) [], .call [] false true (.bool true) [], .call [] false true (.bool false) [], .call [] false true (.bool true) [], .call [] false true (.bool false) [], .call [] false true (.bool (backsB m.backs)) [], .call [] false true (.bool (ballotB m.br m.bc)) [], .call [] false true (.bool (ballotB m.pr m.pc)) [], .call [] false true (.bool true) []]) [] [] (ob := [decide (m.kind < (1 : Int)) = false,
 decide (m.kind > (14 : Int)) = false,
 decide (m.of_ < (0 : Int)) = false,
 decide (m.of_ > (13 : Int)) = false,
 (!(m.kind == (14 : Int)) == decide (m.of_ > (0 : Int))) = false,
 decide (m.id < (0 : Int)) = false,
 decide (m.id ≥ (1048576 : Int)) = false,
 decide (m.epoch > (1048576 : Int)) = false,
 decide (m.addr > (1048576 : Int)) = false,
 decide (m.err < (0 : Int)) = false,
 decide (m.err > (255 : Int)) = false,
 _,
 _,
 _,
 _,
 _,
 _,
 _,
 _,
 _]) (by kernel_rfl) ⟨rfl, rfl⟩ ⟨?z0, ?z1, ?z2, ?z3, ?z4, ?z5, ?z6, ?z7, ?z8, ?z9, ?z10, qF, qT, qN, qR, qS, qB, qa, qb, qL, trivial⟩
  case z0|z1|z2|z3|z4|z5|z6|z7|z8|z9|z10 => first | exact rfl | (simp [encM, celM, celC, celL, h1, h2, h3, h4, h5, h6, h7, h8, h9, h10, h11, kF, kT, kN, kR, kS, kL] <;> omega) | omega | (first | omega | exact xor_yes h5 | exact xor_no h5)
theorem right10_e23 (m : MsgD) (hm : m.ok) (hl : ∀ s ∈ m.lay.segs, s.chains.length ≤ 1000000000) (h1 : ¬ (m.kind < 1)) (h2 : ¬ (14 < m.kind)) (h3 : ¬ (m.of_ < 0)) (h4 : ¬ (13 < m.of_)) (h5 : ¬ (¬ (m.kind = 14 ↔ 0 < m.of_))) (h6 : ¬ (m.id < 0)) (h7 : ¬ (1048576 ≤ m.id)) (h8 : ¬ (1048576 < m.epoch)) (h9 : ¬ (1048576 < m.addr)) (h10 : ¬ (m.err < 0)) (h11 : ¬ (255 < m.err)) (kF : placeB m.fr m.fn = true) (kT : placeB m.tr m.tn = true) (kN : sameC m.cell cell0 = false) (kR : rightC m.cell = true) (kS : streamsB m.streams = true) (kB : backsB m.backs = false) (kL : noLayB m.lay = true) : ACalls Tryz.prog 57 [encM m] [] (.bool (right10 m)) [] := by
  have qF := place10_ac m.fr m.fn
  have qT := place10_ac m.tr m.tn
  have qN := noCell10B_ac m.cell
  rw [noCell10_eq] at qN
  have qR := rightR7 m.cell hm.cell.b
  have qS := streams10_ac m.streams hm.st
  have qB := backs10_ac m.backs hm.b
  rw [backs10_eq] at qB
  have qa := ballot10B_ac m.br m.bc
  rw [ballot10_eq] at qa
  have qb := ballot10B_ac m.pr m.pc
  rw [ballot10_eq] at qb
  have qL := noLay10B_ac m.lay
  rw [noLay10_eq] at qL
  rw [kF] at qF
  rw [kT] at qT
  rw [kN] at qN
  rw [kR] at qR
  rw [kS] at qS
  rw [kB] at qB
  rw [kL] at qL
  rw [show right10 m = false by unfold right10; rw [if_neg h1, if_neg h2, if_neg h3, if_neg h4, if_neg h5, if_neg h6, if_neg h7, if_neg h8, if_neg h9, if_neg h10, if_neg h11]; unfold tail10; simp [kF, kT, kN, kR, kS, kB, kL]]
  refine acallsK mixed Tryz.func57 rfl [0, 1, 2, 3, 4, 5, 6, 7, 8, 9, 10, 67] 1000 ([.f, .f, .f, .f, .k, .k, .f, .f, .f, .f, .f, .f, .f, .call [] false true (.bool true) [], .call [] false true (.bool true) [], .call [] false true (.bool false) [], .call [] false true (.bool true) [], .call [] false true (.bool true) [], .call [] false true (.bool false) [], .call [] false true (.bool (ballotB m.br m.bc)) [], .call [] false true (.bool (ballotB m.pr m.pc)) [], .call [] false true (.bool true) []]) [] [] (ob := [decide (m.kind < (1 : Int)) = false,
 decide (m.kind > (14 : Int)) = false,
 decide (m.of_ < (0 : Int)) = false,
 decide (m.of_ > (13 : Int)) = false,
 (!(m.kind == (14 : Int)) == decide (m.of_ > (0 : Int))) = false,
 decide (m.id < (0 : Int)) = false,
 decide (m.id ≥ (1048576 : Int)) = false,
 decide (m.epoch > (1048576 : Int)) = false,
 decide (m.addr > (1048576 : Int)) = false,
 decide (m.err < (0 : Int)) = false,
 decide (m.err > (255 : Int)) = false,
 _,
 _,
 _,
 _,
 _,
 _,
 _,
 _,
 _]) (by kernel_rfl) ⟨rfl, rfl⟩ ⟨?z0, ?z1, ?z2, ?z3, ?z4, ?z5, ?z6, ?z7, ?z8, ?z9, ?z10, qF, qT, qN, qR, qS, qB, qa, qb, qL, trivial⟩
  case z0|z1|z2|z3|z4|z5|z6|z7|z8|z9|z10 => first | exact rfl | (simp [encM, celM, celC, celL, h1, h2, h3, h4, h5, h6, h7, h8, h9, h10, h11, kF, kT, kN, kR, kS, kB, kL] <;> omega) | omega | (first | omega | exact xor_yes h5 | exact xor_no h5)
theorem right10_e24 (m : MsgD) (hm : m.ok) (hl : ∀ s ∈ m.lay.segs, s.chains.length ≤ 1000000000) (h1 : ¬ (m.kind < 1)) (h2 : ¬ (14 < m.kind)) (h3 : ¬ (m.of_ < 0)) (h4 : ¬ (13 < m.of_)) (h5 : ¬ (¬ (m.kind = 14 ↔ 0 < m.of_))) (h6 : ¬ (m.id < 0)) (h7 : ¬ (1048576 ≤ m.id)) (h8 : ¬ (1048576 < m.epoch)) (h9 : ¬ (1048576 < m.addr)) (h10 : ¬ (m.err < 0)) (h11 : ¬ (255 < m.err)) (kF : placeB m.fr m.fn = true) (kT : placeB m.tr m.tn = true) (kN : sameC m.cell cell0 = false) (kR : rightC m.cell = true) (kS : streamsB m.streams = true) (kB : backsB m.backs = true) (ka : ballotB m.br m.bc = false) (kL : noLayB m.lay = true) : ACalls Tryz.prog 57 [encM m] [] (.bool (right10 m)) [] := by
  have qF := place10_ac m.fr m.fn
  have qT := place10_ac m.tr m.tn
  have qN := noCell10B_ac m.cell
  rw [noCell10_eq] at qN
  have qR := rightR7 m.cell hm.cell.b
  have qS := streams10_ac m.streams hm.st
  have qB := backs10_ac m.backs hm.b
  rw [backs10_eq] at qB
  have qa := ballot10B_ac m.br m.bc
  rw [ballot10_eq] at qa
  have qb := ballot10B_ac m.pr m.pc
  rw [ballot10_eq] at qb
  have qL := noLay10B_ac m.lay
  rw [noLay10_eq] at qL
  rw [kF] at qF
  rw [kT] at qT
  rw [kN] at qN
  rw [kR] at qR
  rw [kS] at qS
  rw [kB] at qB
  rw [ka] at qa
  rw [kL] at qL
  rw [show right10 m = false by unfold right10; rw [if_neg h1, if_neg h2, if_neg h3, if_neg h4, if_neg h5, if_neg h6, if_neg h7, if_neg h8, if_neg h9, if_neg h10, if_neg h11]; unfold tail10; simp [kF, kT, kN, kR, kS, kB, ka, kL]]
  refine acallsK mixed Tryz.func57 rfl [0, 1, 2, 3, 4, 5, 6, 7, 8, 9, 10, 67] 1000 ([.f, .f, .f, .f, .k, .k, .f, .f, .f, .f, .f, .f, .f, .call [] false true (.bool true) [], .call [] false true (.bool true) [], .call [] false true (.bool false) [], .call [] false true (.bool true) [], .call [] false true (.bool true) [], .call [] false true (.bool true) [], .call [] false true (.bool false) [], .call [] false true (.bool (ballotB m.pr m.pc)) [], .call [] false true (.bool true) []]) [] [] (ob := [decide (m.kind < (1 : Int)) = false,
 decide (m.kind > (14 : Int)) = false,
 decide (m.of_ < (0 : Int)) = false,
 decide (m.of_ > (13 : Int)) = false,
 (!(m.kind == (14 : Int)) == decide (m.of_ > (0 : Int))) = false,
 decide (m.id < (0 : Int)) = false,
 decide (m.id ≥ (1048576 : Int)) = false,
 decide (m.epoch > (1048576 : Int)) = false,
 decide (m.addr > (1048576 : Int)) = false,
 decide (m.err < (0 : Int)) = false,
 decide (m.err > (255 : Int)) = false,
 _,
 _,
 _,
 _,
 _,
 _,
 _,
 _,
 _]) (by kernel_rfl) ⟨rfl, rfl⟩ ⟨?z0, ?z1, ?z2, ?z3, ?z4, ?z5, ?z6, ?z7, ?z8, ?z9, ?z10, qF, qT, qN, qR, qS, qB, qa, qb, qL, trivial⟩
  case z0|z1|z2|z3|z4|z5|z6|z7|z8|z9|z10 => first | exact rfl | (simp [encM, celM, celC, celL, h1, h2, h3, h4, h5, h6, h7, h8, h9, h10, h11, kF, kT, kN, kR, kS, kB, ka, kL] <;> omega) | omega | (first | omega | exact xor_yes h5 | exact xor_no h5)
theorem right10_e25 (m : MsgD) (hm : m.ok) (hl : ∀ s ∈ m.lay.segs, s.chains.length ≤ 1000000000) (h1 : ¬ (m.kind < 1)) (h2 : ¬ (14 < m.kind)) (h3 : ¬ (m.of_ < 0)) (h4 : ¬ (13 < m.of_)) (h5 : ¬ (¬ (m.kind = 14 ↔ 0 < m.of_))) (h6 : ¬ (m.id < 0)) (h7 : ¬ (1048576 ≤ m.id)) (h8 : ¬ (1048576 < m.epoch)) (h9 : ¬ (1048576 < m.addr)) (h10 : ¬ (m.err < 0)) (h11 : ¬ (255 < m.err)) (kF : placeB m.fr m.fn = true) (kT : placeB m.tr m.tn = true) (kN : sameC m.cell cell0 = false) (kR : rightC m.cell = true) (kS : streamsB m.streams = true) (kB : backsB m.backs = true) (ka : ballotB m.br m.bc = true) (kb : ballotB m.pr m.pc = false) (kL : noLayB m.lay = true) : ACalls Tryz.prog 57 [encM m] [] (.bool (right10 m)) [] := by
  have qF := place10_ac m.fr m.fn
  have qT := place10_ac m.tr m.tn
  have qN := noCell10B_ac m.cell
  rw [noCell10_eq] at qN
  have qR := rightR7 m.cell hm.cell.b
  have qS := streams10_ac m.streams hm.st
  have qB := backs10_ac m.backs hm.b
  rw [backs10_eq] at qB
  have qa := ballot10B_ac m.br m.bc
  rw [ballot10_eq] at qa
  have qb := ballot10B_ac m.pr m.pc
  rw [ballot10_eq] at qb
  have qL := noLay10B_ac m.lay
  rw [noLay10_eq] at qL
  rw [kF] at qF
  rw [kT] at qT
  rw [kN] at qN
  rw [kR] at qR
  rw [kS] at qS
  rw [kB] at qB
  rw [ka] at qa
  rw [kb] at qb
  rw [kL] at qL
  rw [show right10 m = false by unfold right10; rw [if_neg h1, if_neg h2, if_neg h3, if_neg h4, if_neg h5, if_neg h6, if_neg h7, if_neg h8, if_neg h9, if_neg h10, if_neg h11]; unfold tail10; simp [kF, kT, kN, kR, kS, kB, ka, kb, kL]]
  refine acallsK mixed Tryz.func57 rfl [0, 1, 2, 3, 4, 5, 6, 7, 8, 9, 10, 67] 1000 ([.f, .f, .f, .f, .k, .k, .f, .f, .f, .f, .f, .f, .f, .call [] false true (.bool true) [], .call [] false true (.bool true) [], .call [] false true (.bool false) [], .call [] false true (.bool true) [], .call [] false true (.bool true) [], .call [] false true (.bool true) [], .call [] false true (.bool true) [], .call [] false true (.bool false) [], .call [] false true (.bool true) []]) [] [] (ob := [decide (m.kind < (1 : Int)) = false,
 decide (m.kind > (14 : Int)) = false,
 decide (m.of_ < (0 : Int)) = false,
 decide (m.of_ > (13 : Int)) = false,
 (!(m.kind == (14 : Int)) == decide (m.of_ > (0 : Int))) = false,
 decide (m.id < (0 : Int)) = false,
 decide (m.id ≥ (1048576 : Int)) = false,
 decide (m.epoch > (1048576 : Int)) = false,
 decide (m.addr > (1048576 : Int)) = false,
 decide (m.err < (0 : Int)) = false,
 decide (m.err > (255 : Int)) = false,
 _,
 _,
 _,
 _,
 _,
 _,
 _,
 _,
 _]) (by kernel_rfl) ⟨rfl, rfl⟩ ⟨?z0, ?z1, ?z2, ?z3, ?z4, ?z5, ?z6, ?z7, ?z8, ?z9, ?z10, qF, qT, qN, qR, qS, qB, qa, qb, qL, trivial⟩
  case z0|z1|z2|z3|z4|z5|z6|z7|z8|z9|z10 => first | exact rfl | (simp [encM, celM, celC, celL, h1, h2, h3, h4, h5, h6, h7, h8, h9, h10, h11, kF, kT, kN, kR, kS, kB, ka, kb, kL] <;> omega) | omega | (first | omega | exact xor_yes h5 | exact xor_no h5)
theorem right10_e26 (m : MsgD) (hm : m.ok) (hl : ∀ s ∈ m.lay.segs, s.chains.length ≤ 1000000000) (h1 : ¬ (m.kind < 1)) (h2 : ¬ (14 < m.kind)) (h3 : ¬ (m.of_ < 0)) (h4 : ¬ (13 < m.of_)) (h5 : ¬ (¬ (m.kind = 14 ↔ 0 < m.of_))) (h6 : ¬ (m.id < 0)) (h7 : ¬ (1048576 ≤ m.id)) (h8 : ¬ (1048576 < m.epoch)) (h9 : ¬ (1048576 < m.addr)) (h10 : ¬ (m.err < 0)) (h11 : ¬ (255 < m.err)) (kF : placeB m.fr m.fn = true) (kT : placeB m.tr m.tn = true) (kN : sameC m.cell cell0 = false) (kR : rightC m.cell = true) (kS : streamsB m.streams = true) (kB : backsB m.backs = true) (ka : ballotB m.br m.bc = true) (kb : ballotB m.pr m.pc = true) (kL : noLayB m.lay = true) : ACalls Tryz.prog 57 [encM m] [] (.bool (right10 m)) [] := by
  have qF := place10_ac m.fr m.fn
  have qT := place10_ac m.tr m.tn
  have qN := noCell10B_ac m.cell
  rw [noCell10_eq] at qN
  have qR := rightR7 m.cell hm.cell.b
  have qS := streams10_ac m.streams hm.st
  have qB := backs10_ac m.backs hm.b
  rw [backs10_eq] at qB
  have qa := ballot10B_ac m.br m.bc
  rw [ballot10_eq] at qa
  have qb := ballot10B_ac m.pr m.pc
  rw [ballot10_eq] at qb
  have qL := noLay10B_ac m.lay
  rw [noLay10_eq] at qL
  rw [kF] at qF
  rw [kT] at qT
  rw [kN] at qN
  rw [kR] at qR
  rw [kS] at qS
  rw [kB] at qB
  rw [ka] at qa
  rw [kb] at qb
  rw [kL] at qL
  rw [show right10 m = true by unfold right10; rw [if_neg h1, if_neg h2, if_neg h3, if_neg h4, if_neg h5, if_neg h6, if_neg h7, if_neg h8, if_neg h9, if_neg h10, if_neg h11]; unfold tail10; simp [kF, kT, kN, kR, kS, kB, ka, kb, kL]]
  refine acallsK mixed Tryz.func57 rfl [0, 1, 2, 3, 4, 5, 6, 7, 8, 9, 10, 67] 1000 ([.f, .f, .f, .f, .k, .k, .f, .f, .f, .f, .f, .f, .f, .call [] false true (.bool true) [], .call [] false true (.bool true) [], .call [] false true (.bool false) [], .call [] false true (.bool true) [], .call [] false true (.bool true) [], .call [] false true (.bool true) [], .call [] false true (.bool true) [], .call [] false true (.bool true) [], .call [] false true (.bool true) []]) [] [] (ob := [decide (m.kind < (1 : Int)) = false,
 decide (m.kind > (14 : Int)) = false,
 decide (m.of_ < (0 : Int)) = false,
 decide (m.of_ > (13 : Int)) = false,
 (!(m.kind == (14 : Int)) == decide (m.of_ > (0 : Int))) = false,
 decide (m.id < (0 : Int)) = false,
 decide (m.id ≥ (1048576 : Int)) = false,
 decide (m.epoch > (1048576 : Int)) = false,
 decide (m.addr > (1048576 : Int)) = false,
 decide (m.err < (0 : Int)) = false,
 decide (m.err > (255 : Int)) = false,
 _,
 _,
 _,
 _,
 _,
 _,
 _,
 _,
 _]) (by kernel_rfl) ⟨rfl, rfl⟩ ⟨?z0, ?z1, ?z2, ?z3, ?z4, ?z5, ?z6, ?z7, ?z8, ?z9, ?z10, qF, qT, qN, qR, qS, qB, qa, qb, qL, trivial⟩
  case z0|z1|z2|z3|z4|z5|z6|z7|z8|z9|z10 => first | exact rfl | (simp [encM, celM, celC, celL, h1, h2, h3, h4, h5, h6, h7, h8, h9, h10, h11, kF, kT, kN, kR, kS, kB, ka, kb, kL] <;> omega) | omega | (first | omega | exact xor_yes h5 | exact xor_no h5)
theorem right10_e27 (m : MsgD) (hm : m.ok) (hl : ∀ s ∈ m.lay.segs, s.chains.length ≤ 1000000000) (h1 : ¬ (m.kind < 1)) (h2 : ¬ (14 < m.kind)) (h3 : ¬ (m.of_ < 0)) (h4 : ¬ (13 < m.of_)) (h5 : ¬ (¬ (m.kind = 14 ↔ 0 < m.of_))) (h6 : ¬ (m.id < 0)) (h7 : ¬ (1048576 ≤ m.id)) (h8 : ¬ (1048576 < m.epoch)) (h9 : ¬ (1048576 < m.addr)) (h10 : ¬ (m.err < 0)) (h11 : ¬ (255 < m.err)) (kF : placeB m.fr m.fn = false) (kN : sameC m.cell cell0 = true) (kL : noLayB m.lay = false) : ACalls Tryz.prog 57 [encM m] [] (.bool (right10 m)) [] := by
  have qF := place10_ac m.fr m.fn
  have qT := place10_ac m.tr m.tn
  have qN := noCell10B_ac m.cell
  rw [noCell10_eq] at qN
  have qS := streams10_ac m.streams hm.st
  have qB := backs10_ac m.backs hm.b
  rw [backs10_eq] at qB
  have qa := ballot10B_ac m.br m.bc
  rw [ballot10_eq] at qa
  have qb := ballot10B_ac m.pr m.pc
  rw [ballot10_eq] at qb
  have qL := noLay10B_ac m.lay
  rw [noLay10_eq] at qL
  have qZ := right9_ac m.lay hl hm.lay.n
  rw [kF] at qF
  rw [kN] at qN
  rw [kL] at qL
  rw [show right10 m = false by unfold right10; rw [if_neg h1, if_neg h2, if_neg h3, if_neg h4, if_neg h5, if_neg h6, if_neg h7, if_neg h8, if_neg h9, if_neg h10, if_neg h11]; unfold tail10; simp [kF, kN, kL]]
  refine acallsK mixed Tryz.func57 rfl [0, 1, 2, 3, 4, 5, 6, 7, 8, 9, 10, 67] 1000 ([.f, .f, .f, .f, .k, .k, .f, .f, .f, .f, .f, .f, .f, .call [] false true (.bool false) [], .call [] false true (.bool (placeB m.tr m.tn)) [], .call [] false true (.bool true) [], .call [] false true (.bool (streamsB m.streams)) [], .call [] false true (.bool (backsB m.backs)) [], .call [] false true (.bool (ballotB m.br m.bc)) [], .call [] false true (.bool (ballotB m.pr m.pc)) [], .call [] false true (.bool false) [], .call [] false true (.bool (rightL m.lay)) []]) [] [] (ob := [decide (m.kind < (1 : Int)) = false,
 decide (m.kind > (14 : Int)) = false,
 decide (m.of_ < (0 : Int)) = false,
 decide (m.of_ > (13 : Int)) = false,
 (!(m.kind == (14 : Int)) == decide (m.of_ > (0 : Int))) = false,
 decide (m.id < (0 : Int)) = false,
 decide (m.id ≥ (1048576 : Int)) = false,
 decide (m.epoch > (1048576 : Int)) = false,
 decide (m.addr > (1048576 : Int)) = false,
 decide (m.err < (0 : Int)) = false,
 decide (m.err > (255 : Int)) = false,
 _,
 _,
 _,
 _,
 _,
 _,
 _,
 _,
 _]) (by kernel_rfl) ⟨rfl, rfl⟩ ⟨?z0, ?z1, ?z2, ?z3, ?z4, ?z5, ?z6, ?z7, ?z8, ?z9, ?z10, qF, qT, qN, qS, qB, qa, qb, qL, qZ, trivial⟩
  case z0|z1|z2|z3|z4|z5|z6|z7|z8|z9|z10 => first | exact rfl | (simp [encM, celM, celC, celL, h1, h2, h3, h4, h5, h6, h7, h8, h9, h10, h11, kF, kN, kL] <;> omega) | omega | (first | omega | exact xor_yes h5 | exact xor_no h5)
theorem right10_e28 (m : MsgD) (hm : m.ok) (hl : ∀ s ∈ m.lay.segs, s.chains.length ≤ 1000000000) (h1 : ¬ (m.kind < 1)) (h2 : ¬ (14 < m.kind)) (h3 : ¬ (m.of_ < 0)) (h4 : ¬ (13 < m.of_)) (h5 : ¬ (¬ (m.kind = 14 ↔ 0 < m.of_))) (h6 : ¬ (m.id < 0)) (h7 : ¬ (1048576 ≤ m.id)) (h8 : ¬ (1048576 < m.epoch)) (h9 : ¬ (1048576 < m.addr)) (h10 : ¬ (m.err < 0)) (h11 : ¬ (255 < m.err)) (kF : placeB m.fr m.fn = true) (kT : placeB m.tr m.tn = false) (kN : sameC m.cell cell0 = true) (kL : noLayB m.lay = false) : ACalls Tryz.prog 57 [encM m] [] (.bool (right10 m)) [] := by
  have qF := place10_ac m.fr m.fn
  have qT := place10_ac m.tr m.tn
  have qN := noCell10B_ac m.cell
  rw [noCell10_eq] at qN
  have qS := streams10_ac m.streams hm.st
  have qB := backs10_ac m.backs hm.b
  rw [backs10_eq] at qB
  have qa := ballot10B_ac m.br m.bc
  rw [ballot10_eq] at qa
  have qb := ballot10B_ac m.pr m.pc
  rw [ballot10_eq] at qb
  have qL := noLay10B_ac m.lay
  rw [noLay10_eq] at qL
  have qZ := right9_ac m.lay hl hm.lay.n
  rw [kF] at qF
  rw [kT] at qT
  rw [kN] at qN
  rw [kL] at qL
  rw [show right10 m = false by unfold right10; rw [if_neg h1, if_neg h2, if_neg h3, if_neg h4, if_neg h5, if_neg h6, if_neg h7, if_neg h8, if_neg h9, if_neg h10, if_neg h11]; unfold tail10; simp [kF, kT, kN, kL]]
  refine acallsK mixed Tryz.func57 rfl [0, 1, 2, 3, 4, 5, 6, 7, 8, 9, 10, 67] 1000 ([.f, .f, .f, .f, .k, .k, .f, .f, .f, .f, .f, .f, .f, .call [] false true (.bool true) [], .call [] false true (.bool false) [], .call [] false true (.bool true) [], .call [] false true (.bool (streamsB m.streams)) [], .call [] false true (.bool (backsB m.backs)) [], .call [] false true (.bool (ballotB m.br m.bc)) [], .call [] false true (.bool (ballotB m.pr m.pc)) [], .call [] false true (.bool false) [], .call [] false true (.bool (rightL m.lay)) []]) [] [] (ob := [decide (m.kind < (1 : Int)) = false,
 decide (m.kind > (14 : Int)) = false,
 decide (m.of_ < (0 : Int)) = false,
 decide (m.of_ > (13 : Int)) = false,
 (!(m.kind == (14 : Int)) == decide (m.of_ > (0 : Int))) = false,
 decide (m.id < (0 : Int)) = false,
 decide (m.id ≥ (1048576 : Int)) = false,
 decide (m.epoch > (1048576 : Int)) = false,
 decide (m.addr > (1048576 : Int)) = false,
 decide (m.err < (0 : Int)) = false,
 decide (m.err > (255 : Int)) = false,
 _,
 _,
 _,
 _,
 _,
 _,
 _,
 _,
 _]) (by kernel_rfl) ⟨rfl, rfl⟩ ⟨?z0, ?z1, ?z2, ?z3, ?z4, ?z5, ?z6, ?z7, ?z8, ?z9, ?z10, qF, qT, qN, qS, qB, qa, qb, qL, qZ, trivial⟩
  case z0|z1|z2|z3|z4|z5|z6|z7|z8|z9|z10 => first | exact rfl | (simp [encM, celM, celC, celL, h1, h2, h3, h4, h5, h6, h7, h8, h9, h10, h11, kF, kT, kN, kL] <;> omega) | omega | (first | omega | exact xor_yes h5 | exact xor_no h5)
theorem right10_e29 (m : MsgD) (hm : m.ok) (hl : ∀ s ∈ m.lay.segs, s.chains.length ≤ 1000000000) (h1 : ¬ (m.kind < 1)) (h2 : ¬ (14 < m.kind)) (h3 : ¬ (m.of_ < 0)) (h4 : ¬ (13 < m.of_)) (h5 : ¬ (¬ (m.kind = 14 ↔ 0 < m.of_))) (h6 : ¬ (m.id < 0)) (h7 : ¬ (1048576 ≤ m.id)) (h8 : ¬ (1048576 < m.epoch)) (h9 : ¬ (1048576 < m.addr)) (h10 : ¬ (m.err < 0)) (h11 : ¬ (255 < m.err)) (kF : placeB m.fr m.fn = true) (kT : placeB m.tr m.tn = true) (kN : sameC m.cell cell0 = true) (kS : streamsB m.streams = false) (kL : noLayB m.lay = false) : ACalls Tryz.prog 57 [encM m] [] (.bool (right10 m)) [] := by
  have qF := place10_ac m.fr m.fn
  have qT := place10_ac m.tr m.tn
  have qN := noCell10B_ac m.cell
  rw [noCell10_eq] at qN
  have qS := streams10_ac m.streams hm.st
  have qB := backs10_ac m.backs hm.b
  rw [backs10_eq] at qB
  have qa := ballot10B_ac m.br m.bc
  rw [ballot10_eq] at qa
  have qb := ballot10B_ac m.pr m.pc
  rw [ballot10_eq] at qb
  have qL := noLay10B_ac m.lay
  rw [noLay10_eq] at qL
  have qZ := right9_ac m.lay hl hm.lay.n
  rw [kF] at qF
  rw [kT] at qT
  rw [kN] at qN
  rw [kS] at qS
  rw [kL] at qL
  rw [show right10 m = false by unfold right10; rw [if_neg h1, if_neg h2, if_neg h3, if_neg h4, if_neg h5, if_neg h6, if_neg h7, if_neg h8, if_neg h9, if_neg h10, if_neg h11]; unfold tail10; simp [kF, kT, kN, kS, kL]]
  refine acallsK mixed Tryz.func57 rfl [0, 1, 2, 3, 4, 5, 6, 7, 8, 9, 10, 67] 1000 ([.f, .f, .f, .f, .k, .k, .f, .f, .f, .f, .f, .f, .f, .call [] false true (.bool true) [], .call [] false true (.bool true) [], .call [] false true (.bool true) [], .call [] false true (.bool false) [], .call [] false true (.bool (backsB m.backs)) [], .call [] false true (.bool (ballotB m.br m.bc)) [], .call [] false true (.bool (ballotB m.pr m.pc)) [], .call [] false true (.bool false) [], .call [] false true (.bool (rightL m.lay)) []]) [] [] (ob := [decide (m.kind < (1 : Int)) = false,
 decide (m.kind > (14 : Int)) = false,
 decide (m.of_ < (0 : Int)) = false,
 decide (m.of_ > (13 : Int)) = false,
 (!(m.kind == (14 : Int)) == decide (m.of_ > (0 : Int))) = false,
 decide (m.id < (0 : Int)) = false,
 decide (m.id ≥ (1048576 : Int)) = false,
 decide (m.epoch > (1048576 : Int)) = false,
 decide (m.addr > (1048576 : Int)) = false,
 decide (m.err < (0 : Int)) = false,
 decide (m.err > (255 : Int)) = false,
 _,
 _,
 _,
 _,
 _,
 _,
 _,
 _,
 _]) (by kernel_rfl) ⟨rfl, rfl⟩ ⟨?z0, ?z1, ?z2, ?z3, ?z4, ?z5, ?z6, ?z7, ?z8, ?z9, ?z10, qF, qT, qN, qS, qB, qa, qb, qL, qZ, trivial⟩
  case z0|z1|z2|z3|z4|z5|z6|z7|z8|z9|z10 => first | exact rfl | (simp [encM, celM, celC, celL, h1, h2, h3, h4, h5, h6, h7, h8, h9, h10, h11, kF, kT, kN, kS, kL] <;> omega) | omega | (first | omega | exact xor_yes h5 | exact xor_no h5)
theorem right10_e30 (m : MsgD) (hm : m.ok) (hl : ∀ s ∈ m.lay.segs, s.chains.length ≤ 1000000000) (h1 : ¬ (m.kind < 1)) (h2 : ¬ (14 < m.kind)) (h3 : ¬ (m.of_ < 0)) (h4 : ¬ (13 < m.of_)) (h5 : ¬ (¬ (m.kind = 14 ↔ 0 < m.of_))) (h6 : ¬ (m.id < 0)) (h7 : ¬ (1048576 ≤ m.id)) (h8 : ¬ (1048576 < m.epoch)) (h9 : ¬ (1048576 < m.addr)) (h10 : ¬ (m.err < 0)) (h11 : ¬ (255 < m.err)) (kF : placeB m.fr m.fn = true) (kT : placeB m.tr m.tn = true) (kN : sameC m.cell cell0 = true) (kS : streamsB m.streams = true) (kB : backsB m.backs = false) (kL : noLayB m.lay = false) : ACalls Tryz.prog 57 [encM m] [] (.bool (right10 m)) [] := by
  have qF := place10_ac m.fr m.fn
  have qT := place10_ac m.tr m.tn
  have qN := noCell10B_ac m.cell
  rw [noCell10_eq] at qN
  have qS := streams10_ac m.streams hm.st
  have qB := backs10_ac m.backs hm.b
  rw [backs10_eq] at qB
  have qa := ballot10B_ac m.br m.bc
  rw [ballot10_eq] at qa
  have qb := ballot10B_ac m.pr m.pc
  rw [ballot10_eq] at qb
  have qL := noLay10B_ac m.lay
  rw [noLay10_eq] at qL
  have qZ := right9_ac m.lay hl hm.lay.n
  rw [kF] at qF
  rw [kT] at qT
  rw [kN] at qN
  rw [kS] at qS
  rw [kB] at qB
  rw [kL] at qL
  rw [show right10 m = false by unfold right10; rw [if_neg h1, if_neg h2, if_neg h3, if_neg h4, if_neg h5, if_neg h6, if_neg h7, if_neg h8, if_neg h9, if_neg h10, if_neg h11]; unfold tail10; simp [kF, kT, kN, kS, kB, kL]]
  refine acallsK mixed Tryz.func57 rfl [0, 1, 2, 3, 4, 5, 6, 7, 8, 9, 10, 67] 1000 ([.f, .f, .f, .f, .k, .k, .f, .f, .f, .f, .f, .f, .f, .call [] false true (.bool true) [], .call [] false true (.bool true) [], .call [] false true (.bool true) [], .call [] false true (.bool true) [], .call [] false true (.bool false) [], .call [] false true (.bool (ballotB m.br m.bc)) [], .call [] false true (.bool (ballotB m.pr m.pc)) [], .call [] false true (.bool false) [], .call [] false true (.bool (rightL m.lay)) []]) [] [] (ob := [decide (m.kind < (1 : Int)) = false,
 decide (m.kind > (14 : Int)) = false,
 decide (m.of_ < (0 : Int)) = false,
 decide (m.of_ > (13 : Int)) = false,
 (!(m.kind == (14 : Int)) == decide (m.of_ > (0 : Int))) = false,
 decide (m.id < (0 : Int)) = false,
 decide (m.id ≥ (1048576 : Int)) = false,
 decide (m.epoch > (1048576 : Int)) = false,
 decide (m.addr > (1048576 : Int)) = false,
 decide (m.err < (0 : Int)) = false,
 decide (m.err > (255 : Int)) = false,
 _,
 _,
 _,
 _,
 _,
 _,
 _,
 _,
 _]) (by kernel_rfl) ⟨rfl, rfl⟩ ⟨?z0, ?z1, ?z2, ?z3, ?z4, ?z5, ?z6, ?z7, ?z8, ?z9, ?z10, qF, qT, qN, qS, qB, qa, qb, qL, qZ, trivial⟩
  case z0|z1|z2|z3|z4|z5|z6|z7|z8|z9|z10 => first | exact rfl | (simp [encM, celM, celC, celL, h1, h2, h3, h4, h5, h6, h7, h8, h9, h10, h11, kF, kT, kN, kS, kB, kL] <;> omega) | omega | (first | omega | exact xor_yes h5 | exact xor_no h5)
theorem right10_e31 (m : MsgD) (hm : m.ok) (hl : ∀ s ∈ m.lay.segs, s.chains.length ≤ 1000000000) (h1 : ¬ (m.kind < 1)) (h2 : ¬ (14 < m.kind)) (h3 : ¬ (m.of_ < 0)) (h4 : ¬ (13 < m.of_)) (h5 : ¬ (¬ (m.kind = 14 ↔ 0 < m.of_))) (h6 : ¬ (m.id < 0)) (h7 : ¬ (1048576 ≤ m.id)) (h8 : ¬ (1048576 < m.epoch)) (h9 : ¬ (1048576 < m.addr)) (h10 : ¬ (m.err < 0)) (h11 : ¬ (255 < m.err)) (kF : placeB m.fr m.fn = true) (kT : placeB m.tr m.tn = true) (kN : sameC m.cell cell0 = true) (kS : streamsB m.streams = true) (kB : backsB m.backs = true) (ka : ballotB m.br m.bc = false) (kL : noLayB m.lay = false) : ACalls Tryz.prog 57 [encM m] [] (.bool (right10 m)) [] := by
  have qF := place10_ac m.fr m.fn
  have qT := place10_ac m.tr m.tn
  have qN := noCell10B_ac m.cell
  rw [noCell10_eq] at qN
  have qS := streams10_ac m.streams hm.st
  have qB := backs10_ac m.backs hm.b
  rw [backs10_eq] at qB
  have qa := ballot10B_ac m.br m.bc
  rw [ballot10_eq] at qa
  have qb := ballot10B_ac m.pr m.pc
  rw [ballot10_eq] at qb
  have qL := noLay10B_ac m.lay
  rw [noLay10_eq] at qL
  have qZ := right9_ac m.lay hl hm.lay.n
  rw [kF] at qF
  rw [kT] at qT
  rw [kN] at qN
  rw [kS] at qS
  rw [kB] at qB
  rw [ka] at qa
  rw [kL] at qL
  rw [show right10 m = false by unfold right10; rw [if_neg h1, if_neg h2, if_neg h3, if_neg h4, if_neg h5, if_neg h6, if_neg h7, if_neg h8, if_neg h9, if_neg h10, if_neg h11]; unfold tail10; simp [kF, kT, kN, kS, kB, ka, kL]]
  refine acallsK mixed Tryz.func57 rfl [0, 1, 2, 3, 4, 5, 6, 7, 8, 9, 10, 67] 1000 ([.f, .f, .f, .f, .k, .k, .f, .f, .f, .f, .f, .f, .f, .call [] false true (.bool true) [], .call [] false true (.bool true) [], .call [] false true (.bool true) [], .call [] false true (.bool true) [], .call [] false true (.bool true) [], .call [] false true (.bool false) [], .call [] false true (.bool (ballotB m.pr m.pc)) [], .call [] false true (.bool false) [], .call [] false true (.bool (rightL m.lay)) []]) [] [] (ob := [decide (m.kind < (1 : Int)) = false,
 decide (m.kind > (14 : Int)) = false,
 decide (m.of_ < (0 : Int)) = false,
 decide (m.of_ > (13 : Int)) = false,
 (!(m.kind == (14 : Int)) == decide (m.of_ > (0 : Int))) = false,
 decide (m.id < (0 : Int)) = false,
 decide (m.id ≥ (1048576 : Int)) = false,
 decide (m.epoch > (1048576 : Int)) = false,
 decide (m.addr > (1048576 : Int)) = false,
 decide (m.err < (0 : Int)) = false,
 decide (m.err > (255 : Int)) = false,
 _,
 _,
 _,
 _,
 _,
 _,
 _,
 _,
 _]) (by kernel_rfl) ⟨rfl, rfl⟩ ⟨?z0, ?z1, ?z2, ?z3, ?z4, ?z5, ?z6, ?z7, ?z8, ?z9, ?z10, qF, qT, qN, qS, qB, qa, qb, qL, qZ, trivial⟩
  case z0|z1|z2|z3|z4|z5|z6|z7|z8|z9|z10 => first | exact rfl | (simp [encM, celM, celC, celL, h1, h2, h3, h4, h5, h6, h7, h8, h9, h10, h11, kF, kT, kN, kS, kB, ka, kL] <;> omega) | omega | (first | omega | exact xor_yes h5 | exact xor_no h5)
theorem right10_e32 (m : MsgD) (hm : m.ok) (hl : ∀ s ∈ m.lay.segs, s.chains.length ≤ 1000000000) (h1 : ¬ (m.kind < 1)) (h2 : ¬ (14 < m.kind)) (h3 : ¬ (m.of_ < 0)) (h4 : ¬ (13 < m.of_)) (h5 : ¬ (¬ (m.kind = 14 ↔ 0 < m.of_))) (h6 : ¬ (m.id < 0)) (h7 : ¬ (1048576 ≤ m.id)) (h8 : ¬ (1048576 < m.epoch)) (h9 : ¬ (1048576 < m.addr)) (h10 : ¬ (m.err < 0)) (h11 : ¬ (255 < m.err)) (kF : placeB m.fr m.fn = true) (kT : placeB m.tr m.tn = true) (kN : sameC m.cell cell0 = true) (kS : streamsB m.streams = true) (kB : backsB m.backs = true) (ka : ballotB m.br m.bc = true) (kb : ballotB m.pr m.pc = false) (kL : noLayB m.lay = false) : ACalls Tryz.prog 57 [encM m] [] (.bool (right10 m)) [] := by
  have qF := place10_ac m.fr m.fn
  have qT := place10_ac m.tr m.tn
  have qN := noCell10B_ac m.cell
  rw [noCell10_eq] at qN
  have qS := streams10_ac m.streams hm.st
  have qB := backs10_ac m.backs hm.b
  rw [backs10_eq] at qB
  have qa := ballot10B_ac m.br m.bc
  rw [ballot10_eq] at qa
  have qb := ballot10B_ac m.pr m.pc
  rw [ballot10_eq] at qb
  have qL := noLay10B_ac m.lay
  rw [noLay10_eq] at qL
  have qZ := right9_ac m.lay hl hm.lay.n
  rw [kF] at qF
  rw [kT] at qT
  rw [kN] at qN
  rw [kS] at qS
  rw [kB] at qB
  rw [ka] at qa
  rw [kb] at qb
  rw [kL] at qL
  rw [show right10 m = false by unfold right10; rw [if_neg h1, if_neg h2, if_neg h3, if_neg h4, if_neg h5, if_neg h6, if_neg h7, if_neg h8, if_neg h9, if_neg h10, if_neg h11]; unfold tail10; simp [kF, kT, kN, kS, kB, ka, kb, kL]]
  refine acallsK mixed Tryz.func57 rfl [0, 1, 2, 3, 4, 5, 6, 7, 8, 9, 10, 67] 1000 ([.f, .f, .f, .f, .k, .k, .f, .f, .f, .f, .f, .f, .f, .call [] false true (.bool true) [], .call [] false true (.bool true) [], .call [] false true (.bool true) [], .call [] false true (.bool true) [], .call [] false true (.bool true) [], .call [] false true (.bool true) [], .call [] false true (.bool false) [], .call [] false true (.bool false) [], .call [] false true (.bool (rightL m.lay)) []]) [] [] (ob := [decide (m.kind < (1 : Int)) = false,
 decide (m.kind > (14 : Int)) = false,
 decide (m.of_ < (0 : Int)) = false,
 decide (m.of_ > (13 : Int)) = false,
 (!(m.kind == (14 : Int)) == decide (m.of_ > (0 : Int))) = false,
 decide (m.id < (0 : Int)) = false,
 decide (m.id ≥ (1048576 : Int)) = false,
 decide (m.epoch > (1048576 : Int)) = false,
 decide (m.addr > (1048576 : Int)) = false,
 decide (m.err < (0 : Int)) = false,
 decide (m.err > (255 : Int)) = false,
 _,
 _,
 _,
 _,
 _,
 _,
 _,
 _,
 _]) (by kernel_rfl) ⟨rfl, rfl⟩ ⟨?z0, ?z1, ?z2, ?z3, ?z4, ?z5, ?z6, ?z7, ?z8, ?z9, ?z10, qF, qT, qN, qS, qB, qa, qb, qL, qZ, trivial⟩
  case z0|z1|z2|z3|z4|z5|z6|z7|z8|z9|z10 => first | exact rfl | (simp [encM, celM, celC, celL, h1, h2, h3, h4, h5, h6, h7, h8, h9, h10, h11, kF, kT, kN, kS, kB, ka, kb, kL] <;> omega) | omega | (first | omega | exact xor_yes h5 | exact xor_no h5)
theorem right10_e33 (m : MsgD) (hm : m.ok) (hl : ∀ s ∈ m.lay.segs, s.chains.length ≤ 1000000000) (h1 : ¬ (m.kind < 1)) (h2 : ¬ (14 < m.kind)) (h3 : ¬ (m.of_ < 0)) (h4 : ¬ (13 < m.of_)) (h5 : ¬ (¬ (m.kind = 14 ↔ 0 < m.of_))) (h6 : ¬ (m.id < 0)) (h7 : ¬ (1048576 ≤ m.id)) (h8 : ¬ (1048576 < m.epoch)) (h9 : ¬ (1048576 < m.addr)) (h10 : ¬ (m.err < 0)) (h11 : ¬ (255 < m.err)) (kF : placeB m.fr m.fn = true) (kT : placeB m.tr m.tn = true) (kN : sameC m.cell cell0 = true) (kS : streamsB m.streams = true) (kB : backsB m.backs = true) (ka : ballotB m.br m.bc = true) (kb : ballotB m.pr m.pc = true) (kL : noLayB m.lay = false) : ACalls Tryz.prog 57 [encM m] [] (.bool (right10 m)) [] := by
  have qF := place10_ac m.fr m.fn
  have qT := place10_ac m.tr m.tn
  have qN := noCell10B_ac m.cell
  rw [noCell10_eq] at qN
  have qS := streams10_ac m.streams hm.st
  have qB := backs10_ac m.backs hm.b
  rw [backs10_eq] at qB
  have qa := ballot10B_ac m.br m.bc
  rw [ballot10_eq] at qa
  have qb := ballot10B_ac m.pr m.pc
  rw [ballot10_eq] at qb
  have qL := noLay10B_ac m.lay
  rw [noLay10_eq] at qL
  have qZ := right9_ac m.lay hl hm.lay.n
  rw [kF] at qF
  rw [kT] at qT
  rw [kN] at qN
  rw [kS] at qS
  rw [kB] at qB
  rw [ka] at qa
  rw [kb] at qb
  rw [kL] at qL
  rw [show right10 m = rightL m.lay by unfold right10; rw [if_neg h1, if_neg h2, if_neg h3, if_neg h4, if_neg h5, if_neg h6, if_neg h7, if_neg h8, if_neg h9, if_neg h10, if_neg h11]; unfold tail10; simp [kF, kT, kN, kS, kB, ka, kb, kL]]
  refine acallsK mixed Tryz.func57 rfl [0, 1, 2, 3, 4, 5, 6, 7, 8, 9, 10, 67] 1000 ([.f, .f, .f, .f, .k, .k, .f, .f, .f, .f, .f, .f, .f, .call [] false true (.bool true) [], .call [] false true (.bool true) [], .call [] false true (.bool true) [], .call [] false true (.bool true) [], .call [] false true (.bool true) [], .call [] false true (.bool true) [], .call [] false true (.bool true) [], .call [] false true (.bool false) [], .call [] false true (.bool (rightL m.lay)) []]) [] [] (ob := [decide (m.kind < (1 : Int)) = false,
 decide (m.kind > (14 : Int)) = false,
 decide (m.of_ < (0 : Int)) = false,
 decide (m.of_ > (13 : Int)) = false,
 (!(m.kind == (14 : Int)) == decide (m.of_ > (0 : Int))) = false,
 decide (m.id < (0 : Int)) = false,
 decide (m.id ≥ (1048576 : Int)) = false,
 decide (m.epoch > (1048576 : Int)) = false,
 decide (m.addr > (1048576 : Int)) = false,
 decide (m.err < (0 : Int)) = false,
 decide (m.err > (255 : Int)) = false,
 _,
 _,
 _,
 _,
 _,
 _,
 _,
 _,
 _]) (by kernel_rfl) ⟨rfl, rfl⟩ ⟨?z0, ?z1, ?z2, ?z3, ?z4, ?z5, ?z6, ?z7, ?z8, ?z9, ?z10, qF, qT, qN, qS, qB, qa, qb, qL, qZ, trivial⟩
  case z0|z1|z2|z3|z4|z5|z6|z7|z8|z9|z10 => first | exact rfl | (simp [encM, celM, celC, celL, h1, h2, h3, h4, h5, h6, h7, h8, h9, h10, h11, kF, kT, kN, kS, kB, ka, kb, kL] <;> omega) | omega | (first | omega | exact xor_yes h5 | exact xor_no h5)
theorem right10_e34 (m : MsgD) (hm : m.ok) (hl : ∀ s ∈ m.lay.segs, s.chains.length ≤ 1000000000) (h1 : ¬ (m.kind < 1)) (h2 : ¬ (14 < m.kind)) (h3 : ¬ (m.of_ < 0)) (h4 : ¬ (13 < m.of_)) (h5 : ¬ (¬ (m.kind = 14 ↔ 0 < m.of_))) (h6 : ¬ (m.id < 0)) (h7 : ¬ (1048576 ≤ m.id)) (h8 : ¬ (1048576 < m.epoch)) (h9 : ¬ (1048576 < m.addr)) (h10 : ¬ (m.err < 0)) (h11 : ¬ (255 < m.err)) (kF : placeB m.fr m.fn = false) (kN : sameC m.cell cell0 = true) (kL : noLayB m.lay = true) : ACalls Tryz.prog 57 [encM m] [] (.bool (right10 m)) [] := by
  have qF := place10_ac m.fr m.fn
  have qT := place10_ac m.tr m.tn
  have qN := noCell10B_ac m.cell
  rw [noCell10_eq] at qN
  have qS := streams10_ac m.streams hm.st
  have qB := backs10_ac m.backs hm.b
  rw [backs10_eq] at qB
  have qa := ballot10B_ac m.br m.bc
  rw [ballot10_eq] at qa
  have qb := ballot10B_ac m.pr m.pc
  rw [ballot10_eq] at qb
  have qL := noLay10B_ac m.lay
  rw [noLay10_eq] at qL
  rw [kF] at qF
  rw [kN] at qN
  rw [kL] at qL
  rw [show right10 m = false by unfold right10; rw [if_neg h1, if_neg h2, if_neg h3, if_neg h4, if_neg h5, if_neg h6, if_neg h7, if_neg h8, if_neg h9, if_neg h10, if_neg h11]; unfold tail10; simp [kF, kN, kL]]
  refine acallsK mixed Tryz.func57 rfl [0, 1, 2, 3, 4, 5, 6, 7, 8, 9, 10, 67] 1000 ([.f, .f, .f, .f, .k, .k, .f, .f, .f, .f, .f, .f, .f, .call [] false true (.bool false) [], .call [] false true (.bool (placeB m.tr m.tn)) [], .call [] false true (.bool true) [], .call [] false true (.bool (streamsB m.streams)) [], .call [] false true (.bool (backsB m.backs)) [], .call [] false true (.bool (ballotB m.br m.bc)) [], .call [] false true (.bool (ballotB m.pr m.pc)) [], .call [] false true (.bool true) []]) [] [] (ob := [decide (m.kind < (1 : Int)) = false,
 decide (m.kind > (14 : Int)) = false,
 decide (m.of_ < (0 : Int)) = false,
 decide (m.of_ > (13 : Int)) = false,
 (!(m.kind == (14 : Int)) == decide (m.of_ > (0 : Int))) = false,
 decide (m.id < (0 : Int)) = false,
 decide (m.id ≥ (1048576 : Int)) = false,
 decide (m.epoch > (1048576 : Int)) = false,
 decide (m.addr > (1048576 : Int)) = false,
 decide (m.err < (0 : Int)) = false,
 decide (m.err > (255 : Int)) = false,
 _,
 _,
 _,
 _,
 _,
 _,
 _,
 _]) (by kernel_rfl) ⟨rfl, rfl⟩ ⟨?z0, ?z1, ?z2, ?z3, ?z4, ?z5, ?z6, ?z7, ?z8, ?z9, ?z10, qF, qT, qN, qS, qB, qa, qb, qL, trivial⟩
  case z0|z1|z2|z3|z4|z5|z6|z7|z8|z9|z10 => first | exact rfl | (simp [encM, celM, celC, celL, h1, h2, h3, h4, h5, h6, h7, h8, h9, h10, h11, kF, kN, kL] <;> omega) | omega | (first | omega | exact xor_yes h5 | exact xor_no h5)
theorem right10_e35 (m : MsgD) (hm : m.ok) (hl : ∀ s ∈ m.lay.segs, s.chains.length ≤ 1000000000) (h1 : ¬ (m.kind < 1)) (h2 : ¬ (14 < m.kind)) (h3 : ¬ (m.of_ < 0)) (h4 : ¬ (13 < m.of_)) (h5 : ¬ (¬ (m.kind = 14 ↔ 0 < m.of_))) (h6 : ¬ (m.id < 0)) (h7 : ¬ (1048576 ≤ m.id)) (h8 : ¬ (1048576 < m.epoch)) (h9 : ¬ (1048576 < m.addr)) (h10 : ¬ (m.err < 0)) (h11 : ¬ (255 < m.err)) (kF : placeB m.fr m.fn = true) (kT : placeB m.tr m.tn = false) (kN : sameC m.cell cell0 = true) (kL : noLayB m.lay = true) : ACalls Tryz.prog 57 [encM m] [] (.bool (right10 m)) [] := by
  have qF := place10_ac m.fr m.fn
  have qT := place10_ac m.tr m.tn
  have qN := noCell10B_ac m.cell
  rw [noCell10_eq] at qN
  have qS := streams10_ac m.streams hm.st
  have qB := backs10_ac m.backs hm.b
  rw [backs10_eq] at qB
  have qa := ballot10B_ac m.br m.bc
  rw [ballot10_eq] at qa
  have qb := ballot10B_ac m.pr m.pc
  rw [ballot10_eq] at qb
  have qL := noLay10B_ac m.lay
  rw [noLay10_eq] at qL
  rw [kF] at qF
  rw [kT] at qT
  rw [kN] at qN
  rw [kL] at qL
  rw [show right10 m = false by unfold right10; rw [if_neg h1, if_neg h2, if_neg h3, if_neg h4, if_neg h5, if_neg h6, if_neg h7, if_neg h8, if_neg h9, if_neg h10, if_neg h11]; unfold tail10; simp [kF, kT, kN, kL]]
  refine acallsK mixed Tryz.func57 rfl [0, 1, 2, 3, 4, 5, 6, 7, 8, 9, 10, 67] 1000 ([.f, .f, .f, .f, .k, .k, .f, .f, .f, .f, .f, .f, .f, .call [] false true (.bool true) [], .call [] false true (.bool false) [], .call [] false true (.bool true) [], .call [] false true (.bool (streamsB m.streams)) [], .call [] false true (.bool (backsB m.backs)) [], .call [] false true (.bool (ballotB m.br m.bc)) [], .call [] false true (.bool (ballotB m.pr m.pc)) [], .call [] false true (.bool true) []]) [] [] (ob := [decide (m.kind < (1 : Int)) = false,
 decide (m.kind > (14 : Int)) = false,
 decide (m.of_ < (0 : Int)) = false,
 decide (m.of_ > (13 : Int)) = false,
 (!(m.kind == (14 : Int)) == decide (m.of_ > (0 : Int))) = false,
 decide (m.id < (0 : Int)) = false,
 decide (m.id ≥ (1048576 : Int)) = false,
 decide (m.epoch > (1048576 : Int)) = false,
 decide (m.addr > (1048576 : Int)) = false,
 decide (m.err < (0 : Int)) = false,
 decide (m.err > (255 : Int)) = false,
 _,
 _,
 _,
 _,
 _,
 _,
 _,
 _]) (by kernel_rfl) ⟨rfl, rfl⟩ ⟨?z0, ?z1, ?z2, ?z3, ?z4, ?z5, ?z6, ?z7, ?z8, ?z9, ?z10, qF, qT, qN, qS, qB, qa, qb, qL, trivial⟩
  case z0|z1|z2|z3|z4|z5|z6|z7|z8|z9|z10 => first | exact rfl | (simp [encM, celM, celC, celL, h1, h2, h3, h4, h5, h6, h7, h8, h9, h10, h11, kF, kT, kN, kL] <;> omega) | omega | (first | omega | exact xor_yes h5 | exact xor_no h5)
theorem right10_e36 (m : MsgD) (hm : m.ok) (hl : ∀ s ∈ m.lay.segs, s.chains.length ≤ 1000000000) (h1 : ¬ (m.kind < 1)) (h2 : ¬ (14 < m.kind)) (h3 : ¬ (m.of_ < 0)) (h4 : ¬ (13 < m.of_)) (h5 : ¬ (¬ (m.kind = 14 ↔ 0 < m.of_))) (h6 : ¬ (m.id < 0)) (h7 : ¬ (1048576 ≤ m.id)) (h8 : ¬ (1048576 < m.epoch)) (h9 : ¬ (1048576 < m.addr)) (h10 : ¬ (m.err < 0)) (h11 : ¬ (255 < m.err)) (kF : placeB m.fr m.fn = true) (kT : placeB m.tr m.tn = true) (kN : sameC m.cell cell0 = true) (kS : streamsB m.streams = false) (kL : noLayB m.lay = true) : ACalls Tryz.prog 57 [encM m] [] (.bool (right10 m)) [] := by
  have qF := place10_ac m.fr m.fn
  have qT := place10_ac m.tr m.tn
  have qN := noCell10B_ac m.cell
  rw [noCell10_eq] at qN
  have qS := streams10_ac m.streams hm.st
  have qB := backs10_ac m.backs hm.b
  rw [backs10_eq] at qB
  have qa := ballot10B_ac m.br m.bc
  rw [ballot10_eq] at qa
  have qb := ballot10B_ac m.pr m.pc
  rw [ballot10_eq] at qb
  have qL := noLay10B_ac m.lay
  rw [noLay10_eq] at qL
  rw [kF] at qF
  rw [kT] at qT
  rw [kN] at qN
  rw [kS] at qS
  rw [kL] at qL
  rw [show right10 m = false by unfold right10; rw [if_neg h1, if_neg h2, if_neg h3, if_neg h4, if_neg h5, if_neg h6, if_neg h7, if_neg h8, if_neg h9, if_neg h10, if_neg h11]; unfold tail10; simp [kF, kT, kN, kS, kL]]
  refine acallsK mixed Tryz.func57 rfl [0, 1, 2, 3, 4, 5, 6, 7, 8, 9, 10, 67] 1000 ([.f, .f, .f, .f, .k, .k, .f, .f, .f, .f, .f, .f, .f, .call [] false true (.bool true) [], .call [] false true (.bool true) [], .call [] false true (.bool true) [], .call [] false true (.bool false) [], .call [] false true (.bool (backsB m.backs)) [], .call [] false true (.bool (ballotB m.br m.bc)) [], .call [] false true (.bool (ballotB m.pr m.pc)) [], .call [] false true (.bool true) []]) [] [] (ob := [decide (m.kind < (1 : Int)) = false,
 decide (m.kind > (14 : Int)) = false,
 decide (m.of_ < (0 : Int)) = false,
 decide (m.of_ > (13 : Int)) = false,
 (!(m.kind == (14 : Int)) == decide (m.of_ > (0 : Int))) = false,
 decide (m.id < (0 : Int)) = false,
 decide (m.id ≥ (1048576 : Int)) = false,
 decide (m.epoch > (1048576 : Int)) = false,
 decide (m.addr > (1048576 : Int)) = false,
 decide (m.err < (0 : Int)) = false,
 decide (m.err > (255 : Int)) = false,
 _,
 _,
 _,
 _,
 _,
 _,
 _,
 _]) (by kernel_rfl) ⟨rfl, rfl⟩ ⟨?z0, ?z1, ?z2, ?z3, ?z4, ?z5, ?z6, ?z7, ?z8, ?z9, ?z10, qF, qT, qN, qS, qB, qa, qb, qL, trivial⟩
  case z0|z1|z2|z3|z4|z5|z6|z7|z8|z9|z10 => first | exact rfl | (simp [encM, celM, celC, celL, h1, h2, h3, h4, h5, h6, h7, h8, h9, h10, h11, kF, kT, kN, kS, kL] <;> omega) | omega | (first | omega | exact xor_yes h5 | exact xor_no h5)
theorem right10_e37 (m : MsgD) (hm : m.ok) (hl : ∀ s ∈ m.lay.segs, s.chains.length ≤ 1000000000) (h1 : ¬ (m.kind < 1)) (h2 : ¬ (14 < m.kind)) (h3 : ¬ (m.of_ < 0)) (h4 : ¬ (13 < m.of_)) (h5 : ¬ (¬ (m.kind = 14 ↔ 0 < m.of_))) (h6 : ¬ (m.id < 0)) (h7 : ¬ (1048576 ≤ m.id)) (h8 : ¬ (1048576 < m.epoch)) (h9 : ¬ (1048576 < m.addr)) (h10 : ¬ (m.err < 0)) (h11 : ¬ (255 < m.err)) (kF : placeB m.fr m.fn = true) (kT : placeB m.tr m.tn = true) (kN : sameC m.cell cell0 = true) (kS : streamsB m.streams = true) (kB : backsB m.backs = false) (kL : noLayB m.lay = true) : ACalls Tryz.prog 57 [encM m] [] (.bool (right10 m)) [] := by
  have qF := place10_ac m.fr m.fn
  have qT := place10_ac m.tr m.tn
  have qN := noCell10B_ac m.cell
  rw [noCell10_eq] at qN
  have qS := streams10_ac m.streams hm.st
  have qB := backs10_ac m.backs hm.b
  rw [backs10_eq] at qB
  have qa := ballot10B_ac m.br m.bc
  rw [ballot10_eq] at qa
  have qb := ballot10B_ac m.pr m.pc
  rw [ballot10_eq] at qb
  have qL := noLay10B_ac m.lay
  rw [noLay10_eq] at qL
  rw [kF] at qF
  rw [kT] at qT
  rw [kN] at qN
  rw [kS] at qS
  rw [kB] at qB
  rw [kL] at qL
  rw [show right10 m = false by unfold right10; rw [if_neg h1, if_neg h2, if_neg h3, if_neg h4, if_neg h5, if_neg h6, if_neg h7, if_neg h8, if_neg h9, if_neg h10, if_neg h11]; unfold tail10; simp [kF, kT, kN, kS, kB, kL]]
  refine acallsK mixed Tryz.func57 rfl [0, 1, 2, 3, 4, 5, 6, 7, 8, 9, 10, 67] 1000 ([.f, .f, .f, .f, .k, .k, .f, .f, .f, .f, .f, .f, .f, .call [] false true (.bool true) [], .call [] false true (.bool true) [], .call [] false true (.bool true) [], .call [] false true (.bool true) [], .call [] false true (.bool false) [], .call [] false true (.bool (ballotB m.br m.bc)) [], .call [] false true (.bool (ballotB m.pr m.pc)) [], .call [] false true (.bool true) []]) [] [] (ob := [decide (m.kind < (1 : Int)) = false,
 decide (m.kind > (14 : Int)) = false,
 decide (m.of_ < (0 : Int)) = false,
 decide (m.of_ > (13 : Int)) = false,
 (!(m.kind == (14 : Int)) == decide (m.of_ > (0 : Int))) = false,
 decide (m.id < (0 : Int)) = false,
 decide (m.id ≥ (1048576 : Int)) = false,
 decide (m.epoch > (1048576 : Int)) = false,
 decide (m.addr > (1048576 : Int)) = false,
 decide (m.err < (0 : Int)) = false,
 decide (m.err > (255 : Int)) = false,
 _,
 _,
 _,
 _,
 _,
 _,
 _,
 _]) (by kernel_rfl) ⟨rfl, rfl⟩ ⟨?z0, ?z1, ?z2, ?z3, ?z4, ?z5, ?z6, ?z7, ?z8, ?z9, ?z10, qF, qT, qN, qS, qB, qa, qb, qL, trivial⟩
  case z0|z1|z2|z3|z4|z5|z6|z7|z8|z9|z10 => first | exact rfl | (simp [encM, celM, celC, celL, h1, h2, h3, h4, h5, h6, h7, h8, h9, h10, h11, kF, kT, kN, kS, kB, kL] <;> omega) | omega | (first | omega | exact xor_yes h5 | exact xor_no h5)
theorem right10_e38 (m : MsgD) (hm : m.ok) (hl : ∀ s ∈ m.lay.segs, s.chains.length ≤ 1000000000) (h1 : ¬ (m.kind < 1)) (h2 : ¬ (14 < m.kind)) (h3 : ¬ (m.of_ < 0)) (h4 : ¬ (13 < m.of_)) (h5 : ¬ (¬ (m.kind = 14 ↔ 0 < m.of_))) (h6 : ¬ (m.id < 0)) (h7 : ¬ (1048576 ≤ m.id)) (h8 : ¬ (1048576 < m.epoch)) (h9 : ¬ (1048576 < m.addr)) (h10 : ¬ (m.err < 0)) (h11 : ¬ (255 < m.err)) (kF : placeB m.fr m.fn = true) (kT : placeB m.tr m.tn = true) (kN : sameC m.cell cell0 = true) (kS : streamsB m.streams = true) (kB : backsB m.backs = true) (ka : ballotB m.br m.bc = false) (kL : noLayB m.lay = true) : ACalls Tryz.prog 57 [encM m] [] (.bool (right10 m)) [] := by
  have qF := place10_ac m.fr m.fn
  have qT := place10_ac m.tr m.tn
  have qN := noCell10B_ac m.cell
  rw [noCell10_eq] at qN
  have qS := streams10_ac m.streams hm.st
  have qB := backs10_ac m.backs hm.b
  rw [backs10_eq] at qB
  have qa := ballot10B_ac m.br m.bc
  rw [ballot10_eq] at qa
  have qb := ballot10B_ac m.pr m.pc
  rw [ballot10_eq] at qb
  have qL := noLay10B_ac m.lay
  rw [noLay10_eq] at qL
  rw [kF] at qF
  rw [kT] at qT
  rw [kN] at qN
  rw [kS] at qS
  rw [kB] at qB
  rw [ka] at qa
  rw [kL] at qL
  rw [show right10 m = false by unfold right10; rw [if_neg h1, if_neg h2, if_neg h3, if_neg h4, if_neg h5, if_neg h6, if_neg h7, if_neg h8, if_neg h9, if_neg h10, if_neg h11]; unfold tail10; simp [kF, kT, kN, kS, kB, ka, kL]]
  refine acallsK mixed Tryz.func57 rfl [0, 1, 2, 3, 4, 5, 6, 7, 8, 9, 10, 67] 1000 ([.f, .f, .f, .f, .k, .k, .f, .f, .f, .f, .f, .f, .f, .call [] false true (.bool true) [], .call [] false true (.bool true) [], .call [] false true (.bool true) [], .call [] false true (.bool true) [], .call [] false true (.bool true) [], .call [] false true (.bool false) [], .call [] false true (.bool (ballotB m.pr m.pc)) [], .call [] false true (.bool true) []]) [] [] (ob := [decide (m.kind < (1 : Int)) = false,
 decide (m.kind > (14 : Int)) = false,
 decide (m.of_ < (0 : Int)) = false,
 decide (m.of_ > (13 : Int)) = false,
 (!(m.kind == (14 : Int)) == decide (m.of_ > (0 : Int))) = false,
 decide (m.id < (0 : Int)) = false,
 decide (m.id ≥ (1048576 : Int)) = false,
 decide (m.epoch > (1048576 : Int)) = false,
 decide (m.addr > (1048576 : Int)) = false,
 decide (m.err < (0 : Int)) = false,
 decide (m.err > (255 : Int)) = false,
 _,
 _,
 _,
 _,
 _,
 _,
 _,
 _]) (by kernel_rfl) ⟨rfl, rfl⟩ ⟨?z0, ?z1, ?z2, ?z3, ?z4, ?z5, ?z6, ?z7, ?z8, ?z9, ?z10, qF, qT, qN, qS, qB, qa, qb, qL, trivial⟩
  case z0|z1|z2|z3|z4|z5|z6|z7|z8|z9|z10 => first | exact rfl | (simp [encM, celM, celC, celL, h1, h2, h3, h4, h5, h6, h7, h8, h9, h10, h11, kF, kT, kN, kS, kB, ka, kL] <;> omega) | omega | (first | omega | exact xor_yes h5 | exact xor_no h5)
theorem right10_e39 (m : MsgD) (hm : m.ok) (hl : ∀ s ∈ m.lay.segs, s.chains.length ≤ 1000000000) (h1 : ¬ (m.kind < 1)) (h2 : ¬ (14 < m.kind)) (h3 : ¬ (m.of_ < 0)) (h4 : ¬ (13 < m.of_)) (h5 : ¬ (¬ (m.kind = 14 ↔ 0 < m.of_))) (h6 : ¬ (m.id < 0)) (h7 : ¬ (1048576 ≤ m.id)) (h8 : ¬ (1048576 < m.epoch)) (h9 : ¬ (1048576 < m.addr)) (h10 : ¬ (m.err < 0)) (h11 : ¬ (255 < m.err)) (kF : placeB m.fr m.fn = true) (kT : placeB m.tr m.tn = true) (kN : sameC m.cell cell0 = true) (kS : streamsB m.streams = true) (kB : backsB m.backs = true) (ka : ballotB m.br m.bc = true) (kb : ballotB m.pr m.pc = false) (kL : noLayB m.lay = true) : ACalls Tryz.prog 57 [encM m] [] (.bool (right10 m)) [] := by
  have qF := place10_ac m.fr m.fn
  have qT := place10_ac m.tr m.tn
  have qN := noCell10B_ac m.cell
  rw [noCell10_eq] at qN
  have qS := streams10_ac m.streams hm.st
  have qB := backs10_ac m.backs hm.b
  rw [backs10_eq] at qB
  have qa := ballot10B_ac m.br m.bc
  rw [ballot10_eq] at qa
  have qb := ballot10B_ac m.pr m.pc
  rw [ballot10_eq] at qb
  have qL := noLay10B_ac m.lay
  rw [noLay10_eq] at qL
  rw [kF] at qF
  rw [kT] at qT
  rw [kN] at qN
  rw [kS] at qS
  rw [kB] at qB
  rw [ka] at qa
  rw [kb] at qb
  rw [kL] at qL
  rw [show right10 m = false by unfold right10; rw [if_neg h1, if_neg h2, if_neg h3, if_neg h4, if_neg h5, if_neg h6, if_neg h7, if_neg h8, if_neg h9, if_neg h10, if_neg h11]; unfold tail10; simp [kF, kT, kN, kS, kB, ka, kb, kL]]
  refine acallsK mixed Tryz.func57 rfl [0, 1, 2, 3, 4, 5, 6, 7, 8, 9, 10, 67] 1000 ([.f, .f, .f, .f, .k, .k, .f, .f, .f, .f, .f, .f, .f, .call [] false true (.bool true) [], .call [] false true (.bool true) [], .call [] false true (.bool true) [], .call [] false true (.bool true) [], .call [] false true (.bool true) [], .call [] false true (.bool true) [], .call [] false true (.bool false) [], .call [] false true (.bool true) []]) [] [] (ob := [decide (m.kind < (1 : Int)) = false,
 decide (m.kind > (14 : Int)) = false,
 decide (m.of_ < (0 : Int)) = false,
 decide (m.of_ > (13 : Int)) = false,
 (!(m.kind == (14 : Int)) == decide (m.of_ > (0 : Int))) = false,
 decide (m.id < (0 : Int)) = false,
 decide (m.id ≥ (1048576 : Int)) = false,
 decide (m.epoch > (1048576 : Int)) = false,
 decide (m.addr > (1048576 : Int)) = false,
 decide (m.err < (0 : Int)) = false,
 decide (m.err > (255 : Int)) = false,
 _,
 _,
 _,
 _,
 _,
 _,
 _,
 _]) (by kernel_rfl) ⟨rfl, rfl⟩ ⟨?z0, ?z1, ?z2, ?z3, ?z4, ?z5, ?z6, ?z7, ?z8, ?z9, ?z10, qF, qT, qN, qS, qB, qa, qb, qL, trivial⟩
  case z0|z1|z2|z3|z4|z5|z6|z7|z8|z9|z10 => first | exact rfl | (simp [encM, celM, celC, celL, h1, h2, h3, h4, h5, h6, h7, h8, h9, h10, h11, kF, kT, kN, kS, kB, ka, kb, kL] <;> omega) | omega | (first | omega | exact xor_yes h5 | exact xor_no h5)
theorem right10_e40 (m : MsgD) (hm : m.ok) (hl : ∀ s ∈ m.lay.segs, s.chains.length ≤ 1000000000) (h1 : ¬ (m.kind < 1)) (h2 : ¬ (14 < m.kind)) (h3 : ¬ (m.of_ < 0)) (h4 : ¬ (13 < m.of_)) (h5 : ¬ (¬ (m.kind = 14 ↔ 0 < m.of_))) (h6 : ¬ (m.id < 0)) (h7 : ¬ (1048576 ≤ m.id)) (h8 : ¬ (1048576 < m.epoch)) (h9 : ¬ (1048576 < m.addr)) (h10 : ¬ (m.err < 0)) (h11 : ¬ (255 < m.err)) (kF : placeB m.fr m.fn = true) (kT : placeB m.tr m.tn = true) (kN : sameC m.cell cell0 = true) (kS : streamsB m.streams = true) (kB : backsB m.backs = true) (ka : ballotB m.br m.bc = true) (kb : ballotB m.pr m.pc = true) (kL : noLayB m.lay = true) : ACalls Tryz.prog 57 [encM m] [] (.bool (right10 m)) [] := by
  have qF := place10_ac m.fr m.fn
  have qT := place10_ac m.tr m.tn
  have qN := noCell10B_ac m.cell
  rw [noCell10_eq] at qN
  have qS := streams10_ac m.streams hm.st
  have qB := backs10_ac m.backs hm.b
  rw [backs10_eq] at qB
  have qa := ballot10B_ac m.br m.bc
  rw [ballot10_eq] at qa
  have qb := ballot10B_ac m.pr m.pc
  rw [ballot10_eq] at qb
  have qL := noLay10B_ac m.lay
  rw [noLay10_eq] at qL
  rw [kF] at qF
  rw [kT] at qT
  rw [kN] at qN
  rw [kS] at qS
  rw [kB] at qB
  rw [ka] at qa
  rw [kb] at qb
  rw [kL] at qL
  rw [show right10 m = true by unfold right10; rw [if_neg h1, if_neg h2, if_neg h3, if_neg h4, if_neg h5, if_neg h6, if_neg h7, if_neg h8, if_neg h9, if_neg h10, if_neg h11]; unfold tail10; simp [kF, kT, kN, kS, kB, ka, kb, kL]]
  refine acallsK mixed Tryz.func57 rfl [0, 1, 2, 3, 4, 5, 6, 7, 8, 9, 10, 67] 1000 ([.f, .f, .f, .f, .k, .k, .f, .f, .f, .f, .f, .f, .f, .call [] false true (.bool true) [], .call [] false true (.bool true) [], .call [] false true (.bool true) [], .call [] false true (.bool true) [], .call [] false true (.bool true) [], .call [] false true (.bool true) [], .call [] false true (.bool true) [], .call [] false true (.bool true) []]) [] [] (ob := [decide (m.kind < (1 : Int)) = false,
 decide (m.kind > (14 : Int)) = false,
 decide (m.of_ < (0 : Int)) = false,
 decide (m.of_ > (13 : Int)) = false,
 (!(m.kind == (14 : Int)) == decide (m.of_ > (0 : Int))) = false,
 decide (m.id < (0 : Int)) = false,
 decide (m.id ≥ (1048576 : Int)) = false,
 decide (m.epoch > (1048576 : Int)) = false,
 decide (m.addr > (1048576 : Int)) = false,
 decide (m.err < (0 : Int)) = false,
 decide (m.err > (255 : Int)) = false,
 _,
 _,
 _,
 _,
 _,
 _,
 _,
 _]) (by kernel_rfl) ⟨rfl, rfl⟩ ⟨?z0, ?z1, ?z2, ?z3, ?z4, ?z5, ?z6, ?z7, ?z8, ?z9, ?z10, qF, qT, qN, qS, qB, qa, qb, qL, trivial⟩
  case z0|z1|z2|z3|z4|z5|z6|z7|z8|z9|z10 => first | exact rfl | (simp [encM, celM, celC, celL, h1, h2, h3, h4, h5, h6, h7, h8, h9, h10, h11, kF, kT, kN, kS, kB, ka, kb, kL] <;> omega) | omega | (first | omega | exact xor_yes h5 | exact xor_no h5)
theorem right10_ac (m : MsgD) (hm : m.ok) (hl : ∀ s ∈ m.lay.segs, s.chains.length ≤ 1000000000) : ACalls Tryz.prog 57 [encM m] [] (.bool (right10 m)) [] := by
  by_cases h1 : m.kind < 1
  · exact right10_e0 m hm hl h1
  by_cases h2 : 14 < m.kind
  · exact right10_e1 m hm hl h1 h2
  by_cases h3 : m.of_ < 0
  · exact right10_e2 m hm hl h1 h2 h3
  by_cases h4 : 13 < m.of_
  · exact right10_e3 m hm hl h1 h2 h3 h4
  by_cases h5 : ¬ (m.kind = 14 ↔ 0 < m.of_)
  · exact right10_e4 m hm hl h1 h2 h3 h4 h5
  by_cases h6 : m.id < 0
  · exact right10_e5 m hm hl h1 h2 h3 h4 h5 h6
  by_cases h7 : 1048576 ≤ m.id
  · exact right10_e6 m hm hl h1 h2 h3 h4 h5 h6 h7
  by_cases h8 : 1048576 < m.epoch
  · exact right10_e7 m hm hl h1 h2 h3 h4 h5 h6 h7 h8
  by_cases h9 : 1048576 < m.addr
  · exact right10_e8 m hm hl h1 h2 h3 h4 h5 h6 h7 h8 h9
  by_cases h10 : m.err < 0
  · exact right10_e9 m hm hl h1 h2 h3 h4 h5 h6 h7 h8 h9 h10
  by_cases h11 : 255 < m.err
  · exact right10_e10 m hm hl h1 h2 h3 h4 h5 h6 h7 h8 h9 h10 h11
  cases kN : sameC m.cell cell0 with
  | false =>
    cases kL : noLayB m.lay with
    | false =>
      cases kF : placeB m.fr m.fn with
      | false => exact right10_e11 m hm hl h1 h2 h3 h4 h5 h6 h7 h8 h9 h10 h11 kF kN kL
      | true =>
        cases kT : placeB m.tr m.tn with
        | false => exact right10_e12 m hm hl h1 h2 h3 h4 h5 h6 h7 h8 h9 h10 h11 kF kT kN kL
        | true =>
          cases kR : rightC m.cell with
          | false => exact right10_e13 m hm hl h1 h2 h3 h4 h5 h6 h7 h8 h9 h10 h11 kF kT kN kR kL
          | true =>
            cases kS : streamsB m.streams with
            | false => exact right10_e14 m hm hl h1 h2 h3 h4 h5 h6 h7 h8 h9 h10 h11 kF kT kN kR kS kL
            | true =>
              cases kB : backsB m.backs with
              | false => exact right10_e15 m hm hl h1 h2 h3 h4 h5 h6 h7 h8 h9 h10 h11 kF kT kN kR kS kB kL
              | true =>
                cases ka : ballotB m.br m.bc with
                | false => exact right10_e16 m hm hl h1 h2 h3 h4 h5 h6 h7 h8 h9 h10 h11 kF kT kN kR kS kB ka kL
                | true =>
                  cases kb : ballotB m.pr m.pc with
                  | false => exact right10_e17 m hm hl h1 h2 h3 h4 h5 h6 h7 h8 h9 h10 h11 kF kT kN kR kS kB ka kb kL
                  | true =>
                    exact right10_e18 m hm hl h1 h2 h3 h4 h5 h6 h7 h8 h9 h10 h11 kF kT kN kR kS kB ka kb kL
    | true =>
      cases kF : placeB m.fr m.fn with
      | false => exact right10_e19 m hm hl h1 h2 h3 h4 h5 h6 h7 h8 h9 h10 h11 kF kN kL
      | true =>
        cases kT : placeB m.tr m.tn with
        | false => exact right10_e20 m hm hl h1 h2 h3 h4 h5 h6 h7 h8 h9 h10 h11 kF kT kN kL
        | true =>
          cases kR : rightC m.cell with
          | false => exact right10_e21 m hm hl h1 h2 h3 h4 h5 h6 h7 h8 h9 h10 h11 kF kT kN kR kL
          | true =>
            cases kS : streamsB m.streams with
            | false => exact right10_e22 m hm hl h1 h2 h3 h4 h5 h6 h7 h8 h9 h10 h11 kF kT kN kR kS kL
            | true =>
              cases kB : backsB m.backs with
              | false => exact right10_e23 m hm hl h1 h2 h3 h4 h5 h6 h7 h8 h9 h10 h11 kF kT kN kR kS kB kL
              | true =>
                cases ka : ballotB m.br m.bc with
                | false => exact right10_e24 m hm hl h1 h2 h3 h4 h5 h6 h7 h8 h9 h10 h11 kF kT kN kR kS kB ka kL
                | true =>
                  cases kb : ballotB m.pr m.pc with
                  | false => exact right10_e25 m hm hl h1 h2 h3 h4 h5 h6 h7 h8 h9 h10 h11 kF kT kN kR kS kB ka kb kL
                  | true =>
                    exact right10_e26 m hm hl h1 h2 h3 h4 h5 h6 h7 h8 h9 h10 h11 kF kT kN kR kS kB ka kb kL
  | true =>
    cases kL : noLayB m.lay with
    | false =>
      cases kF : placeB m.fr m.fn with
      | false => exact right10_e27 m hm hl h1 h2 h3 h4 h5 h6 h7 h8 h9 h10 h11 kF kN kL
      | true =>
        cases kT : placeB m.tr m.tn with
        | false => exact right10_e28 m hm hl h1 h2 h3 h4 h5 h6 h7 h8 h9 h10 h11 kF kT kN kL
        | true =>
          cases kS : streamsB m.streams with
          | false => exact right10_e29 m hm hl h1 h2 h3 h4 h5 h6 h7 h8 h9 h10 h11 kF kT kN kS kL
          | true =>
            cases kB : backsB m.backs with
            | false => exact right10_e30 m hm hl h1 h2 h3 h4 h5 h6 h7 h8 h9 h10 h11 kF kT kN kS kB kL
            | true =>
              cases ka : ballotB m.br m.bc with
              | false => exact right10_e31 m hm hl h1 h2 h3 h4 h5 h6 h7 h8 h9 h10 h11 kF kT kN kS kB ka kL
              | true =>
                cases kb : ballotB m.pr m.pc with
                | false => exact right10_e32 m hm hl h1 h2 h3 h4 h5 h6 h7 h8 h9 h10 h11 kF kT kN kS kB ka kb kL
                | true =>
                  exact right10_e33 m hm hl h1 h2 h3 h4 h5 h6 h7 h8 h9 h10 h11 kF kT kN kS kB ka kb kL
    | true =>
      cases kF : placeB m.fr m.fn with
      | false => exact right10_e34 m hm hl h1 h2 h3 h4 h5 h6 h7 h8 h9 h10 h11 kF kN kL
      | true =>
        cases kT : placeB m.tr m.tn with
        | false => exact right10_e35 m hm hl h1 h2 h3 h4 h5 h6 h7 h8 h9 h10 h11 kF kT kN kL
        | true =>
          cases kS : streamsB m.streams with
          | false => exact right10_e36 m hm hl h1 h2 h3 h4 h5 h6 h7 h8 h9 h10 h11 kF kT kN kS kL
          | true =>
            cases kB : backsB m.backs with
            | false => exact right10_e37 m hm hl h1 h2 h3 h4 h5 h6 h7 h8 h9 h10 h11 kF kT kN kS kB kL
            | true =>
              cases ka : ballotB m.br m.bc with
              | false => exact right10_e38 m hm hl h1 h2 h3 h4 h5 h6 h7 h8 h9 h10 h11 kF kT kN kS kB ka kL
              | true =>
                cases kb : ballotB m.pr m.pc with
                | false => exact right10_e39 m hm hl h1 h2 h3 h4 h5 h6 h7 h8 h9 h10 h11 kF kT kN kS kB ka kb kL
                | true =>
                  exact right10_e40 m hm hl h1 h2 h3 h4 h5 h6 h7 h8 h9 h10 h11 kF kT kN kS kB ka kb kL
theorem right10_eq (m : MsgD) : right10 m = rightM m := by
  unfold right10 rightM
  by_cases h1 : m.kind < 1
  · rw [if_pos h1, if_pos h1]
  rw [if_neg h1, if_neg h1]
  by_cases h2 : 14 < m.kind
  · rw [if_pos h2, if_pos h2]
  rw [if_neg h2, if_neg h2]
  by_cases h3 : m.of_ < 0
  · rw [if_pos h3, if_pos h3]
  rw [if_neg h3, if_neg h3]
  by_cases h4 : 13 < m.of_
  · rw [if_pos h4, if_pos h4]
  rw [if_neg h4, if_neg h4]
  by_cases h5 : ¬ (m.kind = 14 ↔ 0 < m.of_)
  · rw [if_pos h5, if_pos h5]
  rw [if_neg h5, if_neg h5]
  have i1 : inB m.id 1048576 = (!decide (m.id < 0) && !decide (1048576 ≤ m.id)) := by
    by_cases a : m.id < 0 <;> by_cases b : 1048576 ≤ m.id <;> simp [inB, a, b] <;> omega
  have i2 : inB m.err 256 = (!decide (m.err < 0) && !decide (255 < m.err)) := by
    by_cases a : m.err < 0 <;> by_cases b : 255 < m.err <;> simp [inB, a, b] <;> omega
  unfold tail10 restM
  rw [streams_eq]
  have e : ∀ (c : Prop) [Decidable c] (x : Bool), (if c then false else x) = (!decide c && x) := by
    intro c _ x
    by_cases hc : c <;> simp [hc]
  simp only [e, Bool.decide_eq_false, Bool.not_not, i1, i2]
  ac_rfl
theorem rightR10 (m : MsgD) (hm : m.ok) (hl : ∀ s ∈ m.lay.segs, s.chains.length ≤ 1000000000) : ACalls Tryz.prog 57 [encM m] [] (.bool (rightM m)) [] := by
  rw [← right10_eq]
  exact right10_ac m hm hl
end Go.Proofs.YtidgcfgkcidkiaaGreat.Ch
namespace Go.Proofs.YtidgcfgkcidkiaaGreat.Ch
open Go Go.RowKit Go.Proofs.YtidgcfgkcidkiaaGreat.L Go.Proofs.YtidgcfgkcidkiaaGreat.X
set_option linter.unusedVariables false
set_option linter.unusedSimpArgs false
def celR (s : SetD) (at_ : Int) : List AV := [.int .i64 s.client, .int .i64 s.id, .int .u64 s.epoch, .int .u64 s.a, .int .i64 s.cell.kind, .lst 1 (s.cell.data.map byteA), .lst 3 (s.cell.backs.map encB), .lst 1 (s.chain.map intA), .int .i64 at_, .bool s.over, .int .i64 s.e, .int .i64 s.ticks, .int .i64 s.writes]
def refO (s : SetD) (at_ : Int) : List X.Obj := [.vars 88 (celR s at_ ++ [.row 1 22 s.out.length]), .row 50 22 s.out]
theorem rWrite (s : SetD) (k : Nat) {u : Int} (hu : s.chain[k]? = some u) (h3 : s.out.length ≤ 1000) (h4 : 0 ≤ s.writes) (h5 : s.writes ≤ 1000) : ACalls Tryz.prog 50 [.ptr 0 0] (refO s k) (.tup []) (refO (wrote s u) k) := by
  have hk := (List.getElem?_eq_some_iff.1 hu).1
  have hw := wrap_i (x := s.writes + 1) (by omega) (by omega)
  have hg : (s.chain.map intA)[k]? = some (.int .i64 u) := by rw [List.getElem?_map, hu]; rfl
  refine acallsK mixed Tryz.func50 rfl [0, 2] 1000 ([.ix k, .el (intA u), .ls s.out, .ls (s.out ++ [wrM s u]), .n (s.writes + 1)]) [] [0, 6] (ob := [k < List.length (List.map intA s.chain),
 (↑k : Int) = (↑k : Int),
 (List.map intA s.chain)[k]? = some (.int .i64 u),
 ((0 : Nat) + List.length s.out) * (256 : Nat) ≤ (140737488355328 : Nat),
 [] ++ s.out = s.out,
 (List.length s.out + (1 : Nat)) * (256 : Nat) ≤ (140737488355328 : Nat),
 s.out ++ [.agg [.int .i64 (1 : Int), .int .i64 (4 : Int), .int .i64 s.client, .int .i64 (1 : Int), .int .i64 u, .int .i64 s.id, .int .i64 (0 : Int), .int .u64 s.epoch, .int .u64 s.a, .int .i64 (0 : Int), .int .i64 s.cell.kind, .lst (nat_lit 1) (List.map byteA s.cell.data), .lst (nat_lit 3) (List.map encB s.cell.backs), .nils, .nils, .int .i64 (0 : Int), .int .i64 (0 : Int), .int .i64 (0 : Int), .int .i64 (0 : Int), .int .u64 (0 : Int), .nils, .int .i64 (0 : Int)]] = s.out ++ [wrM s u],
 IntKind.i64.wrap (s.writes + (1 : Int)) = s.writes + (1 : Int)]) (by kernel_rfl) ⟨rfl, rfl⟩ ⟨?z0, ?z1, ?z2, ?z3, ?z4, ?z5, ?z6, ?z7, trivial⟩
  case z0|z1|z2|z3|z4|z5|z6|z7 => first | exact rfl | (simp [refO, celR, wrM, wrote, hu, intA] <;> omega) | omega | (first | exact hw | exact hg | omega)
theorem rStart (s : SetD) {u : Int} (hs : s.started = false) (h0 : s.at_ = 0) (hu : s.chain[s.at_]? = some u) (h3 : s.out.length ≤ 1000) (h4 : 0 ≤ s.writes) (h5 : s.writes ≤ 1000) : ACalls Tryz.prog 12 [.ptr 0 0] (refO s (-1)) (.int .i64 0) (refO (startS s u) 0) := by
  rw [h0] at hu
  have q := rWrite { s with started := true } 0 hu h3 h4 h5
  refine acallsK mixed Tryz.func12 rfl [0, 2, 7] 1000 ([.f, .call [0, 1] false false (.tup []) (refO (startS s u) 0)]) [] [0, 3] (ob := [decide ((-1 : Int) ≥ (0 : Int)) = false,
 _]) (by kernel_rfl) ⟨rfl, rfl⟩ ⟨(by first | exact rfl | (simp [refO, celR, wrM, wrote, startS]; done) | (simp [refO, celR, wrM, wrote, startS]; omega) | omega | (omega)), q, trivial⟩
theorem rOut (s : SetD) (at_ : Int) : ACalls Tryz.prog 20 [.ptr 0 0] (refO s at_) (.row 2 22 s.out.length) (refO (emptied s) at_ ++ [.row 50 22 s.out]) := by
  refine acallsK mixed Tryz.func20 rfl [0, 2, 3] 1000 ([.mkc 0 13 50 22]) [] [0, 2, 1] (ob := []) (by kernel_rfl) ⟨rfl, rfl⟩ trivial
def refN (s : SetD) (at_ e : Int) : List X.Obj := [.vars 88 [.int .i64 s.client, .int .i64 s.id, .int .u64 s.epoch, .int .u64 s.a, .int .i64 0, .nils, .nils, .lst 1 (s.chain.map intA), .int .i64 at_, .bool true, .int .i64 e, .int .i64 s.ticks, .int .i64 s.writes, .row 1 22 s.out.length], .row 50 22 s.out]
theorem refN_refO {K : Ctx} {w : World} (s : SetD) (at_ e : Int) (he : e ≠ 0) (h : Rel K (getO (refN s at_ e)) w) : Rel K (getO (refO (ended s e) at_)) w := by
  have hs : refO (ended s e) at_ = .vars 88 ([.int .i64 s.client, .int .i64 s.id, .int .u64 s.epoch, .int .u64 s.a, .int .i64 0, .lst 1 [], .lst 3 [], .lst 1 (s.chain.map intA), .int .i64 at_, .bool true, .int .i64 e, .int .i64 s.ticks, .int .i64 s.writes, .row 1 22 s.out.length]) :: [.row 50 22 s.out] := by
    simp [refO, ended, celR, he]
  rw [hs]
  refine rel_cells h fun ds hd => ⟨hd.1, fun i v d hv hd' => ?_⟩
  by_cases h5 : i = 5
  · subst h5; injection hv with hv; subst hv
    exact nils_lst 1 (by decide) (hd.2 5 _ d rfl hd')
  · by_cases h6 : i = 6
    · subst h6; injection hv with hv; subst hv
      exact nils_lst 3 (by decide) (hd.2 6 _ d rfl hd')
    · refine hd.2 i v d ?_ hd'
      match i, h5, h6, hv with
      | 0, _, _, hv | 1, _, _, hv | 2, _, _, hv | 3, _, _, hv | 4, _, _, hv | 7, _, _, hv | 8, _, _, hv | 9, _, _, hv | 10, _, _, hv | 11, _, _, hv | 12, _, _, hv | 13, _, _, hv => exact hv
      | i + 14, _, _, hv => cases hv
theorem rEnd (s : SetD) (at_ e : Int) : ACalls Tryz.prog 58 [.ptr 0 0, .int .i64 e] (refO s at_) (.tup []) (refO (ended s e) at_) := by
  by_cases he : e = 0
  · subst he
    refine acallsK mixed Tryz.func58 rfl [0, 1, 12] 1000 ([.f]) [] [0, 1] (ob := [((0 : Int) != (0 : Int)) = false]) (by kernel_rfl) ⟨rfl, rfl⟩ ⟨(by first | exact rfl | (simp [refO, celR, ended]; done) | (simp [refO, celR, ended]; omega) | omega | (omega)), trivial⟩
  · have q : ACalls Tryz.prog 58 [.ptr 0 0, .int .i64 e] (refO s at_) (.tup []) (refN s at_ e) := by
      refine acallsK mixed Tryz.func58 rfl [0, 1, 12] 1000 ([.t]) [] [0, 1] (ob := [(e != (0 : Int)) = true]) (by kernel_rfl) ⟨rfl, rfl⟩ ⟨(by first | exact rfl | (simp [refO, celR, refN, he]; done) | (simp [refO, celR, refN, he]; omega) | omega | (omega)), trivial⟩
    exact ACalls.post q (fun _ _ h => h) fun K w h => refN_refO s at_ e he h
theorem rTold (s : SetD) (at_ : Int) : ACalls Tryz.prog 22 [.ptr 0 0] (refO s at_) (.tup [encC (toldC s), .int .i64 (toldE s), .bool s.over]) (refO s at_) := by
  unfold toldC toldE
  by_cases h : s.over = true
  · rw [if_pos h, if_pos h, h]
    refine acallsK mixed Tryz.func22 rfl [0, 2, 3, 4, 9] 1000 ([.t]) [] [0, 1] (ob := [s.over = true]) (by kernel_rfl) ⟨rfl, rfl⟩ ⟨(by first | exact rfl | (simp [refO, celR, encC, celC, h]; done) | (simp [refO, celR, encC, celC, h]; omega) | omega | (omega)), trivial⟩
  · rw [if_neg h, if_neg h]
    have h : s.over = false := by simpa using h
    rw [h]
    have q : ACalls Tryz.prog 22 [.ptr 0 0] (refO s at_) (.tup [nilC, .int .i64 0, .bool false]) (refO s at_) := by
      refine acallsK mixed Tryz.func22 rfl [0, 2, 3, 4, 9] 1000 ([.f]) [] [0, 1] (ob := [s.over = false]) (by kernel_rfl) ⟨rfl, rfl⟩ ⟨(by first | exact rfl | (simp [refO, celR, nilC, h]; done) | (simp [refO, celR, nilC, h]; omega) | omega | (omega)), trivial⟩
    refine ACalls.post q (fun K c hc => ?_) fun _ _ h => h
    obtain ⟨ds, rfl, hd⟩ := hc.tup_inv
    refine VR.mkTup ⟨hd.1, fun i u d hu hd' => ?_⟩
    match i, hu with
    | 0, hu => injection hu with hu; subst hu; exact nilcell (hd.2 0 _ d rfl hd')
    | 1, hu => exact hd.2 1 _ d hu hd'
    | 2, hu => exact hd.2 2 _ d hu hd'
/-- Where the reference says that a settler is. -/
structure At (s : SetD) (at_ : Int) : Prop where
  no : s.started = false → at_ = -1
  yes : s.started = true → 0 ≤ at_
  eq : s.started = true → s.over = false → at_ = s.at_
theorem rTick (s : SetD) (at_ : Int) (hs : s.ok) (ha : At s at_) {v : Int} (hv : s.over = false → s.chain[s.at_]? = some v) : ACalls Tryz.prog 17 [.ptr 0 0] (refO s at_) (.int .i64 0) (refO (tickS s v) at_) := by
  have t0 := hs.t0
  have w0 := hs.w0
  have w1 := hs.w1
  have hu := hs.out
  unfold tickS
  by_cases h1 : s.started = false
  · rw [if_pos (.inl h1)]
    have h0 := ha.no h1
    refine acallsK mixed Tryz.func17 rfl [0, 2, 13, 25, 30] 1000 ([.t]) [] [0, 1] (v1 := .int .i64 0) (objs1 := [.vars 88 (celR s at_ ++ [.row 1 22 (List.length s.out)]), .row 50 22 s.out]) (ob := [decide (at_ < (0 : Int)) = true]) (by kernel_rfl) (by first | exact rfl | exact ⟨rfl, rfl⟩ | (simp [refO, celR, h0]; done) | (omega)) ⟨(by first | exact rfl | (simp [refO, celR, h0]; done) | (simp [refO, celR, h0]; omega) | omega | (omega)), trivial⟩
  · have h1 : s.started = true := by simpa using h1
    have h0 := ha.yes h1
    by_cases h2 : s.over = true
    · rw [if_pos (.inr h2)]
      refine acallsK mixed Tryz.func17 rfl [0, 2, 13, 25, 30] 1000 ([.f, .t]) [] [0, 1] (v1 := .int .i64 0) (objs1 := [.vars 88 (celR s at_ ++ [.row 1 22 (List.length s.out)]), .row 50 22 s.out]) (ob := [decide (at_ < (0 : Int)) = false,
 s.over = true]) (by kernel_rfl) (by first | exact rfl | exact ⟨rfl, rfl⟩ | (simp [refO, celR, h2]; done) | (omega)) ⟨?z0, ?z1, trivial⟩
      case z0|z1 => first | exact rfl | (simp [refO, celR, h2] <;> omega) | omega | (omega)
    · rw [if_neg (by rw [h1]; simp [h2])]
      have h2 : s.over = false := by simpa using h2
      have t1 : s.ticks < 6 := by rcases hs.t1 with h | h; exact h; rw [h2] at h; cases h
      by_cases h3 : s.ticks + 1 < 6
      · rw [if_pos h3]
        refine acallsK mixed Tryz.func17 rfl [0, 2, 13, 25, 30] 1000 ([.f, .f, .n (s.ticks + 1), .t]) [] [0, 1] (v1 := .int .i64 0) (objs1 := [.vars 88 [.int .i64 s.client, .int .i64 s.id, .int .u64 s.epoch, .int .u64 s.a, .int .i64 s.cell.kind, .lst 1 (List.map byteA s.cell.data), .lst 3 (List.map encB s.cell.backs), .lst 1 (List.map intA s.chain), .int .i64 at_, .bool s.over, .int .i64 s.e, .int .i64 (s.ticks + 1), .int .i64 s.writes, .row 1 22 (List.length s.out)], .row 50 22 s.out]) (ob := [decide (at_ < (0 : Int)) = false,
 s.over = false,
 IntKind.i64.wrap (s.ticks + (1 : Int)) = s.ticks + (1 : Int),
 decide (s.ticks + (1 : Int) < (6 : Int)) = true]) (by kernel_rfl) (by first | exact rfl | exact ⟨rfl, rfl⟩ | (simp [refO, celR, h2, h3]; done) | (first | omega | exact wrap_i (by omega) (by omega))) ⟨?z2, ?z3, ?z4, ?z5, trivial⟩
        case z2|z3|z4|z5 => first | exact rfl | (simp [refO, celR, h2, h3] <;> omega) | omega | (first | omega | exact wrap_i (by omega) (by omega))
      · rw [if_neg h3]
        by_cases h4 : 5 ≤ s.writes
        · rw [if_pos h4]
          have q := rEnd { s with ticks := s.ticks + 1 } at_ 162
          refine acallsK mixed Tryz.func17 rfl [0, 2, 13, 25, 30] 1000 ([.f, .f, .n (s.ticks + 1), .f, .t, .call [0, 1] false false (.tup []) (refO (ended { s with ticks := s.ticks + 1 } 162) at_)]) [] [0, 3] (v1 := .int .i64 0) (objs1 := [.vars 88 [.int .i64 (ended { client := s.client, id := s.id, epoch := s.epoch, a := s.a, cell := s.cell, chain := s.chain, at_ := s.at_, started := s.started, over := s.over, e := s.e, ticks := s.ticks + 1, writes := s.writes, out := s.out } 162).client, .int .i64 (ended { client := s.client, id := s.id, epoch := s.epoch, a := s.a, cell := s.cell, chain := s.chain, at_ := s.at_, started := s.started, over := s.over, e := s.e, ticks := s.ticks + 1, writes := s.writes, out := s.out } 162).id, .int .u64 (ended { client := s.client, id := s.id, epoch := s.epoch, a := s.a, cell := s.cell, chain := s.chain, at_ := s.at_, started := s.started, over := s.over, e := s.e, ticks := s.ticks + 1, writes := s.writes, out := s.out } 162).epoch, .int .u64 (ended { client := s.client, id := s.id, epoch := s.epoch, a := s.a, cell := s.cell, chain := s.chain, at_ := s.at_, started := s.started, over := s.over, e := s.e, ticks := s.ticks + 1, writes := s.writes, out := s.out } 162).a, .int .i64 (ended { client := s.client, id := s.id, epoch := s.epoch, a := s.a, cell := s.cell, chain := s.chain, at_ := s.at_, started := s.started, over := s.over, e := s.e, ticks := s.ticks + 1, writes := s.writes, out := s.out } 162).cell.kind, .lst 1 [], .lst 3 [], .lst 1 (List.map intA (ended { client := s.client, id := s.id, epoch := s.epoch, a := s.a, cell := s.cell, chain := s.chain, at_ := s.at_, started := s.started, over := s.over, e := s.e, ticks := s.ticks + 1, writes := s.writes, out := s.out } 162).chain), .int .i64 at_, .bool (ended { client := s.client, id := s.id, epoch := s.epoch, a := s.a, cell := s.cell, chain := s.chain, at_ := s.at_, started := s.started, over := s.over, e := s.e, ticks := s.ticks + 1, writes := s.writes, out := s.out } 162).over, .int .i64 (ended { client := s.client, id := s.id, epoch := s.epoch, a := s.a, cell := s.cell, chain := s.chain, at_ := s.at_, started := s.started, over := s.over, e := s.e, ticks := s.ticks + 1, writes := s.writes, out := s.out } 162).e, .int .i64 (ended { client := s.client, id := s.id, epoch := s.epoch, a := s.a, cell := s.cell, chain := s.chain, at_ := s.at_, started := s.started, over := s.over, e := s.e, ticks := s.ticks + 1, writes := s.writes, out := s.out } 162).ticks, .int .i64 (ended { client := s.client, id := s.id, epoch := s.epoch, a := s.a, cell := s.cell, chain := s.chain, at_ := s.at_, started := s.started, over := s.over, e := s.e, ticks := s.ticks + 1, writes := s.writes, out := s.out } 162).writes, .row 1 22 (List.length (ended { client := s.client, id := s.id, epoch := s.epoch, a := s.a, cell := s.cell, chain := s.chain, at_ := s.at_, started := s.started, over := s.over, e := s.e, ticks := s.ticks + 1, writes := s.writes, out := s.out } 162).out)], .row 50 22 (ended { client := s.client, id := s.id, epoch := s.epoch, a := s.a, cell := s.cell, chain := s.chain, at_ := s.at_, started := s.started, over := s.over, e := s.e, ticks := s.ticks + 1, writes := s.writes, out := s.out } 162).out]) (ob := [decide (at_ < (0 : Int)) = false,
 s.over = false,
 IntKind.i64.wrap (s.ticks + (1 : Int)) = s.ticks + (1 : Int),
 decide (s.ticks + (1 : Int) < (6 : Int)) = false,
 decide (s.writes ≥ (5 : Int)) = true,
 ACalls Tryz.prog 58 [.ptr 0 0, .int .i64 162] [.vars 88 [.int .i64 s.client, .int .i64 s.id, .int .u64 s.epoch, .int .u64 s.a, .int .i64 s.cell.kind, .lst 1 (List.map byteA s.cell.data), .lst 3 (List.map encB s.cell.backs), .lst 1 (List.map intA s.chain), .int .i64 at_, .bool s.over, .int .i64 s.e, .int .i64 (s.ticks + 1), .int .i64 s.writes, .row 1 22 (List.length s.out)], .row 50 22 s.out] (.tup []) [.vars 88 [.int .i64 (ended { client := s.client, id := s.id, epoch := s.epoch, a := s.a, cell := s.cell, chain := s.chain, at_ := s.at_, started := s.started, over := s.over, e := s.e, ticks := s.ticks + 1, writes := s.writes, out := s.out } 162).client, .int .i64 (ended { client := s.client, id := s.id, epoch := s.epoch, a := s.a, cell := s.cell, chain := s.chain, at_ := s.at_, started := s.started, over := s.over, e := s.e, ticks := s.ticks + 1, writes := s.writes, out := s.out } 162).id, .int .u64 (ended { client := s.client, id := s.id, epoch := s.epoch, a := s.a, cell := s.cell, chain := s.chain, at_ := s.at_, started := s.started, over := s.over, e := s.e, ticks := s.ticks + 1, writes := s.writes, out := s.out } 162).epoch, .int .u64 (ended { client := s.client, id := s.id, epoch := s.epoch, a := s.a, cell := s.cell, chain := s.chain, at_ := s.at_, started := s.started, over := s.over, e := s.e, ticks := s.ticks + 1, writes := s.writes, out := s.out } 162).a, .int .i64 (ended { client := s.client, id := s.id, epoch := s.epoch, a := s.a, cell := s.cell, chain := s.chain, at_ := s.at_, started := s.started, over := s.over, e := s.e, ticks := s.ticks + 1, writes := s.writes, out := s.out } 162).cell.kind, .lst 1 [], .lst 3 [], .lst 1 (List.map intA (ended { client := s.client, id := s.id, epoch := s.epoch, a := s.a, cell := s.cell, chain := s.chain, at_ := s.at_, started := s.started, over := s.over, e := s.e, ticks := s.ticks + 1, writes := s.writes, out := s.out } 162).chain), .int .i64 at_, .bool (ended { client := s.client, id := s.id, epoch := s.epoch, a := s.a, cell := s.cell, chain := s.chain, at_ := s.at_, started := s.started, over := s.over, e := s.e, ticks := s.ticks + 1, writes := s.writes, out := s.out } 162).over, .int .i64 (ended { client := s.client, id := s.id, epoch := s.epoch, a := s.a, cell := s.cell, chain := s.chain, at_ := s.at_, started := s.started, over := s.over, e := s.e, ticks := s.ticks + 1, writes := s.writes, out := s.out } 162).e, .int .i64 (ended { client := s.client, id := s.id, epoch := s.epoch, a := s.a, cell := s.cell, chain := s.chain, at_ := s.at_, started := s.started, over := s.over, e := s.e, ticks := s.ticks + 1, writes := s.writes, out := s.out } 162).ticks, .int .i64 (ended { client := s.client, id := s.id, epoch := s.epoch, a := s.a, cell := s.cell, chain := s.chain, at_ := s.at_, started := s.started, over := s.over, e := s.e, ticks := s.ticks + 1, writes := s.writes, out := s.out } 162).writes, .row 1 22 (List.length (ended { client := s.client, id := s.id, epoch := s.epoch, a := s.a, cell := s.cell, chain := s.chain, at_ := s.at_, started := s.started, over := s.over, e := s.e, ticks := s.ticks + 1, writes := s.writes, out := s.out } 162).out)], .row 50 22 (ended { client := s.client, id := s.id, epoch := s.epoch, a := s.a, cell := s.cell, chain := s.chain, at_ := s.at_, started := s.started, over := s.over, e := s.e, ticks := s.ticks + 1, writes := s.writes, out := s.out } 162).out]]) (by kernel_rfl) (by first | exact rfl | exact ⟨rfl, rfl⟩ | (simp [refO, celR, ended, h2, h3, h4]; done) | (first | omega | exact wrap_i (by omega) (by omega))) ⟨?z6, ?z7, ?z8, ?z9, ?z10, ?q95_1, trivial⟩
          case z6|z7|z8|z9|z10 => first | exact rfl | (simp [refO, celR, ended, h2, h3, h4] <;> omega) | omega | (first | omega | exact wrap_i (by omega) (by omega))
          exact q
        · rw [if_neg h4]
          have he := ha.eq h1 h2
          subst he
          have q := rWrite { s with ticks := s.ticks + 1 } s.at_ (hv h2) (by show s.out.length ≤ _; omega) w0 (by show s.writes ≤ _; omega)
          refine acallsK mixed Tryz.func17 rfl [0, 2, 13, 25, 30] 1000 ([.f, .f, .n (s.ticks + 1), .f, .f, .call [0, 1] false false (.tup []) (refO (wrote { s with ticks := s.ticks + 1 } v) s.at_)]) [] [0, 3] (v1 := .int .i64 0) (objs1 := [.vars 88 (celR (wrote { client := s.client, id := s.id, epoch := s.epoch, a := s.a, cell := s.cell, chain := s.chain, at_ := s.at_, started := s.started, over := s.over, e := s.e, ticks := s.ticks + 1, writes := s.writes, out := s.out } v) (↑s.at_ : Int) ++ [.row 1 22 (List.length (wrote { client := s.client, id := s.id, epoch := s.epoch, a := s.a, cell := s.cell, chain := s.chain, at_ := s.at_, started := s.started, over := s.over, e := s.e, ticks := s.ticks + 1, writes := s.writes, out := s.out } v).out)]), .row 50 22 (wrote { client := s.client, id := s.id, epoch := s.epoch, a := s.a, cell := s.cell, chain := s.chain, at_ := s.at_, started := s.started, over := s.over, e := s.e, ticks := s.ticks + 1, writes := s.writes, out := s.out } v).out]) (ob := [decide ((↑s.at_ : Int) < (0 : Int)) = false,
 s.over = false,
 IntKind.i64.wrap (s.ticks + (1 : Int)) = s.ticks + (1 : Int),
 decide (s.ticks + (1 : Int) < (6 : Int)) = false,
 decide (s.writes ≥ (5 : Int)) = false,
 ACalls Tryz.prog 50 [.ptr 0 0] [.vars 88 [.int .i64 s.client, .int .i64 s.id, .int .u64 s.epoch, .int .u64 s.a, .int .i64 s.cell.kind, .lst 1 (List.map byteA s.cell.data), .lst 3 (List.map encB s.cell.backs), .lst 1 (List.map intA s.chain), .int .i64 (↑s.at_ : Int), .bool s.over, .int .i64 s.e, .int .i64 (s.ticks + 1), .int .i64 s.writes, .row 1 22 (List.length s.out)], .row 50 22 s.out] (.tup []) [.vars 88 (celR (wrote { client := s.client, id := s.id, epoch := s.epoch, a := s.a, cell := s.cell, chain := s.chain, at_ := s.at_, started := s.started, over := s.over, e := s.e, ticks := s.ticks + 1, writes := s.writes, out := s.out } v) (↑s.at_ : Int) ++ [.row 1 22 (List.length (wrote { client := s.client, id := s.id, epoch := s.epoch, a := s.a, cell := s.cell, chain := s.chain, at_ := s.at_, started := s.started, over := s.over, e := s.e, ticks := s.ticks + 1, writes := s.writes, out := s.out } v).out)]), .row 50 22 (wrote { client := s.client, id := s.id, epoch := s.epoch, a := s.a, cell := s.cell, chain := s.chain, at_ := s.at_, started := s.started, over := s.over, e := s.e, ticks := s.ticks + 1, writes := s.writes, out := s.out } v).out]]) (by kernel_rfl) (by first | exact rfl | exact ⟨rfl, rfl⟩ | (simp [refO, celR, wrote, h2, h3, h4]; done) | (first | omega | exact wrap_i (by omega) (by omega))) ⟨?z11, ?z12, ?z13, ?z14, ?z15, ?q101_1, trivial⟩
          case z11|z12|z13|z14|z15 => first | exact rfl | (simp [refO, celR, wrote, h2, h3, h4] <;> omega) | omega | (first | omega | exact wrap_i (by omega) (by omega))
          exact q
theorem wr_chain0 : ACalls Tryz.prog 126 [.nils, .nils] [] (.bool true) [] := by
  refine acallsK mixed Tryz.func126 rfl [0, 1, 4, 5, 10, 14, 25] 1000 ([.f, .go, .f]) [] [] (ob := [((0 : Int) != (0 : Int)) = false,
 decide ((0 : Int) < (0 : Int)) = false]) (by kernel_rfl) ⟨rfl, rfl⟩ ⟨?z0, ?z1, trivial⟩
  case z0|z1 => first | exact rfl | (simp [] <;> omega) | omega
theorem wr_same0 : ACalls Tryz.prog 102 [.nils, .nils] [] (.bool true) [] := by
  have q := wr_chain0
  refine acallsK mixed Tryz.func102 rfl [0, 1, 4] 1000 ([.call [] false true (.bool true) []]) [] [] (ob := [_]) (by kernel_rfl) ⟨rfl, rfl⟩ ⟨q, trivial⟩
theorem wr_lay0 : ACalls Tryz.prog 103 [nilL, nilL] [] (.bool true) [] := by
  refine acallsK mixed Tryz.func103 rfl [0, 1, 2, 3, 4, 5, 6, 7, 8, 9, 30, 35, 61, 66, 81] 1000 ([.f, .f, .f, .go, .f]) [] [] (ob := [((0 : Int) != (0 : Int)) = false,
 ((0 : Int) != (0 : Int)) = false,
 ((0 : Int) != (0 : Int)) = false,
 decide ((0 : Int) < (0 : Int)) = false]) (by kernel_rfl) ⟨rfl, rfl⟩ ⟨?z0, ?z1, ?z2, ?z3, trivial⟩
  case z0|z1|z2|z3 => first | exact rfl | (simp [nilL] <;> omega) | omega
theorem sameC_refl (c : CellD) : sameC c c = true := by
  unfold sameC; simp
theorem wr_same (s : SetD) (u : Int) (hs : s.cell.ok) : ACalls Tryz.prog 59 [wrM s u, wrM s u] [] (.bool true) [] := by
  have q1 := wr_same0
  have q2 := same7_ac s.cell s.cell hs hs
  rw [sameC_refl] at q2
  have q3 := wr_lay0
  refine acallsK mixed Tryz.func59 rfl [0, 1, 2, 3, 4, 5, 6, 7, 8, 30, 35, 48] 1000 ([.call [] false true (.bool true) [], .call [] false true (.bool true) [], .call [] false true (.bool true) [], .f, .go, .f, .t, .t, .t, .t, .t, .t, .t, .t, .t, .t]) [] [] (ob := [_,
 _,
 _,
 ((0 : Int) != (0 : Int)) = false,
 decide ((0 : Int) < (0 : Int)) = false,
 ((1 : Int) == (1 : Int)) = true,
 ((0 : Int) == (0 : Int)) = true,
 ((4 : Int) == (4 : Int) && (s.client == s.client && true)) = true,
 ((1 : Int) == (1 : Int) && (u == u && true)) = true,
 (s.id == s.id) = true,
 (s.epoch == s.epoch) = true,
 (s.a == s.a) = true,
 ((0 : Int) == (0 : Int)) = true,
 ((0 : Int) == (0 : Int) && ((0 : Int) == (0 : Int) && true)) = true,
 ((0 : Int) == (0 : Int) && ((0 : Int) == (0 : Int) && true)) = true]) (by kernel_rfl) ⟨rfl, rfl⟩ ⟨q1, q2, q3, ?z0, ?z1, ?z2, ?z3, ?z4, ?z5, ?z6, ?z7, ?z8, ?z9, ?z10, ?z11, trivial⟩
  case z0|z1|z2|z3|z4|z5|z6|z7|z8|z9|z10|z11 => first | exact rfl | (simp [wrM] <;> omega) | omega
def Wrs (xs : List AV) : Prop := ∀ x ∈ xs, ∃ s u, x = wrM s u ∧ s.cell.ok
end Go.Proofs.YtidgcfgkcidkiaaGreat.Ch
namespace Go.Proofs.YtidgcfgkcidkiaaGreat.Ch
open Go Go.RowKit Go.Proofs.YtidgcfgkcidkiaaGreat.L Go.Proofs.YtidgcfgkcidkiaaGreat.X
set_option linter.unusedVariables false
set_option linter.unusedSimpArgs false
theorem rNew_yes (cl id : Int) (l : LayD) (a : Int) (c : CellD) (u : List Int) (hs : ∀ s ∈ l.segs, s.chains.length ≤ 1000000000 ∧ 0 ≤ s.at_) (hb : l.segs.length ≤ 1000000000000) (hk : c.backs.length ≤ 1000000000000) (ha : 0 ≤ a) (h : Asks cl id l a c) (hu : chainL l a = some u) :
    ACalls Tryz.prog 9 [.int .i64 cl, .int .i64 id, encL l, .int .u64 a, encC c] [] (.tup [.ptr 0 0, .int .i64 0]) (refO (fresh cl id l a c u) (-1)) := by
  have q1 := right9_ac l (fun s h => (hs s h).1) hb
  have q2 := rightR7 c hk
  rw [h.lay] at q1
  rw [h.cell] at q2
  have q3 := chain9_ac l a u hs h.lay ha h.at_ hu
  have g1 := h.cl0
  have g2 := h.cl1
  have g3 := h.id0
  have g4 := h.id1
  have g5 := h.at_
  refine acallsK mixed Tryz.func9 rfl [0, 1, 2, 3, 4, 7, 9, 10, 11, 12, 13, 43] 1000 ([.call [] false true (.bool true) [], .call [] false true (.bool true) [], .f, .f, .f, .f, .f, .call [] false false (encU u) [], .mkc 2 13 50 22]) [] [2, 3] (ob := [_,
 _,
 decide (cl < (0 : Int)) = false,
 decide (cl ≥ (4 : Int)) = false,
 decide (id < (0 : Int)) = false,
 decide (id ≥ (1048576 : Int)) = false,
 decide (a ≥ (1048576 : Int)) = false,
 _]) (by kernel_rfl) ⟨rfl, rfl⟩ ⟨q1, q2, ?z0, ?z1, ?z2, ?z3, ?z4, q3, trivial⟩
  case z0|z1|z2|z3|z4 => first | exact rfl | (simp [refO, celR, encL, celL, encC, celC, encU, fresh, g1, g2, g3, g4, g5] <;> omega) | omega | (omega)
theorem idx_lt {l : List Int} {k : Nat} {v : Int} (h : l[k]? = some v) : k < (l.map intA).length := by rw [List.length_map]; exact (List.getElem?_eq_some_iff.1 h).1
theorem idx_at {l : List Int} {k : Nat} {v : Int} (h : l[k]? = some v) : (l.map intA)[k]? = some (.int .i64 v) := by rw [List.getElem?_map, h]; rfl
theorem hearR_e0 (s : SetD) (m : MsgD) (v : Int) (at_ : Int) (ha : At s at_) (hm : m.ok) (hl : ∀ s ∈ m.lay.segs, s.chains.length ≤ 1000000000) (hv : s.over = false → s.chain[s.at_]? = some v) (hno : hearB s m v = false) (h1 : s.started = false) : ACalls Tryz.prog 15 [.ptr 0 0, encM m] (refO s at_) (.bool (hearB s m v)) (refO s at_) := by
  have q := rightR10 m hm hl
  have e1 := ha.no
  have e2 := ha.yes
  rw [show hearB s m v = false by unfold hearB; rw [if_pos h1]]
  refine acallsK mixed Tryz.func15 rfl [0, 1, 3, 4, 5, 6, 7, 8, 79, 103, 117, 118, 120, 134] 1000 ([.call [] false true (.bool (rightM m)) [], .t]) [] [0, 1] (ob := [ACalls Tryz.prog 57 [(encM m)] [] (.bool (rightM m)) [],
 decide (at_ < (0 : Int)) = true]) (by kernel_rfl) ⟨rfl, rfl⟩ ⟨?q125_1, (by first | exact rfl | (simp [refO, celR, encM, celM, celC, celL, intA, h1]; done) | (simp [refO, celR, encM, celM, celC, celL, intA, h1]; omega) | omega | (first | omega | exact decide_eq_true (by have := e1 h1; omega) | exact decide_eq_false (by have := e2 (bt_of h1); omega) | exact ha.eq (bt_of h1) (bf_of h2) | exact idx_lt (hv (bf_of h2)) | exact idx_at (hv (bf_of h2)) | exact two_yes (by assumption) | exact two_no (by assumption))), trivial⟩
  · exact q
theorem hearR_e1 (s : SetD) (m : MsgD) (v : Int) (at_ : Int) (ha : At s at_) (hm : m.ok) (hl : ∀ s ∈ m.lay.segs, s.chains.length ≤ 1000000000) (hv : s.over = false → s.chain[s.at_]? = some v) (hno : hearB s m v = false) (h1 : ¬ (s.started = false)) (h2 : s.over = true) : ACalls Tryz.prog 15 [.ptr 0 0, encM m] (refO s at_) (.bool (hearB s m v)) (refO s at_) := by
  have q := rightR10 m hm hl
  have e1 := ha.no
  have e2 := ha.yes
  rw [show hearB s m v = false by unfold hearB; rw [if_neg h1, if_pos h2]]
  refine acallsK mixed Tryz.func15 rfl [0, 1, 3, 4, 5, 6, 7, 8, 79, 103, 117, 118, 120, 134] 1000 ([.call [] false true (.bool (rightM m)) [], .f, .t]) [] [0, 1] (ob := [ACalls Tryz.prog 57 [(encM m)] [] (.bool (rightM m)) [],
 decide (at_ < (0 : Int)) = false,
 s.over = true]) (by kernel_rfl) ⟨rfl, rfl⟩ ⟨?q132_1, ?z0, ?z1, trivial⟩
  case z0|z1 => first | exact rfl | (simp [refO, celR, encM, celM, celC, celL, intA, h1, h2] <;> omega) | omega | (first | omega | exact decide_eq_true (by have := e1 h1; omega) | exact decide_eq_false (by have := e2 (bt_of h1); omega) | exact ha.eq (bt_of h1) (bf_of h2) | exact idx_lt (hv (bf_of h2)) | exact idx_at (hv (bf_of h2)) | exact two_yes (by assumption) | exact two_no (by assumption))
  · exact q
theorem hearR_e2 (s : SetD) (m : MsgD) (v : Int) (at_ : Int) (ha : At s at_) (hm : m.ok) (hl : ∀ s ∈ m.lay.segs, s.chains.length ≤ 1000000000) (hv : s.over = false → s.chain[s.at_]? = some v) (hno : hearB s m v = false) (h1 : ¬ (s.started = false)) (h2 : ¬ (s.over = true)) (h3 : rightM m = false) : ACalls Tryz.prog 15 [.ptr 0 0, encM m] (refO s at_) (.bool (hearB s m v)) (refO s at_) := by
  have q := rightR10 m hm hl
  have e1 := ha.no
  have e2 := ha.yes
  rw [h3] at q
  rw [show hearB s m v = false by unfold hearB; rw [if_neg h1, if_neg h2, if_pos h3]]
  refine acallsK mixed Tryz.func15 rfl [0, 1, 3, 4, 5, 6, 7, 8, 79, 103, 117, 118, 120, 134] 1000 ([.call [] false true (.bool false) [], .f, .f]) [] [0, 1] (ob := [ACalls Tryz.prog 57 [(encM m)] [] (.bool false) [],
 decide (at_ < (0 : Int)) = false,
 s.over = false]) (by kernel_rfl) ⟨rfl, rfl⟩ ⟨?q140_1, ?z0, ?z1, trivial⟩
  case z0|z1 => first | exact rfl | (simp [refO, celR, encM, celM, celC, celL, intA, bf_of h2, h3] <;> omega) | omega | (first | omega | exact decide_eq_true (by have := e1 h1; omega) | exact decide_eq_false (by have := e2 (bt_of h1); omega) | exact ha.eq (bt_of h1) (bf_of h2) | exact idx_lt (hv (bf_of h2)) | exact idx_at (hv (bf_of h2)) | exact two_yes (by assumption) | exact two_no (by assumption))
  · exact q
theorem hearR_e3 (s : SetD) (m : MsgD) (v : Int) (at_ : Int) (ha : At s at_) (hm : m.ok) (hl : ∀ s ∈ m.lay.segs, s.chains.length ≤ 1000000000) (hv : s.over = false → s.chain[s.at_]? = some v) (hno : hearB s m v = false) (h1 : ¬ (s.started = false)) (h2 : ¬ (s.over = true)) (h3 : rightM m = true) (h4 : ¬ m.kind = 14) : ACalls Tryz.prog 15 [.ptr 0 0, encM m] (refO s at_) (.bool (hearB s m v)) (refO s at_) := by
  have q := rightR10 m hm hl
  have e1 := ha.no
  have e2 := ha.yes
  rw [h3] at q
  rw [show hearB s m v = false by unfold hearB; rw [if_neg h1, if_neg h2, if_neg (by rw [h3]; decide), if_pos h4]]
  refine acallsK mixed Tryz.func15 rfl [0, 1, 3, 4, 5, 6, 7, 8, 79, 103, 117, 118, 120, 134] 1000 ([.call [] false true (.bool true) [], .f, .f, .t]) [] [0, 1] (ob := [ACalls Tryz.prog 57 [(encM m)] [] (.bool true) [],
 decide (at_ < (0 : Int)) = false,
 s.over = false,
 (m.kind != (14 : Int)) = true]) (by kernel_rfl) ⟨rfl, rfl⟩ ⟨?q148_1, ?z0, ?z1, ?z2, trivial⟩
  case z0|z1|z2 => first | exact rfl | (simp [refO, celR, encM, celM, celC, celL, intA, bf_of h2, h3, h4] <;> omega) | omega | (first | omega | exact decide_eq_true (by have := e1 h1; omega) | exact decide_eq_false (by have := e2 (bt_of h1); omega) | exact ha.eq (bt_of h1) (bf_of h2) | exact idx_lt (hv (bf_of h2)) | exact idx_at (hv (bf_of h2)) | exact two_yes (by assumption) | exact two_no (by assumption))
  · exact q
theorem hearR_e4 (s : SetD) (m : MsgD) (v : Int) (at_ : Int) (ha : At s at_) (hm : m.ok) (hl : ∀ s ∈ m.lay.segs, s.chains.length ≤ 1000000000) (hv : s.over = false → s.chain[s.at_]? = some v) (hno : hearB s m v = false) (h1 : ¬ (s.started = false)) (h2 : ¬ (s.over = true)) (h3 : rightM m = true) (h4 : ¬ (¬ m.kind = 14)) (h5 : ¬ m.of_ = 1) : ACalls Tryz.prog 15 [.ptr 0 0, encM m] (refO s at_) (.bool (hearB s m v)) (refO s at_) := by
  have q := rightR10 m hm hl
  have e1 := ha.no
  have e2 := ha.yes
  rw [h3] at q
  rw [show hearB s m v = false by unfold hearB; rw [if_neg h1, if_neg h2, if_neg (by rw [h3]; decide), if_neg h4, if_pos h5]]
  refine acallsK mixed Tryz.func15 rfl [0, 1, 3, 4, 5, 6, 7, 8, 79, 103, 117, 118, 120, 134] 1000 ([.call [] false true (.bool true) [], .f, .f, .f, .t]) [] [0, 1] (ob := [ACalls Tryz.prog 57 [(encM m)] [] (.bool true) [],
 decide (at_ < (0 : Int)) = false,
 s.over = false,
 (m.kind != (14 : Int)) = false,
 (m.of_ != (1 : Int)) = true]) (by kernel_rfl) ⟨rfl, rfl⟩ ⟨?q156_1, ?z0, ?z1, ?z2, ?z3, trivial⟩
  case z0|z1|z2|z3 => first | exact rfl | (simp [refO, celR, encM, celM, celC, celL, intA, bf_of h2, h3, h4, h5] <;> omega) | omega | (first | omega | exact decide_eq_true (by have := e1 h1; omega) | exact decide_eq_false (by have := e2 (bt_of h1); omega) | exact ha.eq (bt_of h1) (bf_of h2) | exact idx_lt (hv (bf_of h2)) | exact idx_at (hv (bf_of h2)) | exact two_yes (by assumption) | exact two_no (by assumption))
  · exact q
theorem hearR_e5 (s : SetD) (m : MsgD) (v : Int) (at_ : Int) (ha : At s at_) (hm : m.ok) (hl : ∀ s ∈ m.lay.segs, s.chains.length ≤ 1000000000) (hv : s.over = false → s.chain[s.at_]? = some v) (hno : hearB s m v = false) (h1 : ¬ (s.started = false)) (h2 : ¬ (s.over = true)) (h3 : rightM m = true) (h4 : ¬ (¬ m.kind = 14)) (h5 : ¬ (¬ m.of_ = 1)) (h6 : ¬ m.id = s.id) : ACalls Tryz.prog 15 [.ptr 0 0, encM m] (refO s at_) (.bool (hearB s m v)) (refO s at_) := by
  have q := rightR10 m hm hl
  have e1 := ha.no
  have e2 := ha.yes
  rw [h3] at q
  rw [show hearB s m v = false by unfold hearB; rw [if_neg h1, if_neg h2, if_neg (by rw [h3]; decide), if_neg h4, if_neg h5, if_pos h6]]
  refine acallsK mixed Tryz.func15 rfl [0, 1, 3, 4, 5, 6, 7, 8, 79, 103, 117, 118, 120, 134] 1000 ([.call [] false true (.bool true) [], .f, .f, .f, .f, .t]) [] [0, 1] (ob := [ACalls Tryz.prog 57 [(encM m)] [] (.bool true) [],
 decide (at_ < (0 : Int)) = false,
 s.over = false,
 (m.kind != (14 : Int)) = false,
 (m.of_ != (1 : Int)) = false,
 (m.id != s.id) = true]) (by kernel_rfl) ⟨rfl, rfl⟩ ⟨?q164_1, ?z0, ?z1, ?z2, ?z3, ?z4, trivial⟩
  case z0|z1|z2|z3|z4 => first | exact rfl | (simp [refO, celR, encM, celM, celC, celL, intA, bf_of h2, h3, h4, h5, h6] <;> omega) | omega | (first | omega | exact decide_eq_true (by have := e1 h1; omega) | exact decide_eq_false (by have := e2 (bt_of h1); omega) | exact ha.eq (bt_of h1) (bf_of h2) | exact idx_lt (hv (bf_of h2)) | exact idx_at (hv (bf_of h2)) | exact two_yes (by assumption) | exact two_no (by assumption))
  · exact q
theorem hearR_e6 (s : SetD) (m : MsgD) (v : Int) (at_ : Int) (ha : At s at_) (hm : m.ok) (hl : ∀ s ∈ m.lay.segs, s.chains.length ≤ 1000000000) (hv : s.over = false → s.chain[s.at_]? = some v) (hno : hearB s m v = false) (h1 : ¬ (s.started = false)) (h2 : ¬ (s.over = true)) (h3 : rightM m = true) (h4 : ¬ (¬ m.kind = 14)) (h5 : ¬ (¬ m.of_ = 1)) (h6 : ¬ (¬ m.id = s.id)) (h7 : ¬ m.addr = s.a) : ACalls Tryz.prog 15 [.ptr 0 0, encM m] (refO s at_) (.bool (hearB s m v)) (refO s at_) := by
  have q := rightR10 m hm hl
  have e1 := ha.no
  have e2 := ha.yes
  rw [h3] at q
  rw [show hearB s m v = false by unfold hearB; rw [if_neg h1, if_neg h2, if_neg (by rw [h3]; decide), if_neg h4, if_neg h5, if_neg h6, if_pos h7]]
  refine acallsK mixed Tryz.func15 rfl [0, 1, 3, 4, 5, 6, 7, 8, 79, 103, 117, 118, 120, 134] 1000 ([.call [] false true (.bool true) [], .f, .f, .f, .f, .f, .t]) [] [0, 1] (ob := [ACalls Tryz.prog 57 [(encM m)] [] (.bool true) [],
 decide (at_ < (0 : Int)) = false,
 s.over = false,
 (m.kind != (14 : Int)) = false,
 (m.of_ != (1 : Int)) = false,
 (m.id != s.id) = false,
 (m.addr != s.a) = true]) (by kernel_rfl) ⟨rfl, rfl⟩ ⟨?q172_1, ?z0, ?z1, ?z2, ?z3, ?z4, ?z5, trivial⟩
  case z0|z1|z2|z3|z4|z5 => first | exact rfl | (simp [refO, celR, encM, celM, celC, celL, intA, bf_of h2, h3, h4, h5, h6, h7] <;> omega) | omega | (first | omega | exact decide_eq_true (by have := e1 h1; omega) | exact decide_eq_false (by have := e2 (bt_of h1); omega) | exact ha.eq (bt_of h1) (bf_of h2) | exact idx_lt (hv (bf_of h2)) | exact idx_at (hv (bf_of h2)) | exact two_yes (by assumption) | exact two_no (by assumption))
  · exact q
theorem hearR_e7 (s : SetD) (m : MsgD) (v : Int) (at_ : Int) (ha : At s at_) (hm : m.ok) (hl : ∀ s ∈ m.lay.segs, s.chains.length ≤ 1000000000) (hv : s.over = false → s.chain[s.at_]? = some v) (hno : hearB s m v = false) (h1 : ¬ (s.started = false)) (h2 : ¬ (s.over = true)) (h3 : rightM m = true) (h4 : ¬ (¬ m.kind = 14)) (h5 : ¬ (¬ m.of_ = 1)) (h6 : ¬ (¬ m.id = s.id)) (h7 : ¬ (¬ m.addr = s.a)) (h8 : ¬ (m.tr = 4 ∧ m.tn = s.client)) : ACalls Tryz.prog 15 [.ptr 0 0, encM m] (refO s at_) (.bool (hearB s m v)) (refO s at_) := by
  have q := rightR10 m hm hl
  have e1 := ha.no
  have e2 := ha.yes
  rw [h3] at q
  rw [show hearB s m v = false by unfold hearB; rw [if_neg h1, if_neg h2, if_neg (by rw [h3]; decide), if_neg h4, if_neg h5, if_neg h6, if_neg h7, if_pos h8]]
  refine acallsK mixed Tryz.func15 rfl [0, 1, 3, 4, 5, 6, 7, 8, 79, 103, 117, 118, 120, 134] 1000 ([.call [] false true (.bool true) [], .f, .f, .f, .f, .f, .f, .t]) [] [0, 1] (ob := [ACalls Tryz.prog 57 [(encM m)] [] (.bool true) [],
 decide (at_ < (0 : Int)) = false,
 s.over = false,
 (m.kind != (14 : Int)) = false,
 (m.of_ != (1 : Int)) = false,
 (m.id != s.id) = false,
 (m.addr != s.a) = false,
 (!(m.tr == (4 : Int) && (m.tn == s.client && true))) = true]) (by kernel_rfl) ⟨rfl, rfl⟩ ⟨?q180_1, ?z0, ?z1, ?z2, ?z3, ?z4, ?z5, ?z6, trivial⟩
  case z0|z1|z2|z3|z4|z5|z6 => first | exact rfl | (simp [refO, celR, encM, celM, celC, celL, intA, bf_of h2, h3, h4, h5, h6, h7, h8] <;> omega) | omega | (first | omega | exact decide_eq_true (by have := e1 h1; omega) | exact decide_eq_false (by have := e2 (bt_of h1); omega) | exact ha.eq (bt_of h1) (bf_of h2) | exact idx_lt (hv (bf_of h2)) | exact idx_at (hv (bf_of h2)) | exact two_yes (by assumption) | exact two_no (by assumption))
  · exact q
theorem hearR_e8 (s : SetD) (m : MsgD) (v : Int) (at_ : Int) (ha : At s at_) (hm : m.ok) (hl : ∀ s ∈ m.lay.segs, s.chains.length ≤ 1000000000) (hv : s.over = false → s.chain[s.at_]? = some v) (hno : hearB s m v = false) (h1 : ¬ (s.started = false)) (h2 : ¬ (s.over = true)) (h3 : rightM m = true) (h4 : ¬ (¬ m.kind = 14)) (h5 : ¬ (¬ m.of_ = 1)) (h6 : ¬ (¬ m.id = s.id)) (h7 : ¬ (¬ m.addr = s.a)) (h8 : ¬ (¬ (m.tr = 4 ∧ m.tn = s.client))) (h9 : ¬ (m.fr = 1 ∧ m.fn = v)) : ACalls Tryz.prog 15 [.ptr 0 0, encM m] (refO s at_) (.bool (hearB s m v)) (refO s at_) := by
  have q := rightR10 m hm hl
  have e1 := ha.no
  have e2 := ha.yes
  rw [h3] at q
  rw [show hearB s m v = false by unfold hearB; rw [if_neg h1, if_neg h2, if_neg (by rw [h3]; decide), if_neg h4, if_neg h5, if_neg h6, if_neg h7, if_neg h8, if_pos h9]]
  refine acallsK mixed Tryz.func15 rfl [0, 1, 3, 4, 5, 6, 7, 8, 79, 103, 117, 118, 120, 134] 1000 ([.call [] false true (.bool true) [], .f, .f, .f, .f, .f, .f, .f, .ix s.at_, .el (intA v), .t]) [] [0, 1] (ob := [ACalls Tryz.prog 57 [(encM m)] [] (.bool true) [],
 decide (at_ < (0 : Int)) = false,
 s.over = false,
 (m.kind != (14 : Int)) = false,
 (m.of_ != (1 : Int)) = false,
 (m.id != s.id) = false,
 (m.addr != s.a) = false,
 (!(m.tr == (4 : Int) && (m.tn == s.client && true))) = false,
 s.at_ < List.length (List.map intA s.chain),
 at_ = (↑s.at_ : Int),
 (List.map intA s.chain)[s.at_]? = some (.int .i64 v),
 (!(m.fr == (1 : Int) && (m.fn == v && true))) = true]) (by kernel_rfl) ⟨rfl, rfl⟩ ⟨?q188_1, ?z0, ?z1, ?z2, ?z3, ?z4, ?z5, ?z6, ?z7, ?z8, ?z9, ?z10, trivial⟩
  case z0|z1|z2|z3|z4|z5|z6|z7|z8|z9|z10 => first | exact rfl | (simp [refO, celR, encM, celM, celC, celL, intA, bf_of h2, h3, h4, h5, h6, h7, h8, h9] <;> omega) | omega | (first | omega | exact decide_eq_true (by have := e1 h1; omega) | exact decide_eq_false (by have := e2 (bt_of h1); omega) | exact ha.eq (bt_of h1) (bf_of h2) | exact idx_lt (hv (bf_of h2)) | exact idx_at (hv (bf_of h2)) | exact two_yes (by assumption) | exact two_no (by assumption))
  · exact q
theorem hearR_ac (s : SetD) (m : MsgD) (v : Int) (at_ : Int) (ha : At s at_) (hm : m.ok) (hl : ∀ s ∈ m.lay.segs, s.chains.length ≤ 1000000000) (hv : s.over = false → s.chain[s.at_]? = some v) (hno : hearB s m v = false) : ACalls Tryz.prog 15 [.ptr 0 0, encM m] (refO s at_) (.bool (hearB s m v)) (refO s at_) := by
  by_cases h1 : s.started = false
  · exact hearR_e0 s m v at_ ha hm hl hv hno h1
  by_cases h2 : s.over = true
  · exact hearR_e1 s m v at_ ha hm hl hv hno h1 h2
  cases h3 : rightM m with
  | false => exact hearR_e2 s m v at_ ha hm hl hv hno h1 h2 h3
  | true =>
    by_cases h4 : ¬ m.kind = 14
    · exact hearR_e3 s m v at_ ha hm hl hv hno h1 h2 h3 h4
    by_cases h5 : ¬ m.of_ = 1
    · exact hearR_e4 s m v at_ ha hm hl hv hno h1 h2 h3 h4 h5
    by_cases h6 : ¬ m.id = s.id
    · exact hearR_e5 s m v at_ ha hm hl hv hno h1 h2 h3 h4 h5 h6
    by_cases h7 : ¬ m.addr = s.a
    · exact hearR_e6 s m v at_ ha hm hl hv hno h1 h2 h3 h4 h5 h6 h7
    by_cases h8 : ¬ (m.tr = 4 ∧ m.tn = s.client)
    · exact hearR_e7 s m v at_ ha hm hl hv hno h1 h2 h3 h4 h5 h6 h7 h8
    by_cases h9 : ¬ (m.fr = 1 ∧ m.fn = v)
    · exact hearR_e8 s m v at_ ha hm hl hv hno h1 h2 h3 h4 h5 h6 h7 h8 h9
    exact absurd hno (by rw [show hearB s m v = true by unfold hearB; rw [if_neg h1, if_neg h2, if_neg (by rw [h3]; decide), if_neg h4, if_neg h5, if_neg h6, if_neg h7, if_neg h8, if_neg h9]]; decide)
def atR (s : SetD) (m : MsgD) (v : Int) (at_ : Int) : Int := if hearB s m v = true then (if (stepS s m).over = true then s.at_ else s.at_ + 1) else at_
theorem hearY_a1 (s : SetD) (m : MsgD) (v : Int) (hs : s.ok) (hm : m.ok) (hl : ∀ s ∈ m.lay.segs, s.chains.length ≤ 1000000000) (hv : s.chain[s.at_]? = some v) (H : Heard s m v) (k1 : ¬ m.err = 81) (k2 : m.err = 0) (hz : s.at_ + 1 = s.chain.length) : ACalls Tryz.prog 15 [.ptr 0 0, encM m] (refO s s.at_) (.bool true) (refO (ended s 0) (s.at_)) := by
  have q := rightR10 m hm hl
  rw [H.rt] at q
  have q1 := rightR7 m.cell hm.cell.b
  have q2 := same7_ac m.cell s.cell hm.cell hs.cell
  have hc := hs.ch
  have ho := hs.out
  have hw1 : IntKind.i64.wrap ((s.at_ : Int) + 1) = ((s.at_ + 1 : Nat) : Int) := wrap64 (by omega)
  have q3 := rEnd s s.at_ 0
  refine acallsK mixed Tryz.func15 rfl [0, 1, 3, 4, 5, 6, 7, 8, 79, 103, 117, 118, 120, 134] 1000 ([.call [] false true (.bool true) [], .f, .f, .f, .f, .f, .f, .f, .ix s.at_, .el (intA v), .f, .call [] false true (.bool (rightC m.cell)) [], .call [] false true (.bool (sameC m.cell s.cell)) [], .f, .f, .f, .n ((s.at_ + 1 : Nat) : Int), .n s.chain.length, .t, .call [0, 1] false false (.tup []) (refO (ended s 0) s.at_)]) [] [0, 4] (ob := [_,
 decide ((↑s.at_ : Int) < (0 : Int)) = false,
 s.over = false,
 (m.kind != (14 : Int)) = false,
 (m.of_ != (1 : Int)) = false,
 (m.id != s.id) = false,
 (m.addr != s.a) = false,
 (!(m.tr == (4 : Int) && (m.tn == s.client && true))) = false,
 s.at_ < List.length (List.map intA s.chain),
 (↑s.at_ : Int) = (↑s.at_ : Int),
 (List.map intA s.chain)[s.at_]? = some (.int .i64 v),
 (!(m.fr == (1 : Int) && (m.fn == v && true))) = false,
 _,
 _,
 (m.err == (81 : Int)) = false,
 (m.err == (81 : Int)) = false,
 (m.err != (0 : Int)) = false,
 IntKind.i64.wrap ((↑s.at_ : Int) + (1 : Int)) = (↑(s.at_ + (1 : Nat)) : Int),
 ((List.map intA s.chain).length : Int) = (s.chain.length : Int),
 ((↑(s.at_ + (1 : Nat)) : Int) == (s.chain.length : Int)) = true,
 _]) (by kernel_rfl) ⟨rfl, rfl⟩ ⟨q, ?z0, ?z1, ?z2, ?z3, ?z4, ?z5, ?z6, ?z7, ?z8, ?z9, ?z10, q1, q2, ?z11, ?z12, ?z13, ?z14, ?z15, ?z16, q3, trivial⟩
  case z0|z1|z2|z3|z4|z5|z6|z7|z8|z9|z10|z11|z12|z13|z14|z15|z16 => first | exact rfl | (simp [refO, celR, encM, celM, celC, celL, intA, H.ov, H.kd, H.of1, H.id, H.ad, H.to1, H.to2, H.fr1, H.fr2, k1, k2, hz] <;> omega) | omega | (first | omega | exact idx_lt hv | exact idx_at hv | exact two_no (fun h => h ⟨by first | exact H.to1 | exact H.fr1, by first | exact H.to2 | exact H.fr2⟩) | exact hw1)
theorem hearY_a2 (s : SetD) (m : MsgD) (v : Int) (hs : s.ok) (hm : m.ok) (hl : ∀ s ∈ m.lay.segs, s.chains.length ≤ 1000000000) (hv : s.chain[s.at_]? = some v) (H : Heard s m v) (k1 : ¬ m.err = 81) (k2 : m.err = 0) {v2 : Int} (hv2 : s.chain[s.at_ + 1]? = some v2) : ACalls Tryz.prog 15 [.ptr 0 0, encM m] (refO s s.at_) (.bool true) (refO (nextS s v2) (((s.at_ + 1 : Nat) : Int))) := by
  have q := rightR10 m hm hl
  rw [H.rt] at q
  have q1 := rightR7 m.cell hm.cell.b
  have q2 := same7_ac m.cell s.cell hm.cell hs.cell
  have hc := hs.ch
  have ho := hs.out
  have hz : s.at_ + 1 < s.chain.length := (List.getElem?_eq_some_iff.1 hv2).1
  have hw1 : IntKind.i64.wrap ((s.at_ : Int) + 1) = ((s.at_ + 1 : Nat) : Int) := wrap64 (by omega)
  have q3 := rWrite { s with at_ := s.at_ + 1, writes := 0 } (s.at_ + 1) hv2 (by show s.out.length ≤ _; omega) (by show (0 : Int) ≤ 0; omega) (by show (0 : Int) ≤ 1000; omega)
  refine acallsK mixed Tryz.func15 rfl [0, 1, 3, 4, 5, 6, 7, 8, 79, 103, 117, 118, 120, 134] 1000 ([.call [] false true (.bool true) [], .f, .f, .f, .f, .f, .f, .f, .ix s.at_, .el (intA v), .f, .call [] false true (.bool (rightC m.cell)) [], .call [] false true (.bool (sameC m.cell s.cell)) [], .f, .f, .f, .n ((s.at_ + 1 : Nat) : Int), .n s.chain.length, .f, .n ((s.at_ + 1 : Nat) : Int), .call [0, 1] false false (.tup []) (refO (nextS s v2) ((s.at_ + 1 : Nat) : Int))]) [] [0, 4] (ob := [_,
 decide ((↑s.at_ : Int) < (0 : Int)) = false,
 s.over = false,
 (m.kind != (14 : Int)) = false,
 (m.of_ != (1 : Int)) = false,
 (m.id != s.id) = false,
 (m.addr != s.a) = false,
 (!(m.tr == (4 : Int) && (m.tn == s.client && true))) = false,
 s.at_ < List.length (List.map intA s.chain),
 (↑s.at_ : Int) = (↑s.at_ : Int),
 (List.map intA s.chain)[s.at_]? = some (.int .i64 v),
 (!(m.fr == (1 : Int) && (m.fn == v && true))) = false,
 _,
 _,
 (m.err == (81 : Int)) = false,
 (m.err == (81 : Int)) = false,
 (m.err != (0 : Int)) = false,
 IntKind.i64.wrap ((↑s.at_ : Int) + (1 : Int)) = (↑(s.at_ + (1 : Nat)) : Int),
 ((List.map intA s.chain).length : Int) = (s.chain.length : Int),
 ((↑(s.at_ + (1 : Nat)) : Int) == (s.chain.length : Int)) = false,
 IntKind.i64.wrap ((↑s.at_ : Int) + (1 : Int)) = (↑(s.at_ + (1 : Nat)) : Int),
 _]) (by kernel_rfl) ⟨rfl, rfl⟩ ⟨q, ?z0, ?z1, ?z2, ?z3, ?z4, ?z5, ?z6, ?z7, ?z8, ?z9, ?z10, q1, q2, ?z11, ?z12, ?z13, ?z14, ?z15, ?z16, ?z17, q3, trivial⟩
  case z0|z1|z2|z3|z4|z5|z6|z7|z8|z9|z10|z11|z12|z13|z14|z15|z16|z17 => first | exact rfl | (simp [refO, celR, nextS, wrote, encM, celM, celC, celL, intA, H.ov, H.kd, H.of1, H.id, H.ad, H.to1, H.to2, H.fr1, H.fr2, k1, k2] <;> omega) | omega | (first | omega | exact idx_lt hv | exact idx_at hv | exact two_no (fun h => h ⟨by first | exact H.to1 | exact H.fr1, by first | exact H.to2 | exact H.fr2⟩) | exact hw1)
theorem hearY_b (s : SetD) (m : MsgD) (v : Int) (hs : s.ok) (hm : m.ok) (hl : ∀ s ∈ m.lay.segs, s.chains.length ≤ 1000000000) (hv : s.chain[s.at_]? = some v) (H : Heard s m v) (k1 : ¬ m.err = 81) (k2 : ¬ m.err = 0) : ACalls Tryz.prog 15 [.ptr 0 0, encM m] (refO s s.at_) (.bool true) (refO (ended s m.err) (s.at_)) := by
  have q := rightR10 m hm hl
  rw [H.rt] at q
  have q1 := rightR7 m.cell hm.cell.b
  have q2 := same7_ac m.cell s.cell hm.cell hs.cell
  have hc := hs.ch
  have ho := hs.out
  have q3 := rEnd s s.at_ m.err
  refine acallsK mixed Tryz.func15 rfl [0, 1, 3, 4, 5, 6, 7, 8, 79, 103, 117, 118, 120, 134] 1000 ([.call [] false true (.bool true) [], .f, .f, .f, .f, .f, .f, .f, .ix s.at_, .el (intA v), .f, .call [] false true (.bool (rightC m.cell)) [], .call [] false true (.bool (sameC m.cell s.cell)) [], .f, .f, .t, .call [0, 1] false false (.tup []) (refO (ended s m.err) s.at_)]) [] [0, 4] (ob := [_,
 decide ((↑s.at_ : Int) < (0 : Int)) = false,
 s.over = false,
 (m.kind != (14 : Int)) = false,
 (m.of_ != (1 : Int)) = false,
 (m.id != s.id) = false,
 (m.addr != s.a) = false,
 (!(m.tr == (4 : Int) && (m.tn == s.client && true))) = false,
 s.at_ < List.length (List.map intA s.chain),
 (↑s.at_ : Int) = (↑s.at_ : Int),
 (List.map intA s.chain)[s.at_]? = some (.int .i64 v),
 (!(m.fr == (1 : Int) && (m.fn == v && true))) = false,
 _,
 _,
 (m.err == (81 : Int)) = false,
 (m.err == (81 : Int)) = false,
 (m.err != (0 : Int)) = true,
 _]) (by kernel_rfl) ⟨rfl, rfl⟩ ⟨q, ?z0, ?z1, ?z2, ?z3, ?z4, ?z5, ?z6, ?z7, ?z8, ?z9, ?z10, q1, q2, ?z11, ?z12, ?z13, q3, trivial⟩
  case z0|z1|z2|z3|z4|z5|z6|z7|z8|z9|z10|z11|z12|z13 => first | exact rfl | (simp [refO, celR, encM, celM, celC, celL, intA, H.ov, H.kd, H.of1, H.id, H.ad, H.to1, H.to2, H.fr1, H.fr2, k1, k2] <;> omega) | omega | (first | omega | exact idx_lt hv | exact idx_at hv | exact two_no (fun h => h ⟨by first | exact H.to1 | exact H.fr1, by first | exact H.to2 | exact H.fr2⟩) | exact hw1)
theorem hearY_c (s : SetD) (m : MsgD) (v : Int) (hs : s.ok) (hm : m.ok) (hl : ∀ s ∈ m.lay.segs, s.chains.length ≤ 1000000000) (hv : s.chain[s.at_]? = some v) (H : Heard s m v) (k1 : m.err = 81) (k2 : 0 < s.at_) (k3 : sameC m.cell s.cell = false) : ACalls Tryz.prog 15 [.ptr 0 0, encM m] (refO s s.at_) (.bool true) (refO (ended s 191) (s.at_)) := by
  have q := rightR10 m hm hl
  rw [H.rt] at q
  have q1 := rightR7 m.cell hm.cell.b
  have q2 := same7_ac m.cell s.cell hm.cell hs.cell
  have hc := hs.ch
  have ho := hs.out
  rw [k3] at q2
  have q3 := rEnd s s.at_ 191
  refine acallsK mixed Tryz.func15 rfl [0, 1, 3, 4, 5, 6, 7, 8, 79, 103, 117, 118, 120, 134] 1000 ([.call [] false true (.bool true) [], .f, .f, .f, .f, .f, .f, .f, .ix s.at_, .el (intA v), .f, .call [] false true (.bool (rightC m.cell)) [], .call [] false true (.bool false) [], .t, .f, .t, .t, .t, .call [0, 1] false false (.tup []) (refO (ended s 191) s.at_)]) [] [0, 4] (ob := [_,
 decide ((↑s.at_ : Int) < (0 : Int)) = false,
 s.over = false,
 (m.kind != (14 : Int)) = false,
 (m.of_ != (1 : Int)) = false,
 (m.id != s.id) = false,
 (m.addr != s.a) = false,
 (!(m.tr == (4 : Int) && (m.tn == s.client && true))) = false,
 s.at_ < List.length (List.map intA s.chain),
 (↑s.at_ : Int) = (↑s.at_ : Int),
 (List.map intA s.chain)[s.at_]? = some (.int .i64 v),
 (!(m.fr == (1 : Int) && (m.fn == v && true))) = false,
 _,
 _,
 (m.err == (81 : Int)) = true,
 ((↑s.at_ : Int) == (0 : Int)) = false,
 (m.err == (81 : Int)) = true,
 decide ((↑s.at_ : Int) > (0 : Int)) = true,
 ((191 : Int) != (0 : Int)) = true,
 _]) (by kernel_rfl) ⟨rfl, rfl⟩ ⟨q, ?z0, ?z1, ?z2, ?z3, ?z4, ?z5, ?z6, ?z7, ?z8, ?z9, ?z10, q1, q2, ?z11, ?z12, ?z13, ?z14, ?z15, q3, trivial⟩
  case z0|z1|z2|z3|z4|z5|z6|z7|z8|z9|z10|z11|z12|z13|z14|z15 => first | exact rfl | (simp [refO, celR, encM, celM, celC, celL, intA, H.ov, H.kd, H.of1, H.id, H.ad, H.to1, H.to2, H.fr1, H.fr2, k1, k2] <;> omega) | omega | (first | omega | exact idx_lt hv | exact idx_at hv | exact two_no (fun h => h ⟨by first | exact H.to1 | exact H.fr1, by first | exact H.to2 | exact H.fr2⟩) | exact hw1)
theorem hearY_d1 (s : SetD) (m : MsgD) (v : Int) (hs : s.ok) (hm : m.ok) (hl : ∀ s ∈ m.lay.segs, s.chains.length ≤ 1000000000) (hv : s.chain[s.at_]? = some v) (H : Heard s m v) (k1 : m.err = 81) (k2 : 0 < s.at_) (k3 : sameC m.cell s.cell = true) (hz : s.at_ + 1 = s.chain.length) : ACalls Tryz.prog 15 [.ptr 0 0, encM m] (refO s s.at_) (.bool true) (refO (ended s 0) (s.at_)) := by
  have q := rightR10 m hm hl
  rw [H.rt] at q
  have q1 := rightR7 m.cell hm.cell.b
  have q2 := same7_ac m.cell s.cell hm.cell hs.cell
  have hc := hs.ch
  have ho := hs.out
  rw [k3] at q2
  have hw1 : IntKind.i64.wrap ((s.at_ : Int) + 1) = ((s.at_ + 1 : Nat) : Int) := wrap64 (by omega)
  have q3 := rEnd s s.at_ 0
  refine acallsK mixed Tryz.func15 rfl [0, 1, 3, 4, 5, 6, 7, 8, 79, 103, 117, 118, 120, 134] 1000 ([.call [] false true (.bool true) [], .f, .f, .f, .f, .f, .f, .f, .ix s.at_, .el (intA v), .f, .call [] false true (.bool (rightC m.cell)) [], .call [] false true (.bool true) [], .t, .f, .t, .t, .f, .n ((s.at_ + 1 : Nat) : Int), .n s.chain.length, .t, .call [0, 1] false false (.tup []) (refO (ended s 0) s.at_)]) [] [0, 4] (ob := [_,
 decide ((↑s.at_ : Int) < (0 : Int)) = false,
 s.over = false,
 (m.kind != (14 : Int)) = false,
 (m.of_ != (1 : Int)) = false,
 (m.id != s.id) = false,
 (m.addr != s.a) = false,
 (!(m.tr == (4 : Int) && (m.tn == s.client && true))) = false,
 s.at_ < List.length (List.map intA s.chain),
 (↑s.at_ : Int) = (↑s.at_ : Int),
 (List.map intA s.chain)[s.at_]? = some (.int .i64 v),
 (!(m.fr == (1 : Int) && (m.fn == v && true))) = false,
 _,
 _,
 (m.err == (81 : Int)) = true,
 ((↑s.at_ : Int) == (0 : Int)) = false,
 (m.err == (81 : Int)) = true,
 decide ((↑s.at_ : Int) > (0 : Int)) = true,
 ((0 : Int) != (0 : Int)) = false,
 IntKind.i64.wrap ((↑s.at_ : Int) + (1 : Int)) = (↑(s.at_ + (1 : Nat)) : Int),
 ((List.map intA s.chain).length : Int) = (s.chain.length : Int),
 ((↑(s.at_ + (1 : Nat)) : Int) == (s.chain.length : Int)) = true,
 _]) (by kernel_rfl) ⟨rfl, rfl⟩ ⟨q, ?z0, ?z1, ?z2, ?z3, ?z4, ?z5, ?z6, ?z7, ?z8, ?z9, ?z10, q1, q2, ?z11, ?z12, ?z13, ?z14, ?z15, ?z16, ?z17, ?z18, q3, trivial⟩
  case z0|z1|z2|z3|z4|z5|z6|z7|z8|z9|z10|z11|z12|z13|z14|z15|z16|z17|z18 => first | exact rfl | (simp [refO, celR, encM, celM, celC, celL, intA, H.ov, H.kd, H.of1, H.id, H.ad, H.to1, H.to2, H.fr1, H.fr2, k1, k2, hz] <;> omega) | omega | (first | omega | exact idx_lt hv | exact idx_at hv | exact two_no (fun h => h ⟨by first | exact H.to1 | exact H.fr1, by first | exact H.to2 | exact H.fr2⟩) | exact hw1)
theorem hearY_d2 (s : SetD) (m : MsgD) (v : Int) (hs : s.ok) (hm : m.ok) (hl : ∀ s ∈ m.lay.segs, s.chains.length ≤ 1000000000) (hv : s.chain[s.at_]? = some v) (H : Heard s m v) (k1 : m.err = 81) (k2 : 0 < s.at_) (k3 : sameC m.cell s.cell = true) {v2 : Int} (hv2 : s.chain[s.at_ + 1]? = some v2) : ACalls Tryz.prog 15 [.ptr 0 0, encM m] (refO s s.at_) (.bool true) (refO (nextS s v2) (((s.at_ + 1 : Nat) : Int))) := by
  have q := rightR10 m hm hl
  rw [H.rt] at q
  have q1 := rightR7 m.cell hm.cell.b
  have q2 := same7_ac m.cell s.cell hm.cell hs.cell
  have hc := hs.ch
  have ho := hs.out
  rw [k3] at q2
  have hz : s.at_ + 1 < s.chain.length := (List.getElem?_eq_some_iff.1 hv2).1
  have hw1 : IntKind.i64.wrap ((s.at_ : Int) + 1) = ((s.at_ + 1 : Nat) : Int) := wrap64 (by omega)
  have q3 := rWrite { s with at_ := s.at_ + 1, writes := 0 } (s.at_ + 1) hv2 (by show s.out.length ≤ _; omega) (by show (0 : Int) ≤ 0; omega) (by show (0 : Int) ≤ 1000; omega)
  refine acallsK mixed Tryz.func15 rfl [0, 1, 3, 4, 5, 6, 7, 8, 79, 103, 117, 118, 120, 134] 1000 ([.call [] false true (.bool true) [], .f, .f, .f, .f, .f, .f, .f, .ix s.at_, .el (intA v), .f, .call [] false true (.bool (rightC m.cell)) [], .call [] false true (.bool true) [], .t, .f, .t, .t, .f, .n ((s.at_ + 1 : Nat) : Int), .n s.chain.length, .f, .n ((s.at_ + 1 : Nat) : Int), .call [0, 1] false false (.tup []) (refO (nextS s v2) ((s.at_ + 1 : Nat) : Int))]) [] [0, 4] (ob := [_,
 decide ((↑s.at_ : Int) < (0 : Int)) = false,
 s.over = false,
 (m.kind != (14 : Int)) = false,
 (m.of_ != (1 : Int)) = false,
 (m.id != s.id) = false,
 (m.addr != s.a) = false,
 (!(m.tr == (4 : Int) && (m.tn == s.client && true))) = false,
 s.at_ < List.length (List.map intA s.chain),
 (↑s.at_ : Int) = (↑s.at_ : Int),
 (List.map intA s.chain)[s.at_]? = some (.int .i64 v),
 (!(m.fr == (1 : Int) && (m.fn == v && true))) = false,
 _,
 _,
 (m.err == (81 : Int)) = true,
 ((↑s.at_ : Int) == (0 : Int)) = false,
 (m.err == (81 : Int)) = true,
 decide ((↑s.at_ : Int) > (0 : Int)) = true,
 ((0 : Int) != (0 : Int)) = false,
 IntKind.i64.wrap ((↑s.at_ : Int) + (1 : Int)) = (↑(s.at_ + (1 : Nat)) : Int),
 ((List.map intA s.chain).length : Int) = (s.chain.length : Int),
 ((↑(s.at_ + (1 : Nat)) : Int) == (s.chain.length : Int)) = false,
 IntKind.i64.wrap ((↑s.at_ : Int) + (1 : Int)) = (↑(s.at_ + (1 : Nat)) : Int),
 _]) (by kernel_rfl) ⟨rfl, rfl⟩ ⟨q, ?z0, ?z1, ?z2, ?z3, ?z4, ?z5, ?z6, ?z7, ?z8, ?z9, ?z10, q1, q2, ?z11, ?z12, ?z13, ?z14, ?z15, ?z16, ?z17, ?z18, ?z19, q3, trivial⟩
  case z0|z1|z2|z3|z4|z5|z6|z7|z8|z9|z10|z11|z12|z13|z14|z15|z16|z17|z18|z19 => first | exact rfl | (simp [refO, celR, nextS, wrote, encM, celM, celC, celL, intA, H.ov, H.kd, H.of1, H.id, H.ad, H.to1, H.to2, H.fr1, H.fr2, k1, k2] <;> omega) | omega | (first | omega | exact idx_lt hv | exact idx_at hv | exact two_no (fun h => h ⟨by first | exact H.to1 | exact H.fr1, by first | exact H.to2 | exact H.fr2⟩) | exact hw1)
theorem hearY_e1 (s : SetD) (m : MsgD) (v : Int) (hs : s.ok) (hm : m.ok) (hl : ∀ s ∈ m.lay.segs, s.chains.length ≤ 1000000000) (hv : s.chain[s.at_]? = some v) (H : Heard s m v) (k1 : m.err = 81) (k2 : ¬ 0 < s.at_) (k3 : rightC m.cell = true) (hz : s.at_ + 1 = s.chain.length) : ACalls Tryz.prog 15 [.ptr 0 0, encM m] (refO s s.at_) (.bool true) (refO (ended { s with cell := m.cell } 0) (s.at_)) := by
  have q := rightR10 m hm hl
  rw [H.rt] at q
  have q1 := rightR7 m.cell hm.cell.b
  have q2 := same7_ac m.cell s.cell hm.cell hs.cell
  have hc := hs.ch
  have ho := hs.out
  rw [k3] at q1
  have hw1 : IntKind.i64.wrap ((s.at_ : Int) + 1) = ((s.at_ + 1 : Nat) : Int) := wrap64 (by omega)
  have q3 := rEnd { s with cell := m.cell } s.at_ 0
  refine acallsK mixed Tryz.func15 rfl [0, 1, 3, 4, 5, 6, 7, 8, 79, 103, 117, 118, 120, 134] 1000 ([.call [] false true (.bool true) [], .f, .f, .f, .f, .f, .f, .f, .ix s.at_, .el (intA v), .f, .call [] false true (.bool true) [], .call [] false true (.bool (sameC m.cell s.cell)) [], .t, .t, .f, .f, .n ((s.at_ + 1 : Nat) : Int), .n s.chain.length, .t, .call [0, 1] false false (.tup []) (refO (ended { s with cell := m.cell } 0) s.at_)]) [] [0, 4] (ob := [_,
 decide ((↑s.at_ : Int) < (0 : Int)) = false,
 s.over = false,
 (m.kind != (14 : Int)) = false,
 (m.of_ != (1 : Int)) = false,
 (m.id != s.id) = false,
 (m.addr != s.a) = false,
 (!(m.tr == (4 : Int) && (m.tn == s.client && true))) = false,
 s.at_ < List.length (List.map intA s.chain),
 (↑s.at_ : Int) = (↑s.at_ : Int),
 (List.map intA s.chain)[s.at_]? = some (.int .i64 v),
 (!(m.fr == (1 : Int) && (m.fn == v && true))) = false,
 _,
 _,
 (m.err == (81 : Int)) = true,
 ((↑s.at_ : Int) == (0 : Int)) = true,
 ((0 : Int) == (81 : Int)) = false,
 ((0 : Int) != (0 : Int)) = false,
 IntKind.i64.wrap ((↑s.at_ : Int) + (1 : Int)) = (↑(s.at_ + (1 : Nat)) : Int),
 ((List.map intA s.chain).length : Int) = (s.chain.length : Int),
 ((↑(s.at_ + (1 : Nat)) : Int) == (s.chain.length : Int)) = true,
 _]) (by kernel_rfl) ⟨rfl, rfl⟩ ⟨q, ?z0, ?z1, ?z2, ?z3, ?z4, ?z5, ?z6, ?z7, ?z8, ?z9, ?z10, q1, q2, ?z11, ?z12, ?z13, ?z14, ?z15, ?z16, ?z17, q3, trivial⟩
  case z0|z1|z2|z3|z4|z5|z6|z7|z8|z9|z10|z11|z12|z13|z14|z15|z16|z17 => first | exact rfl | (simp [refO, celR, encM, celM, celC, celL, intA, H.ov, H.kd, H.of1, H.id, H.ad, H.to1, H.to2, H.fr1, H.fr2, k1, k2, hz] <;> omega) | omega | (first | omega | exact idx_lt hv | exact idx_at hv | exact two_no (fun h => h ⟨by first | exact H.to1 | exact H.fr1, by first | exact H.to2 | exact H.fr2⟩) | exact hw1)
theorem hearY_e2 (s : SetD) (m : MsgD) (v : Int) (hs : s.ok) (hm : m.ok) (hl : ∀ s ∈ m.lay.segs, s.chains.length ≤ 1000000000) (hv : s.chain[s.at_]? = some v) (H : Heard s m v) (k1 : m.err = 81) (k2 : ¬ 0 < s.at_) (k3 : rightC m.cell = true) {v2 : Int} (hv2 : s.chain[s.at_ + 1]? = some v2) : ACalls Tryz.prog 15 [.ptr 0 0, encM m] (refO s s.at_) (.bool true) (refO (nextS { s with cell := m.cell } v2) (((s.at_ + 1 : Nat) : Int))) := by
  have q := rightR10 m hm hl
  rw [H.rt] at q
  have q1 := rightR7 m.cell hm.cell.b
  have q2 := same7_ac m.cell s.cell hm.cell hs.cell
  have hc := hs.ch
  have ho := hs.out
  rw [k3] at q1
  have hz : s.at_ + 1 < s.chain.length := (List.getElem?_eq_some_iff.1 hv2).1
  have hw1 : IntKind.i64.wrap ((s.at_ : Int) + 1) = ((s.at_ + 1 : Nat) : Int) := wrap64 (by omega)
  have q3 := rWrite { s with cell := m.cell, at_ := s.at_ + 1, writes := 0 } (s.at_ + 1) hv2 (by show s.out.length ≤ _; omega) (by show (0 : Int) ≤ 0; omega) (by show (0 : Int) ≤ 1000; omega)
  refine acallsK mixed Tryz.func15 rfl [0, 1, 3, 4, 5, 6, 7, 8, 79, 103, 117, 118, 120, 134] 1000 ([.call [] false true (.bool true) [], .f, .f, .f, .f, .f, .f, .f, .ix s.at_, .el (intA v), .f, .call [] false true (.bool true) [], .call [] false true (.bool (sameC m.cell s.cell)) [], .t, .t, .f, .f, .n ((s.at_ + 1 : Nat) : Int), .n s.chain.length, .f, .n ((s.at_ + 1 : Nat) : Int), .call [0, 1] false false (.tup []) (refO (nextS { s with cell := m.cell } v2) ((s.at_ + 1 : Nat) : Int))]) [] [0, 4] (ob := [_,
 decide ((↑s.at_ : Int) < (0 : Int)) = false,
 s.over = false,
 (m.kind != (14 : Int)) = false,
 (m.of_ != (1 : Int)) = false,
 (m.id != s.id) = false,
 (m.addr != s.a) = false,
 (!(m.tr == (4 : Int) && (m.tn == s.client && true))) = false,
 s.at_ < List.length (List.map intA s.chain),
 (↑s.at_ : Int) = (↑s.at_ : Int),
 (List.map intA s.chain)[s.at_]? = some (.int .i64 v),
 (!(m.fr == (1 : Int) && (m.fn == v && true))) = false,
 _,
 _,
 (m.err == (81 : Int)) = true,
 ((↑s.at_ : Int) == (0 : Int)) = true,
 ((0 : Int) == (81 : Int)) = false,
 ((0 : Int) != (0 : Int)) = false,
 IntKind.i64.wrap ((↑s.at_ : Int) + (1 : Int)) = (↑(s.at_ + (1 : Nat)) : Int),
 ((List.map intA s.chain).length : Int) = (s.chain.length : Int),
 ((↑(s.at_ + (1 : Nat)) : Int) == (s.chain.length : Int)) = false,
 IntKind.i64.wrap ((↑s.at_ : Int) + (1 : Int)) = (↑(s.at_ + (1 : Nat)) : Int),
 _]) (by kernel_rfl) ⟨rfl, rfl⟩ ⟨q, ?z0, ?z1, ?z2, ?z3, ?z4, ?z5, ?z6, ?z7, ?z8, ?z9, ?z10, q1, q2, ?z11, ?z12, ?z13, ?z14, ?z15, ?z16, ?z17, ?z18, q3, trivial⟩
  case z0|z1|z2|z3|z4|z5|z6|z7|z8|z9|z10|z11|z12|z13|z14|z15|z16|z17|z18 => first | exact rfl | (simp [refO, celR, nextS, wrote, encM, celM, celC, celL, intA, H.ov, H.kd, H.of1, H.id, H.ad, H.to1, H.to2, H.fr1, H.fr2, k1, k2] <;> omega) | omega | (first | omega | exact idx_lt hv | exact idx_at hv | exact two_no (fun h => h ⟨by first | exact H.to1 | exact H.fr1, by first | exact H.to2 | exact H.fr2⟩) | exact hw1)
theorem hearY_f (s : SetD) (m : MsgD) (v : Int) (hs : s.ok) (hm : m.ok) (hl : ∀ s ∈ m.lay.segs, s.chains.length ≤ 1000000000) (hv : s.chain[s.at_]? = some v) (H : Heard s m v) (k1 : m.err = 81) (k2 : ¬ 0 < s.at_) (k3 : rightC m.cell = false) : ACalls Tryz.prog 15 [.ptr 0 0, encM m] (refO s s.at_) (.bool true) (refO (ended s 81) (s.at_)) := by
  have q := rightR10 m hm hl
  rw [H.rt] at q
  have q1 := rightR7 m.cell hm.cell.b
  have q2 := same7_ac m.cell s.cell hm.cell hs.cell
  have hc := hs.ch
  have ho := hs.out
  rw [k3] at q1
  have q3 := rEnd s s.at_ 81
  rw [show (81 : Int) = m.err from k1.symm] at q3 ⊢
  refine acallsK mixed Tryz.func15 rfl [0, 1, 3, 4, 5, 6, 7, 8, 79, 103, 117, 118, 120, 134] 1000 ([.call [] false true (.bool true) [], .f, .f, .f, .f, .f, .f, .f, .ix s.at_, .el (intA v), .f, .call [] false true (.bool false) [], .call [] false true (.bool (sameC m.cell s.cell)) [], .t, .t, .t, .f, .t, .call [0, 1] false false (.tup []) (refO (ended s m.err) s.at_)]) [] [0, 4] (ob := [_,
 decide ((↑s.at_ : Int) < (0 : Int)) = false,
 s.over = false,
 (m.kind != (14 : Int)) = false,
 (m.of_ != (1 : Int)) = false,
 (m.id != s.id) = false,
 (m.addr != s.a) = false,
 (!(m.tr == (4 : Int) && (m.tn == s.client && true))) = false,
 s.at_ < List.length (List.map intA s.chain),
 (↑s.at_ : Int) = (↑s.at_ : Int),
 (List.map intA s.chain)[s.at_]? = some (.int .i64 v),
 (!(m.fr == (1 : Int) && (m.fn == v && true))) = false,
 _,
 _,
 (m.err == (81 : Int)) = true,
 ((↑s.at_ : Int) == (0 : Int)) = true,
 (m.err == (81 : Int)) = true,
 decide ((↑s.at_ : Int) > (0 : Int)) = false,
 (m.err != (0 : Int)) = true,
 _]) (by kernel_rfl) ⟨rfl, rfl⟩ ⟨q, ?z0, ?z1, ?z2, ?z3, ?z4, ?z5, ?z6, ?z7, ?z8, ?z9, ?z10, q1, q2, ?z11, ?z12, ?z13, ?z14, ?z15, q3, trivial⟩
  case z0|z1|z2|z3|z4|z5|z6|z7|z8|z9|z10|z11|z12|z13|z14|z15 => first | exact rfl | (simp [refO, celR, encM, celM, celC, celL, intA, H.ov, H.kd, H.of1, H.id, H.ad, H.to1, H.to2, H.fr1, H.fr2, k1, k2] <;> omega) | omega | (first | omega | exact idx_lt hv | exact idx_at hv | exact two_no (fun h => h ⟨by first | exact H.to1 | exact H.fr1, by first | exact H.to2 | exact H.fr2⟩) | exact hw1)
end Go.Proofs.YtidgcfgkcidkiaaGreat.Ch
namespace Go.Proofs.YtidgcfgkcidkiaaGreat.Ch
open Go Go.RowKit Go.Proofs.YtidgcfgkcidkiaaGreat.L Go.Proofs.YtidgcfgkcidkiaaGreat.X
set_option linter.unusedVariables false
set_option linter.unusedSimpArgs false
theorem rHear (s : SetD) (m : MsgD) (v : Int) (at_ : Int) (ha : At s at_) (hs : s.ok) (hm : m.ok) (hl : ∀ s ∈ m.lay.segs, s.chains.length ≤ 1000000000) (hv : s.over = false → s.chain[s.at_]? = some v) :
    ACalls Tryz.prog 15 [.ptr 0 0, encM m] (refO s at_) (.bool (hearB s m v)) (refO (if hearB s m v = true then stepS s m else s) (atR s m v at_)) := by
  unfold atR
  cases hh : hearB s m v with
  | false =>
    rw [if_neg (by decide), if_neg (by decide)]
    have := hearR_ac s m v at_ ha hm hl hv hh
    rw [hh] at this
    exact this
  | true =>
    rw [if_pos rfl, if_pos rfl]
    have H := hearB_yes hh
    have hv := hv H.ov
    have he := ha.eq H.st H.ov
    subst he
    have hlt : s.at_ < s.chain.length := (List.getElem?_eq_some_iff.1 hv).1
    have key : ∀ (x : SetD), x.chain = s.chain → x.at_ = s.at_ → x.over = false → 
        (s.at_ + 1 = s.chain.length → ACalls Tryz.prog 15 [.ptr 0 0, encM m] (refO s s.at_) (.bool true) (refO (ended x 0) s.at_)) →
        (∀ v2, s.chain[s.at_ + 1]? = some v2 → ACalls Tryz.prog 15 [.ptr 0 0, encM m] (refO s s.at_) (.bool true) (refO (nextS x v2) ((s.at_ + 1 : Nat) : Int))) →
        ACalls Tryz.prog 15 [.ptr 0 0, encM m] (refO s s.at_) (.bool true) (refO (goS x) (if (goS x).over = true then s.at_ else s.at_ + 1)) := by
      intro x hc hat hov h1 h2
      unfold goS
      by_cases hz : x.at_ + 1 = x.chain.length
      · rw [if_pos hz]
        have e : (ended { x with at_ := x.at_ + 1 } 0).over = true := rfl
        rw [if_pos e]
        exact h1 (by rw [← hc, ← hat]; exact hz)
      · rw [if_neg hz]
        have hz2 : ¬ s.at_ + 1 = s.chain.length := by rw [← hc, ← hat]; exact hz
        have hlt2 : s.at_ + 1 < s.chain.length := by omega
        have hg : x.chain[x.at_ + 1]? = some s.chain[s.at_ + 1] := by rw [hc, hat]; exact List.getElem?_eq_getElem hlt2
        rw [hg]
        have ho : (nextS x ((some s.chain[s.at_ + 1]).getD 0)).over = false := hov
        rw [if_neg (by rw [ho]; decide)]
        exact h2 _ (List.getElem?_eq_getElem hlt2)
    have eo : ∀ e, (ended s e).over = true := fun _ => rfl
    unfold stepS
    by_cases k1 : m.err = 81
    · rw [if_pos k1]
      by_cases k2 : 0 < s.at_
      · rw [if_pos k2]
        cases k3 : sameC m.cell s.cell with
        | false =>
          rw [if_neg (by decide), if_pos (eo _)]
          exact hearY_c s m v hs hm hl hv H k1 k2 k3
        | true =>
          rw [if_pos rfl]
          exact key s rfl rfl H.ov (fun hz => hearY_d1 s m v hs hm hl hv H k1 k2 k3 hz) fun v2 h2 => hearY_d2 s m v hs hm hl hv H k1 k2 k3 h2
      · rw [if_neg k2]
        cases k3 : rightC m.cell with
        | false =>
          rw [if_neg (by decide), if_pos (eo _)]
          exact hearY_f s m v hs hm hl hv H k1 k2 k3
        | true =>
          rw [if_pos rfl]
          exact key { s with cell := m.cell } rfl rfl H.ov (fun hz => hearY_e1 s m v hs hm hl hv H k1 k2 k3 hz) fun v2 h2 => hearY_e2 s m v hs hm hl hv H k1 k2 k3 h2
    · rw [if_neg k1]
      by_cases k2 : m.err = 0
      · rw [if_pos k2]
        exact key s rfl rfl H.ov (fun hz => hearY_a1 s m v hs hm hl hv H k1 k2 hz) fun v2 h2 => hearY_a2 s m v hs hm hl hv H k1 k2 h2
      · rw [if_neg k2, if_pos (eo _)]
        exact hearY_b s m v hs hm hl hv H k1 k2

/-- What stays true of a settler: B: how many messages there may be. -/
structure Inv (s : SetD) (B : Nat) : Prop where
  ok : s.ok
  out : s.out.length ≤ B
  wrs : Wrs s.out
  new : s.started = false → s.at_ = 0 ∧ s.writes = 0 ∧ s.over = false
theorem Wrs.add {xs : List AV} (h : Wrs xs) {s : SetD} {u : Int} (hs : s.cell.ok) : Wrs (xs ++ [wrM s u]) := by
  intro x hx
  rcases List.mem_append.1 hx with hx | hx
  · exact h x hx
  · simp at hx; subst hx; exact ⟨s, u, rfl, hs⟩
theorem Inv.ended {s : SetD} {B : Nat} (h : Inv s B) (hs : s.started = true) (e : Int) (k : Nat) (t : Int) (ht : 0 ≤ t) : Inv (ended { s with at_ := k, ticks := t } e) B := by
  have o := h.ok
  refine ⟨⟨?_, o.ch, .inr rfl, o.out, ht, .inr rfl, o.w0, o.w1⟩, h.out, h.wrs, fun hq => ?_⟩
  · show (if e = 0 then s.cell else ⟨0, [], []⟩ : CellD).ok
    split
    · exact o.cell
    · exact cell0_ok
  · have : s.started = false := hq
    rw [hs] at this; cases this
theorem Inv.wrote {s : SetD} {B : Nat} (h : Inv s B) (hB : B + 1 ≤ 900) (hs : s.started = true) (u : Int) (k : Nat) (w : Int) (hk : k < s.chain.length) (w0 : 0 ≤ w) (w1 : w ≤ 4) : Inv (wrote { s with at_ := k, writes := w } u) (B + 1) := by
  have o := h.ok
  have ho := h.out
  refine ⟨⟨o.cell, o.ch, .inl hk, ?_, (by show (0 : Int) ≤ 0; omega), .inl (by show (0 : Int) < 6; omega), (by show 0 ≤ w + 1; omega), (by show w + 1 ≤ 5; omega)⟩, ?_, ?_, fun hq => ?_⟩
  · show (s.out ++ [wrM _ u]).length ≤ 900
    rw [List.length_append, List.length_cons, List.length_nil]; omega
  · show (s.out ++ [wrM _ u]).length ≤ B + 1
    rw [List.length_append, List.length_cons, List.length_nil]; omega
  · exact h.wrs.add o.cell
  · have : s.started = false := hq
    rw [hs] at this; cases this
theorem Inv.cell {s : SetD} {B : Nat} (h : Inv s B) {c : CellD} (hc : c.ok) : Inv { s with cell := c } B :=
  ⟨⟨hc, h.ok.ch, h.ok.at_, h.ok.out, h.ok.t0, h.ok.t1, h.ok.w0, h.ok.w1⟩, h.out, h.wrs, h.new⟩
theorem Inv.mono {s : SetD} {B C : Nat} (h : Inv s B) (hBC : B ≤ C) : Inv s C := ⟨h.ok, Nat.le_trans h.out hBC, h.wrs, h.new⟩
theorem Inv.go {s : SetD} {B : Nat} (h : Inv s B) (hB : B + 1 ≤ 900) (hs : s.started = true) (ho : s.over = false) : Inv (goS s) (B + 1) ∧ (goS s).started = true ∧ ((goS s).over = false → (goS s).at_ = s.at_ + 1) := by
  have ha : s.at_ < s.chain.length := by rcases h.ok.at_ with h | h; exact h; rw [ho] at h; cases h
  unfold goS
  split
  · exact ⟨(h.ended hs 0 (s.at_ + 1) s.ticks h.ok.t0).mono (by omega), hs, fun hq => by cases hq⟩
  · exact ⟨h.wrote hB hs _ (s.at_ + 1) 0 (by omega) (by omega) (by omega), hs, fun _ => rfl⟩
theorem Inv.step {s : SetD} {B : Nat} (h : Inv s B) (hB : B + 1 ≤ 900) (hs : s.started = true) (ho : s.over = false) {m : MsgD} (hm : m.ok) : Inv (stepS s m) (B + 1) ∧ (stepS s m).started = true ∧ ((stepS s m).over = false → (stepS s m).at_ = s.at_ + 1) := by
  have he : ∀ e, Inv (Ch.ended s e) (B + 1) ∧ (Ch.ended s e).started = true ∧ ((Ch.ended s e).over = false → (Ch.ended s e).at_ = s.at_ + 1) := fun e => ⟨(h.ended hs e s.at_ s.ticks h.ok.t0).mono (by omega), hs, fun hq => by cases hq⟩
  unfold stepS
  split
  · split
    · split
      · exact h.go hB hs ho
      · exact he 191
    · split
      · exact (h.cell hm.cell).go hB hs ho
      · exact he 81
  · split
    · exact h.go hB hs ho
    · exact he m.err
theorem Inv.tick {s : SetD} {B : Nat} (h : Inv s B) (hB : B + 1 ≤ 900) (v : Int) : Inv (tickS s v) (B + 1) ∧ (tickS s v).started = s.started ∧ ((tickS s v).over = false → (tickS s v).at_ = s.at_ ∧ s.over = false) := by
  unfold tickS
  split
  · exact ⟨h.mono (by omega), rfl, fun hq => ⟨rfl, hq⟩⟩
  · rename_i hn
    have hs : s.started = true := by
      cases hx : s.started with
      | true => rfl
      | false => exact absurd (.inl hx) hn
    have ho : s.over = false := by
      cases hx : s.over with
      | false => rfl
      | true => exact absurd (.inr hx) hn
    have t0 := h.ok.t0
    split
    · rename_i ht
      exact ⟨⟨⟨h.ok.cell, h.ok.ch, h.ok.at_, h.ok.out, (by show 0 ≤ s.ticks + 1; omega), .inl ht, h.ok.w0, h.ok.w1⟩, Nat.le_succ_of_le h.out, h.wrs, h.new⟩, rfl, fun _ => ⟨rfl, ho⟩⟩
    · split
      · exact ⟨(h.ended hs 162 s.at_ (s.ticks + 1) (by omega)).mono (by omega), rfl, fun hq => by cases hq⟩
      · rename_i hw
        have ha : s.at_ < s.chain.length := by rcases h.ok.at_ with h | h; exact h; rw [ho] at h; cases h
        exact ⟨h.wrote hB hs v s.at_ s.writes ha h.ok.w0 (by omega), rfl, fun _ => ⟨rfl, ho⟩⟩
theorem Inv.start {s : SetD} {B : Nat} (h : Inv s B) (hB : B + 1 ≤ 900) (hs : s.started = false) (u : Int) : Inv (startS s u) (B + 1) := by
  obtain ⟨h1, h2, h3⟩ := h.new hs
  have ha : s.at_ < s.chain.length := by rcases h.ok.at_ with h | h; exact h; rw [h3] at h; cases h
  have h' : Inv { s with started := true } B := ⟨⟨h.ok.cell, h.ok.ch, h.ok.at_, h.ok.out, h.ok.t0, h.ok.t1, h.ok.w0, h.ok.w1⟩, h.out, h.wrs, fun hq => by cases hq⟩
  have := h'.wrote hB rfl u s.at_ s.writes ha h.ok.w0 (by omega)
  exact this
theorem Inv.emptied {s : SetD} {B : Nat} (h : Inv s B) : Inv (emptied s) B :=
  ⟨⟨h.ok.cell, h.ok.ch, h.ok.at_, Nat.zero_le _, h.ok.t0, h.ok.t1, h.ok.w0, h.ok.w1⟩, Nat.zero_le _, fun x hx => (by cases hx), h.new⟩
def unitAt (s : SetD) : Int := (s.chain[s.at_]?).getD 0
theorem unitAt_of {s : SetD} (h : s.ok) (ho : s.over = false) : s.chain[s.at_]? = some (unitAt s) := by
  have ha : s.at_ < s.chain.length := by rcases h.at_ with h | h; exact h; rw [ho] at h; cases h
  unfold unitAt
  rw [List.getElem?_eq_getElem ha]; rfl
theorem At.hear {s : SetD} {at_ : Int} (ha : At s at_) {m : MsgD} {v : Int} {B : Nat} (h : Inv s B) (hB : B + 1 ≤ 900) (hm : m.ok) : At (if hearB s m v = true then stepS s m else s) (atR s m v at_) := by
  unfold atR
  by_cases hh : hearB s m v = true
  · rw [if_pos hh, if_pos hh]
    have H := hearB_yes hh
    obtain ⟨_, h1, h2⟩ := h.step hB H.st H.ov hm
    refine ⟨fun hq => (by rw [h1] at hq; cases hq), fun _ => ?_, fun _ ho => ?_⟩
    · split <;> omega
    · rw [ho, if_neg (by decide), h2 ho]; omega
  · rw [if_neg hh, if_neg hh]; exact ha
theorem At.tick {s : SetD} {at_ : Int} (ha : At s at_) {v : Int} {B : Nat} (h : Inv s B) (hB : B + 1 ≤ 900) : At (tickS s v) at_ := by
  obtain ⟨_, h1, h2⟩ := h.tick hB v
  exact ⟨fun hq => ha.no (by rw [← h1]; exact hq), fun hq => ha.yes (by rw [← h1]; exact hq), fun hq ho => by rw [(h2 ho).1]; exact ha.eq (by rw [← h1]; exact hq) (h2 ho).2⟩
theorem At.start {s : SetD} {B : Nat} (h : Inv s B) (hs : s.started = false) (u : Int) : At (startS s u) 0 :=
  ⟨fun hq => (by cases hq), fun _ => Int.le_refl 0, fun _ _ => by rw [show (startS s u).at_ = s.at_ from rfl, (h.new hs).1]; rfl⟩
end Go.Proofs.YtidgcfgkcidkiaaGreat.Ch
namespace Go.Proofs.YtidgcfgkcidkiaaGreat.Ch
open Go Go.RowKit Go.Proofs.YtidgcfgkcidkiaaGreat.L Go.Proofs.YtidgcfgkcidkiaaGreat.X
set_option linter.unusedVariables false
set_option linter.unusedSimpArgs false
structure ActD where
  kind : Int
  n : Int
  m : MsgD
  own : Bool
def encAct (x : ActD) : AV := .agg ([.int .i64 x.kind, .int .i64 x.n] ++ celM x.m ++ [.bool x.own])
end Go.Proofs.YtidgcfgkcidkiaaGreat.Ch
namespace Go.Proofs.YtidgcfgkcidkiaaGreat.Ch
open Go Go.RowKit Go.Proofs.YtidgcfgkcidkiaaGreat.L Go.Proofs.YtidgcfgkcidkiaaGreat.X
set_option linter.unusedVariables false
set_option linter.unusedSimpArgs false
end Go.Proofs.YtidgcfgkcidkiaaGreat.Ch
