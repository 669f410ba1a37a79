/- Texts of one proof, laid together: Dd, De, Df, Dg, Dh. -/
import Derived.Test.YtidgcfgkcidkiaaGreatQ04
namespace Go.Proofs.YtidgcfgkcidkiaaGreat.Ch
open Go Go.RowKit Go.Proofs.YtidgcfgkcidkiaaGreat.L Go.Proofs.YtidgcfgkcidkiaaGreat.X
set_option linter.unusedVariables false
set_option linter.unusedSimpArgs false
structure LayD.fit (l : LayD) : Prop where
  segs : ∀ s ∈ l.segs, s.ok
  n : l.segs.length ≤ 1000000000000
structure MsgD.ok (m : MsgD) : Prop where
  cell : m.cell.ok
  st : m.streams.length ≤ 1000000000000
  b : m.backs.length ≤ 1000000000000
  lay : m.lay.fit
def restM (m : MsgD) : Bool := (sameC m.cell cell0 || rightC m.cell) && (noLayB m.lay || rightL m.lay)

def rightM (m : MsgD) : Bool := if m.kind < 1 then false else if 14 < m.kind then false else if m.of_ < 0 then false else if 13 < m.of_ then false else if ¬ (m.kind = 14 ↔ 0 < m.of_) then false else if placeB m.fr m.fn = false then false else if placeB m.tr m.tn = false then false else if inB m.id 1048576 = false then false else if inB m.err 256 = false then false else if 1048576 < m.epoch then false else if 1048576 < m.addr then false else if ballotB m.br m.bc = false then false else if ballotB m.pr m.pc = false then false else if 4 < m.streams.length then false else if riseB m.streams = false then false else if backsB m.backs = false then false else restM m
theorem xor_yes {a b : Int} (h : ¬ (a = 14 ↔ 0 < b)) : (!((a == 14) == decide (b > 0))) = true := by
  by_cases h1 : a = 14 <;> by_cases h2 : 0 < b <;> simp [h1, h2] at h ⊢
theorem xor_no {a b : Int} (h : ¬ ¬ (a = 14 ↔ 0 < b)) : (!((a == 14) == decide (b > 0))) = false := by
  by_cases h1 : a = 14 <;> by_cases h2 : 0 < b <;> simp [h1, h2] at h ⊢
theorem rightM_e0 (m : MsgD) (hm : m.ok) (h1 : m.kind < 1) : ACalls Tryz.prog 51 [encM m] [] (.bool (rightM m)) [] := by
  have q1 := place_ac m.fr m.fn
  have q2 := place_ac m.tr m.tn
  have q3 := within_ac m.id 1048576
  have q4 := within_ac m.err 256
  have q5 := ballotB_ac m.br m.bc
  have q6 := ballotB_ac m.pr m.pc
  have q7 := riseB_ac m.streams hm.st
  have q8 := backsB_ac m.backs hm.b
  have q9 := noCell_ac m.cell hm.cell
  have q10 := right_ac m.cell
  have q11 := noLayout_ac m.lay
  have q12 := rightL_ac m.lay hm.lay.segs hm.lay.n
  rw [show rightM m = false by unfold rightM; rw [if_pos h1]]
  refine acallsK mixed Tryz.func51 rfl [0, 1, 2, 3, 31, 54, 75] 1000 ([.t]) [] [] (v1 := .bool false) (objs1 := []) (ob := [decide (m.kind < (1 : Int)) = true]) (by kernel_rfl) (by first | exact rfl | exact ⟨rfl, rfl⟩ | (simp [encM, celM, celC, celL, h1]; done) | (first | omega | exact xor_yes h5 | exact xor_no h5)) ⟨(by first | exact rfl | (simp [encM, celM, celC, celL, h1]; done) | (simp [encM, celM, celC, celL, h1]; omega) | omega | (first | omega | exact xor_yes h5 | exact xor_no h5)), trivial⟩
theorem rightM_e1 (m : MsgD) (hm : m.ok) (h1 : ¬ (m.kind < 1)) (h2 : 14 < m.kind) : ACalls Tryz.prog 51 [encM m] [] (.bool (rightM m)) [] := by
  have q1 := place_ac m.fr m.fn
  have q2 := place_ac m.tr m.tn
  have q3 := within_ac m.id 1048576
  have q4 := within_ac m.err 256
  have q5 := ballotB_ac m.br m.bc
  have q6 := ballotB_ac m.pr m.pc
  have q7 := riseB_ac m.streams hm.st
  have q8 := backsB_ac m.backs hm.b
  have q9 := noCell_ac m.cell hm.cell
  have q10 := right_ac m.cell
  have q11 := noLayout_ac m.lay
  have q12 := rightL_ac m.lay hm.lay.segs hm.lay.n
  rw [show rightM m = false by unfold rightM; rw [if_neg h1, if_pos h2]]
  refine acallsK mixed Tryz.func51 rfl [0, 1, 2, 3, 31, 54, 75] 1000 ([.f, .t]) [] [] (v1 := .bool false) (objs1 := []) (ob := [decide (m.kind < (1 : Int)) = false,
 decide (m.kind > (14 : Int)) = true]) (by kernel_rfl) (by first | exact rfl | exact ⟨rfl, rfl⟩ | (simp [encM, celM, celC, celL, h1, h2]; done) | (first | omega | exact xor_yes h5 | exact xor_no h5)) ⟨?z0, ?z1, trivial⟩
  case z0|z1 => first | exact rfl | (simp [encM, celM, celC, celL, h1, h2] <;> omega) | omega | (first | omega | exact xor_yes h5 | exact xor_no h5)
theorem rightM_e2 (m : MsgD) (hm : m.ok) (h1 : ¬ (m.kind < 1)) (h2 : ¬ (14 < m.kind)) (h3 : m.of_ < 0) : ACalls Tryz.prog 51 [encM m] [] (.bool (rightM m)) [] := by
  have q1 := place_ac m.fr m.fn
  have q2 := place_ac m.tr m.tn
  have q3 := within_ac m.id 1048576
  have q4 := within_ac m.err 256
  have q5 := ballotB_ac m.br m.bc
  have q6 := ballotB_ac m.pr m.pc
  have q7 := riseB_ac m.streams hm.st
  have q8 := backsB_ac m.backs hm.b
  have q9 := noCell_ac m.cell hm.cell
  have q10 := right_ac m.cell
  have q11 := noLayout_ac m.lay
  have q12 := rightL_ac m.lay hm.lay.segs hm.lay.n
  rw [show rightM m = false by unfold rightM; rw [if_neg h1, if_neg h2, if_pos h3]]
  refine acallsK mixed Tryz.func51 rfl [0, 1, 2, 3, 31, 54, 75] 1000 ([.f, .f, .t]) [] [] (v1 := .bool false) (objs1 := []) (ob := [decide (m.kind < (1 : Int)) = false,
 decide (m.kind > (14 : Int)) = false,
 decide (m.of_ < (0 : Int)) = true]) (by kernel_rfl) (by first | exact rfl | exact ⟨rfl, rfl⟩ | (simp [encM, celM, celC, celL, h1, h2, h3]; done) | (first | omega | exact xor_yes h5 | exact xor_no h5)) ⟨?z0, ?z1, ?z2, trivial⟩
  case z0|z1|z2 => first | exact rfl | (simp [encM, celM, celC, celL, h1, h2, h3] <;> omega) | omega | (first | omega | exact xor_yes h5 | exact xor_no h5)
theorem rightM_e3 (m : MsgD) (hm : m.ok) (h1 : ¬ (m.kind < 1)) (h2 : ¬ (14 < m.kind)) (h3 : ¬ (m.of_ < 0)) (h4 : 13 < m.of_) : ACalls Tryz.prog 51 [encM m] [] (.bool (rightM m)) [] := by
  have q1 := place_ac m.fr m.fn
  have q2 := place_ac m.tr m.tn
  have q3 := within_ac m.id 1048576
  have q4 := within_ac m.err 256
  have q5 := ballotB_ac m.br m.bc
  have q6 := ballotB_ac m.pr m.pc
  have q7 := riseB_ac m.streams hm.st
  have q8 := backsB_ac m.backs hm.b
  have q9 := noCell_ac m.cell hm.cell
  have q10 := right_ac m.cell
  have q11 := noLayout_ac m.lay
  have q12 := rightL_ac m.lay hm.lay.segs hm.lay.n
  rw [show rightM m = false by unfold rightM; rw [if_neg h1, if_neg h2, if_neg h3, if_pos h4]]
  refine acallsK mixed Tryz.func51 rfl [0, 1, 2, 3, 31, 54, 75] 1000 ([.f, .f, .f, .t]) [] [] (v1 := .bool false) (objs1 := []) (ob := [decide (m.kind < (1 : Int)) = false,
 decide (m.kind > (14 : Int)) = false,
 decide (m.of_ < (0 : Int)) = false,
 decide (m.of_ > (13 : Int)) = true]) (by kernel_rfl) (by first | exact rfl | exact ⟨rfl, rfl⟩ | (simp [encM, celM, celC, celL, h1, h2, h3, h4]; done) | (first | omega | exact xor_yes h5 | exact xor_no h5)) ⟨?z0, ?z1, ?z2, ?z3, trivial⟩
  case z0|z1|z2|z3 => first | exact rfl | (simp [encM, celM, celC, celL, h1, h2, h3, h4] <;> omega) | omega | (first | omega | exact xor_yes h5 | exact xor_no h5)
theorem rightM_e4 (m : MsgD) (hm : m.ok) (h1 : ¬ (m.kind < 1)) (h2 : ¬ (14 < m.kind)) (h3 : ¬ (m.of_ < 0)) (h4 : ¬ (13 < m.of_)) (h5 : ¬ (m.kind = 14 ↔ 0 < m.of_)) : ACalls Tryz.prog 51 [encM m] [] (.bool (rightM m)) [] := by
  have q1 := place_ac m.fr m.fn
  have q2 := place_ac m.tr m.tn
  have q3 := within_ac m.id 1048576
  have q4 := within_ac m.err 256
  have q5 := ballotB_ac m.br m.bc
  have q6 := ballotB_ac m.pr m.pc
  have q7 := riseB_ac m.streams hm.st
  have q8 := backsB_ac m.backs hm.b
  have q9 := noCell_ac m.cell hm.cell
  have q10 := right_ac m.cell
  have q11 := noLayout_ac m.lay
  have q12 := rightL_ac m.lay hm.lay.segs hm.lay.n
  rw [show rightM m = false by unfold rightM; rw [if_neg h1, if_neg h2, if_neg h3, if_neg h4, if_pos h5]]
  refine acallsK mixed Tryz.func51 rfl [0, 1, 2, 3, 31, 54, 75] 1000 ([.f, .f, .f, .f, .k, .k, .t]) [] [] (v1 := .bool false) (objs1 := []) (ob := [decide (m.kind < (1 : Int)) = false,
 decide (m.kind > (14 : Int)) = false,
 decide (m.of_ < (0 : Int)) = false,
 decide (m.of_ > (13 : Int)) = false,
 (!(m.kind == (14 : Int)) == decide (m.of_ > (0 : Int))) = true]) (by kernel_rfl) (by first | exact rfl | exact ⟨rfl, rfl⟩ | (simp [encM, celM, celC, celL, h1, h2, h3, h4, h5]; done) | (first | omega | exact xor_yes h5 | exact xor_no h5)) ⟨?z0, ?z1, ?z2, ?z3, ?z4, trivial⟩
  case z0|z1|z2|z3|z4 => first | exact rfl | (simp [encM, celM, celC, celL, h1, h2, h3, h4, h5] <;> omega) | omega | (first | omega | exact xor_yes h5 | exact xor_no h5)
theorem rightM_e5 (m : MsgD) (hm : m.ok) (h1 : ¬ (m.kind < 1)) (h2 : ¬ (14 < m.kind)) (h3 : ¬ (m.of_ < 0)) (h4 : ¬ (13 < m.of_)) (h5 : ¬ (¬ (m.kind = 14 ↔ 0 < m.of_))) (h6 : placeB m.fr m.fn = false) : ACalls Tryz.prog 51 [encM m] [] (.bool (rightM m)) [] := by
  have q1 := place_ac m.fr m.fn
  have q2 := place_ac m.tr m.tn
  have q3 := within_ac m.id 1048576
  have q4 := within_ac m.err 256
  have q5 := ballotB_ac m.br m.bc
  have q6 := ballotB_ac m.pr m.pc
  have q7 := riseB_ac m.streams hm.st
  have q8 := backsB_ac m.backs hm.b
  have q9 := noCell_ac m.cell hm.cell
  have q10 := right_ac m.cell
  have q11 := noLayout_ac m.lay
  have q12 := rightL_ac m.lay hm.lay.segs hm.lay.n
  rw [h6] at q1
  rw [show rightM m = false by unfold rightM; rw [if_neg h1, if_neg h2, if_neg h3, if_neg h4, if_neg h5, if_pos h6]]
  refine acallsK mixed Tryz.func51 rfl [0, 1, 2, 3, 31, 54, 75] 1000 ([.f, .f, .f, .f, .k, .k, .f, .call [] false true (.bool false) []]) [] [] (v1 := .bool false) (objs1 := []) (ob := [decide (m.kind < (1 : Int)) = false,
 decide (m.kind > (14 : Int)) = false,
 decide (m.of_ < (0 : Int)) = false,
 decide (m.of_ > (13 : Int)) = false,
 (!(m.kind == (14 : Int)) == decide (m.of_ > (0 : Int))) = false,
 ACalls Tryz.prog 86 [.agg [.int .i64 m.fr, .int .i64 m.fn]] [] (.bool false) []]) (by kernel_rfl) (by first | exact rfl | exact ⟨rfl, rfl⟩ | (simp [encM, celM, celC, celL, h1, h2, h3, h4, h5, h6]; done) | (first | omega | exact xor_yes h5 | exact xor_no h5)) ⟨?z0, ?z1, ?z2, ?z3, ?z4, ?q112_1, trivial⟩
  case z0|z1|z2|z3|z4 => first | exact rfl | (simp [encM, celM, celC, celL, h1, h2, h3, h4, h5, h6] <;> omega) | omega | (first | omega | exact xor_yes h5 | exact xor_no h5)
  · exact q1
theorem rightM_e6 (m : MsgD) (hm : m.ok) (h1 : ¬ (m.kind < 1)) (h2 : ¬ (14 < m.kind)) (h3 : ¬ (m.of_ < 0)) (h4 : ¬ (13 < m.of_)) (h5 : ¬ (¬ (m.kind = 14 ↔ 0 < m.of_))) (h6 : placeB m.fr m.fn = true) (h7 : placeB m.tr m.tn = false) : ACalls Tryz.prog 51 [encM m] [] (.bool (rightM m)) [] := by
  have q1 := place_ac m.fr m.fn
  have q2 := place_ac m.tr m.tn
  have q3 := within_ac m.id 1048576
  have q4 := within_ac m.err 256
  have q5 := ballotB_ac m.br m.bc
  have q6 := ballotB_ac m.pr m.pc
  have q7 := riseB_ac m.streams hm.st
  have q8 := backsB_ac m.backs hm.b
  have q9 := noCell_ac m.cell hm.cell
  have q10 := right_ac m.cell
  have q11 := noLayout_ac m.lay
  have q12 := rightL_ac m.lay hm.lay.segs hm.lay.n
  rw [h6] at q1
  rw [h7] at q2
  rw [show rightM m = false by unfold rightM; rw [if_neg h1, if_neg h2, if_neg h3, if_neg h4, if_neg h5, if_neg (by rw [h6]; decide), if_pos h7]]
  refine acallsK mixed Tryz.func51 rfl [0, 1, 2, 3, 31, 54, 75] 1000 ([.f, .f, .f, .f, .k, .k, .f, .call [] false true (.bool true) [], .call [] false true (.bool false) []]) [] [] (v1 := .bool false) (objs1 := []) (ob := [decide (m.kind < (1 : Int)) = false,
 decide (m.kind > (14 : Int)) = false,
 decide (m.of_ < (0 : Int)) = false,
 decide (m.of_ > (13 : Int)) = false,
 (!(m.kind == (14 : Int)) == decide (m.of_ > (0 : Int))) = false,
 ACalls Tryz.prog 86 [.agg [.int .i64 m.fr, .int .i64 m.fn]] [] (.bool true) [],
 ACalls Tryz.prog 86 [.agg [.int .i64 m.tr, .int .i64 m.tn]] [] (.bool false) []]) (by kernel_rfl) (by first | exact rfl | exact ⟨rfl, rfl⟩ | (simp [encM, celM, celC, celL, h1, h2, h3, h4, h5, h6, h7]; done) | (first | omega | exact xor_yes h5 | exact xor_no h5)) ⟨?z0, ?z1, ?z2, ?z3, ?z4, ?q130_1, ?q130_2, trivial⟩
  case z0|z1|z2|z3|z4 => first | exact rfl | (simp [encM, celM, celC, celL, h1, h2, h3, h4, h5, h6, h7] <;> omega) | omega | (first | omega | exact xor_yes h5 | exact xor_no h5)
  · exact q1
  · exact q2
theorem rightM_e7 (m : MsgD) (hm : m.ok) (h1 : ¬ (m.kind < 1)) (h2 : ¬ (14 < m.kind)) (h3 : ¬ (m.of_ < 0)) (h4 : ¬ (13 < m.of_)) (h5 : ¬ (¬ (m.kind = 14 ↔ 0 < m.of_))) (h6 : placeB m.fr m.fn = true) (h7 : placeB m.tr m.tn = true) (h8 : inB m.id 1048576 = false) : ACalls Tryz.prog 51 [encM m] [] (.bool (rightM m)) [] := by
  have q1 := place_ac m.fr m.fn
  have q2 := place_ac m.tr m.tn
  have q3 := within_ac m.id 1048576
  have q4 := within_ac m.err 256
  have q5 := ballotB_ac m.br m.bc
  have q6 := ballotB_ac m.pr m.pc
  have q7 := riseB_ac m.streams hm.st
  have q8 := backsB_ac m.backs hm.b
  have q9 := noCell_ac m.cell hm.cell
  have q10 := right_ac m.cell
  have q11 := noLayout_ac m.lay
  have q12 := rightL_ac m.lay hm.lay.segs hm.lay.n
  rw [h6] at q1
  rw [h7] at q2
  rw [h8] at q3
  rw [show rightM m = false by unfold rightM; rw [if_neg h1, if_neg h2, if_neg h3, if_neg h4, if_neg h5, if_neg (by rw [h6]; decide), if_neg (by rw [h7]; decide), if_pos h8]]
  refine acallsK mixed Tryz.func51 rfl [0, 1, 2, 3, 31, 54, 75] 1000 ([.f, .f, .f, .f, .k, .k, .f, .call [] false true (.bool true) [], .call [] false true (.bool true) [], .call [] false true (.bool false) []]) [] [] (v1 := .bool false) (objs1 := []) (ob := [decide (m.kind < (1 : Int)) = false,
 decide (m.kind > (14 : Int)) = false,
 decide (m.of_ < (0 : Int)) = false,
 decide (m.of_ > (13 : Int)) = false,
 (!(m.kind == (14 : Int)) == decide (m.of_ > (0 : Int))) = false,
 ACalls Tryz.prog 86 [.agg [.int .i64 m.fr, .int .i64 m.fn]] [] (.bool true) [],
 ACalls Tryz.prog 86 [.agg [.int .i64 m.tr, .int .i64 m.tn]] [] (.bool true) [],
 ACalls Tryz.prog 87 [.int .i64 m.id, .int .i64 1048576] [] (.bool false) []]) (by kernel_rfl) (by first | exact rfl | exact ⟨rfl, rfl⟩ | (simp [encM, celM, celC, celL, h1, h2, h3, h4, h5, h6, h7, h8]; done) | (first | omega | exact xor_yes h5 | exact xor_no h5)) ⟨?z0, ?z1, ?z2, ?z3, ?z4, ?q150_1, ?q150_2, ?q150_3, trivial⟩
  case z0|z1|z2|z3|z4 => first | exact rfl | (simp [encM, celM, celC, celL, h1, h2, h3, h4, h5, h6, h7, h8] <;> omega) | omega | (first | omega | exact xor_yes h5 | exact xor_no h5)
  · exact q1
  · exact q2
  · exact q3
theorem rightM_e8 (m : MsgD) (hm : m.ok) (h1 : ¬ (m.kind < 1)) (h2 : ¬ (14 < m.kind)) (h3 : ¬ (m.of_ < 0)) (h4 : ¬ (13 < m.of_)) (h5 : ¬ (¬ (m.kind = 14 ↔ 0 < m.of_))) (h6 : placeB m.fr m.fn = true) (h7 : placeB m.tr m.tn = true) (h8 : inB m.id 1048576 = true) (h9 : inB m.err 256 = false) : ACalls Tryz.prog 51 [encM m] [] (.bool (rightM m)) [] := by
  have q1 := place_ac m.fr m.fn
  have q2 := place_ac m.tr m.tn
  have q3 := within_ac m.id 1048576
  have q4 := within_ac m.err 256
  have q5 := ballotB_ac m.br m.bc
  have q6 := ballotB_ac m.pr m.pc
  have q7 := riseB_ac m.streams hm.st
  have q8 := backsB_ac m.backs hm.b
  have q9 := noCell_ac m.cell hm.cell
  have q10 := right_ac m.cell
  have q11 := noLayout_ac m.lay
  have q12 := rightL_ac m.lay hm.lay.segs hm.lay.n
  rw [h6] at q1
  rw [h7] at q2
  rw [h8] at q3
  rw [h9] at q4
  rw [show rightM m = false by unfold rightM; rw [if_neg h1, if_neg h2, if_neg h3, if_neg h4, if_neg h5, if_neg (by rw [h6]; decide), if_neg (by rw [h7]; decide), if_neg (by rw [h8]; decide), if_pos h9]]
  refine acallsK mixed Tryz.func51 rfl [0, 1, 2, 3, 31, 54, 75] 1000 ([.f, .f, .f, .f, .k, .k, .f, .call [] false true (.bool true) [], .call [] false true (.bool true) [], .call [] false true (.bool true) [], .call [] false true (.bool false) []]) [] [] (v1 := .bool false) (objs1 := []) (ob := [decide (m.kind < (1 : Int)) = false,
 decide (m.kind > (14 : Int)) = false,
 decide (m.of_ < (0 : Int)) = false,
 decide (m.of_ > (13 : Int)) = false,
 (!(m.kind == (14 : Int)) == decide (m.of_ > (0 : Int))) = false,
 ACalls Tryz.prog 86 [.agg [.int .i64 m.fr, .int .i64 m.fn]] [] (.bool true) [],
 ACalls Tryz.prog 86 [.agg [.int .i64 m.tr, .int .i64 m.tn]] [] (.bool true) [],
 ACalls Tryz.prog 87 [.int .i64 m.id, .int .i64 1048576] [] (.bool true) [],
 ACalls Tryz.prog 87 [.int .i64 m.err, .int .i64 256] [] (.bool false) []]) (by kernel_rfl) (by first | exact rfl | exact ⟨rfl, rfl⟩ | (simp [encM, celM, celC, celL, h1, h2, h3, h4, h5, h6, h7, h8, h9]; done) | (first | omega | exact xor_yes h5 | exact xor_no h5)) ⟨?z0, ?z1, ?z2, ?z3, ?z4, ?q172_1, ?q172_2, ?q172_3, ?q172_4, trivial⟩
  case z0|z1|z2|z3|z4 => first | exact rfl | (simp [encM, celM, celC, celL, h1, h2, h3, h4, h5, h6, h7, h8, h9] <;> omega) | omega | (first | omega | exact xor_yes h5 | exact xor_no h5)
  · exact q1
  · exact q2
  · exact q3
  · exact q4
theorem rightM_e9 (m : MsgD) (hm : m.ok) (h1 : ¬ (m.kind < 1)) (h2 : ¬ (14 < m.kind)) (h3 : ¬ (m.of_ < 0)) (h4 : ¬ (13 < m.of_)) (h5 : ¬ (¬ (m.kind = 14 ↔ 0 < m.of_))) (h6 : placeB m.fr m.fn = true) (h7 : placeB m.tr m.tn = true) (h8 : inB m.id 1048576 = true) (h9 : inB m.err 256 = true) (h10 : 1048576 < m.epoch) : ACalls Tryz.prog 51 [encM m] [] (.bool (rightM m)) [] := by
  have q1 := place_ac m.fr m.fn
  have q2 := place_ac m.tr m.tn
  have q3 := within_ac m.id 1048576
  have q4 := within_ac m.err 256
  have q5 := ballotB_ac m.br m.bc
  have q6 := ballotB_ac m.pr m.pc
  have q7 := riseB_ac m.streams hm.st
  have q8 := backsB_ac m.backs hm.b
  have q9 := noCell_ac m.cell hm.cell
  have q10 := right_ac m.cell
  have q11 := noLayout_ac m.lay
  have q12 := rightL_ac m.lay hm.lay.segs hm.lay.n
  rw [h6] at q1
  rw [h7] at q2
  rw [h8] at q3
  rw [h9] at q4
  rw [show rightM m = false by unfold rightM; rw [if_neg h1, if_neg h2, if_neg h3, if_neg h4, if_neg h5, if_neg (by rw [h6]; decide), if_neg (by rw [h7]; decide), if_neg (by rw [h8]; decide), if_neg (by rw [h9]; decide), if_pos h10]]
  refine acallsK mixed Tryz.func51 rfl [0, 1, 2, 3, 31, 54, 75] 1000 ([.f, .f, .f, .f, .k, .k, .f, .call [] false true (.bool true) [], .call [] false true (.bool true) [], .call [] false true (.bool true) [], .call [] false true (.bool true) [], .t]) [] [] (v1 := .bool false) (objs1 := []) (ob := [decide (m.kind < (1 : Int)) = false,
 decide (m.kind > (14 : Int)) = false,
 decide (m.of_ < (0 : Int)) = false,
 decide (m.of_ > (13 : Int)) = false,
 (!(m.kind == (14 : Int)) == decide (m.of_ > (0 : Int))) = false,
 ACalls Tryz.prog 86 [.agg [.int .i64 m.fr, .int .i64 m.fn]] [] (.bool true) [],
 ACalls Tryz.prog 86 [.agg [.int .i64 m.tr, .int .i64 m.tn]] [] (.bool true) [],
 ACalls Tryz.prog 87 [.int .i64 m.id, .int .i64 1048576] [] (.bool true) [],
 ACalls Tryz.prog 87 [.int .i64 m.err, .int .i64 256] [] (.bool true) [],
 decide (m.epoch > (1048576 : Int)) = true]) (by kernel_rfl) (by first | exact rfl | exact ⟨rfl, rfl⟩ | (simp [encM, celM, celC, celL, h1, h2, h3, h4, h5, h6, h7, h8, h9, h10]; done) | (first | omega | exact xor_yes h5 | exact xor_no h5)) ⟨?z0, ?z1, ?z2, ?z3, ?z4, ?q195_1, ?q195_2, ?q195_3, ?q195_4, ?z5, trivial⟩
  case z0|z1|z2|z3|z4|z5 => first | exact rfl | (simp [encM, celM, celC, celL, h1, h2, h3, h4, h5, h6, h7, h8, h9, h10] <;> omega) | omega | (first | omega | exact xor_yes h5 | exact xor_no h5)
  · exact q1
  · exact q2
  · exact q3
  · exact q4
theorem rightM_e10 (m : MsgD) (hm : m.ok) (h1 : ¬ (m.kind < 1)) (h2 : ¬ (14 < m.kind)) (h3 : ¬ (m.of_ < 0)) (h4 : ¬ (13 < m.of_)) (h5 : ¬ (¬ (m.kind = 14 ↔ 0 < m.of_))) (h6 : placeB m.fr m.fn = true) (h7 : placeB m.tr m.tn = true) (h8 : inB m.id 1048576 = true) (h9 : inB m.err 256 = true) (h10 : ¬ (1048576 < m.epoch)) (h11 : 1048576 < m.addr) : ACalls Tryz.prog 51 [encM m] [] (.bool (rightM m)) [] := by
  have q1 := place_ac m.fr m.fn
  have q2 := place_ac m.tr m.tn
  have q3 := within_ac m.id 1048576
  have q4 := within_ac m.err 256
  have q5 := ballotB_ac m.br m.bc
  have q6 := ballotB_ac m.pr m.pc
  have q7 := riseB_ac m.streams hm.st
  have q8 := backsB_ac m.backs hm.b
  have q9 := noCell_ac m.cell hm.cell
  have q10 := right_ac m.cell
  have q11 := noLayout_ac m.lay
  have q12 := rightL_ac m.lay hm.lay.segs hm.lay.n
  rw [h6] at q1
  rw [h7] at q2
  rw [h8] at q3
  rw [h9] at q4
  rw [show rightM m = false by unfold rightM; rw [if_neg h1, if_neg h2, if_neg h3, if_neg h4, if_neg h5, if_neg (by rw [h6]; decide), if_neg (by rw [h7]; decide), if_neg (by rw [h8]; decide), if_neg (by rw [h9]; decide), if_neg h10, if_pos h11]]
  refine acallsK mixed Tryz.func51 rfl [0, 1, 2, 3, 31, 54, 75] 1000 ([.f, .f, .f, .f, .k, .k, .f, .call [] false true (.bool true) [], .call [] false true (.bool true) [], .call [] false true (.bool true) [], .call [] false true (.bool true) [], .f, .t]) [] [] (v1 := .bool false) (objs1 := []) (ob := [decide (m.kind < (1 : Int)) = false,
 decide (m.kind > (14 : Int)) = false,
 decide (m.of_ < (0 : Int)) = false,
 decide (m.of_ > (13 : Int)) = false,
 (!(m.kind == (14 : Int)) == decide (m.of_ > (0 : Int))) = false,
 ACalls Tryz.prog 86 [.agg [.int .i64 m.fr, .int .i64 m.fn]] [] (.bool true) [],
 ACalls Tryz.prog 86 [.agg [.int .i64 m.tr, .int .i64 m.tn]] [] (.bool true) [],
 ACalls Tryz.prog 87 [.int .i64 m.id, .int .i64 1048576] [] (.bool true) [],
 ACalls Tryz.prog 87 [.int .i64 m.err, .int .i64 256] [] (.bool true) [],
 decide (m.epoch > (1048576 : Int)) = false,
 decide (m.addr > (1048576 : Int)) = true]) (by kernel_rfl) (by first | exact rfl | exact ⟨rfl, rfl⟩ | (simp [encM, celM, celC, celL, h1, h2, h3, h4, h5, h6, h7, h8, h9, h10, h11]; done) | (first | omega | exact xor_yes h5 | exact xor_no h5)) ⟨?z0, ?z1, ?z2, ?z3, ?z4, ?q218_1, ?q218_2, ?q218_3, ?q218_4, ?z5, ?z6, trivial⟩
  case z0|z1|z2|z3|z4|z5|z6 => first | exact rfl | (simp [encM, celM, celC, celL, h1, h2, h3, h4, h5, h6, h7, h8, h9, h10, h11] <;> omega) | omega | (first | omega | exact xor_yes h5 | exact xor_no h5)
  · exact q1
  · exact q2
  · exact q3
  · exact q4
theorem rightM_e11 (m : MsgD) (hm : m.ok) (h1 : ¬ (m.kind < 1)) (h2 : ¬ (14 < m.kind)) (h3 : ¬ (m.of_ < 0)) (h4 : ¬ (13 < m.of_)) (h5 : ¬ (¬ (m.kind = 14 ↔ 0 < m.of_))) (h6 : placeB m.fr m.fn = true) (h7 : placeB m.tr m.tn = true) (h8 : inB m.id 1048576 = true) (h9 : inB m.err 256 = true) (h10 : ¬ (1048576 < m.epoch)) (h11 : ¬ (1048576 < m.addr)) (h12 : ballotB m.br m.bc = false) : ACalls Tryz.prog 51 [encM m] [] (.bool (rightM m)) [] := by
  have q1 := place_ac m.fr m.fn
  have q2 := place_ac m.tr m.tn
  have q3 := within_ac m.id 1048576
  have q4 := within_ac m.err 256
  have q5 := ballotB_ac m.br m.bc
  have q6 := ballotB_ac m.pr m.pc
  have q7 := riseB_ac m.streams hm.st
  have q8 := backsB_ac m.backs hm.b
  have q9 := noCell_ac m.cell hm.cell
  have q10 := right_ac m.cell
  have q11 := noLayout_ac m.lay
  have q12 := rightL_ac m.lay hm.lay.segs hm.lay.n
  rw [h6] at q1
  rw [h7] at q2
  rw [h8] at q3
  rw [h9] at q4
  rw [h12] at q5
  rw [show rightM m = false by unfold rightM; rw [if_neg h1, if_neg h2, if_neg h3, if_neg h4, if_neg h5, if_neg (by rw [h6]; decide), if_neg (by rw [h7]; decide), if_neg (by rw [h8]; decide), if_neg (by rw [h9]; decide), if_neg h10, if_neg h11, if_pos h12]]
  refine acallsK mixed Tryz.func51 rfl [0, 1, 2, 3, 31, 54, 75] 1000 ([.f, .f, .f, .f, .k, .k, .f, .call [] false true (.bool true) [], .call [] false true (.bool true) [], .call [] false true (.bool true) [], .call [] false true (.bool true) [], .f, .f, .call [] false true (.bool false) []]) [] [] (v1 := .bool false) (objs1 := []) (ob := [decide (m.kind < (1 : Int)) = false,
 decide (m.kind > (14 : Int)) = false,
 decide (m.of_ < (0 : Int)) = false,
 decide (m.of_ > (13 : Int)) = false,
 (!(m.kind == (14 : Int)) == decide (m.of_ > (0 : Int))) = false,
 ACalls Tryz.prog 86 [.agg [.int .i64 m.fr, .int .i64 m.fn]] [] (.bool true) [],
 ACalls Tryz.prog 86 [.agg [.int .i64 m.tr, .int .i64 m.tn]] [] (.bool true) [],
 ACalls Tryz.prog 87 [.int .i64 m.id, .int .i64 1048576] [] (.bool true) [],
 ACalls Tryz.prog 87 [.int .i64 m.err, .int .i64 256] [] (.bool true) [],
 decide (m.epoch > (1048576 : Int)) = false,
 decide (m.addr > (1048576 : Int)) = false,
 ACalls Tryz.prog 88 [.agg [.int .i64 m.br, .int .i64 m.bc]] [] (.bool false) []]) (by kernel_rfl) (by first | exact rfl | exact ⟨rfl, rfl⟩ | (simp [encM, celM, celC, celL, h1, h2, h3, h4, h5, h6, h7, h8, h9, h10, h11, h12]; done) | (first | omega | exact xor_yes h5 | exact xor_no h5)) ⟨?z0, ?z1, ?z2, ?z3, ?z4, ?q242_1, ?q242_2, ?q242_3, ?q242_4, ?z5, ?z6, ?q242_5, trivial⟩
  case z0|z1|z2|z3|z4|z5|z6 => first | exact rfl | (simp [encM, celM, celC, celL, h1, h2, h3, h4, h5, h6, h7, h8, h9, h10, h11, h12] <;> omega) | omega | (first | omega | exact xor_yes h5 | exact xor_no h5)
  · exact q1
  · exact q2
  · exact q3
  · exact q4
  · exact q5
theorem rightM_e12 (m : MsgD) (hm : m.ok) (h1 : ¬ (m.kind < 1)) (h2 : ¬ (14 < m.kind)) (h3 : ¬ (m.of_ < 0)) (h4 : ¬ (13 < m.of_)) (h5 : ¬ (¬ (m.kind = 14 ↔ 0 < m.of_))) (h6 : placeB m.fr m.fn = true) (h7 : placeB m.tr m.tn = true) (h8 : inB m.id 1048576 = true) (h9 : inB m.err 256 = true) (h10 : ¬ (1048576 < m.epoch)) (h11 : ¬ (1048576 < m.addr)) (h12 : ballotB m.br m.bc = true) (h13 : ballotB m.pr m.pc = false) : ACalls Tryz.prog 51 [encM m] [] (.bool (rightM m)) [] := by
  have q1 := place_ac m.fr m.fn
  have q2 := place_ac m.tr m.tn
  have q3 := within_ac m.id 1048576
  have q4 := within_ac m.err 256
  have q5 := ballotB_ac m.br m.bc
  have q6 := ballotB_ac m.pr m.pc
  have q7 := riseB_ac m.streams hm.st
  have q8 := backsB_ac m.backs hm.b
  have q9 := noCell_ac m.cell hm.cell
  have q10 := right_ac m.cell
  have q11 := noLayout_ac m.lay
  have q12 := rightL_ac m.lay hm.lay.segs hm.lay.n
  rw [h6] at q1
  rw [h7] at q2
  rw [h8] at q3
  rw [h9] at q4
  rw [h12] at q5
  rw [h13] at q6
  rw [show rightM m = false by unfold rightM; rw [if_neg h1, if_neg h2, if_neg h3, if_neg h4, if_neg h5, if_neg (by rw [h6]; decide), if_neg (by rw [h7]; decide), if_neg (by rw [h8]; decide), if_neg (by rw [h9]; decide), if_neg h10, if_neg h11, if_neg (by rw [h12]; decide), if_pos h13]]
  refine acallsK mixed Tryz.func51 rfl [0, 1, 2, 3, 31, 54, 75] 1000 ([.f, .f, .f, .f, .k, .k, .f, .call [] false true (.bool true) [], .call [] false true (.bool true) [], .call [] false true (.bool true) [], .call [] false true (.bool true) [], .f, .f, .call [] false true (.bool true) [], .call [] false true (.bool false) []]) [] [] (v1 := .bool false) (objs1 := []) (ob := [decide (m.kind < (1 : Int)) = false,
 decide (m.kind > (14 : Int)) = false,
 decide (m.of_ < (0 : Int)) = false,
 decide (m.of_ > (13 : Int)) = false,
 (!(m.kind == (14 : Int)) == decide (m.of_ > (0 : Int))) = false,
 ACalls Tryz.prog 86 [.agg [.int .i64 m.fr, .int .i64 m.fn]] [] (.bool true) [],
 ACalls Tryz.prog 86 [.agg [.int .i64 m.tr, .int .i64 m.tn]] [] (.bool true) [],
 ACalls Tryz.prog 87 [.int .i64 m.id, .int .i64 1048576] [] (.bool true) [],
 ACalls Tryz.prog 87 [.int .i64 m.err, .int .i64 256] [] (.bool true) [],
 decide (m.epoch > (1048576 : Int)) = false,
 decide (m.addr > (1048576 : Int)) = false,
 ACalls Tryz.prog 88 [.agg [.int .i64 m.br, .int .i64 m.bc]] [] (.bool true) [],
 ACalls Tryz.prog 88 [.agg [.int .i64 m.pr, .int .i64 m.pc]] [] (.bool false) []]) (by kernel_rfl) (by first | exact rfl | exact ⟨rfl, rfl⟩ | (simp [encM, celM, celC, celL, h1, h2, h3, h4, h5, h6, h7, h8, h9, h10, h11, h12, h13]; done) | (first | omega | exact xor_yes h5 | exact xor_no h5)) ⟨?z0, ?z1, ?z2, ?z3, ?z4, ?q268_1, ?q268_2, ?q268_3, ?q268_4, ?z5, ?z6, ?q268_5, ?q268_6, trivial⟩
  case z0|z1|z2|z3|z4|z5|z6 => first | exact rfl | (simp [encM, celM, celC, celL, h1, h2, h3, h4, h5, h6, h7, h8, h9, h10, h11, h12, h13] <;> omega) | omega | (first | omega | exact xor_yes h5 | exact xor_no h5)
  · exact q1
  · exact q2
  · exact q3
  · exact q4
  · exact q5
  · exact q6
theorem rightM_e13 (m : MsgD) (hm : m.ok) (h1 : ¬ (m.kind < 1)) (h2 : ¬ (14 < m.kind)) (h3 : ¬ (m.of_ < 0)) (h4 : ¬ (13 < m.of_)) (h5 : ¬ (¬ (m.kind = 14 ↔ 0 < m.of_))) (h6 : placeB m.fr m.fn = true) (h7 : placeB m.tr m.tn = true) (h8 : inB m.id 1048576 = true) (h9 : inB m.err 256 = true) (h10 : ¬ (1048576 < m.epoch)) (h11 : ¬ (1048576 < m.addr)) (h12 : ballotB m.br m.bc = true) (h13 : ballotB m.pr m.pc = true) (h14 : 4 < m.streams.length) : ACalls Tryz.prog 51 [encM m] [] (.bool (rightM m)) [] := by
  have q1 := place_ac m.fr m.fn
  have q2 := place_ac m.tr m.tn
  have q3 := within_ac m.id 1048576
  have q4 := within_ac m.err 256
  have q5 := ballotB_ac m.br m.bc
  have q6 := ballotB_ac m.pr m.pc
  have q7 := riseB_ac m.streams hm.st
  have q8 := backsB_ac m.backs hm.b
  have q9 := noCell_ac m.cell hm.cell
  have q10 := right_ac m.cell
  have q11 := noLayout_ac m.lay
  have q12 := rightL_ac m.lay hm.lay.segs hm.lay.n
  rw [h6] at q1
  rw [h7] at q2
  rw [h8] at q3
  rw [h9] at q4
  rw [h12] at q5
  rw [h13] at q6
  rw [show rightM m = false by unfold rightM; rw [if_neg h1, if_neg h2, if_neg h3, if_neg h4, if_neg h5, if_neg (by rw [h6]; decide), if_neg (by rw [h7]; decide), if_neg (by rw [h8]; decide), if_neg (by rw [h9]; decide), if_neg h10, if_neg h11, if_neg (by rw [h12]; decide), if_neg (by rw [h13]; decide), if_pos h14]]
  refine acallsK mixed Tryz.func51 rfl [0, 1, 2, 3, 31, 54, 75] 1000 ([.f, .f, .f, .f, .k, .k, .f, .call [] false true (.bool true) [], .call [] false true (.bool true) [], .call [] false true (.bool true) [], .call [] false true (.bool true) [], .f, .f, .call [] false true (.bool true) [], .call [] false true (.bool true) [], .n m.streams.length, .t]) [] [] (v1 := .bool false) (objs1 := []) (ob := [decide (m.kind < (1 : Int)) = false,
 decide (m.kind > (14 : Int)) = false,
 decide (m.of_ < (0 : Int)) = false,
 decide (m.of_ > (13 : Int)) = false,
 (!(m.kind == (14 : Int)) == decide (m.of_ > (0 : Int))) = false,
 ACalls Tryz.prog 86 [.agg [.int .i64 m.fr, .int .i64 m.fn]] [] (.bool true) [],
 ACalls Tryz.prog 86 [.agg [.int .i64 m.tr, .int .i64 m.tn]] [] (.bool true) [],
 ACalls Tryz.prog 87 [.int .i64 m.id, .int .i64 1048576] [] (.bool true) [],
 ACalls Tryz.prog 87 [.int .i64 m.err, .int .i64 256] [] (.bool true) [],
 decide (m.epoch > (1048576 : Int)) = false,
 decide (m.addr > (1048576 : Int)) = false,
 ACalls Tryz.prog 88 [.agg [.int .i64 m.br, .int .i64 m.bc]] [] (.bool true) [],
 ACalls Tryz.prog 88 [.agg [.int .i64 m.pr, .int .i64 m.pc]] [] (.bool true) [],
 ((List.map intA m.streams).length : Int) = (m.streams.length : Int),
 decide ((m.streams.length : Int) > (4 : Int)) = true]) (by kernel_rfl) (by first | exact rfl | exact ⟨rfl, rfl⟩ | (simp [encM, celM, celC, celL, h1, h2, h3, h4, h5, h6, h7, h8, h9, h10, h11, h12, h13, h14]; done) | (first | omega | exact xor_yes h5 | exact xor_no h5)) ⟨?z0, ?z1, ?z2, ?z3, ?z4, ?q295_1, ?q295_2, ?q295_3, ?q295_4, ?z5, ?z6, ?q295_5, ?q295_6, ?z7, ?z8, trivial⟩
  case z0|z1|z2|z3|z4|z5|z6|z7|z8 => first | exact rfl | (simp [encM, celM, celC, celL, h1, h2, h3, h4, h5, h6, h7, h8, h9, h10, h11, h12, h13, h14] <;> omega) | omega | (first | omega | exact xor_yes h5 | exact xor_no h5)
  · exact q1
  · exact q2
  · exact q3
  · exact q4
  · exact q5
  · exact q6
theorem rightM_e14 (m : MsgD) (hm : m.ok) (h1 : ¬ (m.kind < 1)) (h2 : ¬ (14 < m.kind)) (h3 : ¬ (m.of_ < 0)) (h4 : ¬ (13 < m.of_)) (h5 : ¬ (¬ (m.kind = 14 ↔ 0 < m.of_))) (h6 : placeB m.fr m.fn = true) (h7 : placeB m.tr m.tn = true) (h8 : inB m.id 1048576 = true) (h9 : inB m.err 256 = true) (h10 : ¬ (1048576 < m.epoch)) (h11 : ¬ (1048576 < m.addr)) (h12 : ballotB m.br m.bc = true) (h13 : ballotB m.pr m.pc = true) (h14 : ¬ (4 < m.streams.length)) (h15 : riseB m.streams = false) : ACalls Tryz.prog 51 [encM m] [] (.bool (rightM m)) [] := by
  have q1 := place_ac m.fr m.fn
  have q2 := place_ac m.tr m.tn
  have q3 := within_ac m.id 1048576
  have q4 := within_ac m.err 256
  have q5 := ballotB_ac m.br m.bc
  have q6 := ballotB_ac m.pr m.pc
  have q7 := riseB_ac m.streams hm.st
  have q8 := backsB_ac m.backs hm.b
  have q9 := noCell_ac m.cell hm.cell
  have q10 := right_ac m.cell
  have q11 := noLayout_ac m.lay
  have q12 := rightL_ac m.lay hm.lay.segs hm.lay.n
  rw [h6] at q1
  rw [h7] at q2
  rw [h8] at q3
  rw [h9] at q4
  rw [h12] at q5
  rw [h13] at q6
  rw [h15] at q7
  rw [show rightM m = false by unfold rightM; rw [if_neg h1, if_neg h2, if_neg h3, if_neg h4, if_neg h5, if_neg (by rw [h6]; decide), if_neg (by rw [h7]; decide), if_neg (by rw [h8]; decide), if_neg (by rw [h9]; decide), if_neg h10, if_neg h11, if_neg (by rw [h12]; decide), if_neg (by rw [h13]; decide), if_neg h14, if_pos h15]]
  refine acallsK mixed Tryz.func51 rfl [0, 1, 2, 3, 31, 54, 75] 1000 ([.f, .f, .f, .f, .k, .k, .f, .call [] false true (.bool true) [], .call [] false true (.bool true) [], .call [] false true (.bool true) [], .call [] false true (.bool true) [], .f, .f, .call [] false true (.bool true) [], .call [] false true (.bool true) [], .n m.streams.length, .f, .call [] false true (.bool false) []]) [] [] (v1 := .bool false) (objs1 := []) (ob := [decide (m.kind < (1 : Int)) = false,
 decide (m.kind > (14 : Int)) = false,
 decide (m.of_ < (0 : Int)) = false,
 decide (m.of_ > (13 : Int)) = false,
 (!(m.kind == (14 : Int)) == decide (m.of_ > (0 : Int))) = false,
 ACalls Tryz.prog 86 [.agg [.int .i64 m.fr, .int .i64 m.fn]] [] (.bool true) [],
 ACalls Tryz.prog 86 [.agg [.int .i64 m.tr, .int .i64 m.tn]] [] (.bool true) [],
 ACalls Tryz.prog 87 [.int .i64 m.id, .int .i64 1048576] [] (.bool true) [],
 ACalls Tryz.prog 87 [.int .i64 m.err, .int .i64 256] [] (.bool true) [],
 decide (m.epoch > (1048576 : Int)) = false,
 decide (m.addr > (1048576 : Int)) = false,
 ACalls Tryz.prog 88 [.agg [.int .i64 m.br, .int .i64 m.bc]] [] (.bool true) [],
 ACalls Tryz.prog 88 [.agg [.int .i64 m.pr, .int .i64 m.pc]] [] (.bool true) [],
 ((List.map intA m.streams).length : Int) = (m.streams.length : Int),
 decide ((m.streams.length : Int) > (4 : Int)) = false,
 ACalls Tryz.prog 89 [.lst 1 (List.map intA m.streams)] [] (.bool false) []]) (by kernel_rfl) (by first | exact rfl | exact ⟨rfl, rfl⟩ | (simp [encM, celM, celC, celL, h1, h2, h3, h4, h5, h6, h7, h8, h9, h10, h11, h12, h13, h14, h15]; done) | (first | omega | exact xor_yes h5 | exact xor_no h5)) ⟨?z0, ?z1, ?z2, ?z3, ?z4, ?q323_1, ?q323_2, ?q323_3, ?q323_4, ?z5, ?z6, ?q323_5, ?q323_6, ?z7, ?z8, ?q323_7, trivial⟩
  case z0|z1|z2|z3|z4|z5|z6|z7|z8 => first | exact rfl | (simp [encM, celM, celC, celL, h1, h2, h3, h4, h5, h6, h7, h8, h9, h10, h11, h12, h13, h14, h15] <;> omega) | omega | (first | omega | exact xor_yes h5 | exact xor_no h5)
  · exact q1
  · exact q2
  · exact q3
  · exact q4
  · exact q5
  · exact q6
  · exact q7
theorem rightM_e15 (m : MsgD) (hm : m.ok) (h1 : ¬ (m.kind < 1)) (h2 : ¬ (14 < m.kind)) (h3 : ¬ (m.of_ < 0)) (h4 : ¬ (13 < m.of_)) (h5 : ¬ (¬ (m.kind = 14 ↔ 0 < m.of_))) (h6 : placeB m.fr m.fn = true) (h7 : placeB m.tr m.tn = true) (h8 : inB m.id 1048576 = true) (h9 : inB m.err 256 = true) (h10 : ¬ (1048576 < m.epoch)) (h11 : ¬ (1048576 < m.addr)) (h12 : ballotB m.br m.bc = true) (h13 : ballotB m.pr m.pc = true) (h14 : ¬ (4 < m.streams.length)) (h15 : riseB m.streams = true) (h16 : backsB m.backs = false) : ACalls Tryz.prog 51 [encM m] [] (.bool (rightM m)) [] := by
  have q1 := place_ac m.fr m.fn
  have q2 := place_ac m.tr m.tn
  have q3 := within_ac m.id 1048576
  have q4 := within_ac m.err 256
  have q5 := ballotB_ac m.br m.bc
  have q6 := ballotB_ac m.pr m.pc
  have q7 := riseB_ac m.streams hm.st
  have q8 := backsB_ac m.backs hm.b
  have q9 := noCell_ac m.cell hm.cell
  have q10 := right_ac m.cell
  have q11 := noLayout_ac m.lay
  have q12 := rightL_ac m.lay hm.lay.segs hm.lay.n
  rw [h6] at q1
  rw [h7] at q2
  rw [h8] at q3
  rw [h9] at q4
  rw [h12] at q5
  rw [h13] at q6
  rw [h15] at q7
  rw [h16] at q8
  rw [show rightM m = false by unfold rightM; rw [if_neg h1, if_neg h2, if_neg h3, if_neg h4, if_neg h5, if_neg (by rw [h6]; decide), if_neg (by rw [h7]; decide), if_neg (by rw [h8]; decide), if_neg (by rw [h9]; decide), if_neg h10, if_neg h11, if_neg (by rw [h12]; decide), if_neg (by rw [h13]; decide), if_neg h14, if_neg (by rw [h15]; decide), if_pos h16]]
  refine acallsK mixed Tryz.func51 rfl [0, 1, 2, 3, 31, 54, 75] 1000 ([.f, .f, .f, .f, .k, .k, .f, .call [] false true (.bool true) [], .call [] false true (.bool true) [], .call [] false true (.bool true) [], .call [] false true (.bool true) [], .f, .f, .call [] false true (.bool true) [], .call [] false true (.bool true) [], .n m.streams.length, .f, .call [] false true (.bool true) [], .call [] false true (.bool false) []]) [] [] (v1 := .bool false) (objs1 := []) (ob := [decide (m.kind < (1 : Int)) = false,
 decide (m.kind > (14 : Int)) = false,
 decide (m.of_ < (0 : Int)) = false,
 decide (m.of_ > (13 : Int)) = false,
 (!(m.kind == (14 : Int)) == decide (m.of_ > (0 : Int))) = false,
 ACalls Tryz.prog 86 [.agg [.int .i64 m.fr, .int .i64 m.fn]] [] (.bool true) [],
 ACalls Tryz.prog 86 [.agg [.int .i64 m.tr, .int .i64 m.tn]] [] (.bool true) [],
 ACalls Tryz.prog 87 [.int .i64 m.id, .int .i64 1048576] [] (.bool true) [],
 ACalls Tryz.prog 87 [.int .i64 m.err, .int .i64 256] [] (.bool true) [],
 decide (m.epoch > (1048576 : Int)) = false,
 decide (m.addr > (1048576 : Int)) = false,
 ACalls Tryz.prog 88 [.agg [.int .i64 m.br, .int .i64 m.bc]] [] (.bool true) [],
 ACalls Tryz.prog 88 [.agg [.int .i64 m.pr, .int .i64 m.pc]] [] (.bool true) [],
 ((List.map intA m.streams).length : Int) = (m.streams.length : Int),
 decide ((m.streams.length : Int) > (4 : Int)) = false,
 ACalls Tryz.prog 89 [.lst 1 (List.map intA m.streams)] [] (.bool true) [],
 ACalls Tryz.prog 90 [.lst 3 (List.map encB m.backs)] [] (.bool false) []]) (by kernel_rfl) (by first | exact rfl | exact ⟨rfl, rfl⟩ | (simp [encM, celM, celC, celL, h1, h2, h3, h4, h5, h6, h7, h8, h9, h10, h11, h12, h13, h14, h15, h16]; done) | (first | omega | exact xor_yes h5 | exact xor_no h5)) ⟨?z0, ?z1, ?z2, ?z3, ?z4, ?q353_1, ?q353_2, ?q353_3, ?q353_4, ?z5, ?z6, ?q353_5, ?q353_6, ?z7, ?z8, ?q353_7, ?q353_8, trivial⟩
  case z0|z1|z2|z3|z4|z5|z6|z7|z8 => first | exact rfl | (simp [encM, celM, celC, celL, h1, h2, h3, h4, h5, h6, h7, h8, h9, h10, h11, h12, h13, h14, h15, h16] <;> omega) | omega | (first | omega | exact xor_yes h5 | exact xor_no h5)
  · exact q1
  · exact q2
  · exact q3
  · exact q4
  · exact q5
  · exact q6
  · exact q7
  · exact q8
theorem rightM_e16 (m : MsgD) (hm : m.ok) (h1 : ¬ (m.kind < 1)) (h2 : ¬ (14 < m.kind)) (h3 : ¬ (m.of_ < 0)) (h4 : ¬ (13 < m.of_)) (h5 : ¬ (¬ (m.kind = 14 ↔ 0 < m.of_))) (h6 : placeB m.fr m.fn = true) (h7 : placeB m.tr m.tn = true) (h8 : inB m.id 1048576 = true) (h9 : inB m.err 256 = true) (h10 : ¬ (1048576 < m.epoch)) (h11 : ¬ (1048576 < m.addr)) (h12 : ballotB m.br m.bc = true) (h13 : ballotB m.pr m.pc = true) (h14 : ¬ (4 < m.streams.length)) (h15 : riseB m.streams = true) (h16 : backsB m.backs = true) (k1 : sameC m.cell cell0 = true) (k3 : noLayB m.lay = true) : ACalls Tryz.prog 51 [encM m] [] (.bool (rightM m)) [] := by
  have q1 := place_ac m.fr m.fn
  have q2 := place_ac m.tr m.tn
  have q3 := within_ac m.id 1048576
  have q4 := within_ac m.err 256
  have q5 := ballotB_ac m.br m.bc
  have q6 := ballotB_ac m.pr m.pc
  have q7 := riseB_ac m.streams hm.st
  have q8 := backsB_ac m.backs hm.b
  have q9 := noCell_ac m.cell hm.cell
  have q10 := right_ac m.cell
  have q11 := noLayout_ac m.lay
  have q12 := rightL_ac m.lay hm.lay.segs hm.lay.n
  rw [h6] at q1
  rw [h7] at q2
  rw [h8] at q3
  rw [h9] at q4
  rw [h12] at q5
  rw [h13] at q6
  rw [h15] at q7
  rw [h16] at q8
  rw [k1] at q9
  rw [k3] at q11
  rw [show rightM m = true by unfold rightM; rw [if_neg h1, if_neg h2, if_neg h3, if_neg h4, if_neg h5, if_neg (by rw [h6]; decide), if_neg (by rw [h7]; decide), if_neg (by rw [h8]; decide), if_neg (by rw [h9]; decide), if_neg h10, if_neg h11, if_neg (by rw [h12]; decide), if_neg (by rw [h13]; decide), if_neg h14, if_neg (by rw [h15]; decide), if_neg (by rw [h16]; decide)]; unfold restM; simp [k1, k3]]
  refine acallsK mixed Tryz.func51 rfl [0, 1, 2, 3, 31, 54, 75] 1000 ([.f, .f, .f, .f, .k, .k, .f, .call [] false true (.bool true) [], .call [] false true (.bool true) [], .call [] false true (.bool true) [], .call [] false true (.bool true) [], .f, .f, .call [] false true (.bool true) [], .call [] false true (.bool true) [], .n m.streams.length, .f, .call [] false true (.bool true) [], .call [] false true (.bool true) [], .call [] false true (.bool true) [], .call [] false true (.bool true) []]) [] [] (v1 := .bool true) (objs1 := []) (ob := [decide (m.kind < (1 : Int)) = false,
 decide (m.kind > (14 : Int)) = false,
 decide (m.of_ < (0 : Int)) = false,
 decide (m.of_ > (13 : Int)) = false,
 (!(m.kind == (14 : Int)) == decide (m.of_ > (0 : Int))) = false,
 ACalls Tryz.prog 86 [.agg [.int .i64 m.fr, .int .i64 m.fn]] [] (.bool true) [],
 ACalls Tryz.prog 86 [.agg [.int .i64 m.tr, .int .i64 m.tn]] [] (.bool true) [],
 ACalls Tryz.prog 87 [.int .i64 m.id, .int .i64 1048576] [] (.bool true) [],
 ACalls Tryz.prog 87 [.int .i64 m.err, .int .i64 256] [] (.bool true) [],
 decide (m.epoch > (1048576 : Int)) = false,
 decide (m.addr > (1048576 : Int)) = false,
 ACalls Tryz.prog 88 [.agg [.int .i64 m.br, .int .i64 m.bc]] [] (.bool true) [],
 ACalls Tryz.prog 88 [.agg [.int .i64 m.pr, .int .i64 m.pc]] [] (.bool true) [],
 ((List.map intA m.streams).length : Int) = (m.streams.length : Int),
 decide ((m.streams.length : Int) > (4 : Int)) = false,
 ACalls Tryz.prog 89 [.lst 1 (List.map intA m.streams)] [] (.bool true) [],
 ACalls Tryz.prog 90 [.lst 3 (List.map encB m.backs)] [] (.bool true) [],
 ACalls Tryz.prog 91 [(encC m.cell)] [] (.bool true) [],
 ACalls Tryz.prog 92 [(encL m.lay)] [] (.bool true) []]) (by kernel_rfl) (by first | exact rfl | exact ⟨rfl, rfl⟩ | (simp [encM, celM, celC, celL, h1, h2, h3, h4, h5, h6, h7, h8, h9, h10, h11, h12, h13, h14, h15, h16, k1, k3]; done) | (first | omega | exact xor_yes h5 | exact xor_no h5)) ⟨?z0, ?z1, ?z2, ?z3, ?z4, ?q386_1, ?q386_2, ?q386_3, ?q386_4, ?z5, ?z6, ?q386_5, ?q386_6, ?z7, ?z8, ?q386_7, ?q386_8, ?q386_9, ?q386_10, trivial⟩
  case z0|z1|z2|z3|z4|z5|z6|z7|z8 => first | exact rfl | (simp [encM, celM, celC, celL, h1, h2, h3, h4, h5, h6, h7, h8, h9, h10, h11, h12, h13, h14, h15, h16, k1, k3] <;> omega) | omega | (first | omega | exact xor_yes h5 | exact xor_no h5)
  · exact q1
  · exact q2
  · exact q3
  · exact q4
  · exact q5
  · exact q6
  · exact q7
  · exact q8
  · exact q9
  · exact q11
theorem rightM_e17 (m : MsgD) (hm : m.ok) (h1 : ¬ (m.kind < 1)) (h2 : ¬ (14 < m.kind)) (h3 : ¬ (m.of_ < 0)) (h4 : ¬ (13 < m.of_)) (h5 : ¬ (¬ (m.kind = 14 ↔ 0 < m.of_))) (h6 : placeB m.fr m.fn = true) (h7 : placeB m.tr m.tn = true) (h8 : inB m.id 1048576 = true) (h9 : inB m.err 256 = true) (h10 : ¬ (1048576 < m.epoch)) (h11 : ¬ (1048576 < m.addr)) (h12 : ballotB m.br m.bc = true) (h13 : ballotB m.pr m.pc = true) (h14 : ¬ (4 < m.streams.length)) (h15 : riseB m.streams = true) (h16 : backsB m.backs = true) (k1 : sameC m.cell cell0 = true) (k3 : noLayB m.lay = false) : ACalls Tryz.prog 51 [encM m] [] (.bool (rightM m)) [] := by
  have q1 := place_ac m.fr m.fn
  have q2 := place_ac m.tr m.tn
  have q3 := within_ac m.id 1048576
  have q4 := within_ac m.err 256
  have q5 := ballotB_ac m.br m.bc
  have q6 := ballotB_ac m.pr m.pc
  have q7 := riseB_ac m.streams hm.st
  have q8 := backsB_ac m.backs hm.b
  have q9 := noCell_ac m.cell hm.cell
  have q10 := right_ac m.cell
  have q11 := noLayout_ac m.lay
  have q12 := rightL_ac m.lay hm.lay.segs hm.lay.n
  rw [h6] at q1
  rw [h7] at q2
  rw [h8] at q3
  rw [h9] at q4
  rw [h12] at q5
  rw [h13] at q6
  rw [h15] at q7
  rw [h16] at q8
  rw [k1] at q9
  rw [k3] at q11
  rw [show rightM m = rightL m.lay by unfold rightM; rw [if_neg h1, if_neg h2, if_neg h3, if_neg h4, if_neg h5, if_neg (by rw [h6]; decide), if_neg (by rw [h7]; decide), if_neg (by rw [h8]; decide), if_neg (by rw [h9]; decide), if_neg h10, if_neg h11, if_neg (by rw [h12]; decide), if_neg (by rw [h13]; decide), if_neg h14, if_neg (by rw [h15]; decide), if_neg (by rw [h16]; decide)]; unfold restM; simp [k1, k3]]
  refine acallsK mixed Tryz.func51 rfl [0, 1, 2, 3, 31, 54, 75] 1000 ([.f, .f, .f, .f, .k, .k, .f, .call [] false true (.bool true) [], .call [] false true (.bool true) [], .call [] false true (.bool true) [], .call [] false true (.bool true) [], .f, .f, .call [] false true (.bool true) [], .call [] false true (.bool true) [], .n m.streams.length, .f, .call [] false true (.bool true) [], .call [] false true (.bool true) [], .call [] false true (.bool true) [], .call [] false true (.bool false) [], .call [] false true (.bool (rightL m.lay)) []]) [] [] (v1 := .bool (rightL m.lay)) (objs1 := []) (ob := [decide (m.kind < (1 : Int)) = false,
 decide (m.kind > (14 : Int)) = false,
 decide (m.of_ < (0 : Int)) = false,
 decide (m.of_ > (13 : Int)) = false,
 (!(m.kind == (14 : Int)) == decide (m.of_ > (0 : Int))) = false,
 ACalls Tryz.prog 86 [.agg [.int .i64 m.fr, .int .i64 m.fn]] [] (.bool true) [],
 ACalls Tryz.prog 86 [.agg [.int .i64 m.tr, .int .i64 m.tn]] [] (.bool true) [],
 ACalls Tryz.prog 87 [.int .i64 m.id, .int .i64 1048576] [] (.bool true) [],
 ACalls Tryz.prog 87 [.int .i64 m.err, .int .i64 256] [] (.bool true) [],
 decide (m.epoch > (1048576 : Int)) = false,
 decide (m.addr > (1048576 : Int)) = false,
 ACalls Tryz.prog 88 [.agg [.int .i64 m.br, .int .i64 m.bc]] [] (.bool true) [],
 ACalls Tryz.prog 88 [.agg [.int .i64 m.pr, .int .i64 m.pc]] [] (.bool true) [],
 ((List.map intA m.streams).length : Int) = (m.streams.length : Int),
 decide ((m.streams.length : Int) > (4 : Int)) = false,
 ACalls Tryz.prog 89 [.lst 1 (List.map intA m.streams)] [] (.bool true) [],
 ACalls Tryz.prog 90 [.lst 3 (List.map encB m.backs)] [] (.bool true) [],
 ACalls Tryz.prog 91 [(encC m.cell)] [] (.bool true) [],
 ACalls Tryz.prog 92 [(encL m.lay)] [] (.bool false) [],
 ACalls Tryz.prog 93 [(encL m.lay)] [] (.bool (rightL m.lay)) []]) (by kernel_rfl) (by first | exact rfl | exact ⟨rfl, rfl⟩ | (simp [encM, celM, celC, celL, h1, h2, h3, h4, h5, h6, h7, h8, h9, h10, h11, h12, h13, h14, h15, h16, k1, k3]; done) | (first | omega | exact xor_yes h5 | exact xor_no h5)) ⟨?z0, ?z1, ?z2, ?z3, ?z4, ?q421_1, ?q421_2, ?q421_3, ?q421_4, ?z5, ?z6, ?q421_5, ?q421_6, ?z7, ?z8, ?q421_7, ?q421_8, ?q421_9, ?q421_10, ?q421_11, trivial⟩
  case z0|z1|z2|z3|z4|z5|z6|z7|z8 => first | exact rfl | (simp [encM, celM, celC, celL, h1, h2, h3, h4, h5, h6, h7, h8, h9, h10, h11, h12, h13, h14, h15, h16, k1, k3] <;> omega) | omega | (first | omega | exact xor_yes h5 | exact xor_no h5)
  · exact q1
  · exact q2
  · exact q3
  · exact q4
  · exact q5
  · exact q6
  · exact q7
  · exact q8
  · exact q9
  · exact q11
  · exact q12
theorem rightM_e18 (m : MsgD) (hm : m.ok) (h1 : ¬ (m.kind < 1)) (h2 : ¬ (14 < m.kind)) (h3 : ¬ (m.of_ < 0)) (h4 : ¬ (13 < m.of_)) (h5 : ¬ (¬ (m.kind = 14 ↔ 0 < m.of_))) (h6 : placeB m.fr m.fn = true) (h7 : placeB m.tr m.tn = true) (h8 : inB m.id 1048576 = true) (h9 : inB m.err 256 = true) (h10 : ¬ (1048576 < m.epoch)) (h11 : ¬ (1048576 < m.addr)) (h12 : ballotB m.br m.bc = true) (h13 : ballotB m.pr m.pc = true) (h14 : ¬ (4 < m.streams.length)) (h15 : riseB m.streams = true) (h16 : backsB m.backs = true) (k1 : sameC m.cell cell0 = false) (k2 : rightC m.cell = false) : ACalls Tryz.prog 51 [encM m] [] (.bool (rightM m)) [] := by
  have q1 := place_ac m.fr m.fn
  have q2 := place_ac m.tr m.tn
  have q3 := within_ac m.id 1048576
  have q4 := within_ac m.err 256
  have q5 := ballotB_ac m.br m.bc
  have q6 := ballotB_ac m.pr m.pc
  have q7 := riseB_ac m.streams hm.st
  have q8 := backsB_ac m.backs hm.b
  have q9 := noCell_ac m.cell hm.cell
  have q10 := right_ac m.cell
  have q11 := noLayout_ac m.lay
  have q12 := rightL_ac m.lay hm.lay.segs hm.lay.n
  rw [h6] at q1
  rw [h7] at q2
  rw [h8] at q3
  rw [h9] at q4
  rw [h12] at q5
  rw [h13] at q6
  rw [h15] at q7
  rw [h16] at q8
  rw [k1] at q9
  rw [k2] at q10
  rw [show rightM m = false by unfold rightM; rw [if_neg h1, if_neg h2, if_neg h3, if_neg h4, if_neg h5, if_neg (by rw [h6]; decide), if_neg (by rw [h7]; decide), if_neg (by rw [h8]; decide), if_neg (by rw [h9]; decide), if_neg h10, if_neg h11, if_neg (by rw [h12]; decide), if_neg (by rw [h13]; decide), if_neg h14, if_neg (by rw [h15]; decide), if_neg (by rw [h16]; decide)]; unfold restM; simp [k1, k2]]
  refine acallsK mixed Tryz.func51 rfl [0, 1, 2, 3, 31, 54, 75] 1000 ([.f, .f, .f, .f, .k, .k, .f, .call [] false true (.bool true) [], .call [] false true (.bool true) [], .call [] false true (.bool true) [], .call [] false true (.bool true) [], .f, .f, .call [] false true (.bool true) [], .call [] false true (.bool true) [], .n m.streams.length, .f, .call [] false true (.bool true) [], .call [] false true (.bool true) [], .call [] false true (.bool false) [], .call [] false true (.bool false) []]) [] [] (v1 := .bool false) (objs1 := []) (ob := [decide (m.kind < (1 : Int)) = false,
 decide (m.kind > (14 : Int)) = false,
 decide (m.of_ < (0 : Int)) = false,
 decide (m.of_ > (13 : Int)) = false,
 (!(m.kind == (14 : Int)) == decide (m.of_ > (0 : Int))) = false,
 ACalls Tryz.prog 86 [.agg [.int .i64 m.fr, .int .i64 m.fn]] [] (.bool true) [],
 ACalls Tryz.prog 86 [.agg [.int .i64 m.tr, .int .i64 m.tn]] [] (.bool true) [],
 ACalls Tryz.prog 87 [.int .i64 m.id, .int .i64 1048576] [] (.bool true) [],
 ACalls Tryz.prog 87 [.int .i64 m.err, .int .i64 256] [] (.bool true) [],
 decide (m.epoch > (1048576 : Int)) = false,
 decide (m.addr > (1048576 : Int)) = false,
 ACalls Tryz.prog 88 [.agg [.int .i64 m.br, .int .i64 m.bc]] [] (.bool true) [],
 ACalls Tryz.prog 88 [.agg [.int .i64 m.pr, .int .i64 m.pc]] [] (.bool true) [],
 ((List.map intA m.streams).length : Int) = (m.streams.length : Int),
 decide ((m.streams.length : Int) > (4 : Int)) = false,
 ACalls Tryz.prog 89 [.lst 1 (List.map intA m.streams)] [] (.bool true) [],
 ACalls Tryz.prog 90 [.lst 3 (List.map encB m.backs)] [] (.bool true) [],
 ACalls Tryz.prog 91 [(encC m.cell)] [] (.bool false) [],
 ACalls Tryz.prog 44 [(encC m.cell)] [] (.bool false) []]) (by kernel_rfl) (by first | exact rfl | exact ⟨rfl, rfl⟩ | (simp [encM, celM, celC, celL, h1, h2, h3, h4, h5, h6, h7, h8, h9, h10, h11, h12, h13, h14, h15, h16, k1, k2]; done) | (first | omega | exact xor_yes h5 | exact xor_no h5)) ⟨?z0, ?z1, ?z2, ?z3, ?z4, ?q457_1, ?q457_2, ?q457_3, ?q457_4, ?z5, ?z6, ?q457_5, ?q457_6, ?z7, ?z8, ?q457_7, ?q457_8, ?q457_9, ?q457_10, trivial⟩
  case z0|z1|z2|z3|z4|z5|z6|z7|z8 => first | exact rfl | (simp [encM, celM, celC, celL, h1, h2, h3, h4, h5, h6, h7, h8, h9, h10, h11, h12, h13, h14, h15, h16, k1, k2] <;> omega) | omega | (first | omega | exact xor_yes h5 | exact xor_no h5)
  · exact q1
  · exact q2
  · exact q3
  · exact q4
  · exact q5
  · exact q6
  · exact q7
  · exact q8
  · exact q9
  · exact q10
theorem rightM_e19 (m : MsgD) (hm : m.ok) (h1 : ¬ (m.kind < 1)) (h2 : ¬ (14 < m.kind)) (h3 : ¬ (m.of_ < 0)) (h4 : ¬ (13 < m.of_)) (h5 : ¬ (¬ (m.kind = 14 ↔ 0 < m.of_))) (h6 : placeB m.fr m.fn = true) (h7 : placeB m.tr m.tn = true) (h8 : inB m.id 1048576 = true) (h9 : inB m.err 256 = true) (h10 : ¬ (1048576 < m.epoch)) (h11 : ¬ (1048576 < m.addr)) (h12 : ballotB m.br m.bc = true) (h13 : ballotB m.pr m.pc = true) (h14 : ¬ (4 < m.streams.length)) (h15 : riseB m.streams = true) (h16 : backsB m.backs = true) (k1 : sameC m.cell cell0 = false) (k2 : rightC m.cell = true) (k3 : noLayB m.lay = true) : ACalls Tryz.prog 51 [encM m] [] (.bool (rightM m)) [] := by
  have q1 := place_ac m.fr m.fn
  have q2 := place_ac m.tr m.tn
  have q3 := within_ac m.id 1048576
  have q4 := within_ac m.err 256
  have q5 := ballotB_ac m.br m.bc
  have q6 := ballotB_ac m.pr m.pc
  have q7 := riseB_ac m.streams hm.st
  have q8 := backsB_ac m.backs hm.b
  have q9 := noCell_ac m.cell hm.cell
  have q10 := right_ac m.cell
  have q11 := noLayout_ac m.lay
  have q12 := rightL_ac m.lay hm.lay.segs hm.lay.n
  rw [h6] at q1
  rw [h7] at q2
  rw [h8] at q3
  rw [h9] at q4
  rw [h12] at q5
  rw [h13] at q6
  rw [h15] at q7
  rw [h16] at q8
  rw [k1] at q9
  rw [k2] at q10
  rw [k3] at q11
  rw [show rightM m = true by unfold rightM; rw [if_neg h1, if_neg h2, if_neg h3, if_neg h4, if_neg h5, if_neg (by rw [h6]; decide), if_neg (by rw [h7]; decide), if_neg (by rw [h8]; decide), if_neg (by rw [h9]; decide), if_neg h10, if_neg h11, if_neg (by rw [h12]; decide), if_neg (by rw [h13]; decide), if_neg h14, if_neg (by rw [h15]; decide), if_neg (by rw [h16]; decide)]; unfold restM; simp [k1, k2, k3]]
  refine acallsK mixed Tryz.func51 rfl [0, 1, 2, 3, 31, 54, 75] 1000 ([.f, .f, .f, .f, .k, .k, .f, .call [] false true (.bool true) [], .call [] false true (.bool true) [], .call [] false true (.bool true) [], .call [] false true (.bool true) [], .f, .f, .call [] false true (.bool true) [], .call [] false true (.bool true) [], .n m.streams.length, .f, .call [] false true (.bool true) [], .call [] false true (.bool true) [], .call [] false true (.bool false) [], .call [] false true (.bool true) [], .call [] false true (.bool true) []]) [] [] (v1 := .bool true) (objs1 := []) (ob := [decide (m.kind < (1 : Int)) = false,
 decide (m.kind > (14 : Int)) = false,
 decide (m.of_ < (0 : Int)) = false,
 decide (m.of_ > (13 : Int)) = false,
 (!(m.kind == (14 : Int)) == decide (m.of_ > (0 : Int))) = false,
 ACalls Tryz.prog 86 [.agg [.int .i64 m.fr, .int .i64 m.fn]] [] (.bool true) [],
 ACalls Tryz.prog 86 [.agg [.int .i64 m.tr, .int .i64 m.tn]] [] (.bool true) [],
 ACalls Tryz.prog 87 [.int .i64 m.id, .int .i64 1048576] [] (.bool true) [],
 ACalls Tryz.prog 87 [.int .i64 m.err, .int .i64 256] [] (.bool true) [],
 decide (m.epoch > (1048576 : Int)) = false,
 decide (m.addr > (1048576 : Int)) = false,
 ACalls Tryz.prog 88 [.agg [.int .i64 m.br, .int .i64 m.bc]] [] (.bool true) [],
 ACalls Tryz.prog 88 [.agg [.int .i64 m.pr, .int .i64 m.pc]] [] (.bool true) [],
 ((List.map intA m.streams).length : Int) = (m.streams.length : Int),
 decide ((m.streams.length : Int) > (4 : Int)) = false,
 ACalls Tryz.prog 89 [.lst 1 (List.map intA m.streams)] [] (.bool true) [],
 ACalls Tryz.prog 90 [.lst 3 (List.map encB m.backs)] [] (.bool true) [],
 ACalls Tryz.prog 91 [(encC m.cell)] [] (.bool false) [],
 ACalls Tryz.prog 44 [(encC m.cell)] [] (.bool true) [],
 ACalls Tryz.prog 92 [(encL m.lay)] [] (.bool true) []]) (by kernel_rfl) (by first | exact rfl | exact ⟨rfl, rfl⟩ | (simp [encM, celM, celC, celL, h1, h2, h3, h4, h5, h6, h7, h8, h9, h10, h11, h12, h13, h14, h15, h16, k1, k2, k3]; done) | (first | omega | exact xor_yes h5 | exact xor_no h5)) ⟨?z0, ?z1, ?z2, ?z3, ?z4, ?q493_1, ?q493_2, ?q493_3, ?q493_4, ?z5, ?z6, ?q493_5, ?q493_6, ?z7, ?z8, ?q493_7, ?q493_8, ?q493_9, ?q493_10, ?q493_11, trivial⟩
  case z0|z1|z2|z3|z4|z5|z6|z7|z8 => first | exact rfl | (simp [encM, celM, celC, celL, h1, h2, h3, h4, h5, h6, h7, h8, h9, h10, h11, h12, h13, h14, h15, h16, k1, k2, k3] <;> omega) | omega | (first | omega | exact xor_yes h5 | exact xor_no h5)
  · exact q1
  · exact q2
  · exact q3
  · exact q4
  · exact q5
  · exact q6
  · exact q7
  · exact q8
  · exact q9
  · exact q10
  · exact q11
theorem rightM_e20 (m : MsgD) (hm : m.ok) (h1 : ¬ (m.kind < 1)) (h2 : ¬ (14 < m.kind)) (h3 : ¬ (m.of_ < 0)) (h4 : ¬ (13 < m.of_)) (h5 : ¬ (¬ (m.kind = 14 ↔ 0 < m.of_))) (h6 : placeB m.fr m.fn = true) (h7 : placeB m.tr m.tn = true) (h8 : inB m.id 1048576 = true) (h9 : inB m.err 256 = true) (h10 : ¬ (1048576 < m.epoch)) (h11 : ¬ (1048576 < m.addr)) (h12 : ballotB m.br m.bc = true) (h13 : ballotB m.pr m.pc = true) (h14 : ¬ (4 < m.streams.length)) (h15 : riseB m.streams = true) (h16 : backsB m.backs = true) (k1 : sameC m.cell cell0 = false) (k2 : rightC m.cell = true) (k3 : noLayB m.lay = false) : ACalls Tryz.prog 51 [encM m] [] (.bool (rightM m)) [] := by
  have q1 := place_ac m.fr m.fn
  have q2 := place_ac m.tr m.tn
  have q3 := within_ac m.id 1048576
  have q4 := within_ac m.err 256
  have q5 := ballotB_ac m.br m.bc
  have q6 := ballotB_ac m.pr m.pc
  have q7 := riseB_ac m.streams hm.st
  have q8 := backsB_ac m.backs hm.b
  have q9 := noCell_ac m.cell hm.cell
  have q10 := right_ac m.cell
  have q11 := noLayout_ac m.lay
  have q12 := rightL_ac m.lay hm.lay.segs hm.lay.n
  rw [h6] at q1
  rw [h7] at q2
  rw [h8] at q3
  rw [h9] at q4
  rw [h12] at q5
  rw [h13] at q6
  rw [h15] at q7
  rw [h16] at q8
  rw [k1] at q9
  rw [k2] at q10
  rw [k3] at q11
  rw [show rightM m = rightL m.lay by unfold rightM; rw [if_neg h1, if_neg h2, if_neg h3, if_neg h4, if_neg h5, if_neg (by rw [h6]; decide), if_neg (by rw [h7]; decide), if_neg (by rw [h8]; decide), if_neg (by rw [h9]; decide), if_neg h10, if_neg h11, if_neg (by rw [h12]; decide), if_neg (by rw [h13]; decide), if_neg h14, if_neg (by rw [h15]; decide), if_neg (by rw [h16]; decide)]; unfold restM; simp [k1, k2, k3]]
  refine acallsK mixed Tryz.func51 rfl [0, 1, 2, 3, 31, 54, 75] 1000 ([.f, .f, .f, .f, .k, .k, .f, .call [] false true (.bool true) [], .call [] false true (.bool true) [], .call [] false true (.bool true) [], .call [] false true (.bool true) [], .f, .f, .call [] false true (.bool true) [], .call [] false true (.bool true) [], .n m.streams.length, .f, .call [] false true (.bool true) [], .call [] false true (.bool true) [], .call [] false true (.bool false) [], .call [] false true (.bool true) [], .call [] false true (.bool false) [], .call [] false true (.bool (rightL m.lay)) []]) [] [] (v1 := .bool (rightL m.lay)) (objs1 := []) (ob := [decide (m.kind < (1 : Int)) = false,
 decide (m.kind > (14 : Int)) = false,
 decide (m.of_ < (0 : Int)) = false,
 decide (m.of_ > (13 : Int)) = false,
 (!(m.kind == (14 : Int)) == decide (m.of_ > (0 : Int))) = false,
 ACalls Tryz.prog 86 [.agg [.int .i64 m.fr, .int .i64 m.fn]] [] (.bool true) [],
 ACalls Tryz.prog 86 [.agg [.int .i64 m.tr, .int .i64 m.tn]] [] (.bool true) [],
 ACalls Tryz.prog 87 [.int .i64 m.id, .int .i64 1048576] [] (.bool true) [],
 ACalls Tryz.prog 87 [.int .i64 m.err, .int .i64 256] [] (.bool true) [],
 decide (m.epoch > (1048576 : Int)) = false,
 decide (m.addr > (1048576 : Int)) = false,
 ACalls Tryz.prog 88 [.agg [.int .i64 m.br, .int .i64 m.bc]] [] (.bool true) [],
 ACalls Tryz.prog 88 [.agg [.int .i64 m.pr, .int .i64 m.pc]] [] (.bool true) [],
 ((List.map intA m.streams).length : Int) = (m.streams.length : Int),
 decide ((m.streams.length : Int) > (4 : Int)) = false,
 ACalls Tryz.prog 89 [.lst 1 (List.map intA m.streams)] [] (.bool true) [],
 ACalls Tryz.prog 90 [.lst 3 (List.map encB m.backs)] [] (.bool true) [],
 ACalls Tryz.prog 91 [(encC m.cell)] [] (.bool false) [],
 ACalls Tryz.prog 44 [(encC m.cell)] [] (.bool true) [],
 ACalls Tryz.prog 92 [(encL m.lay)] [] (.bool false) [],
 ACalls Tryz.prog 93 [(encL m.lay)] [] (.bool (rightL m.lay)) []]) (by kernel_rfl) (by first | exact rfl | exact ⟨rfl, rfl⟩ | (simp [encM, celM, celC, celL, h1, h2, h3, h4, h5, h6, h7, h8, h9, h10, h11, h12, h13, h14, h15, h16, k1, k2, k3]; done) | (first | omega | exact xor_yes h5 | exact xor_no h5)) ⟨?z0, ?z1, ?z2, ?z3, ?z4, ?q530_1, ?q530_2, ?q530_3, ?q530_4, ?z5, ?z6, ?q530_5, ?q530_6, ?z7, ?z8, ?q530_7, ?q530_8, ?q530_9, ?q530_10, ?q530_11, ?q530_12, trivial⟩
  case z0|z1|z2|z3|z4|z5|z6|z7|z8 => first | exact rfl | (simp [encM, celM, celC, celL, h1, h2, h3, h4, h5, h6, h7, h8, h9, h10, h11, h12, h13, h14, h15, h16, k1, k2, k3] <;> omega) | omega | (first | omega | exact xor_yes h5 | exact xor_no h5)
  · exact q1
  · exact q2
  · exact q3
  · exact q4
  · exact q5
  · exact q6
  · exact q7
  · exact q8
  · exact q9
  · exact q10
  · exact q11
  · exact q12
theorem rightM_ac (m : MsgD) (hm : m.ok) : ACalls Tryz.prog 51 [encM m] [] (.bool (rightM m)) [] := by
  by_cases h1 : m.kind < 1
  · exact rightM_e0 m hm h1
  by_cases h2 : 14 < m.kind
  · exact rightM_e1 m hm h1 h2
  by_cases h3 : m.of_ < 0
  · exact rightM_e2 m hm h1 h2 h3
  by_cases h4 : 13 < m.of_
  · exact rightM_e3 m hm h1 h2 h3 h4
  by_cases h5 : ¬ (m.kind = 14 ↔ 0 < m.of_)
  · exact rightM_e4 m hm h1 h2 h3 h4 h5
  cases h6 : placeB m.fr m.fn with
  | false => exact rightM_e5 m hm h1 h2 h3 h4 h5 h6
  | true =>
    cases h7 : placeB m.tr m.tn with
    | false => exact rightM_e6 m hm h1 h2 h3 h4 h5 h6 h7
    | true =>
      cases h8 : inB m.id 1048576 with
      | false => exact rightM_e7 m hm h1 h2 h3 h4 h5 h6 h7 h8
      | true =>
        cases h9 : inB m.err 256 with
        | false => exact rightM_e8 m hm h1 h2 h3 h4 h5 h6 h7 h8 h9
        | true =>
          by_cases h10 : 1048576 < m.epoch
          · exact rightM_e9 m hm h1 h2 h3 h4 h5 h6 h7 h8 h9 h10
          by_cases h11 : 1048576 < m.addr
          · exact rightM_e10 m hm h1 h2 h3 h4 h5 h6 h7 h8 h9 h10 h11
          cases h12 : ballotB m.br m.bc with
          | false => exact rightM_e11 m hm h1 h2 h3 h4 h5 h6 h7 h8 h9 h10 h11 h12
          | true =>
            cases h13 : ballotB m.pr m.pc with
            | false => exact rightM_e12 m hm h1 h2 h3 h4 h5 h6 h7 h8 h9 h10 h11 h12 h13
            | true =>
              by_cases h14 : 4 < m.streams.length
              · exact rightM_e13 m hm h1 h2 h3 h4 h5 h6 h7 h8 h9 h10 h11 h12 h13 h14
              cases h15 : riseB m.streams with
              | false => exact rightM_e14 m hm h1 h2 h3 h4 h5 h6 h7 h8 h9 h10 h11 h12 h13 h14 h15
              | true =>
                cases h16 : backsB m.backs with
                | false => exact rightM_e15 m hm h1 h2 h3 h4 h5 h6 h7 h8 h9 h10 h11 h12 h13 h14 h15 h16
                | true =>
                  cases k1 : sameC m.cell cell0 with
                  | true =>
                    cases k3 : noLayB m.lay with
                    | true => exact rightM_e16 m hm h1 h2 h3 h4 h5 h6 h7 h8 h9 h10 h11 h12 h13 h14 h15 h16 k1 k3
                    | false => exact rightM_e17 m hm h1 h2 h3 h4 h5 h6 h7 h8 h9 h10 h11 h12 h13 h14 h15 h16 k1 k3
                  | false =>
                    cases k2 : rightC m.cell with
                    | false => exact rightM_e18 m hm h1 h2 h3 h4 h5 h6 h7 h8 h9 h10 h11 h12 h13 h14 h15 h16 k1 k2
                    | true =>
                      cases k3 : noLayB m.lay with
                      | true => exact rightM_e19 m hm h1 h2 h3 h4 h5 h6 h7 h8 h9 h10 h11 h12 h13 h14 h15 h16 k1 k2 k3
                      | false => exact rightM_e20 m hm h1 h2 h3 h4 h5 h6 h7 h8 h9 h10 h11 h12 h13 h14 h15 h16 k1 k2 k3
end Go.Proofs.YtidgcfgkcidkiaaGreat.Ch
namespace Go.Proofs.YtidgcfgkcidkiaaGreat.Ch
open Go Go.RowKit Go.Proofs.YtidgcfgkcidkiaaGreat.L Go.Proofs.YtidgcfgkcidkiaaGreat.X
set_option linter.unusedVariables false
set_option linter.unusedSimpArgs false
theorem ACalls.post {P : Program} {f : FuncId} {us : List AV} {objs o1 o2 : List X.Obj} {v v2 : AV} (h : ACalls P f us objs v o1) (hv : ∀ K c, VR K v c → VR K v2 c) (ho : ∀ K w, Rel K (getO o1) w → Rel K (getO o2) w) : ACalls P f us objs v2 o2 :=
  ⟨h.1, fun K w cs hR hc => (h.2 K w cs hR hc).mono fun e w' ⟨K', c, k1, k2, k3, k4⟩ => ⟨K', c, k1, ho _ _ k2, hv _ _ k3, k4⟩⟩
theorem rel_cells {K : Ctx} {w : World} {T : TypeId} {cs cs' : List AV} {rest : List X.Obj} (h : Rel K (getO (.vars T cs :: rest)) w) (hc : ∀ ds, VRs K cs ds → VRs K cs' ds) : Rel K (getO (.vars T cs' :: rest)) w := by
  refine ⟨fun i => ?_, h.mem, fun i => ?_, h.inj, h.sep⟩
  · have := h.kinds i
    cases i <;> exact this
  · cases i with
    | zero =>
      obtain ⟨ds, d1, d2, d3⟩ := h.obj 0
      exact ⟨ds, d1, hc _ d2, d3⟩
    | succ i => exact h.obj (i + 1)
theorem setN_setO {K : Ctx} {w : World} (s : SetD) (e : Int) (he : e ≠ 0) (h : Rel K (getO (setN s e)) w) : Rel K (getO (setO (ended s e))) w := by
  have hs : setO (ended s e) = .vars 86 ([.int .i64 s.client, .int .i64 s.id, .int .u64 s.epoch, .int .u64 s.a, .int .i64 0, .lst 1 [], .lst 3 [], .lst 1 (s.chain.map intA), .int .i64 s.at_, .bool s.started, .bool true, .int .i64 e, .int .i64 s.ticks, .int .i64 s.writes, .row 1 22 s.out.length]) :: [.row 50 22 s.out] := by
    simp [setO, ended, celS, he]
  rw [hs]
  refine rel_cells h fun ds hd => ⟨hd.1, fun i v d hv hd' => ?_⟩
  by_cases h5 : i = 5
  · subst h5
    injection hv with hv
    subst hv
    exact nils_lst 1 (by decide) (hd.2 5 _ d rfl hd')
  · by_cases h6 : i = 6
    · subst h6
      injection hv with hv
      subst hv
      exact nils_lst 3 (by decide) (hd.2 6 _ d rfl hd')
    · refine hd.2 i v d ?_ hd'
      match i, h5, h6, hv with
      | 0, _, _, hv | 1, _, _, hv | 2, _, _, hv | 3, _, _, hv | 4, _, _, hv | 7, _, _, hv | 8, _, _, hv | 9, _, _, hv | 10, _, _, hv | 11, _, _, hv | 12, _, _, hv | 13, _, _, hv | 14, _, _, hv => exact hv
      | i + 15, _, _, hv => cases hv
theorem endE (s : SetD) (e : Int) : ACalls Tryz.prog 55 [.ptr 0 0, .int .i64 e] (setO s) (.tup []) (setO (ended s e)) := by
  by_cases he : e = 0
  · subst he
    refine acallsK mixed Tryz.func55 rfl [0, 1, 12] 1000 ([.f]) [] [0, 1] (v1 := .tup []) (objs1 := [.vars 86 [.int .i64 s.client, .int .i64 s.id, .int .u64 s.epoch, .int .u64 s.a, .int .i64 s.cell.kind, .lst 1 (List.map byteA s.cell.data), .lst 3 (List.map encB s.cell.backs), .lst 1 (List.map intA s.chain), .int .i64 (↑s.at_ : Int), .bool s.started, .bool true, .int .i64 0, .int .i64 s.ticks, .int .i64 s.writes, .row 1 22 (List.length s.out)], .row 50 22 s.out]) (ob := [((0 : Int) != (0 : Int)) = false]) (by kernel_rfl) (by first | exact rfl | exact ⟨rfl, rfl⟩ | (simp [celS, setO, ended]; done) | (omega)) ⟨(by first | exact rfl | (simp [celS, setO, ended]; done) | (simp [celS, setO, ended]; omega) | omega | (omega)), trivial⟩
  · exact ACalls.post (end_ac s e he) (fun _ _ h => h) fun K w h => setN_setO s e he h
structure SetD.ok (s : SetD) : Prop where
  cell : s.cell.ok
  ch : s.chain.length ≤ 4
  at_ : s.at_ < s.chain.length ∨ s.over = true
  out : s.out.length ≤ 900
  t0 : 0 ≤ s.ticks
  t1 : s.ticks < 6 ∨ s.over = true
  w0 : 0 ≤ s.writes
  w1 : s.writes ≤ 5
def goS (s : SetD) : SetD := if s.at_ + 1 = s.chain.length then ended { s with at_ := s.at_ + 1 } 0 else nextS s ((s.chain[s.at_ + 1]?).getD 0)
theorem nextE (s : SetD) (hs : s.ok) (ho : s.over = false) : ACalls Tryz.prog 56 [.ptr 0 0] (setO s) (.tup []) (setO (goS s)) := by
  have hc := hs.ch
  have hd := hs.cell.d
  have hk := hs.cell.b
  have hu := hs.out
  have ha : s.at_ < s.chain.length := by rcases hs.at_ with h | h; exact h; rw [ho] at h; cases h
  unfold goS
  by_cases h : s.at_ + 1 = s.chain.length
  · rw [if_pos h]
    have q := endE { s with at_ := s.at_ + 1 } 0
    refine acallsK mixed Tryz.func56 rfl [0, 18] 1000 ([.n ((s.at_ + 1 : Nat) : Int), .n s.chain.length, .t, .call [0, 1] false false (.tup []) (setO (ended { s with at_ := s.at_ + 1 } 0))]) [] [0, 3] (v1 := .tup []) (objs1 := [.vars 86 (celS (ended { client := s.client, id := s.id, epoch := s.epoch, a := s.a, cell := s.cell, chain := s.chain, at_ := s.at_ + 1, started := s.started, over := s.over, e := s.e, ticks := s.ticks, writes := s.writes, out := s.out } 0) ++ [.row 1 22 (List.length (ended { client := s.client, id := s.id, epoch := s.epoch, a := s.a, cell := s.cell, chain := s.chain, at_ := s.at_ + 1, started := s.started, over := s.over, e := s.e, ticks := s.ticks, writes := s.writes, out := s.out } 0).out)]), .row 50 22 (ended { client := s.client, id := s.id, epoch := s.epoch, a := s.a, cell := s.cell, chain := s.chain, at_ := s.at_ + 1, started := s.started, over := s.over, e := s.e, ticks := s.ticks, writes := s.writes, out := s.out } 0).out]) (ob := [IntKind.i64.wrap ((↑s.at_ : Int) + (1 : Int)) = (↑(s.at_ + (1 : Nat)) : Int),
 ((List.map intA s.chain).length : Int) = (s.chain.length : Int),
 ((↑(s.at_ + (1 : Nat)) : Int) == (s.chain.length : Int)) = true,
 ACalls Tryz.prog 55 [.ptr 0 0, .int .i64 0] [.vars 86 [.int .i64 s.client, .int .i64 s.id, .int .u64 s.epoch, .int .u64 s.a, .int .i64 s.cell.kind, .lst 1 (List.map byteA s.cell.data), .lst 3 (List.map encB s.cell.backs), .lst 1 (List.map intA s.chain), .int .i64 (↑(s.at_ + 1) : Int), .bool s.started, .bool s.over, .int .i64 s.e, .int .i64 s.ticks, .int .i64 s.writes, .row 1 22 (List.length s.out)], .row 50 22 s.out] (.tup []) [.vars 86 (celS (ended { client := s.client, id := s.id, epoch := s.epoch, a := s.a, cell := s.cell, chain := s.chain, at_ := s.at_ + 1, started := s.started, over := s.over, e := s.e, ticks := s.ticks, writes := s.writes, out := s.out } 0) ++ [.row 1 22 (List.length (ended { client := s.client, id := s.id, epoch := s.epoch, a := s.a, cell := s.cell, chain := s.chain, at_ := s.at_ + 1, started := s.started, over := s.over, e := s.e, ticks := s.ticks, writes := s.writes, out := s.out } 0).out)]), .row 50 22 (ended { client := s.client, id := s.id, epoch := s.epoch, a := s.a, cell := s.cell, chain := s.chain, at_ := s.at_ + 1, started := s.started, over := s.over, e := s.e, ticks := s.ticks, writes := s.writes, out := s.out } 0).out]]) (by kernel_rfl) (by first | exact rfl | exact ⟨rfl, rfl⟩ | (simp [celS, setO, ended, h]; done) | (first | omega | exact wrap64 (by omega))) ⟨?z0, ?z1, ?z2, ?q62_1, trivial⟩
    case z0|z1|z2 => first | exact rfl | (simp [celS, setO, ended, h] <;> omega) | omega | (first | omega | exact wrap64 (by omega))
    exact q
  · rw [if_neg h]
    have hl : s.at_ + 1 < s.chain.length := by omega
    rw [List.getElem?_eq_getElem hl]
    exact next_ac s (List.getElem?_eq_getElem hl) (by omega) (by omega) (by omega) (by omega)

def tickS (s : SetD) (v : Int) : SetD :=
  if s.started = false ∨ s.over = true then s else if s.ticks + 1 < 6 then { s with ticks := s.ticks + 1 } else if 5 ≤ s.writes then ended { s with ticks := s.ticks + 1 } 162 else wrote { s with ticks := s.ticks + 1 } v
theorem tickE (s : SetD) (hs : s.ok) {v : Int} (hv : s.over = false → s.chain[s.at_]? = some v) : ACalls Tryz.prog 16 [.ptr 0 0] (setO s) (.int .i64 0) (setO (tickS s v)) := by
  have t0 := hs.t0
  have w0 := hs.w0
  have w1 := hs.w1
  have hd := hs.cell.d
  have hk := hs.cell.b
  have hu := hs.out
  unfold tickS
  by_cases h1 : s.started = false
  · rw [if_pos (.inl h1)]
    refine acallsK mixed Tryz.func16 rfl [0, 2, 3, 6, 29, 34] 1000 ([.f]) [] [0, 1] (v1 := .int .i64 0) (objs1 := [.vars 86 (celS s ++ [.row 1 22 (List.length s.out)]), .row 50 22 s.out]) (ob := [s.started = false]) (by kernel_rfl) (by first | exact rfl | exact ⟨rfl, rfl⟩ | (simp [celS, setO, h1]; done) | (omega)) ⟨(by first | exact rfl | (simp [celS, setO, h1]; done) | (simp [celS, setO, h1]; omega) | omega | (omega)), trivial⟩
  · have h1 : s.started = true := by simpa using h1
    by_cases h2 : s.over = true
    · rw [if_pos (.inr h2)]
      refine acallsK mixed Tryz.func16 rfl [0, 2, 3, 6, 29, 34] 1000 ([.t, .t]) [] [0, 1] (v1 := .int .i64 0) (objs1 := [.vars 86 (celS s ++ [.row 1 22 (List.length s.out)]), .row 50 22 s.out]) (ob := [s.started = true,
 s.over = true]) (by kernel_rfl) (by first | exact rfl | exact ⟨rfl, rfl⟩ | (simp [celS, setO, h1, h2]; done) | (omega)) ⟨?z0, ?z1, trivial⟩
      case z0|z1 => first | exact rfl | (simp [celS, setO, h1, h2] <;> omega) | omega | (omega)
    · rw [if_neg (by rw [h1]; simp [h2])]
      have h2 : s.over = false := by simpa using h2
      have t1 : s.ticks < 6 := by rcases hs.t1 with h | h; exact h; rw [h2] at h; cases h
      by_cases h3 : s.ticks + 1 < 6
      · rw [if_pos h3]
        refine acallsK mixed Tryz.func16 rfl [0, 2, 3, 6, 29, 34] 1000 ([.t, .f, .n (s.ticks + 1), .t]) [] [0, 1] (v1 := .int .i64 0) (objs1 := [.vars 86 [.int .i64 s.client, .int .i64 s.id, .int .u64 s.epoch, .int .u64 s.a, .int .i64 s.cell.kind, .lst 1 (List.map byteA s.cell.data), .lst 3 (List.map encB s.cell.backs), .lst 1 (List.map intA s.chain), .int .i64 (↑s.at_ : Int), .bool s.started, .bool s.over, .int .i64 s.e, .int .i64 (s.ticks + 1), .int .i64 s.writes, .row 1 22 (List.length s.out)], .row 50 22 s.out]) (ob := [s.started = true,
 s.over = false,
 IntKind.i64.wrap (s.ticks + (1 : Int)) = s.ticks + (1 : Int),
 decide (s.ticks + (1 : Int) < (6 : Int)) = true]) (by kernel_rfl) (by first | exact rfl | exact ⟨rfl, rfl⟩ | (simp [celS, setO, h1, h2, h3]; done) | (first | omega | exact wrap_i (by omega) (by omega))) ⟨?z2, ?z3, ?z4, ?z5, trivial⟩
        case z2|z3|z4|z5 => first | exact rfl | (simp [celS, setO, h1, h2, h3] <;> omega) | omega | (first | omega | exact wrap_i (by omega) (by omega))
      · rw [if_neg h3]
        by_cases h4 : 5 ≤ s.writes
        · rw [if_pos h4]
          have q := endE { s with ticks := s.ticks + 1 } 162
          refine acallsK mixed Tryz.func16 rfl [0, 2, 3, 6, 29, 34] 1000 ([.t, .f, .n (s.ticks + 1), .f, .t, .call [0, 1] false false (.tup []) (setO (ended { s with ticks := s.ticks + 1 } 162))]) [] [0, 3] (v1 := .int .i64 0) (objs1 := [.vars 86 [.int .i64 (ended { client := s.client, id := s.id, epoch := s.epoch, a := s.a, cell := s.cell, chain := s.chain, at_ := s.at_, started := s.started, over := s.over, e := s.e, ticks := s.ticks + 1, writes := s.writes, out := s.out } 162).client, .int .i64 (ended { client := s.client, id := s.id, epoch := s.epoch, a := s.a, cell := s.cell, chain := s.chain, at_ := s.at_, started := s.started, over := s.over, e := s.e, ticks := s.ticks + 1, writes := s.writes, out := s.out } 162).id, .int .u64 (ended { client := s.client, id := s.id, epoch := s.epoch, a := s.a, cell := s.cell, chain := s.chain, at_ := s.at_, started := s.started, over := s.over, e := s.e, ticks := s.ticks + 1, writes := s.writes, out := s.out } 162).epoch, .int .u64 (ended { client := s.client, id := s.id, epoch := s.epoch, a := s.a, cell := s.cell, chain := s.chain, at_ := s.at_, started := s.started, over := s.over, e := s.e, ticks := s.ticks + 1, writes := s.writes, out := s.out } 162).a, .int .i64 (ended { client := s.client, id := s.id, epoch := s.epoch, a := s.a, cell := s.cell, chain := s.chain, at_ := s.at_, started := s.started, over := s.over, e := s.e, ticks := s.ticks + 1, writes := s.writes, out := s.out } 162).cell.kind, .lst 1 [], .lst 3 [], .lst 1 (List.map intA (ended { client := s.client, id := s.id, epoch := s.epoch, a := s.a, cell := s.cell, chain := s.chain, at_ := s.at_, started := s.started, over := s.over, e := s.e, ticks := s.ticks + 1, writes := s.writes, out := s.out } 162).chain), .int .i64 (↑(ended { client := s.client, id := s.id, epoch := s.epoch, a := s.a, cell := s.cell, chain := s.chain, at_ := s.at_, started := s.started, over := s.over, e := s.e, ticks := s.ticks + 1, writes := s.writes, out := s.out } 162).at_ : Int), .bool (ended { client := s.client, id := s.id, epoch := s.epoch, a := s.a, cell := s.cell, chain := s.chain, at_ := s.at_, started := s.started, over := s.over, e := s.e, ticks := s.ticks + 1, writes := s.writes, out := s.out } 162).started, .bool (ended { client := s.client, id := s.id, epoch := s.epoch, a := s.a, cell := s.cell, chain := s.chain, at_ := s.at_, started := s.started, over := s.over, e := s.e, ticks := s.ticks + 1, writes := s.writes, out := s.out } 162).over, .int .i64 (ended { client := s.client, id := s.id, epoch := s.epoch, a := s.a, cell := s.cell, chain := s.chain, at_ := s.at_, started := s.started, over := s.over, e := s.e, ticks := s.ticks + 1, writes := s.writes, out := s.out } 162).e, .int .i64 (ended { client := s.client, id := s.id, epoch := s.epoch, a := s.a, cell := s.cell, chain := s.chain, at_ := s.at_, started := s.started, over := s.over, e := s.e, ticks := s.ticks + 1, writes := s.writes, out := s.out } 162).ticks, .int .i64 (ended { client := s.client, id := s.id, epoch := s.epoch, a := s.a, cell := s.cell, chain := s.chain, at_ := s.at_, started := s.started, over := s.over, e := s.e, ticks := s.ticks + 1, writes := s.writes, out := s.out } 162).writes, .row 1 22 (List.length (ended { client := s.client, id := s.id, epoch := s.epoch, a := s.a, cell := s.cell, chain := s.chain, at_ := s.at_, started := s.started, over := s.over, e := s.e, ticks := s.ticks + 1, writes := s.writes, out := s.out } 162).out)], .row 50 22 (ended { client := s.client, id := s.id, epoch := s.epoch, a := s.a, cell := s.cell, chain := s.chain, at_ := s.at_, started := s.started, over := s.over, e := s.e, ticks := s.ticks + 1, writes := s.writes, out := s.out } 162).out]) (ob := [s.started = true,
 s.over = false,
 IntKind.i64.wrap (s.ticks + (1 : Int)) = s.ticks + (1 : Int),
 decide (s.ticks + (1 : Int) < (6 : Int)) = false,
 decide (s.writes ≥ (5 : Int)) = true,
 ACalls Tryz.prog 55 [.ptr 0 0, .int .i64 162] [.vars 86 [.int .i64 s.client, .int .i64 s.id, .int .u64 s.epoch, .int .u64 s.a, .int .i64 s.cell.kind, .lst 1 (List.map byteA s.cell.data), .lst 3 (List.map encB s.cell.backs), .lst 1 (List.map intA s.chain), .int .i64 (↑s.at_ : Int), .bool s.started, .bool s.over, .int .i64 s.e, .int .i64 (s.ticks + 1), .int .i64 s.writes, .row 1 22 (List.length s.out)], .row 50 22 s.out] (.tup []) [.vars 86 [.int .i64 (ended { client := s.client, id := s.id, epoch := s.epoch, a := s.a, cell := s.cell, chain := s.chain, at_ := s.at_, started := s.started, over := s.over, e := s.e, ticks := s.ticks + 1, writes := s.writes, out := s.out } 162).client, .int .i64 (ended { client := s.client, id := s.id, epoch := s.epoch, a := s.a, cell := s.cell, chain := s.chain, at_ := s.at_, started := s.started, over := s.over, e := s.e, ticks := s.ticks + 1, writes := s.writes, out := s.out } 162).id, .int .u64 (ended { client := s.client, id := s.id, epoch := s.epoch, a := s.a, cell := s.cell, chain := s.chain, at_ := s.at_, started := s.started, over := s.over, e := s.e, ticks := s.ticks + 1, writes := s.writes, out := s.out } 162).epoch, .int .u64 (ended { client := s.client, id := s.id, epoch := s.epoch, a := s.a, cell := s.cell, chain := s.chain, at_ := s.at_, started := s.started, over := s.over, e := s.e, ticks := s.ticks + 1, writes := s.writes, out := s.out } 162).a, .int .i64 (ended { client := s.client, id := s.id, epoch := s.epoch, a := s.a, cell := s.cell, chain := s.chain, at_ := s.at_, started := s.started, over := s.over, e := s.e, ticks := s.ticks + 1, writes := s.writes, out := s.out } 162).cell.kind, .lst 1 [], .lst 3 [], .lst 1 (List.map intA (ended { client := s.client, id := s.id, epoch := s.epoch, a := s.a, cell := s.cell, chain := s.chain, at_ := s.at_, started := s.started, over := s.over, e := s.e, ticks := s.ticks + 1, writes := s.writes, out := s.out } 162).chain), .int .i64 (↑(ended { client := s.client, id := s.id, epoch := s.epoch, a := s.a, cell := s.cell, chain := s.chain, at_ := s.at_, started := s.started, over := s.over, e := s.e, ticks := s.ticks + 1, writes := s.writes, out := s.out } 162).at_ : Int), .bool (ended { client := s.client, id := s.id, epoch := s.epoch, a := s.a, cell := s.cell, chain := s.chain, at_ := s.at_, started := s.started, over := s.over, e := s.e, ticks := s.ticks + 1, writes := s.writes, out := s.out } 162).started, .bool (ended { client := s.client, id := s.id, epoch := s.epoch, a := s.a, cell := s.cell, chain := s.chain, at_ := s.at_, started := s.started, over := s.over, e := s.e, ticks := s.ticks + 1, writes := s.writes, out := s.out } 162).over, .int .i64 (ended { client := s.client, id := s.id, epoch := s.epoch, a := s.a, cell := s.cell, chain := s.chain, at_ := s.at_, started := s.started, over := s.over, e := s.e, ticks := s.ticks + 1, writes := s.writes, out := s.out } 162).e, .int .i64 (ended { client := s.client, id := s.id, epoch := s.epoch, a := s.a, cell := s.cell, chain := s.chain, at_ := s.at_, started := s.started, over := s.over, e := s.e, ticks := s.ticks + 1, writes := s.writes, out := s.out } 162).ticks, .int .i64 (ended { client := s.client, id := s.id, epoch := s.epoch, a := s.a, cell := s.cell, chain := s.chain, at_ := s.at_, started := s.started, over := s.over, e := s.e, ticks := s.ticks + 1, writes := s.writes, out := s.out } 162).writes, .row 1 22 (List.length (ended { client := s.client, id := s.id, epoch := s.epoch, a := s.a, cell := s.cell, chain := s.chain, at_ := s.at_, started := s.started, over := s.over, e := s.e, ticks := s.ticks + 1, writes := s.writes, out := s.out } 162).out)], .row 50 22 (ended { client := s.client, id := s.id, epoch := s.epoch, a := s.a, cell := s.cell, chain := s.chain, at_ := s.at_, started := s.started, over := s.over, e := s.e, ticks := s.ticks + 1, writes := s.writes, out := s.out } 162).out]]) (by kernel_rfl) (by first | exact rfl | exact ⟨rfl, rfl⟩ | (simp [celS, setO, ended, h1, h2, h3, h4]; done) | (first | omega | exact wrap_i (by omega) (by omega))) ⟨?z6, ?z7, ?z8, ?z9, ?z10, ?q96_1, trivial⟩
          case z6|z7|z8|z9|z10 => first | exact rfl | (simp [celS, setO, ended, h1, h2, h3, h4] <;> omega) | omega | (first | omega | exact wrap_i (by omega) (by omega))
          exact q
        · rw [if_neg h4]
          have q := write_ac { s with ticks := s.ticks + 1 } (hv h2) (by show s.cell.data.length ≤ _; omega) (by show s.cell.backs.length ≤ _; omega) (by show s.out.length ≤ _; omega) w0 (by show s.writes ≤ _; omega)
          refine acallsK mixed Tryz.func16 rfl [0, 2, 3, 6, 29, 34] 1000 ([.t, .f, .n (s.ticks + 1), .f, .f, .call [0, 1] false false (.tup []) (setO (wrote { s with ticks := s.ticks + 1 } v))]) [] [0, 3] (v1 := .int .i64 0) (objs1 := [.vars 86 (celS (wrote { client := s.client, id := s.id, epoch := s.epoch, a := s.a, cell := s.cell, chain := s.chain, at_ := s.at_, started := s.started, over := s.over, e := s.e, ticks := s.ticks + 1, writes := s.writes, out := s.out } v) ++ [.row 1 22 (List.length (wrote { client := s.client, id := s.id, epoch := s.epoch, a := s.a, cell := s.cell, chain := s.chain, at_ := s.at_, started := s.started, over := s.over, e := s.e, ticks := s.ticks + 1, writes := s.writes, out := s.out } v).out)]), .row 50 22 (wrote { client := s.client, id := s.id, epoch := s.epoch, a := s.a, cell := s.cell, chain := s.chain, at_ := s.at_, started := s.started, over := s.over, e := s.e, ticks := s.ticks + 1, writes := s.writes, out := s.out } v).out]) (ob := [s.started = true,
 s.over = false,
 IntKind.i64.wrap (s.ticks + (1 : Int)) = s.ticks + (1 : Int),
 decide (s.ticks + (1 : Int) < (6 : Int)) = false,
 decide (s.writes ≥ (5 : Int)) = false,
 ACalls Tryz.prog 49 [.ptr 0 0] [.vars 86 [.int .i64 s.client, .int .i64 s.id, .int .u64 s.epoch, .int .u64 s.a, .int .i64 s.cell.kind, .lst 1 (List.map byteA s.cell.data), .lst 3 (List.map encB s.cell.backs), .lst 1 (List.map intA s.chain), .int .i64 (↑s.at_ : Int), .bool s.started, .bool s.over, .int .i64 s.e, .int .i64 (s.ticks + 1), .int .i64 s.writes, .row 1 22 (List.length s.out)], .row 50 22 s.out] (.tup []) [.vars 86 (celS (wrote { client := s.client, id := s.id, epoch := s.epoch, a := s.a, cell := s.cell, chain := s.chain, at_ := s.at_, started := s.started, over := s.over, e := s.e, ticks := s.ticks + 1, writes := s.writes, out := s.out } v) ++ [.row 1 22 (List.length (wrote { client := s.client, id := s.id, epoch := s.epoch, a := s.a, cell := s.cell, chain := s.chain, at_ := s.at_, started := s.started, over := s.over, e := s.e, ticks := s.ticks + 1, writes := s.writes, out := s.out } v).out)]), .row 50 22 (wrote { client := s.client, id := s.id, epoch := s.epoch, a := s.a, cell := s.cell, chain := s.chain, at_ := s.at_, started := s.started, over := s.over, e := s.e, ticks := s.ticks + 1, writes := s.writes, out := s.out } v).out]]) (by kernel_rfl) (by first | exact rfl | exact ⟨rfl, rfl⟩ | (simp [celS, setO, wrote, h1, h2, h3, h4]; done) | (first | omega | exact wrap_i (by omega) (by omega))) ⟨?z11, ?z12, ?z13, ?z14, ?z15, ?q100_1, trivial⟩
          case z11|z12|z13|z14|z15 => first | exact rfl | (simp [celS, setO, wrote, h1, h2, h3, h4] <;> omega) | omega | (first | omega | exact wrap_i (by omega) (by omega))
          exact q
def toldC (s : SetD) : CellD := if s.over = true then s.cell else cell0
def toldE (s : SetD) : Int := if s.over = true then s.e else 0
theorem overE (s : SetD) (hs : s.ok) : ACalls Tryz.prog 21 [.ptr 0 0] (setO s) (.tup [encC (toldC s), .int .i64 (toldE s), .bool s.over]) (setO s) := by
  unfold toldC toldE
  have hd := hs.cell.d
  have hk := hs.cell.b
  by_cases h : s.over = true
  · rw [if_pos h, if_pos h, h]
    have q := copied_ac s.cell (by omega) (by omega)
    refine acallsK mixed Tryz.func21 rfl [0, 2, 3, 4, 13] 1000 ([.t, .call [] false false (encC s.cell) []]) [] [0, 1] (v1 := .tup [(encC s.cell), .int .i64 s.e, .bool true]) (objs1 := [.vars 86 (celS s ++ [.row 1 22 (List.length s.out)]), .row 50 22 s.out]) (ob := [s.over = true,
 ACalls Tryz.prog 45 [(encC s.cell)] [] ((encC s.cell)) []]) (by kernel_rfl) (by first | exact rfl | exact ⟨rfl, rfl⟩ | (simp [celS, setO, encC, celC, h]; done) | (omega)) ⟨(by first | exact rfl | (simp [celS, setO, encC, celC, h]; done) | (simp [celS, setO, encC, celC, h]; omega) | omega | (omega)), ?q111_1, trivial⟩
    exact q
  · rw [if_neg h, if_neg h]
    have h : s.over = false := by simpa using h
    rw [h]
    refine ACalls.post (over_no s h) (fun K c hc => ?_) fun _ _ h => h
    obtain ⟨ds, rfl, hd⟩ := hc.tup_inv
    refine VR.mkTup ⟨hd.1, fun i u d hu hd' => ?_⟩
    match i, hu with
    | 0, hu => injection hu with hu; subst hu; exact nilcell (hd.2 0 _ d rfl hd')
    | 1, hu => exact hd.2 1 _ d hu hd'
    | 2, hu => exact hd.2 2 _ d hu hd'

end Go.Proofs.YtidgcfgkcidkiaaGreat.Ch
namespace Go.Proofs.YtidgcfgkcidkiaaGreat.Ch
open Go Go.RowKit Go.Proofs.YtidgcfgkcidkiaaGreat.L Go.Proofs.YtidgcfgkcidkiaaGreat.X
set_option linter.unusedVariables false
set_option linter.unusedSimpArgs false
theorem two_yes {a b c d : Int} (h : ¬ (a = b ∧ c = d)) : (!(a == b && (c == d && true))) = true := by
  by_cases h1 : a = b <;> by_cases h2 : c = d <;> simp [h1, h2] at h ⊢
theorem two_no {a b c d : Int} (h : ¬ ¬ (a = b ∧ c = d)) : (!(a == b && (c == d && true))) = false := by
  have h := Classical.not_not.1 h
  simp [h.1, h.2]

def hearB (s : SetD) (m : MsgD) (v : Int) : Bool := if s.started = false then false else if s.over = true then false else if rightM m = false then false else if ¬ m.kind = 14 then false else if ¬ m.of_ = 1 then false else if ¬ m.id = s.id then false else if ¬ m.addr = s.a then false else if ¬ (m.tr = 4 ∧ m.tn = s.client) then false else if ¬ (m.fr = 1 ∧ m.fn = v) then false else true
theorem bt_of {b : Bool} (h : ¬ b = false) : b = true := by simpa using h
theorem bf_of {b : Bool} (h : ¬ b = true) : b = false := by simpa using h
theorem hearB_e0 (s : SetD) (m : MsgD) (v : Int) (hm : m.ok) (hv : s.over = false → s.chain[s.at_]? = some v) (hno : hearB s m v = false) (h1 : s.started = false) : ACalls Tryz.prog 14 [.ptr 0 0, encM m] (setO s) (.bool (hearB s m v)) (setO s) := by
  have q := rightM_ac m hm
  have q1 := self_rd s
  have q2 := fun ho => unit_rd s (hv ho)
  rw [show hearB s m v = false by unfold hearB; rw [if_pos h1]]
  refine acallsK mixed Tryz.func14 rfl [0, 1, 3, 4, 34, 64, 65, 86, 102] 1000 ([.f]) [] [0, 1] (v1 := .bool false) (objs1 := [.vars 86 (celS s ++ [.row 1 22 (List.length s.out)]), .row 50 22 s.out]) (ob := [s.started = false]) (by kernel_rfl) (by first | exact rfl | exact ⟨rfl, rfl⟩ | (simp [celS, setO, encM, celM, celC, celL, h1]; done) | (first | omega | exact two_yes (by assumption) | exact two_no (by assumption))) ⟨(by first | exact rfl | (simp [celS, setO, encM, celM, celC, celL, h1]; done) | (simp [celS, setO, encM, celM, celC, celL, h1]; omega) | omega | (first | omega | exact two_yes (by assumption) | exact two_no (by assumption))), trivial⟩
theorem hearB_e1 (s : SetD) (m : MsgD) (v : Int) (hm : m.ok) (hv : s.over = false → s.chain[s.at_]? = some v) (hno : hearB s m v = false) (h1 : ¬ (s.started = false)) (h2 : s.over = true) : ACalls Tryz.prog 14 [.ptr 0 0, encM m] (setO s) (.bool (hearB s m v)) (setO s) := by
  have q := rightM_ac m hm
  have q1 := self_rd s
  have q2 := fun ho => unit_rd s (hv ho)
  rw [show hearB s m v = false by unfold hearB; rw [if_neg h1, if_pos h2]]
  refine acallsK mixed Tryz.func14 rfl [0, 1, 3, 4, 34, 64, 65, 86, 102] 1000 ([.t, .t]) [] [0, 1] (v1 := .bool false) (objs1 := [.vars 86 (celS s ++ [.row 1 22 (List.length s.out)]), .row 50 22 s.out]) (ob := [s.started = true,
 s.over = true]) (by kernel_rfl) (by first | exact rfl | exact ⟨rfl, rfl⟩ | (simp [celS, setO, encM, celM, celC, celL, bt_of h1, h2]; done) | (first | omega | exact two_yes (by assumption) | exact two_no (by assumption))) ⟨?z0, ?z1, trivial⟩
  case z0|z1 => first | exact rfl | (simp [celS, setO, encM, celM, celC, celL, bt_of h1, h2] <;> omega) | omega | (first | omega | exact two_yes (by assumption) | exact two_no (by assumption))
theorem hearB_e2 (s : SetD) (m : MsgD) (v : Int) (hm : m.ok) (hv : s.over = false → s.chain[s.at_]? = some v) (hno : hearB s m v = false) (h1 : ¬ (s.started = false)) (h2 : ¬ (s.over = true)) (h3 : rightM m = false) : ACalls Tryz.prog 14 [.ptr 0 0, encM m] (setO s) (.bool (hearB s m v)) (setO s) := by
  have q := rightM_ac m hm
  have q1 := self_rd s
  have q2 := fun ho => unit_rd s (hv ho)
  rw [h3] at q
  rw [show hearB s m v = false by unfold hearB; rw [if_neg h1, if_neg h2, if_pos h3]]
  refine acallsK mixed Tryz.func14 rfl [0, 1, 3, 4, 34, 64, 65, 86, 102] 1000 ([.t, .f, .call [] false true (.bool false) []]) [] [0, 1] (v1 := .bool false) (objs1 := [.vars 86 (celS s ++ [.row 1 22 (List.length s.out)]), .row 50 22 s.out]) (ob := [s.started = true,
 s.over = false,
 ACalls Tryz.prog 51 [(encM m)] [] (.bool false) []]) (by kernel_rfl) (by first | exact rfl | exact ⟨rfl, rfl⟩ | (simp [celS, setO, encM, celM, celC, celL, bt_of h1, bf_of h2, h3]; done) | (first | omega | exact two_yes (by assumption) | exact two_no (by assumption))) ⟨?z0, ?z1, ?q34_1, trivial⟩
  case z0|z1 => first | exact rfl | (simp [celS, setO, encM, celM, celC, celL, bt_of h1, bf_of h2, h3] <;> omega) | omega | (first | omega | exact two_yes (by assumption) | exact two_no (by assumption))
  · exact q
theorem hearB_e3 (s : SetD) (m : MsgD) (v : Int) (hm : m.ok) (hv : s.over = false → s.chain[s.at_]? = some v) (hno : hearB s m v = false) (h1 : ¬ (s.started = false)) (h2 : ¬ (s.over = true)) (h3 : rightM m = true) (h4 : ¬ m.kind = 14) : ACalls Tryz.prog 14 [.ptr 0 0, encM m] (setO s) (.bool (hearB s m v)) (setO s) := by
  have q := rightM_ac m hm
  have q1 := self_rd s
  have q2 := fun ho => unit_rd s (hv ho)
  rw [h3] at q
  rw [show hearB s m v = false by unfold hearB; rw [if_neg h1, if_neg h2, if_neg (by rw [h3]; decide), if_pos h4]]
  refine acallsK mixed Tryz.func14 rfl [0, 1, 3, 4, 34, 64, 65, 86, 102] 1000 ([.t, .f, .call [] false true (.bool true) [], .t]) [] [0, 1] (v1 := .bool false) (objs1 := [.vars 86 (celS s ++ [.row 1 22 (List.length s.out)]), .row 50 22 s.out]) (ob := [s.started = true,
 s.over = false,
 ACalls Tryz.prog 51 [(encM m)] [] (.bool true) [],
 (m.kind != (14 : Int)) = true]) (by kernel_rfl) (by first | exact rfl | exact ⟨rfl, rfl⟩ | (simp [celS, setO, encM, celM, celC, celL, bt_of h1, bf_of h2, h3, h4]; done) | (first | omega | exact two_yes (by assumption) | exact two_no (by assumption))) ⟨?z0, ?z1, ?q42_1, ?z2, trivial⟩
  case z0|z1|z2 => first | exact rfl | (simp [celS, setO, encM, celM, celC, celL, bt_of h1, bf_of h2, h3, h4] <;> omega) | omega | (first | omega | exact two_yes (by assumption) | exact two_no (by assumption))
  · exact q
theorem hearB_e4 (s : SetD) (m : MsgD) (v : Int) (hm : m.ok) (hv : s.over = false → s.chain[s.at_]? = some v) (hno : hearB s m v = false) (h1 : ¬ (s.started = false)) (h2 : ¬ (s.over = true)) (h3 : rightM m = true) (h4 : ¬ (¬ m.kind = 14)) (h5 : ¬ m.of_ = 1) : ACalls Tryz.prog 14 [.ptr 0 0, encM m] (setO s) (.bool (hearB s m v)) (setO s) := by
  have q := rightM_ac m hm
  have q1 := self_rd s
  have q2 := fun ho => unit_rd s (hv ho)
  rw [h3] at q
  rw [show hearB s m v = false by unfold hearB; rw [if_neg h1, if_neg h2, if_neg (by rw [h3]; decide), if_neg h4, if_pos h5]]
  refine acallsK mixed Tryz.func14 rfl [0, 1, 3, 4, 34, 64, 65, 86, 102] 1000 ([.t, .f, .call [] false true (.bool true) [], .f, .t]) [] [0, 1] (v1 := .bool false) (objs1 := [.vars 86 (celS s ++ [.row 1 22 (List.length s.out)]), .row 50 22 s.out]) (ob := [s.started = true,
 s.over = false,
 ACalls Tryz.prog 51 [(encM m)] [] (.bool true) [],
 (m.kind != (14 : Int)) = false,
 (m.of_ != (1 : Int)) = true]) (by kernel_rfl) (by first | exact rfl | exact ⟨rfl, rfl⟩ | (simp [celS, setO, encM, celM, celC, celL, bt_of h1, bf_of h2, h3, h4, h5]; done) | (first | omega | exact two_yes (by assumption) | exact two_no (by assumption))) ⟨?z0, ?z1, ?q50_1, ?z2, ?z3, trivial⟩
  case z0|z1|z2|z3 => first | exact rfl | (simp [celS, setO, encM, celM, celC, celL, bt_of h1, bf_of h2, h3, h4, h5] <;> omega) | omega | (first | omega | exact two_yes (by assumption) | exact two_no (by assumption))
  · exact q
theorem hearB_e5 (s : SetD) (m : MsgD) (v : Int) (hm : m.ok) (hv : s.over = false → s.chain[s.at_]? = some v) (hno : hearB s m v = false) (h1 : ¬ (s.started = false)) (h2 : ¬ (s.over = true)) (h3 : rightM m = true) (h4 : ¬ (¬ m.kind = 14)) (h5 : ¬ (¬ m.of_ = 1)) (h6 : ¬ m.id = s.id) : ACalls Tryz.prog 14 [.ptr 0 0, encM m] (setO s) (.bool (hearB s m v)) (setO s) := by
  have q := rightM_ac m hm
  have q1 := self_rd s
  have q2 := fun ho => unit_rd s (hv ho)
  rw [h3] at q
  rw [show hearB s m v = false by unfold hearB; rw [if_neg h1, if_neg h2, if_neg (by rw [h3]; decide), if_neg h4, if_neg h5, if_pos h6]]
  refine acallsK mixed Tryz.func14 rfl [0, 1, 3, 4, 34, 64, 65, 86, 102] 1000 ([.t, .f, .call [] false true (.bool true) [], .f, .f, .t]) [] [0, 1] (v1 := .bool false) (objs1 := [.vars 86 (celS s ++ [.row 1 22 (List.length s.out)]), .row 50 22 s.out]) (ob := [s.started = true,
 s.over = false,
 ACalls Tryz.prog 51 [(encM m)] [] (.bool true) [],
 (m.kind != (14 : Int)) = false,
 (m.of_ != (1 : Int)) = false,
 (m.id != s.id) = true]) (by kernel_rfl) (by first | exact rfl | exact ⟨rfl, rfl⟩ | (simp [celS, setO, encM, celM, celC, celL, bt_of h1, bf_of h2, h3, h4, h5, h6]; done) | (first | omega | exact two_yes (by assumption) | exact two_no (by assumption))) ⟨?z0, ?z1, ?q58_1, ?z2, ?z3, ?z4, trivial⟩
  case z0|z1|z2|z3|z4 => first | exact rfl | (simp [celS, setO, encM, celM, celC, celL, bt_of h1, bf_of h2, h3, h4, h5, h6] <;> omega) | omega | (first | omega | exact two_yes (by assumption) | exact two_no (by assumption))
  · exact q
theorem hearB_e6 (s : SetD) (m : MsgD) (v : Int) (hm : m.ok) (hv : s.over = false → s.chain[s.at_]? = some v) (hno : hearB s m v = false) (h1 : ¬ (s.started = false)) (h2 : ¬ (s.over = true)) (h3 : rightM m = true) (h4 : ¬ (¬ m.kind = 14)) (h5 : ¬ (¬ m.of_ = 1)) (h6 : ¬ (¬ m.id = s.id)) (h7 : ¬ m.addr = s.a) : ACalls Tryz.prog 14 [.ptr 0 0, encM m] (setO s) (.bool (hearB s m v)) (setO s) := by
  have q := rightM_ac m hm
  have q1 := self_rd s
  have q2 := fun ho => unit_rd s (hv ho)
  rw [h3] at q
  rw [show hearB s m v = false by unfold hearB; rw [if_neg h1, if_neg h2, if_neg (by rw [h3]; decide), if_neg h4, if_neg h5, if_neg h6, if_pos h7]]
  refine acallsK mixed Tryz.func14 rfl [0, 1, 3, 4, 34, 64, 65, 86, 102] 1000 ([.t, .f, .call [] false true (.bool true) [], .f, .f, .f, .t]) [] [0, 1] (v1 := .bool false) (objs1 := [.vars 86 (celS s ++ [.row 1 22 (List.length s.out)]), .row 50 22 s.out]) (ob := [s.started = true,
 s.over = false,
 ACalls Tryz.prog 51 [(encM m)] [] (.bool true) [],
 (m.kind != (14 : Int)) = false,
 (m.of_ != (1 : Int)) = false,
 (m.id != s.id) = false,
 (m.addr != s.a) = true]) (by kernel_rfl) (by first | exact rfl | exact ⟨rfl, rfl⟩ | (simp [celS, setO, encM, celM, celC, celL, bt_of h1, bf_of h2, h3, h4, h5, h6, h7]; done) | (first | omega | exact two_yes (by assumption) | exact two_no (by assumption))) ⟨?z0, ?z1, ?q66_1, ?z2, ?z3, ?z4, ?z5, trivial⟩
  case z0|z1|z2|z3|z4|z5 => first | exact rfl | (simp [celS, setO, encM, celM, celC, celL, bt_of h1, bf_of h2, h3, h4, h5, h6, h7] <;> omega) | omega | (first | omega | exact two_yes (by assumption) | exact two_no (by assumption))
  · exact q
theorem hearB_e7 (s : SetD) (m : MsgD) (v : Int) (hm : m.ok) (hv : s.over = false → s.chain[s.at_]? = some v) (hno : hearB s m v = false) (h1 : ¬ (s.started = false)) (h2 : ¬ (s.over = true)) (h3 : rightM m = true) (h4 : ¬ (¬ m.kind = 14)) (h5 : ¬ (¬ m.of_ = 1)) (h6 : ¬ (¬ m.id = s.id)) (h7 : ¬ (¬ m.addr = s.a)) (h8 : ¬ (m.tr = 4 ∧ m.tn = s.client)) : ACalls Tryz.prog 14 [.ptr 0 0, encM m] (setO s) (.bool (hearB s m v)) (setO s) := by
  have q := rightM_ac m hm
  have q1 := self_rd s
  have q2 := fun ho => unit_rd s (hv ho)
  rw [h3] at q
  rw [show hearB s m v = false by unfold hearB; rw [if_neg h1, if_neg h2, if_neg (by rw [h3]; decide), if_neg h4, if_neg h5, if_neg h6, if_neg h7, if_pos h8]]
  refine acallsK mixed Tryz.func14 rfl [0, 1, 3, 4, 34, 64, 65, 86, 102] 1000 ([.t, .f, .call [] false true (.bool true) [], .f, .f, .f, .f, .rd [0, 1] (.agg [.int .i64 4, .int .i64 s.client]), .t]) [] [0, 1] (v1 := .bool false) (objs1 := [.vars 86 (celS s ++ [.row 1 22 (List.length s.out)]), .row 50 22 s.out]) (ob := [s.started = true,
 s.over = false,
 ACalls Tryz.prog 51 [(encM m)] [] (.bool true) [],
 (m.kind != (14 : Int)) = false,
 (m.of_ != (1 : Int)) = false,
 (m.id != s.id) = false,
 (m.addr != s.a) = false,
 AReads Tryz.prog 52 [.ptr 0 0] [.vars 86 (celS s ++ [.row 1 22 (List.length s.out)]), .row 50 22 s.out] (.agg [.int .i64 4, .int .i64 s.client]),
 (!(m.tr == (4 : Int) && (m.tn == s.client && true))) = true]) (by kernel_rfl) (by first | exact rfl | exact ⟨rfl, rfl⟩ | (simp [celS, setO, encM, celM, celC, celL, bt_of h1, bf_of h2, h3, h4, h5, h6, h7, h8]; done) | (first | omega | exact two_yes (by assumption) | exact two_no (by assumption))) ⟨?z0, ?z1, ?q74_1, ?z2, ?z3, ?z4, ?z5, ?q74_2, ?z6, trivial⟩
  case z0|z1|z2|z3|z4|z5|z6 => first | exact rfl | (simp [celS, setO, encM, celM, celC, celL, bt_of h1, bf_of h2, h3, h4, h5, h6, h7, h8] <;> omega) | omega | (first | omega | exact two_yes (by assumption) | exact two_no (by assumption))
  · exact q
  · exact q1
theorem hearB_e8 (s : SetD) (m : MsgD) (v : Int) (hm : m.ok) (hv : s.over = false → s.chain[s.at_]? = some v) (hno : hearB s m v = false) (h1 : ¬ (s.started = false)) (h2 : ¬ (s.over = true)) (h3 : rightM m = true) (h4 : ¬ (¬ m.kind = 14)) (h5 : ¬ (¬ m.of_ = 1)) (h6 : ¬ (¬ m.id = s.id)) (h7 : ¬ (¬ m.addr = s.a)) (h8 : ¬ (¬ (m.tr = 4 ∧ m.tn = s.client))) (h9 : ¬ (m.fr = 1 ∧ m.fn = v)) : ACalls Tryz.prog 14 [.ptr 0 0, encM m] (setO s) (.bool (hearB s m v)) (setO s) := by
  have q := rightM_ac m hm
  have q1 := self_rd s
  have q2 := fun ho => unit_rd s (hv ho)
  rw [h3] at q
  rw [show hearB s m v = false by unfold hearB; rw [if_neg h1, if_neg h2, if_neg (by rw [h3]; decide), if_neg h4, if_neg h5, if_neg h6, if_neg h7, if_neg h8, if_pos h9]]
  refine acallsK mixed Tryz.func14 rfl [0, 1, 3, 4, 34, 64, 65, 86, 102] 1000 ([.t, .f, .call [] false true (.bool true) [], .f, .f, .f, .f, .rd [0, 1] (.agg [.int .i64 4, .int .i64 s.client]), .f, .rd [0, 1] (.agg [.int .i64 1, .int .i64 v]), .t]) [] [0, 1] (v1 := .bool false) (objs1 := [.vars 86 (celS s ++ [.row 1 22 (List.length s.out)]), .row 50 22 s.out]) (ob := [s.started = true,
 s.over = false,
 ACalls Tryz.prog 51 [(encM m)] [] (.bool true) [],
 (m.kind != (14 : Int)) = false,
 (m.of_ != (1 : Int)) = false,
 (m.id != s.id) = false,
 (m.addr != s.a) = false,
 AReads Tryz.prog 52 [.ptr 0 0] [.vars 86 (celS s ++ [.row 1 22 (List.length s.out)]), .row 50 22 s.out] (.agg [.int .i64 4, .int .i64 s.client]),
 (!(m.tr == (4 : Int) && (m.tn == s.client && true))) = false,
 AReads Tryz.prog 53 [.ptr 0 0] [.vars 86 (celS s ++ [.row 1 22 (List.length s.out)]), .row 50 22 s.out] (.agg [.int .i64 1, .int .i64 v]),
 (!(m.fr == (1 : Int) && (m.fn == v && true))) = true]) (by kernel_rfl) (by first | exact rfl | exact ⟨rfl, rfl⟩ | (simp [celS, setO, encM, celM, celC, celL, bt_of h1, bf_of h2, h3, h4, h5, h6, h7, h8, h9]; done) | (first | omega | exact two_yes (by assumption) | exact two_no (by assumption))) ⟨?z0, ?z1, ?q83_1, ?z2, ?z3, ?z4, ?z5, ?q83_2, ?z6, ?q83_3, ?z7, trivial⟩
  case z0|z1|z2|z3|z4|z5|z6|z7 => first | exact rfl | (simp [celS, setO, encM, celM, celC, celL, bt_of h1, bf_of h2, h3, h4, h5, h6, h7, h8, h9] <;> omega) | omega | (first | omega | exact two_yes (by assumption) | exact two_no (by assumption))
  · exact q
  · exact q1
  · exact q2 (by simpa using h2)
theorem hearB_ac (s : SetD) (m : MsgD) (v : Int) (hm : m.ok) (hv : s.over = false → s.chain[s.at_]? = some v) (hno : hearB s m v = false) : ACalls Tryz.prog 14 [.ptr 0 0, encM m] (setO s) (.bool (hearB s m v)) (setO s) := by
  by_cases h1 : s.started = false
  · exact hearB_e0 s m v hm hv hno h1
  by_cases h2 : s.over = true
  · exact hearB_e1 s m v hm hv hno h1 h2
  cases h3 : rightM m with
  | false => exact hearB_e2 s m v hm hv hno h1 h2 h3
  | true =>
    by_cases h4 : ¬ m.kind = 14
    · exact hearB_e3 s m v hm hv hno h1 h2 h3 h4
    by_cases h5 : ¬ m.of_ = 1
    · exact hearB_e4 s m v hm hv hno h1 h2 h3 h4 h5
    by_cases h6 : ¬ m.id = s.id
    · exact hearB_e5 s m v hm hv hno h1 h2 h3 h4 h5 h6
    by_cases h7 : ¬ m.addr = s.a
    · exact hearB_e6 s m v hm hv hno h1 h2 h3 h4 h5 h6 h7
    by_cases h8 : ¬ (m.tr = 4 ∧ m.tn = s.client)
    · exact hearB_e7 s m v hm hv hno h1 h2 h3 h4 h5 h6 h7 h8
    by_cases h9 : ¬ (m.fr = 1 ∧ m.fn = v)
    · exact hearB_e8 s m v hm hv hno h1 h2 h3 h4 h5 h6 h7 h8 h9
    exact absurd hno (by rw [show hearB s m v = true by unfold hearB; rw [if_neg h1, if_neg h2, if_neg (by rw [h3]; decide), if_neg h4, if_neg h5, if_neg h6, if_neg h7, if_neg h8, if_neg h9]]; decide)
structure Heard (s : SetD) (m : MsgD) (v : Int) : Prop where
  st : s.started = true
  ov : s.over = false
  rt : rightM m = true
  kd : m.kind = 14
  of1 : m.of_ = 1
  id : m.id = s.id
  ad : m.addr = s.a
  to1 : m.tr = 4
  to2 : m.tn = s.client
  fr1 : m.fr = 1
  fr2 : m.fn = v
theorem hearB_yes {s : SetD} {m : MsgD} {v : Int} (h : hearB s m v = true) : Heard s m v := by
  unfold hearB at h
  repeat' split at h
  all_goals first | cases h | skip
  rename_i h1 h2 h3 h4 h5 h6 h7 h8 h9
  have h8 := Classical.not_not.1 h8
  have h9 := Classical.not_not.1 h9
  exact ⟨bt_of h1, bf_of h2, bt_of h3, Classical.not_not.1 h4, Classical.not_not.1 h5, Classical.not_not.1 h6, Classical.not_not.1 h7, h8.1, h8.2, h9.1, h9.2⟩
def stepS (s : SetD) (m : MsgD) : SetD :=
  if m.err = 81 then
    if 0 < s.at_ then (if sameC m.cell s.cell = true then goS s else ended s 191)
    else if rightC m.cell = true then goS { s with cell := m.cell } else ended s 81
  else if m.err = 0 then goS s else ended s m.err
theorem hear_a (s : SetD) (m : MsgD) (v : Int) (hs : s.ok) (hm : m.ok) (hv : s.chain[s.at_]? = some v) (H : Heard s m v) (k1 : ¬ m.err = 81) (k2 : m.err = 0) : ACalls Tryz.prog 14 [.ptr 0 0, encM m] (setO s) (.bool true) (setO (stepS s m)) := by
  rw [show stepS s m = goS s by unfold stepS; rw [if_neg k1, if_pos k2]]
  have q := rightM_ac m hm
  rw [H.rt] at q
  have q1 := self_rd s
  have q2 := unit_rd s hv
  have q3 := nextE s hs H.ov
  refine acallsK mixed Tryz.func14 rfl [0, 1, 3, 4, 34, 64, 65, 86, 102] 1000 ([.t, .f, .call [] false true (.bool true) [], .f, .f, .f, .f, .rd [0, 1] (.agg [.int .i64 4, .int .i64 s.client]), .f, .rd [0, 1] (.agg [.int .i64 1, .int .i64 v]), .f, .f, .f, .t, .call [0, 1] false false (.tup []) (setO (goS s))]) [] [0, 4] (v1 := .bool true) (objs1 := [.vars 86 (celS (goS s) ++ [.row 1 22 (List.length (goS s).out)]), .row 50 22 (goS s).out]) (ob := [s.started = true,
 s.over = false,
 ACalls Tryz.prog 51 [(encM m)] [] (.bool true) [],
 (m.kind != (14 : Int)) = false,
 (m.of_ != (1 : Int)) = false,
 (m.id != s.id) = false,
 (m.addr != s.a) = false,
 AReads Tryz.prog 52 [.ptr 0 0] [.vars 86 (celS s ++ [.row 1 22 (List.length s.out)]), .row 50 22 s.out] (.agg [.int .i64 4, .int .i64 s.client]),
 (!(m.tr == (4 : Int) && (m.tn == s.client && true))) = false,
 AReads Tryz.prog 53 [.ptr 0 0] [.vars 86 (celS s ++ [.row 1 22 (List.length s.out)]), .row 50 22 s.out] (.agg [.int .i64 1, .int .i64 v]),
 (!(m.fr == (1 : Int) && (m.fn == v && true))) = false,
 (m.err == (81 : Int)) = false,
 (m.err == (81 : Int)) = false,
 (m.err == (0 : Int)) = true,
 ACalls Tryz.prog 56 [.ptr 0 0] [.vars 86 (celS s ++ [.row 1 22 (List.length s.out)]), .row 50 22 s.out] (.tup []) [.vars 86 (celS (goS s) ++ [.row 1 22 (List.length (goS s).out)]), .row 50 22 (goS s).out]]) (by kernel_rfl) (by first | exact rfl | exact ⟨rfl, rfl⟩ | (simp [celS, setO, encM, celM, celC, celL, H.st, H.ov, H.kd, H.of1, H.id, H.ad, H.to1, H.to2, H.fr1, H.fr2, k1, k2]; done) | (first | omega | exact two_no (fun h => h ⟨by first | exact H.to1 | exact H.fr1, by first | exact H.to2 | exact H.fr2⟩))) ⟨?z0, ?z1, ?q140_1, ?z2, ?z3, ?z4, ?z5, ?q140_2, ?z6, ?q140_3, ?z7, ?z8, ?z9, ?z10, ?q140_4, trivial⟩
  case z0|z1|z2|z3|z4|z5|z6|z7|z8|z9|z10 => first | exact rfl | (simp [celS, setO, encM, celM, celC, celL, H.st, H.ov, H.kd, H.of1, H.id, H.ad, H.to1, H.to2, H.fr1, H.fr2, k1, k2] <;> omega) | omega | (first | omega | exact two_no (fun h => h ⟨by first | exact H.to1 | exact H.fr1, by first | exact H.to2 | exact H.fr2⟩))
  · exact q
  · exact q1
  · exact q2
  · exact q3
theorem hear_b (s : SetD) (m : MsgD) (v : Int) (hs : s.ok) (hm : m.ok) (hv : s.chain[s.at_]? = some v) (H : Heard s m v) (k1 : ¬ m.err = 81) (k2 : ¬ m.err = 0) : ACalls Tryz.prog 14 [.ptr 0 0, encM m] (setO s) (.bool true) (setO (stepS s m)) := by
  rw [show stepS s m = ended s m.err by unfold stepS; rw [if_neg k1, if_neg k2]]
  have q := rightM_ac m hm
  rw [H.rt] at q
  have q1 := self_rd s
  have q2 := unit_rd s hv
  have q3 := nextE s hs H.ov
  refine acallsK mixed Tryz.func14 rfl [0, 1, 3, 4, 34, 64, 65, 86, 102] 1000 ([.t, .f, .call [] false true (.bool true) [], .f, .f, .f, .f, .rd [0, 1] (.agg [.int .i64 4, .int .i64 s.client]), .f, .rd [0, 1] (.agg [.int .i64 1, .int .i64 v]), .f, .f, .f, .f, .f, .call [0, 1] false false (.tup []) (setO (ended s m.err))]) [] [0, 4] (v1 := .bool true) (objs1 := [.vars 86 (celS (ended s m.err) ++ [.row 1 22 (List.length (ended s m.err).out)]), .row 50 22 (ended s m.err).out]) (ob := [s.started = true,
 s.over = false,
 ACalls Tryz.prog 51 [(encM m)] [] (.bool true) [],
 (m.kind != (14 : Int)) = false,
 (m.of_ != (1 : Int)) = false,
 (m.id != s.id) = false,
 (m.addr != s.a) = false,
 AReads Tryz.prog 52 [.ptr 0 0] [.vars 86 (celS s ++ [.row 1 22 (List.length s.out)]), .row 50 22 s.out] (.agg [.int .i64 4, .int .i64 s.client]),
 (!(m.tr == (4 : Int) && (m.tn == s.client && true))) = false,
 AReads Tryz.prog 53 [.ptr 0 0] [.vars 86 (celS s ++ [.row 1 22 (List.length s.out)]), .row 50 22 s.out] (.agg [.int .i64 1, .int .i64 v]),
 (!(m.fr == (1 : Int) && (m.fn == v && true))) = false,
 (m.err == (81 : Int)) = false,
 (m.err == (81 : Int)) = false,
 (m.err == (0 : Int)) = false,
 (m.err == (81 : Int)) = false,
 ACalls Tryz.prog 55 [.ptr 0 0, .int .i64 m.err] [.vars 86 (celS s ++ [.row 1 22 (List.length s.out)]), .row 50 22 s.out] (.tup []) [.vars 86 (celS (ended s m.err) ++ [.row 1 22 (List.length (ended s m.err).out)]), .row 50 22 (ended s m.err).out]]) (by kernel_rfl) (by first | exact rfl | exact ⟨rfl, rfl⟩ | (simp [celS, setO, encM, celM, celC, celL, H.st, H.ov, H.kd, H.of1, H.id, H.ad, H.to1, H.to2, H.fr1, H.fr2, k1, k2]; done) | (first | omega | exact two_no (fun h => h ⟨by first | exact H.to1 | exact H.fr1, by first | exact H.to2 | exact H.fr2⟩))) ⟨?z0, ?z1, ?q152_1, ?z2, ?z3, ?z4, ?z5, ?q152_2, ?z6, ?q152_3, ?z7, ?z8, ?z9, ?z10, ?z11, ?q152_4, trivial⟩
  case z0|z1|z2|z3|z4|z5|z6|z7|z8|z9|z10|z11 => first | exact rfl | (simp [celS, setO, encM, celM, celC, celL, H.st, H.ov, H.kd, H.of1, H.id, H.ad, H.to1, H.to2, H.fr1, H.fr2, k1, k2] <;> omega) | omega | (first | omega | exact two_no (fun h => h ⟨by first | exact H.to1 | exact H.fr1, by first | exact H.to2 | exact H.fr2⟩))
  · exact q
  · exact q1
  · exact q2
  · exact endE s m.err
theorem hear_c (s : SetD) (m : MsgD) (v : Int) (hs : s.ok) (hm : m.ok) (hv : s.chain[s.at_]? = some v) (H : Heard s m v) (k1 : m.err = 81) (k2 : 0 < s.at_) (k3 : sameC m.cell s.cell = false) : ACalls Tryz.prog 14 [.ptr 0 0, encM m] (setO s) (.bool true) (setO (stepS s m)) := by
  rw [show stepS s m = ended s 191 by unfold stepS; rw [if_pos k1, if_pos k2, if_neg (by rw [k3]; decide)]]
  have q := rightM_ac m hm
  rw [H.rt] at q
  have q1 := self_rd s
  have q2 := unit_rd s hv
  have q3 := nextE s hs H.ov
  have q4 := sameC_ac m.cell s.cell hm.cell hs.cell
  rw [k3] at q4
  refine acallsK mixed Tryz.func14 rfl [0, 1, 3, 4, 34, 64, 65, 86, 102] 1000 ([.t, .f, .call [] false true (.bool true) [], .f, .f, .f, .f, .rd [0, 1] (.agg [.int .i64 4, .int .i64 s.client]), .f, .rd [0, 1] (.agg [.int .i64 1, .int .i64 v]), .f, .t, .t, .call [] false true (.bool false) [], .call [0, 1] false false (.tup []) (setO (ended s 191))]) [] [0, 4] (v1 := .bool true) (objs1 := [.vars 86 [.int .i64 (ended s 191).client, .int .i64 (ended s 191).id, .int .u64 (ended s 191).epoch, .int .u64 (ended s 191).a, .int .i64 (ended s 191).cell.kind, .lst 1 [], .lst 3 [], .lst 1 (List.map intA (ended s 191).chain), .int .i64 (↑(ended s 191).at_ : Int), .bool (ended s 191).started, .bool (ended s 191).over, .int .i64 (ended s 191).e, .int .i64 (ended s 191).ticks, .int .i64 (ended s 191).writes, .row 1 22 (List.length (ended s 191).out)], .row 50 22 (ended s 191).out]) (ob := [s.started = true,
 s.over = false,
 ACalls Tryz.prog 51 [(encM m)] [] (.bool true) [],
 (m.kind != (14 : Int)) = false,
 (m.of_ != (1 : Int)) = false,
 (m.id != s.id) = false,
 (m.addr != s.a) = false,
 AReads Tryz.prog 52 [.ptr 0 0] [.vars 86 (celS s ++ [.row 1 22 (List.length s.out)]), .row 50 22 s.out] (.agg [.int .i64 4, .int .i64 s.client]),
 (!(m.tr == (4 : Int) && (m.tn == s.client && true))) = false,
 AReads Tryz.prog 53 [.ptr 0 0] [.vars 86 (celS s ++ [.row 1 22 (List.length s.out)]), .row 50 22 s.out] (.agg [.int .i64 1, .int .i64 v]),
 (!(m.fr == (1 : Int) && (m.fn == v && true))) = false,
 (m.err == (81 : Int)) = true,
 decide ((↑s.at_ : Int) > (0 : Int)) = true,
 ACalls Tryz.prog 54 [(encC m.cell), (encC s.cell)] [] (.bool false) [],
 ACalls Tryz.prog 55 [.ptr 0 0, .int .i64 191] [.vars 86 (celS s ++ [.row 1 22 (List.length s.out)]), .row 50 22 s.out] (.tup []) [.vars 86 [.int .i64 (ended s 191).client, .int .i64 (ended s 191).id, .int .u64 (ended s 191).epoch, .int .u64 (ended s 191).a, .int .i64 (ended s 191).cell.kind, .lst 1 [], .lst 3 [], .lst 1 (List.map intA (ended s 191).chain), .int .i64 (↑(ended s 191).at_ : Int), .bool (ended s 191).started, .bool (ended s 191).over, .int .i64 (ended s 191).e, .int .i64 (ended s 191).ticks, .int .i64 (ended s 191).writes, .row 1 22 (List.length (ended s 191).out)], .row 50 22 (ended s 191).out]]) (by kernel_rfl) (by first | exact rfl | exact ⟨rfl, rfl⟩ | (simp [celS, setO, encM, celM, celC, celL, H.st, H.ov, H.kd, H.of1, H.id, H.ad, H.to1, H.to2, H.fr1, H.fr2, k1, k2]; done) | (first | omega | exact two_no (fun h => h ⟨by first | exact H.to1 | exact H.fr1, by first | exact H.to2 | exact H.fr2⟩))) ⟨?z0, ?z1, ?q166_1, ?z2, ?z3, ?z4, ?z5, ?q166_2, ?z6, ?q166_3, ?z7, ?z8, ?z9, ?q166_4, ?q166_5, trivial⟩
  case z0|z1|z2|z3|z4|z5|z6|z7|z8|z9 => first | exact rfl | (simp [celS, setO, encM, celM, celC, celL, H.st, H.ov, H.kd, H.of1, H.id, H.ad, H.to1, H.to2, H.fr1, H.fr2, k1, k2] <;> omega) | omega | (first | omega | exact two_no (fun h => h ⟨by first | exact H.to1 | exact H.fr1, by first | exact H.to2 | exact H.fr2⟩))
  · exact q
  · exact q1
  · exact q2
  · exact q4
  · exact endE s 191
theorem hear_d (s : SetD) (m : MsgD) (v : Int) (hs : s.ok) (hm : m.ok) (hv : s.chain[s.at_]? = some v) (H : Heard s m v) (k1 : m.err = 81) (k2 : 0 < s.at_) (k3 : sameC m.cell s.cell = true) : ACalls Tryz.prog 14 [.ptr 0 0, encM m] (setO s) (.bool true) (setO (stepS s m)) := by
  rw [show stepS s m = goS s by unfold stepS; rw [if_pos k1, if_pos k2, if_pos k3]]
  have q := rightM_ac m hm
  rw [H.rt] at q
  have q1 := self_rd s
  have q2 := unit_rd s hv
  have q3 := nextE s hs H.ov
  have q4 := sameC_ac m.cell s.cell hm.cell hs.cell
  rw [k3] at q4
  refine acallsK mixed Tryz.func14 rfl [0, 1, 3, 4, 34, 64, 65, 86, 102] 1000 ([.t, .f, .call [] false true (.bool true) [], .f, .f, .f, .f, .rd [0, 1] (.agg [.int .i64 4, .int .i64 s.client]), .f, .rd [0, 1] (.agg [.int .i64 1, .int .i64 v]), .f, .t, .t, .call [] false true (.bool true) [], .t, .f, .f, .t, .t, .call [0, 1] false false (.tup []) (setO (goS s))]) [] [0, 4] (v1 := .bool true) (objs1 := [.vars 86 (celS (goS s) ++ [.row 1 22 (List.length (goS s).out)]), .row 50 22 (goS s).out]) (ob := [s.started = true,
 s.over = false,
 ACalls Tryz.prog 51 [(encM m)] [] (.bool true) [],
 (m.kind != (14 : Int)) = false,
 (m.of_ != (1 : Int)) = false,
 (m.id != s.id) = false,
 (m.addr != s.a) = false,
 AReads Tryz.prog 52 [.ptr 0 0] [.vars 86 (celS s ++ [.row 1 22 (List.length s.out)]), .row 50 22 s.out] (.agg [.int .i64 4, .int .i64 s.client]),
 (!(m.tr == (4 : Int) && (m.tn == s.client && true))) = false,
 AReads Tryz.prog 53 [.ptr 0 0] [.vars 86 (celS s ++ [.row 1 22 (List.length s.out)]), .row 50 22 s.out] (.agg [.int .i64 1, .int .i64 v]),
 (!(m.fr == (1 : Int) && (m.fn == v && true))) = false,
 (m.err == (81 : Int)) = true,
 decide ((↑s.at_ : Int) > (0 : Int)) = true,
 ACalls Tryz.prog 54 [(encC m.cell), (encC s.cell)] [] (.bool true) [],
 (m.err == (81 : Int)) = true,
 ((↑s.at_ : Int) == (0 : Int)) = false,
 (m.err == (0 : Int)) = false,
 (m.err == (81 : Int)) = true,
 decide ((↑s.at_ : Int) > (0 : Int)) = true,
 ACalls Tryz.prog 56 [.ptr 0 0] [.vars 86 (celS s ++ [.row 1 22 (List.length s.out)]), .row 50 22 s.out] (.tup []) [.vars 86 (celS (goS s) ++ [.row 1 22 (List.length (goS s).out)]), .row 50 22 (goS s).out]]) (by kernel_rfl) (by first | exact rfl | exact ⟨rfl, rfl⟩ | (simp [celS, setO, encM, celM, celC, celL, H.st, H.ov, H.kd, H.of1, H.id, H.ad, H.to1, H.to2, H.fr1, H.fr2, k1, k2]; done) | (first | omega | exact two_no (fun h => h ⟨by first | exact H.to1 | exact H.fr1, by first | exact H.to2 | exact H.fr2⟩))) ⟨?z0, ?z1, ?q181_1, ?z2, ?z3, ?z4, ?z5, ?q181_2, ?z6, ?q181_3, ?z7, ?z8, ?z9, ?q181_4, ?z10, ?z11, ?z12, ?z13, ?z14, ?q181_5, trivial⟩
  case z0|z1|z2|z3|z4|z5|z6|z7|z8|z9|z10|z11|z12|z13|z14 => first | exact rfl | (simp [celS, setO, encM, celM, celC, celL, H.st, H.ov, H.kd, H.of1, H.id, H.ad, H.to1, H.to2, H.fr1, H.fr2, k1, k2] <;> omega) | omega | (first | omega | exact two_no (fun h => h ⟨by first | exact H.to1 | exact H.fr1, by first | exact H.to2 | exact H.fr2⟩))
  · exact q
  · exact q1
  · exact q2
  · exact q4
  · exact q3
theorem hear_e (s : SetD) (m : MsgD) (v : Int) (hs : s.ok) (hm : m.ok) (hv : s.chain[s.at_]? = some v) (H : Heard s m v) (k1 : m.err = 81) (k2 : ¬ 0 < s.at_) (k3 : rightC m.cell = true) : ACalls Tryz.prog 14 [.ptr 0 0, encM m] (setO s) (.bool true) (setO (stepS s m)) := by
  rw [show stepS s m = goS { s with cell := m.cell } by unfold stepS; rw [if_pos k1, if_neg k2, if_pos k3]]
  have q := rightM_ac m hm
  rw [H.rt] at q
  have q1 := self_rd s
  have q2 := unit_rd s hv
  have q3 := nextE s hs H.ov
  have q5 := right_ac m.cell
  rw [k3] at q5
  have hd := hm.cell.d
  have hk := hm.cell.b
  have q6 := copied_ac m.cell (by omega) (by omega)
  have q7 := nextE { s with cell := m.cell } ⟨hm.cell, hs.ch, hs.at_, hs.out, hs.t0, hs.t1, hs.w0, hs.w1⟩ H.ov
  refine acallsK mixed Tryz.func14 rfl [0, 1, 3, 4, 34, 64, 65, 86, 102] 1000 ([.t, .f, .call [] false true (.bool true) [], .f, .f, .f, .f, .rd [0, 1] (.agg [.int .i64 4, .int .i64 s.client]), .f, .rd [0, 1] (.agg [.int .i64 1, .int .i64 v]), .f, .t, .f, .t, .t, .call [] false true (.bool true) [], .call [] true false (encC m.cell) [], .call [0, 1] false false (.tup []) (setO (goS { s with cell := m.cell }))]) [] [0, 4] (v1 := .bool true) (objs1 := [.vars 86 (celS (goS { client := s.client, id := s.id, epoch := s.epoch, a := s.a, cell := m.cell, chain := s.chain, at_ := s.at_, started := s.started, over := s.over, e := s.e, ticks := s.ticks, writes := s.writes, out := s.out }) ++ [.row 1 22 (List.length (goS { client := s.client, id := s.id, epoch := s.epoch, a := s.a, cell := m.cell, chain := s.chain, at_ := s.at_, started := s.started, over := s.over, e := s.e, ticks := s.ticks, writes := s.writes, out := s.out }).out)]), .row 50 22 (goS { client := s.client, id := s.id, epoch := s.epoch, a := s.a, cell := m.cell, chain := s.chain, at_ := s.at_, started := s.started, over := s.over, e := s.e, ticks := s.ticks, writes := s.writes, out := s.out }).out]) (ob := [s.started = true,
 s.over = false,
 ACalls Tryz.prog 51 [(encM m)] [] (.bool true) [],
 (m.kind != (14 : Int)) = false,
 (m.of_ != (1 : Int)) = false,
 (m.id != s.id) = false,
 (m.addr != s.a) = false,
 AReads Tryz.prog 52 [.ptr 0 0] [.vars 86 (celS s ++ [.row 1 22 (List.length s.out)]), .row 50 22 s.out] (.agg [.int .i64 4, .int .i64 s.client]),
 (!(m.tr == (4 : Int) && (m.tn == s.client && true))) = false,
 AReads Tryz.prog 53 [.ptr 0 0] [.vars 86 (celS s ++ [.row 1 22 (List.length s.out)]), .row 50 22 s.out] (.agg [.int .i64 1, .int .i64 v]),
 (!(m.fr == (1 : Int) && (m.fn == v && true))) = false,
 (m.err == (81 : Int)) = true,
 decide ((↑s.at_ : Int) > (0 : Int)) = false,
 (m.err == (81 : Int)) = true,
 ((↑s.at_ : Int) == (0 : Int)) = true,
 ACalls Tryz.prog 44 [(encC m.cell)] [] (.bool true) [],
 ACalls Tryz.prog 45 [(encC m.cell)] [] ((encC m.cell)) [],
 ACalls Tryz.prog 56 [.ptr 0 0] [.vars 86 [.int .i64 s.client, .int .i64 s.id, .int .u64 s.epoch, .int .u64 s.a, .int .i64 m.cell.kind, .lst 1 (List.map byteA m.cell.data), .lst 3 (List.map encB m.cell.backs), .lst 1 (List.map intA s.chain), .int .i64 (↑s.at_ : Int), .bool s.started, .bool s.over, .int .i64 s.e, .int .i64 s.ticks, .int .i64 s.writes, .row 1 22 (List.length s.out)], .row 50 22 s.out] (.tup []) [.vars 86 (celS (goS { client := s.client, id := s.id, epoch := s.epoch, a := s.a, cell := m.cell, chain := s.chain, at_ := s.at_, started := s.started, over := s.over, e := s.e, ticks := s.ticks, writes := s.writes, out := s.out }) ++ [.row 1 22 (List.length (goS { client := s.client, id := s.id, epoch := s.epoch, a := s.a, cell := m.cell, chain := s.chain, at_ := s.at_, started := s.started, over := s.over, e := s.e, ticks := s.ticks, writes := s.writes, out := s.out }).out)]), .row 50 22 (goS { client := s.client, id := s.id, epoch := s.epoch, a := s.a, cell := m.cell, chain := s.chain, at_ := s.at_, started := s.started, over := s.over, e := s.e, ticks := s.ticks, writes := s.writes, out := s.out }).out]]) (by kernel_rfl) (by first | exact rfl | exact ⟨rfl, rfl⟩ | (simp [celS, setO, encM, celM, celC, celL, H.st, H.ov, H.kd, H.of1, H.id, H.ad, H.to1, H.to2, H.fr1, H.fr2, k1, k2]; done) | (first | omega | exact two_no (fun h => h ⟨by first | exact H.to1 | exact H.fr1, by first | exact H.to2 | exact H.fr2⟩))) ⟨?z0, ?z1, ?q200_1, ?z2, ?z3, ?z4, ?z5, ?q200_2, ?z6, ?q200_3, ?z7, ?z8, ?z9, ?z10, ?z11, ?q200_4, ?q200_5, ?q200_6, trivial⟩
  case z0|z1|z2|z3|z4|z5|z6|z7|z8|z9|z10|z11 => first | exact rfl | (simp [celS, setO, encM, celM, celC, celL, H.st, H.ov, H.kd, H.of1, H.id, H.ad, H.to1, H.to2, H.fr1, H.fr2, k1, k2] <;> omega) | omega | (first | omega | exact two_no (fun h => h ⟨by first | exact H.to1 | exact H.fr1, by first | exact H.to2 | exact H.fr2⟩))
  · exact q
  · exact q1
  · exact q2
  · exact q5
  · exact q6
  · exact q7
theorem hear_f (s : SetD) (m : MsgD) (v : Int) (hs : s.ok) (hm : m.ok) (hv : s.chain[s.at_]? = some v) (H : Heard s m v) (k1 : m.err = 81) (k2 : ¬ 0 < s.at_) (k3 : rightC m.cell = false) : ACalls Tryz.prog 14 [.ptr 0 0, encM m] (setO s) (.bool true) (setO (stepS s m)) := by
  rw [show stepS s m = ended s 81 by unfold stepS; rw [if_pos k1, if_neg k2, if_neg (by rw [k3]; decide)]]
  have q := rightM_ac m hm
  rw [H.rt] at q
  have q1 := self_rd s
  have q2 := unit_rd s hv
  have q3 := nextE s hs H.ov
  have q5 := right_ac m.cell
  rw [k3] at q5
  have hd := hm.cell.d
  have hk := hm.cell.b
  refine acallsK mixed Tryz.func14 rfl [0, 1, 3, 4, 34, 64, 65, 86, 102] 1000 ([.t, .f, .call [] false true (.bool true) [], .f, .f, .f, .f, .rd [0, 1] (.agg [.int .i64 4, .int .i64 s.client]), .f, .rd [0, 1] (.agg [.int .i64 1, .int .i64 v]), .f, .t, .f, .t, .t, .call [] false true (.bool false) [], .f, .t, .f, .call [0, 1] false false (.tup []) (setO (ended s 81))]) [] [0, 4] (v1 := .bool true) (objs1 := [.vars 86 [.int .i64 (ended s 81).client, .int .i64 (ended s 81).id, .int .u64 (ended s 81).epoch, .int .u64 (ended s 81).a, .int .i64 (ended s 81).cell.kind, .lst 1 [], .lst 3 [], .lst 1 (List.map intA (ended s 81).chain), .int .i64 (↑(ended s 81).at_ : Int), .bool (ended s 81).started, .bool (ended s 81).over, .int .i64 (ended s 81).e, .int .i64 (ended s 81).ticks, .int .i64 (ended s 81).writes, .row 1 22 (List.length (ended s 81).out)], .row 50 22 (ended s 81).out]) (ob := [s.started = true,
 s.over = false,
 ACalls Tryz.prog 51 [(encM m)] [] (.bool true) [],
 (m.kind != (14 : Int)) = false,
 (m.of_ != (1 : Int)) = false,
 (m.id != s.id) = false,
 (m.addr != s.a) = false,
 AReads Tryz.prog 52 [.ptr 0 0] [.vars 86 (celS s ++ [.row 1 22 (List.length s.out)]), .row 50 22 s.out] (.agg [.int .i64 4, .int .i64 s.client]),
 (!(m.tr == (4 : Int) && (m.tn == s.client && true))) = false,
 AReads Tryz.prog 53 [.ptr 0 0] [.vars 86 (celS s ++ [.row 1 22 (List.length s.out)]), .row 50 22 s.out] (.agg [.int .i64 1, .int .i64 v]),
 (!(m.fr == (1 : Int) && (m.fn == v && true))) = false,
 (m.err == (81 : Int)) = true,
 decide ((↑s.at_ : Int) > (0 : Int)) = false,
 (m.err == (81 : Int)) = true,
 ((↑s.at_ : Int) == (0 : Int)) = true,
 ACalls Tryz.prog 44 [(encC m.cell)] [] (.bool false) [],
 (m.err == (0 : Int)) = false,
 (m.err == (81 : Int)) = true,
 decide ((↑s.at_ : Int) > (0 : Int)) = false,
 ACalls Tryz.prog 55 [.ptr 0 0, .int .i64 m.err] [.vars 86 (celS s ++ [.row 1 22 (List.length s.out)]), .row 50 22 s.out] (.tup []) [.vars 86 [.int .i64 (ended s 81).client, .int .i64 (ended s 81).id, .int .u64 (ended s 81).epoch, .int .u64 (ended s 81).a, .int .i64 (ended s 81).cell.kind, .lst 1 [], .lst 3 [], .lst 1 (List.map intA (ended s 81).chain), .int .i64 (↑(ended s 81).at_ : Int), .bool (ended s 81).started, .bool (ended s 81).over, .int .i64 (ended s 81).e, .int .i64 (ended s 81).ticks, .int .i64 (ended s 81).writes, .row 1 22 (List.length (ended s 81).out)], .row 50 22 (ended s 81).out]]) (by kernel_rfl) (by first | exact rfl | exact ⟨rfl, rfl⟩ | (simp [celS, setO, encM, celM, celC, celL, H.st, H.ov, H.kd, H.of1, H.id, H.ad, H.to1, H.to2, H.fr1, H.fr2, k1, k2]; done) | (first | omega | exact two_no (fun h => h ⟨by first | exact H.to1 | exact H.fr1, by first | exact H.to2 | exact H.fr2⟩))) ⟨?z0, ?z1, ?q218_1, ?z2, ?z3, ?z4, ?z5, ?q218_2, ?z6, ?q218_3, ?z7, ?z8, ?z9, ?z10, ?z11, ?q218_4, ?z12, ?z13, ?z14, ?q218_5, trivial⟩
  case z0|z1|z2|z3|z4|z5|z6|z7|z8|z9|z10|z11|z12|z13|z14 => first | exact rfl | (simp [celS, setO, encM, celM, celC, celL, H.st, H.ov, H.kd, H.of1, H.id, H.ad, H.to1, H.to2, H.fr1, H.fr2, k1, k2] <;> omega) | omega | (first | omega | exact two_no (fun h => h ⟨by first | exact H.to1 | exact H.fr1, by first | exact H.to2 | exact H.fr2⟩))
  · exact q
  · exact q1
  · exact q2
  · exact q5
  · rw [k1]; exact endE s 81
theorem hearE (s : SetD) (m : MsgD) (v : Int) (hs : s.ok) (hm : m.ok) (hv : s.over = false → s.chain[s.at_]? = some v) : ACalls Tryz.prog 14 [.ptr 0 0, encM m] (setO s) (.bool (hearB s m v)) (setO (if hearB s m v = true then stepS s m else s)) := by
  cases hh : hearB s m v with
  | false =>
    rw [if_neg (by decide)]
    have := hearB_ac s m v hm hv hh
    rw [hh] at this
    exact this
  | true =>
    rw [if_pos rfl]
    have H := hearB_yes hh
    have hv := hv H.ov
    by_cases k1 : m.err = 81
    · by_cases k2 : 0 < s.at_
      · cases k3 : sameC m.cell s.cell with
        | false => exact hear_c s m v hs hm hv H k1 k2 k3
        | true => exact hear_d s m v hs hm hv H k1 k2 k3
      · cases k3 : rightC m.cell with
        | false => exact hear_f s m v hs hm hv H k1 k2 k3
        | true => exact hear_e s m v hs hm hv H k1 k2 k3
    · by_cases k2 : m.err = 0
      · exact hear_a s m v hs hm hv H k1 k2
      · exact hear_b s m v hs hm hv H k1 k2
end Go.Proofs.YtidgcfgkcidkiaaGreat.Ch
namespace Go.Proofs.YtidgcfgkcidkiaaGreat.Ch
open Go Go.RowKit Go.Proofs.YtidgcfgkcidkiaaGreat.L Go.Proofs.YtidgcfgkcidkiaaGreat.X
set_option linter.unusedVariables false
set_option linter.unusedSimpArgs false
def addrB (a : Int) : Bool := decide (a < 1048576) || decide (a = 18446744073709551615)
theorem addr_ac (a : Int) : ACalls Tryz.prog 138 [.int .u64 a] [] (.bool (addrB a)) [] := by
  by_cases h1 : a < 1048576
  · rw [show addrB a = true by simp [addrB, h1]]
    refine acallsK mixed Tryz.func138 rfl [0, 2] 1000 ([.t]) [] [] (v1 := .bool true) (objs1 := []) (ob := [decide (a < (1048576 : Int)) = true]) (by kernel_rfl) (by first | exact rfl | exact ⟨rfl, rfl⟩ | (simp [h1]; done)) ⟨(by first | exact rfl | (simp [h1]; done) | (simp [h1]; omega) | omega), trivial⟩
  · by_cases h2 : a = 18446744073709551615
    · rw [show addrB a = true by simp [addrB, h2]]
      refine acallsK mixed Tryz.func138 rfl [0, 2] 1000 ([.f, .t]) [] [] (v1 := .bool true) (objs1 := []) (ob := [decide (a < (1048576 : Int)) = false,
 (a == (18446744073709551615 : Int)) = true]) (by kernel_rfl) (by first | exact rfl | exact ⟨rfl, rfl⟩ | (simp [h1, h2]; done) | (omega)) ⟨?z0, ?z1, trivial⟩
      case z0|z1 => first | exact rfl | (simp [h1, h2] <;> omega) | omega | (omega)
    · rw [show addrB a = false by simp [addrB, h1, h2]]
      refine acallsK mixed Tryz.func138 rfl [0, 2] 1000 ([.f, .f]) [] [] (v1 := .bool false) (objs1 := []) (ob := [decide (a < (1048576 : Int)) = false,
 (a == (18446744073709551615 : Int)) = false]) (by kernel_rfl) (by first | exact rfl | exact ⟨rfl, rfl⟩ | (simp [h1, h2]; done) | (omega)) ⟨?z2, ?z3, trivial⟩
      case z2|z3 => first | exact rfl | (simp [h1, h2] <;> omega) | omega | (omega)
theorem addrB_cases {a : Int} : (addrB a = true ↔ a < 1048576 ∨ a = 18446744073709551615) ∧ (addrB a = false ↔ ¬ a < 1048576 ∧ ¬ a = 18446744073709551615) := by
  unfold addrB; constructor <;> simp
theorem last_1 (a b : Int) (h1 : addrB a = false) : ACalls Tryz.prog 120 [.agg [.int .u64 a, .int .u64 b]] [] (.bool (lastB a b)) [] := by
  have q1 := addr_ac a
  have q2 := addr_ac b
  rw [h1] at q1
  have k1 := h1
  rw [addrB_cases.2] at k1
  rw [show lastB a b = false by unfold lastB; simp; omega]
  refine acallsK mixed Tryz.func120 rfl [0, 1, 2, 3, 4, 6, 51] 1000 ([.go, .t, .ix 0, .call [] false true (.bool false) []]) [] [] (v1 := .bool false) (objs1 := []) (ob := [decide ((0 : Int) < (2 : Int)) = true,
 nat_lit 0 < (2 : Nat),
 (0 : Int) = (↑(nat_lit 0) : Int),
 ACalls Tryz.prog 138 [.int .u64 a] [] (.bool false) []]) (by kernel_rfl) (by first | exact rfl | exact ⟨rfl, rfl⟩ | (simp [h1]; done) | (omega)) ⟨?z0, ?z1, ?z2, ?q26_1, trivial⟩
  case z0|z1|z2 => first | exact rfl | (simp [h1] <;> omega) | omega | (omega)
  · exact q1
theorem last_2 (a b : Int) (h1 : addrB a = true) (h2 : addrB b = false) : ACalls Tryz.prog 120 [.agg [.int .u64 a, .int .u64 b]] [] (.bool (lastB a b)) [] := by
  have q1 := addr_ac a
  have q2 := addr_ac b
  rw [h1] at q1
  rw [h2] at q2
  have k1 := h1
  rw [addrB_cases.1] at k1
  have k2 := h2
  rw [addrB_cases.2] at k2
  rw [show lastB a b = false by unfold lastB; simp; omega]
  refine acallsK mixed Tryz.func120 rfl [0, 1, 2, 3, 4, 6, 51] 1000 ([.go, .t, .ix 0, .call [] false true (.bool true) [], .f, .f, .n 1, .go, .t, .ix 1, .call [] false true (.bool false) []]) [] [] (v1 := .bool false) (objs1 := []) (ob := [decide ((0 : Int) < (2 : Int)) = true,
 nat_lit 0 < (2 : Nat),
 (0 : Int) = (↑(nat_lit 0) : Int),
 ACalls Tryz.prog 138 [.int .u64 a] [] (.bool true) [],
 decide ((0 : Int) > (0 : Int)) = false,
 decide ((0 : Int) > (0 : Int)) = false,
 IntKind.i64.wrap ((0 : Int) + (1 : Int)) = (1 : Int),
 decide ((1 : Int) < (2 : Int)) = true,
 nat_lit 1 < (2 : Nat),
 (1 : Int) = (↑(nat_lit 1) : Int),
 ACalls Tryz.prog 138 [.int .u64 b] [] (.bool false) []]) (by kernel_rfl) (by first | exact rfl | exact ⟨rfl, rfl⟩ | (simp [h2]; done) | (omega)) ⟨?z0, ?z1, ?z2, ?q38_1, ?z3, ?z4, ?z5, ?z6, ?z7, ?z8, ?q38_2, trivial⟩
  case z0|z1|z2|z3|z4|z5|z6|z7|z8 => first | exact rfl | (simp [h2] <;> omega) | omega | (omega)
  · exact q1
  · exact q2
theorem last_3 (a b : Int) (h1 : addrB a = true) (h2 : addrB b = true) (h3 : b = 18446744073709551615) (h4 : a = 18446744073709551615) : ACalls Tryz.prog 120 [.agg [.int .u64 a, .int .u64 b]] [] (.bool (lastB a b)) [] := by
  have q1 := addr_ac a
  have q2 := addr_ac b
  rw [h1] at q1
  rw [h2] at q2
  have k1 := h1
  rw [addrB_cases.1] at k1
  have k2 := h2
  rw [addrB_cases.1] at k2
  rw [show lastB a b = true by unfold lastB; simp; omega]
  refine acallsK mixed Tryz.func120 rfl [0, 1, 2, 3, 4, 6, 51] 1000 ([.go, .t, .ix 0, .call [] false true (.bool true) [], .f, .f, .n 1, .go, .t, .ix 1, .call [] false true (.bool true) [], .t, .ix 1, .f, .t, .n 0, .ix 0, .t, .ix 1, .f, .n 2, .go, .f]) [] [] (v1 := .bool true) (objs1 := []) (ob := [decide ((0 : Int) < (2 : Int)) = true,
 nat_lit 0 < (2 : Nat),
 (0 : Int) = (↑(nat_lit 0) : Int),
 ACalls Tryz.prog 138 [.int .u64 a] [] (.bool true) [],
 decide ((0 : Int) > (0 : Int)) = false,
 decide ((0 : Int) > (0 : Int)) = false,
 IntKind.i64.wrap ((0 : Int) + (1 : Int)) = (1 : Int),
 decide ((1 : Int) < (2 : Int)) = true,
 nat_lit 1 < (2 : Nat),
 (1 : Int) = (↑(nat_lit 1) : Int),
 ACalls Tryz.prog 138 [.int .u64 b] [] (.bool true) [],
 decide ((1 : Int) > (0 : Int)) = true,
 nat_lit 1 < (2 : Nat),
 (1 : Int) = (↑(nat_lit 1) : Int),
 (b != (18446744073709551615 : Int)) = false,
 decide ((1 : Int) > (0 : Int)) = true,
 IntKind.i64.wrap ((1 : Int) - (1 : Int)) = (0 : Int),
 nat_lit 0 < (2 : Nat),
 (0 : Int) = (↑(nat_lit 0) : Int),
 (a == (18446744073709551615 : Int)) = true,
 nat_lit 1 < (2 : Nat),
 (1 : Int) = (↑(nat_lit 1) : Int),
 (b != (18446744073709551615 : Int)) = false,
 IntKind.i64.wrap ((1 : Int) + (1 : Int)) = (2 : Int),
 decide ((2 : Int) < (2 : Int)) = false]) (by kernel_rfl) (by first | exact rfl | exact ⟨rfl, rfl⟩ | (simp [h3, h4]; done) | (omega)) ⟨?z0, ?z1, ?z2, ?q51_1, ?z3, ?z4, ?z5, ?z6, ?z7, ?z8, ?q51_2, ?z9, ?z10, ?z11, ?z12, ?z13, ?z14, ?z15, ?z16, ?z17, ?z18, ?z19, ?z20, ?z21, ?z22, trivial⟩
  case z0|z1|z2|z3|z4|z5|z6|z7|z8|z9|z10|z11|z12|z13|z14|z15|z16|z17|z18|z19|z20|z21|z22 => first | exact rfl | (simp [h3, h4] <;> omega) | omega | (omega)
  · exact q1
  · exact q2
theorem last_4 (a b : Int) (h1 : addrB a = true) (h2 : addrB b = true) (h3 : b = 18446744073709551615) (h4 : ¬ a = 18446744073709551615) : ACalls Tryz.prog 120 [.agg [.int .u64 a, .int .u64 b]] [] (.bool (lastB a b)) [] := by
  have q1 := addr_ac a
  have q2 := addr_ac b
  rw [h1] at q1
  rw [h2] at q2
  have k1 := h1
  rw [addrB_cases.1] at k1
  have k2 := h2
  rw [addrB_cases.1] at k2
  rw [show lastB a b = true by unfold lastB; simp; omega]
  refine acallsK mixed Tryz.func120 rfl [0, 1, 2, 3, 4, 6, 51] 1000 ([.go, .t, .ix 0, .call [] false true (.bool true) [], .f, .f, .n 1, .go, .t, .ix 1, .call [] false true (.bool true) [], .t, .ix 1, .f, .t, .n 0, .ix 0, .f, .n 2, .go, .f]) [] [] (v1 := .bool true) (objs1 := []) (ob := [decide ((0 : Int) < (2 : Int)) = true,
 nat_lit 0 < (2 : Nat),
 (0 : Int) = (↑(nat_lit 0) : Int),
 ACalls Tryz.prog 138 [.int .u64 a] [] (.bool true) [],
 decide ((0 : Int) > (0 : Int)) = false,
 decide ((0 : Int) > (0 : Int)) = false,
 IntKind.i64.wrap ((0 : Int) + (1 : Int)) = (1 : Int),
 decide ((1 : Int) < (2 : Int)) = true,
 nat_lit 1 < (2 : Nat),
 (1 : Int) = (↑(nat_lit 1) : Int),
 ACalls Tryz.prog 138 [.int .u64 b] [] (.bool true) [],
 decide ((1 : Int) > (0 : Int)) = true,
 nat_lit 1 < (2 : Nat),
 (1 : Int) = (↑(nat_lit 1) : Int),
 (b != (18446744073709551615 : Int)) = false,
 decide ((1 : Int) > (0 : Int)) = true,
 IntKind.i64.wrap ((1 : Int) - (1 : Int)) = (0 : Int),
 nat_lit 0 < (2 : Nat),
 (0 : Int) = (↑(nat_lit 0) : Int),
 (a == (18446744073709551615 : Int)) = false,
 IntKind.i64.wrap ((1 : Int) + (1 : Int)) = (2 : Int),
 decide ((2 : Int) < (2 : Int)) = false]) (by kernel_rfl) (by first | exact rfl | exact ⟨rfl, rfl⟩ | (simp [h3, h4]; done) | (omega)) ⟨?z0, ?z1, ?z2, ?q64_1, ?z3, ?z4, ?z5, ?z6, ?z7, ?z8, ?q64_2, ?z9, ?z10, ?z11, ?z12, ?z13, ?z14, ?z15, ?z16, ?z17, ?z18, ?z19, trivial⟩
  case z0|z1|z2|z3|z4|z5|z6|z7|z8|z9|z10|z11|z12|z13|z14|z15|z16|z17|z18|z19 => first | exact rfl | (simp [h3, h4] <;> omega) | omega | (omega)
  · exact q1
  · exact q2
theorem last_5 (a b : Int) (h1 : addrB a = true) (h2 : addrB b = true) (h3 : ¬ b = 18446744073709551615) (h4 : a ≤ b) : ACalls Tryz.prog 120 [.agg [.int .u64 a, .int .u64 b]] [] (.bool (lastB a b)) [] := by
  have q1 := addr_ac a
  have q2 := addr_ac b
  rw [h1] at q1
  rw [h2] at q2
  have k1 := h1
  rw [addrB_cases.1] at k1
  have k2 := h2
  rw [addrB_cases.1] at k2
  rw [show lastB a b = false by unfold lastB; simp; omega]
  refine acallsK mixed Tryz.func120 rfl [0, 1, 2, 3, 4, 6, 51] 1000 ([.go, .t, .ix 0, .call [] false true (.bool true) [], .f, .f, .n 1, .go, .t, .ix 1, .call [] false true (.bool true) [], .t, .ix 1, .t, .ix 1, .n 0, .ix 0, .t]) [] [] (v1 := .bool false) (objs1 := []) (ob := [decide ((0 : Int) < (2 : Int)) = true,
 nat_lit 0 < (2 : Nat),
 (0 : Int) = (↑(nat_lit 0) : Int),
 ACalls Tryz.prog 138 [.int .u64 a] [] (.bool true) [],
 decide ((0 : Int) > (0 : Int)) = false,
 decide ((0 : Int) > (0 : Int)) = false,
 IntKind.i64.wrap ((0 : Int) + (1 : Int)) = (1 : Int),
 decide ((1 : Int) < (2 : Int)) = true,
 nat_lit 1 < (2 : Nat),
 (1 : Int) = (↑(nat_lit 1) : Int),
 ACalls Tryz.prog 138 [.int .u64 b] [] (.bool true) [],
 decide ((1 : Int) > (0 : Int)) = true,
 nat_lit 1 < (2 : Nat),
 (1 : Int) = (↑(nat_lit 1) : Int),
 (b != (18446744073709551615 : Int)) = true,
 nat_lit 1 < (2 : Nat),
 (1 : Int) = (↑(nat_lit 1) : Int),
 IntKind.i64.wrap ((1 : Int) - (1 : Int)) = (0 : Int),
 nat_lit 0 < (2 : Nat),
 (0 : Int) = (↑(nat_lit 0) : Int),
 decide (b ≥ a) = true]) (by kernel_rfl) (by first | exact rfl | exact ⟨rfl, rfl⟩ | (simp [h3, h4]; done) | (omega)) ⟨?z0, ?z1, ?z2, ?q77_1, ?z3, ?z4, ?z5, ?z6, ?z7, ?z8, ?q77_2, ?z9, ?z10, ?z11, ?z12, ?z13, ?z14, ?z15, ?z16, ?z17, ?z18, trivial⟩
  case z0|z1|z2|z3|z4|z5|z6|z7|z8|z9|z10|z11|z12|z13|z14|z15|z16|z17|z18 => first | exact rfl | (simp [h3, h4] <;> omega) | omega | (omega)
  · exact q1
  · exact q2
theorem last_6 (a b : Int) (h1 : addrB a = true) (h2 : addrB b = true) (h3 : ¬ b = 18446744073709551615) (h4 : ¬ a ≤ b) (h5 : a = 18446744073709551615) : ACalls Tryz.prog 120 [.agg [.int .u64 a, .int .u64 b]] [] (.bool (lastB a b)) [] := by
  have q1 := addr_ac a
  have q2 := addr_ac b
  rw [h1] at q1
  rw [h2] at q2
  have k1 := h1
  rw [addrB_cases.1] at k1
  have k2 := h2
  rw [addrB_cases.1] at k2
  rw [show lastB a b = false by unfold lastB; simp; omega]
  refine acallsK mixed Tryz.func120 rfl [0, 1, 2, 3, 4, 6, 51] 1000 ([.go, .t, .ix 0, .call [] false true (.bool true) [], .f, .f, .n 1, .go, .t, .ix 1, .call [] false true (.bool true) [], .t, .ix 1, .t, .ix 1, .n 0, .ix 0, .f, .t, .n 0, .ix 0, .t, .ix 1, .t]) [] [] (v1 := .bool false) (objs1 := []) (ob := [decide ((0 : Int) < (2 : Int)) = true,
 nat_lit 0 < (2 : Nat),
 (0 : Int) = (↑(nat_lit 0) : Int),
 ACalls Tryz.prog 138 [.int .u64 a] [] (.bool true) [],
 decide ((0 : Int) > (0 : Int)) = false,
 decide ((0 : Int) > (0 : Int)) = false,
 IntKind.i64.wrap ((0 : Int) + (1 : Int)) = (1 : Int),
 decide ((1 : Int) < (2 : Int)) = true,
 nat_lit 1 < (2 : Nat),
 (1 : Int) = (↑(nat_lit 1) : Int),
 ACalls Tryz.prog 138 [.int .u64 b] [] (.bool true) [],
 decide ((1 : Int) > (0 : Int)) = true,
 nat_lit 1 < (2 : Nat),
 (1 : Int) = (↑(nat_lit 1) : Int),
 (b != (18446744073709551615 : Int)) = true,
 nat_lit 1 < (2 : Nat),
 (1 : Int) = (↑(nat_lit 1) : Int),
 IntKind.i64.wrap ((1 : Int) - (1 : Int)) = (0 : Int),
 nat_lit 0 < (2 : Nat),
 (0 : Int) = (↑(nat_lit 0) : Int),
 decide (b ≥ a) = false,
 decide ((1 : Int) > (0 : Int)) = true,
 IntKind.i64.wrap ((1 : Int) - (1 : Int)) = (0 : Int),
 nat_lit 0 < (2 : Nat),
 (0 : Int) = (↑(nat_lit 0) : Int),
 (a == (18446744073709551615 : Int)) = true,
 nat_lit 1 < (2 : Nat),
 (1 : Int) = (↑(nat_lit 1) : Int),
 (b != (18446744073709551615 : Int)) = true]) (by kernel_rfl) (by first | exact rfl | exact ⟨rfl, rfl⟩ | (simp [h3, h4, h5]; done) | (omega)) ⟨?z0, ?z1, ?z2, ?q90_1, ?z3, ?z4, ?z5, ?z6, ?z7, ?z8, ?q90_2, ?z9, ?z10, ?z11, ?z12, ?z13, ?z14, ?z15, ?z16, ?z17, ?z18, ?z19, ?z20, ?z21, ?z22, ?z23, ?z24, ?z25, ?z26, trivial⟩
  case z0|z1|z2|z3|z4|z5|z6|z7|z8|z9|z10|z11|z12|z13|z14|z15|z16|z17|z18|z19|z20|z21|z22|z23|z24|z25|z26 => first | exact rfl | (simp [h3, h4, h5] <;> omega) | omega | (omega)
  · exact q1
  · exact q2
theorem last_7 (a b : Int) (h1 : addrB a = true) (h2 : addrB b = true) (h3 : ¬ b = 18446744073709551615) (h4 : ¬ a ≤ b) (h5 : ¬ a = 18446744073709551615) : ACalls Tryz.prog 120 [.agg [.int .u64 a, .int .u64 b]] [] (.bool (lastB a b)) [] := by
  have q1 := addr_ac a
  have q2 := addr_ac b
  rw [h1] at q1
  rw [h2] at q2
  have k1 := h1
  rw [addrB_cases.1] at k1
  have k2 := h2
  rw [addrB_cases.1] at k2
  rw [show lastB a b = true by unfold lastB; simp; omega]
  refine acallsK mixed Tryz.func120 rfl [0, 1, 2, 3, 4, 6, 51] 1000 ([.go, .t, .ix 0, .call [] false true (.bool true) [], .f, .f, .n 1, .go, .t, .ix 1, .call [] false true (.bool true) [], .t, .ix 1, .t, .ix 1, .n 0, .ix 0, .f, .t, .n 0, .ix 0, .f, .n 2, .go, .f]) [] [] (v1 := .bool true) (objs1 := []) (ob := [decide ((0 : Int) < (2 : Int)) = true,
 nat_lit 0 < (2 : Nat),
 (0 : Int) = (↑(nat_lit 0) : Int),
 ACalls Tryz.prog 138 [.int .u64 a] [] (.bool true) [],
 decide ((0 : Int) > (0 : Int)) = false,
 decide ((0 : Int) > (0 : Int)) = false,
 IntKind.i64.wrap ((0 : Int) + (1 : Int)) = (1 : Int),
 decide ((1 : Int) < (2 : Int)) = true,
 nat_lit 1 < (2 : Nat),
 (1 : Int) = (↑(nat_lit 1) : Int),
 ACalls Tryz.prog 138 [.int .u64 b] [] (.bool true) [],
 decide ((1 : Int) > (0 : Int)) = true,
 nat_lit 1 < (2 : Nat),
 (1 : Int) = (↑(nat_lit 1) : Int),
 (b != (18446744073709551615 : Int)) = true,
 nat_lit 1 < (2 : Nat),
 (1 : Int) = (↑(nat_lit 1) : Int),
 IntKind.i64.wrap ((1 : Int) - (1 : Int)) = (0 : Int),
 nat_lit 0 < (2 : Nat),
 (0 : Int) = (↑(nat_lit 0) : Int),
 decide (b ≥ a) = false,
 decide ((1 : Int) > (0 : Int)) = true,
 IntKind.i64.wrap ((1 : Int) - (1 : Int)) = (0 : Int),
 nat_lit 0 < (2 : Nat),
 (0 : Int) = (↑(nat_lit 0) : Int),
 (a == (18446744073709551615 : Int)) = false,
 IntKind.i64.wrap ((1 : Int) + (1 : Int)) = (2 : Int),
 decide ((2 : Int) < (2 : Int)) = false]) (by kernel_rfl) (by first | exact rfl | exact ⟨rfl, rfl⟩ | (simp [h3, h4, h5]; done) | (omega)) ⟨?z0, ?z1, ?z2, ?q103_1, ?z3, ?z4, ?z5, ?z6, ?z7, ?z8, ?q103_2, ?z9, ?z10, ?z11, ?z12, ?z13, ?z14, ?z15, ?z16, ?z17, ?z18, ?z19, ?z20, ?z21, ?z22, ?z23, ?z24, ?z25, trivial⟩
  case z0|z1|z2|z3|z4|z5|z6|z7|z8|z9|z10|z11|z12|z13|z14|z15|z16|z17|z18|z19|z20|z21|z22|z23|z24|z25 => first | exact rfl | (simp [h3, h4, h5] <;> omega) | omega | (omega)
  · exact q1
  · exact q2
theorem lastR_ac (a b : Int) : ACalls Tryz.prog 120 [.agg [.int .u64 a, .int .u64 b]] [] (.bool (lastB a b)) [] := by
  cases h1 : addrB a with
  | false => exact last_1 a b h1
  | true =>
    cases h2 : addrB b with
    | false => exact last_2 a b h1 h2
    | true =>
      by_cases h3 : b = 18446744073709551615
      · by_cases h4 : a = 18446744073709551615
        · exact last_3 a b h1 h2 h3 h4
        · exact last_4 a b h1 h2 h3 h4
      · by_cases h4 : a ≤ b
        · exact last_5 a b h1 h2 h3 h4
        · by_cases h5 : a = 18446744073709551615
          · exact last_6 a b h1 h2 h3 h4 h5
          · exact last_7 a b h1 h2 h3 h4 h5
end Go.Proofs.YtidgcfgkcidkiaaGreat.Ch
namespace Go.Proofs.YtidgcfgkcidkiaaGreat.Ch
open Go Go.RowKit Go.Proofs.YtidgcfgkcidkiaaGreat.L Go.Proofs.YtidgcfgkcidkiaaGreat.X
set_option linter.unusedVariables false
set_option linter.unusedSimpArgs false
def Prev {α : Type} (key : α → Int) (l : List α) (k : Nat) (v : Int) : Prop := -1 ≤ v ∧ ((k = 0 ∧ v = -1) ∨ ∃ j p, k = j + 1 ∧ l[j]? = some p ∧ key p = v)
theorem wrap_pred {j : Nat} (h : j < 1000000000001) : IntKind.i64.wrap (((j + 1 : Nat) : Int) - 1) = (j : Int) := by
  have := wrap_i (x := (j : Int)) (by omega) (by omega)
  rw [show (((j + 1 : Nat) : Int) - 1) = (j : Int) by omega]
  exact this

theorem backs7_loop (l : List BackD) (hb : l.length ≤ 1000000000000) : ∀ (n k : Nat) (v : Int), l.length = k + n → Prev BackD.s l k v →
    (scanB v (l.drop k) = false → ALoop Tryz.prog 0 Tryz.f84.ntmps (loopB Tryz.f84 0) ⟨[(3, .int .i64 k), (0, .lst 3 (l.map encB))], []⟩ (.exit 0) ⟨[(0, .lst 3 (l.map encB))], []⟩) ∧ (scanB v (l.drop k) = true → ALoop Tryz.prog 0 Tryz.f84.ntmps (loopB Tryz.f84 0) ⟨[(3, .int .i64 k), (0, .lst 3 (l.map encB))], []⟩ .ret ⟨[(2, .bool false)], []⟩)
  | 0, k, v, h, hp => by
    refine ⟨fun _ => ?_, fun hq => ?_⟩
    · refine aloopK mixed [0, 2, 3, 4, 8, 52] 1000 ([.go, .n l.length, .f]) [0] [] (S1 := { env := [(0, .lst 3 (List.map encB l))], objs := [] }) (ob := [((List.map encB l).length : Int) = (l.length : Int),
 decide ((↑k : Int) < (l.length : Int)) = false]) (by kernel_rfl) (by first | exact rfl | exact ⟨rfl, rfl⟩ | (simp []; done)) ⟨?z0, ?z1, trivial⟩
      case z0|z1 => first | exact rfl | (simp [] <;> omega) | omega
    · rw [List.drop_of_length_le (by omega)] at hq; cases hq
  | n + 1, k, v, h, hp => by
    obtain ⟨x, hx⟩ := get_of (l := l) (k := k) (by omega)
    have hk : k < l.length := by omega
    have hw : IntKind.i64.wrap ((k : Int) + 1) = ((k + 1 : Nat) : Int) := wrap64 (by omega)
    obtain ⟨hv, hp⟩ := hp
    rw [drop_of hx]
    have q := lastR_ac x.a x.b
    cases h1 : lastB x.a x.b with
    | false =>
      rw [h1] at q
      have hbad : badB v x = true := by simp [badB, h1] <;> omega
      refine ⟨fun hq => (by simp [scanB, hbad] at hq), fun _ => ?_⟩
      refine aloopK mixed [0, 2, 3, 4, 8, 52] 1000 ([.go, .n l.length, .t, .ix k, .el (encB x), .call [] false true (.bool false) []]) [2] [] (S1 := { env := [(2, .bool false)], objs := [] }) (ob := [((List.map encB l).length : Int) = (l.length : Int),
 decide ((↑k : Int) < (l.length : Int)) = true,
 k < List.length (List.map encB l),
 (↑k : Int) = (↑k : Int),
 (List.map encB l)[k]? = some (.agg [.int .i64 x.s, .int .u64 x.a, .int .u64 x.b]),
 ACalls Tryz.prog 120 [.agg [.int .u64 x.a, .int .u64 x.b]] [] (.bool false) []]) (by kernel_rfl) (by first | exact rfl | exact ⟨rfl, rfl⟩ | (simp [hx, hw, encB, h1]; done) | (first | exact hx | exact hpj | omega | exact wrap_pred (by omega))) ⟨?z2, ?z3, ?z4, ?z5, ?z6, ?q31_1, trivial⟩
      case z2|z3|z4|z5|z6 => first | exact rfl | (simp [hx, hw, encB, h1] <;> omega) | omega | (first | exact hx | exact hpj | omega | exact wrap_pred (by omega))
      · exact q
    | true =>
      rw [h1] at q
      by_cases h2 : x.s < 0
      · skip
        have hbad : badB v x = true := by simp [badB, h1, h2] <;> omega
        refine ⟨fun hq => (by simp [scanB, hbad] at hq), fun _ => ?_⟩
        refine aloopK mixed [0, 2, 3, 4, 8, 52] 1000 ([.go, .n l.length, .t, .ix k, .el (encB x), .call [] false true (.bool true) [], .ix k, .el (encB x), .t]) [2] [] (S1 := { env := [(2, .bool false)], objs := [] }) (ob := [((List.map encB l).length : Int) = (l.length : Int),
 decide ((↑k : Int) < (l.length : Int)) = true,
 k < List.length (List.map encB l),
 (↑k : Int) = (↑k : Int),
 (List.map encB l)[k]? = some (.agg [.int .i64 x.s, .int .u64 x.a, .int .u64 x.b]),
 ACalls Tryz.prog 120 [.agg [.int .u64 x.a, .int .u64 x.b]] [] (.bool true) [],
 k < List.length (List.map encB l),
 (↑k : Int) = (↑k : Int),
 (List.map encB l)[k]? = some (.agg [.int .i64 x.s, .int .u64 x.a, .int .u64 x.b]),
 decide (x.s < (0 : Int)) = true]) (by kernel_rfl) (by first | exact rfl | exact ⟨rfl, rfl⟩ | (simp [hx, hw, encB, h1, h2]; done) | (first | exact hx | exact hpj | omega | exact wrap_pred (by omega))) ⟨?z7, ?z8, ?z9, ?z10, ?z11, ?q39_1, ?z12, ?z13, ?z14, ?z15, trivial⟩
        case z7|z8|z9|z10|z11|z12|z13|z14|z15 => first | exact rfl | (simp [hx, hw, encB, h1, h2] <;> omega) | omega | (first | exact hx | exact hpj | omega | exact wrap_pred (by omega))
        · exact q
      · skip
        by_cases h3 : 16 ≤ x.s
        · skip
          have hbad : badB v x = true := by simp [badB, h1, h2, h3] <;> omega
          refine ⟨fun hq => (by simp [scanB, hbad] at hq), fun _ => ?_⟩
          refine aloopK mixed [0, 2, 3, 4, 8, 52] 1000 ([.go, .n l.length, .t, .ix k, .el (encB x), .call [] false true (.bool true) [], .ix k, .el (encB x), .f, .ix k, .el (encB x), .t]) [2] [] (S1 := { env := [(2, .bool false)], objs := [] }) (ob := [((List.map encB l).length : Int) = (l.length : Int),
 decide ((↑k : Int) < (l.length : Int)) = true,
 k < List.length (List.map encB l),
 (↑k : Int) = (↑k : Int),
 (List.map encB l)[k]? = some (.agg [.int .i64 x.s, .int .u64 x.a, .int .u64 x.b]),
 ACalls Tryz.prog 120 [.agg [.int .u64 x.a, .int .u64 x.b]] [] (.bool true) [],
 k < List.length (List.map encB l),
 (↑k : Int) = (↑k : Int),
 (List.map encB l)[k]? = some (.agg [.int .i64 x.s, .int .u64 x.a, .int .u64 x.b]),
 decide (x.s < (0 : Int)) = false,
 k < List.length (List.map encB l),
 (↑k : Int) = (↑k : Int),
 (List.map encB l)[k]? = some (.agg [.int .i64 x.s, .int .u64 x.a, .int .u64 x.b]),
 decide (x.s ≥ (16 : Int)) = true]) (by kernel_rfl) (by first | exact rfl | exact ⟨rfl, rfl⟩ | (simp [hx, hw, encB, h1, h2, h3]; done) | (first | exact hx | exact hpj | omega | exact wrap_pred (by omega))) ⟨?z16, ?z17, ?z18, ?z19, ?z20, ?q46_1, ?z21, ?z22, ?z23, ?z24, ?z25, ?z26, ?z27, ?z28, trivial⟩
          case z16|z17|z18|z19|z20|z21|z22|z23|z24|z25|z26|z27|z28 => first | exact rfl | (simp [hx, hw, encB, h1, h2, h3] <;> omega) | omega | (first | exact hx | exact hpj | omega | exact wrap_pred (by omega))
          · exact q
        · skip
          rcases hp with ⟨hk0, hv0⟩ | ⟨j, p, hkj, hpj, hpv⟩
          · have hg : decide ((k : Int) > 0) = false := by simp [hk0]
            have hbad : badB v x = false := by simp [badB, h1, h2, h3, hv0] <;> omega
            have ih := backs7_loop l hb n (k + 1) x.s (by omega) ⟨by omega, .inr ⟨k, x, rfl, hx, rfl⟩⟩
            have hsc : scanB v (x :: l.drop (k + 1)) = scanB x.s (l.drop (k + 1)) := by simp [scanB, hbad]
            rw [hsc]
            refine ⟨fun hq => ?_, fun hq => ?_⟩
            · have ih := ih.1 hq
              refine aloopK mixed [0, 2, 3, 4, 8, 52] 1000 ([.go, .n l.length, .t, .ix k, .el (encB x), .call [] false true (.bool true) [], .ix k, .el (encB x), .f, .ix k, .el (encB x), .f, .f, .n ((k + 1 : Nat) : Int), .lp [3, 0] [] (.exit 0) ⟨[(0, .lst 3 (l.map encB))], []⟩]) [0] [] (S1 := { env := [(0, .lst 3 (List.map encB l))], objs := [] }) (ob := [((List.map encB l).length : Int) = (l.length : Int),
 decide ((↑k : Int) < (l.length : Int)) = true,
 k < List.length (List.map encB l),
 (↑k : Int) = (↑k : Int),
 (List.map encB l)[k]? = some (.agg [.int .i64 x.s, .int .u64 x.a, .int .u64 x.b]),
 ACalls Tryz.prog 120 [.agg [.int .u64 x.a, .int .u64 x.b]] [] (.bool true) [],
 k < List.length (List.map encB l),
 (↑k : Int) = (↑k : Int),
 (List.map encB l)[k]? = some (.agg [.int .i64 x.s, .int .u64 x.a, .int .u64 x.b]),
 decide (x.s < (0 : Int)) = false,
 k < List.length (List.map encB l),
 (↑k : Int) = (↑k : Int),
 (List.map encB l)[k]? = some (.agg [.int .i64 x.s, .int .u64 x.a, .int .u64 x.b]),
 decide (x.s ≥ (16 : Int)) = false,
 decide ((↑k : Int) > (0 : Int)) = false,
 IntKind.i64.wrap ((↑k : Int) + (1 : Int)) = (↑(k + (1 : Nat)) : Int),
 ALoop Tryz.prog 0 56 (loopB Tryz.f84 0) { env := [(3, .int .i64 (↑(k + 1) : Int)), (0, .lst 3 (List.map encB l))], objs := [] } (Ex.exit 0) { env := [(0, .lst 3 (List.map encB l))], objs := [] }]) (by kernel_rfl) (by first | exact rfl | exact ⟨rfl, rfl⟩ | (simp [hx, hw, encB, h1, h2, h3, hv0]; done) | (first | exact hx | exact hpj | exact hw | exact hg | omega | exact wrap_pred (by omega))) ⟨?z29, ?z30, ?z31, ?z32, ?z33, ?q57_1, ?z34, ?z35, ?z36, ?z37, ?z38, ?z39, ?z40, ?z41, ?z42, ?z43, ?q57_2, trivial⟩
              case z29|z30|z31|z32|z33|z34|z35|z36|z37|z38|z39|z40|z41|z42|z43 => first | exact rfl | (simp [hx, hw, encB, h1, h2, h3, hv0] <;> omega) | omega | (first | exact hx | exact hpj | exact hw | exact hg | omega | exact wrap_pred (by omega))
              · exact q
              · exact ih
            · have ih := ih.2 hq
              refine aloopK mixed [0, 2, 3, 4, 8, 52] 1000 ([.go, .n l.length, .t, .ix k, .el (encB x), .call [] false true (.bool true) [], .ix k, .el (encB x), .f, .ix k, .el (encB x), .f, .f, .n ((k + 1 : Nat) : Int), .lp [3, 0] [] .ret ⟨[(2, .bool false)], []⟩]) [2] [] (S1 := { env := [(2, .bool false)], objs := [] }) (ob := [((List.map encB l).length : Int) = (l.length : Int),
 decide ((↑k : Int) < (l.length : Int)) = true,
 k < List.length (List.map encB l),
 (↑k : Int) = (↑k : Int),
 (List.map encB l)[k]? = some (.agg [.int .i64 x.s, .int .u64 x.a, .int .u64 x.b]),
 ACalls Tryz.prog 120 [.agg [.int .u64 x.a, .int .u64 x.b]] [] (.bool true) [],
 k < List.length (List.map encB l),
 (↑k : Int) = (↑k : Int),
 (List.map encB l)[k]? = some (.agg [.int .i64 x.s, .int .u64 x.a, .int .u64 x.b]),
 decide (x.s < (0 : Int)) = false,
 k < List.length (List.map encB l),
 (↑k : Int) = (↑k : Int),
 (List.map encB l)[k]? = some (.agg [.int .i64 x.s, .int .u64 x.a, .int .u64 x.b]),
 decide (x.s ≥ (16 : Int)) = false,
 decide ((↑k : Int) > (0 : Int)) = false,
 IntKind.i64.wrap ((↑k : Int) + (1 : Int)) = (↑(k + (1 : Nat)) : Int),
 ALoop Tryz.prog 0 56 (loopB Tryz.f84 0) { env := [(3, .int .i64 (↑(k + 1) : Int)), (0, .lst 3 (List.map encB l))], objs := [] } Ex.ret { env := [(2, .bool false)], objs := [] }]) (by kernel_rfl) (by first | exact rfl | exact ⟨rfl, rfl⟩ | (simp [hx, hw, encB, h1, h2, h3, hv0]; done) | (first | exact hx | exact hpj | exact hw | exact hg | omega | exact wrap_pred (by omega))) ⟨?z44, ?z45, ?z46, ?z47, ?z48, ?q61_1, ?z49, ?z50, ?z51, ?z52, ?z53, ?z54, ?z55, ?z56, ?z57, ?z58, ?q61_2, trivial⟩
              case z44|z45|z46|z47|z48|z49|z50|z51|z52|z53|z54|z55|z56|z57|z58 => first | exact rfl | (simp [hx, hw, encB, h1, h2, h3, hv0] <;> omega) | omega | (first | exact hx | exact hpj | exact hw | exact hg | omega | exact wrap_pred (by omega))
              · exact q
              · exact ih
          · subst hkj
            have hpv : p.s = v := hpv
            subst hpv
            by_cases h9 : x.s ≤ p.s
            · skip
              have hbad : badB p.s x = true := by simp [badB, h1, h2, h3, h9, hpj] <;> omega
              refine ⟨fun hq => (by simp [scanB, hbad] at hq), fun _ => ?_⟩
              refine aloopK mixed [0, 2, 3, 4, 8, 52] 1000 ([.go, .n l.length, .t, .ix (j + 1), .el (encB x), .call [] false true (.bool true) [], .ix (j + 1), .el (encB x), .f, .ix (j + 1), .el (encB x), .f, .t, .ix (j + 1), .el (encB x), .n (j : Int), .ix j, .el (encB p), .t]) [2] [] (S1 := { env := [(2, .bool false)], objs := [] }) (ob := [((List.map encB l).length : Int) = (l.length : Int),
 decide ((↑(j + (1 : Nat)) : Int) < (l.length : Int)) = true,
 j + (1 : Nat) < List.length (List.map encB l),
 (↑(j + (1 : Nat)) : Int) = (↑(j + (1 : Nat)) : Int),
 (List.map encB l)[j + (1 : Nat)]? = some (.agg [.int .i64 x.s, .int .u64 x.a, .int .u64 x.b]),
 ACalls Tryz.prog 120 [.agg [.int .u64 x.a, .int .u64 x.b]] [] (.bool true) [],
 j + (1 : Nat) < List.length (List.map encB l),
 (↑(j + (1 : Nat)) : Int) = (↑(j + (1 : Nat)) : Int),
 (List.map encB l)[j + (1 : Nat)]? = some (.agg [.int .i64 x.s, .int .u64 x.a, .int .u64 x.b]),
 decide (x.s < (0 : Int)) = false,
 j + (1 : Nat) < List.length (List.map encB l),
 (↑(j + (1 : Nat)) : Int) = (↑(j + (1 : Nat)) : Int),
 (List.map encB l)[j + (1 : Nat)]? = some (.agg [.int .i64 x.s, .int .u64 x.a, .int .u64 x.b]),
 decide (x.s ≥ (16 : Int)) = false,
 decide ((↑(j + (1 : Nat)) : Int) > (0 : Int)) = true,
 j + (1 : Nat) < List.length (List.map encB l),
 (↑(j + (1 : Nat)) : Int) = (↑(j + (1 : Nat)) : Int),
 (List.map encB l)[j + (1 : Nat)]? = some (.agg [.int .i64 x.s, .int .u64 x.a, .int .u64 x.b]),
 IntKind.i64.wrap ((↑(j + (1 : Nat)) : Int) - (1 : Int)) = (↑j : Int),
 j < List.length (List.map encB l),
 (↑j : Int) = (↑j : Int),
 (List.map encB l)[j]? = some (.agg [.int .i64 p.s, .int .u64 p.a, .int .u64 p.b]),
 decide (x.s ≤ p.s) = true]) (by kernel_rfl) (by first | exact rfl | exact ⟨rfl, rfl⟩ | (simp [hx, hw, encB, h1, h2, h3, h9, hpj]; done) | (first | exact hx | exact hpj | omega | exact wrap_pred (by omega))) ⟨?z59, ?z60, ?z61, ?z62, ?z63, ?q71_1, ?z64, ?z65, ?z66, ?z67, ?z68, ?z69, ?z70, ?z71, ?z72, ?z73, ?z74, ?z75, ?z76, ?z77, ?z78, ?z79, ?z80, trivial⟩
              case z59|z60|z61|z62|z63|z64|z65|z66|z67|z68|z69|z70|z71|z72|z73|z74|z75|z76|z77|z78|z79|z80 => first | exact rfl | (simp [hx, hw, encB, h1, h2, h3, h9, hpj] <;> omega) | omega | (first | exact hx | exact hpj | omega | exact wrap_pred (by omega))
              · exact q
            · skip
              have hbad : badB p.s x = false := by simp [badB, h1, h2, h3, h9, hpj] <;> omega
              have ih := backs7_loop l hb n (j + 1 + 1) x.s (by omega) ⟨by omega, .inr ⟨j + 1, x, rfl, hx, rfl⟩⟩
              have hsc : scanB p.s (x :: l.drop (j + 1 + 1)) = scanB x.s (l.drop (j + 1 + 1)) := by simp [scanB, hbad]
              rw [hsc]
              refine ⟨fun hq => ?_, fun hq => ?_⟩
              · have ih := ih.1 hq
                refine aloopK mixed [0, 2, 3, 4, 8, 52] 1000 ([.go, .n l.length, .t, .ix (j + 1), .el (encB x), .call [] false true (.bool true) [], .ix (j + 1), .el (encB x), .f, .ix (j + 1), .el (encB x), .f, .t, .ix (j + 1), .el (encB x), .n (j : Int), .ix j, .el (encB p), .f, .n ((j + 1 + 1 : Nat) : Int), .lp [3, 0] [] (.exit 0) ⟨[(0, .lst 3 (l.map encB))], []⟩]) [0] [] (S1 := { env := [(0, .lst 3 (List.map encB l))], objs := [] }) (ob := [((List.map encB l).length : Int) = (l.length : Int),
 decide ((↑(j + (1 : Nat)) : Int) < (l.length : Int)) = true,
 j + (1 : Nat) < List.length (List.map encB l),
 (↑(j + (1 : Nat)) : Int) = (↑(j + (1 : Nat)) : Int),
 (List.map encB l)[j + (1 : Nat)]? = some (.agg [.int .i64 x.s, .int .u64 x.a, .int .u64 x.b]),
 ACalls Tryz.prog 120 [.agg [.int .u64 x.a, .int .u64 x.b]] [] (.bool true) [],
 j + (1 : Nat) < List.length (List.map encB l),
 (↑(j + (1 : Nat)) : Int) = (↑(j + (1 : Nat)) : Int),
 (List.map encB l)[j + (1 : Nat)]? = some (.agg [.int .i64 x.s, .int .u64 x.a, .int .u64 x.b]),
 decide (x.s < (0 : Int)) = false,
 j + (1 : Nat) < List.length (List.map encB l),
 (↑(j + (1 : Nat)) : Int) = (↑(j + (1 : Nat)) : Int),
 (List.map encB l)[j + (1 : Nat)]? = some (.agg [.int .i64 x.s, .int .u64 x.a, .int .u64 x.b]),
 decide (x.s ≥ (16 : Int)) = false,
 decide ((↑(j + (1 : Nat)) : Int) > (0 : Int)) = true,
 j + (1 : Nat) < List.length (List.map encB l),
 (↑(j + (1 : Nat)) : Int) = (↑(j + (1 : Nat)) : Int),
 (List.map encB l)[j + (1 : Nat)]? = some (.agg [.int .i64 x.s, .int .u64 x.a, .int .u64 x.b]),
 IntKind.i64.wrap ((↑(j + (1 : Nat)) : Int) - (1 : Int)) = (↑j : Int),
 j < List.length (List.map encB l),
 (↑j : Int) = (↑j : Int),
 (List.map encB l)[j]? = some (.agg [.int .i64 p.s, .int .u64 p.a, .int .u64 p.b]),
 decide (x.s ≤ p.s) = false,
 IntKind.i64.wrap ((↑(j + (1 : Nat)) : Int) + (1 : Int)) = (↑(j + (1 : Nat) + (1 : Nat)) : Int),
 ALoop Tryz.prog 0 56 (loopB Tryz.f84 0) { env := [(3, .int .i64 (↑(j + 1 + 1) : Int)), (0, .lst 3 (List.map encB l))], objs := [] } (Ex.exit 0) { env := [(0, .lst 3 (List.map encB l))], objs := [] }]) (by kernel_rfl) (by first | exact rfl | exact ⟨rfl, rfl⟩ | (simp [hx, hw, encB, h1, h2, h3, h9, hpj]; done) | (first | exact hx | exact hpj | exact hw | exact hg | omega | exact wrap_pred (by omega))) ⟨?z81, ?z82, ?z83, ?z84, ?z85, ?q80_1, ?z86, ?z87, ?z88, ?z89, ?z90, ?z91, ?z92, ?z93, ?z94, ?z95, ?z96, ?z97, ?z98, ?z99, ?z100, ?z101, ?z102, ?z103, ?q80_2, trivial⟩
                case z81|z82|z83|z84|z85|z86|z87|z88|z89|z90|z91|z92|z93|z94|z95|z96|z97|z98|z99|z100|z101|z102|z103 => first | exact rfl | (simp [hx, hw, encB, h1, h2, h3, h9, hpj] <;> omega) | omega | (first | exact hx | exact hpj | exact hw | exact hg | omega | exact wrap_pred (by omega))
                · exact q
                · exact ih
              · have ih := ih.2 hq
                refine aloopK mixed [0, 2, 3, 4, 8, 52] 1000 ([.go, .n l.length, .t, .ix (j + 1), .el (encB x), .call [] false true (.bool true) [], .ix (j + 1), .el (encB x), .f, .ix (j + 1), .el (encB x), .f, .t, .ix (j + 1), .el (encB x), .n (j : Int), .ix j, .el (encB p), .f, .n ((j + 1 + 1 : Nat) : Int), .lp [3, 0] [] .ret ⟨[(2, .bool false)], []⟩]) [2] [] (S1 := { env := [(2, .bool false)], objs := [] }) (ob := [((List.map encB l).length : Int) = (l.length : Int),
 decide ((↑(j + (1 : Nat)) : Int) < (l.length : Int)) = true,
 j + (1 : Nat) < List.length (List.map encB l),
 (↑(j + (1 : Nat)) : Int) = (↑(j + (1 : Nat)) : Int),
 (List.map encB l)[j + (1 : Nat)]? = some (.agg [.int .i64 x.s, .int .u64 x.a, .int .u64 x.b]),
 ACalls Tryz.prog 120 [.agg [.int .u64 x.a, .int .u64 x.b]] [] (.bool true) [],
 j + (1 : Nat) < List.length (List.map encB l),
 (↑(j + (1 : Nat)) : Int) = (↑(j + (1 : Nat)) : Int),
 (List.map encB l)[j + (1 : Nat)]? = some (.agg [.int .i64 x.s, .int .u64 x.a, .int .u64 x.b]),
 decide (x.s < (0 : Int)) = false,
 j + (1 : Nat) < List.length (List.map encB l),
 (↑(j + (1 : Nat)) : Int) = (↑(j + (1 : Nat)) : Int),
 (List.map encB l)[j + (1 : Nat)]? = some (.agg [.int .i64 x.s, .int .u64 x.a, .int .u64 x.b]),
 decide (x.s ≥ (16 : Int)) = false,
 decide ((↑(j + (1 : Nat)) : Int) > (0 : Int)) = true,
 j + (1 : Nat) < List.length (List.map encB l),
 (↑(j + (1 : Nat)) : Int) = (↑(j + (1 : Nat)) : Int),
 (List.map encB l)[j + (1 : Nat)]? = some (.agg [.int .i64 x.s, .int .u64 x.a, .int .u64 x.b]),
 IntKind.i64.wrap ((↑(j + (1 : Nat)) : Int) - (1 : Int)) = (↑j : Int),
 j < List.length (List.map encB l),
 (↑j : Int) = (↑j : Int),
 (List.map encB l)[j]? = some (.agg [.int .i64 p.s, .int .u64 p.a, .int .u64 p.b]),
 decide (x.s ≤ p.s) = false,
 IntKind.i64.wrap ((↑(j + (1 : Nat)) : Int) + (1 : Int)) = (↑(j + (1 : Nat) + (1 : Nat)) : Int),
 ALoop Tryz.prog 0 56 (loopB Tryz.f84 0) { env := [(3, .int .i64 (↑(j + 1 + 1) : Int)), (0, .lst 3 (List.map encB l))], objs := [] } Ex.ret { env := [(2, .bool false)], objs := [] }]) (by kernel_rfl) (by first | exact rfl | exact ⟨rfl, rfl⟩ | (simp [hx, hw, encB, h1, h2, h3, h9, hpj]; done) | (first | exact hx | exact hpj | exact hw | exact hg | omega | exact wrap_pred (by omega))) ⟨?z104, ?z105, ?z106, ?z107, ?z108, ?q84_1, ?z109, ?z110, ?z111, ?z112, ?z113, ?z114, ?z115, ?z116, ?z117, ?z118, ?z119, ?z120, ?z121, ?z122, ?z123, ?z124, ?z125, ?z126, ?q84_2, trivial⟩
                case z104|z105|z106|z107|z108|z109|z110|z111|z112|z113|z114|z115|z116|z117|z118|z119|z120|z121|z122|z123|z124|z125|z126 => first | exact rfl | (simp [hx, hw, encB, h1, h2, h3, h9, hpj] <;> omega) | omega | (first | exact hx | exact hpj | exact hw | exact hg | omega | exact wrap_pred (by omega))
                · exact q
                · exact ih
def backs7B (l : List BackD) : Bool := !scanB (-1) l && decide ((l.length : Int) ≤ 4)
theorem backs7_ac (l : List BackD) (hb : l.length ≤ 1000000000000) : ACalls Tryz.prog 84 [.lst 3 (l.map encB)] [] (.bool (backs7B l)) [] := by
  have h := backs7_loop l hb l.length 0 (-1) (by omega) ⟨by omega, .inl ⟨rfl, rfl⟩⟩
  rw [List.drop_zero] at h
  unfold backs7B
  cases hs : scanB (-1) l with
  | false =>
    have h := h.1 hs
    rw [Bool.not_false, Bool.true_and]
    refine acallsK mixed Tryz.func84 rfl [0, 2, 3, 4, 8, 52] 1000 ([.lp [3, 0] [] (.exit 0) ⟨[(0, .lst 3 (l.map encB))], []⟩, .n l.length, .k]) [] [] (v1 := .bool (decide ((l.length : Int) ≤ 4))) (objs1 := []) (ob := [ALoop Tryz.prog 0 56 (loopB Tryz.f84 0) { env := [(3, .int .i64 0), (0, .lst 3 (List.map encB l))], objs := [] } (Ex.exit 0) { env := [(0, .lst 3 (List.map encB l))], objs := [] },
 ((List.map encB l).length : Int) = (l.length : Int)]) (by kernel_rfl) (by first | exact rfl | exact ⟨rfl, rfl⟩ | (simp []; done)) ⟨?q96_1, (by first | exact rfl | (simp []; done) | (simp []; omega) | omega), trivial⟩
    exact h
  | true =>
    have h := h.2 hs
    refine acallsK mixed Tryz.func84 rfl [0, 2, 3, 4, 8, 52] 1000 ([.lp [3, 0] [] .ret ⟨[(2, .bool false)], []⟩]) [] [] (v1 := .bool false) (objs1 := []) (ob := [ALoop Tryz.prog 0 56 (loopB Tryz.f84 0) { env := [(3, .int .i64 0), (0, .lst 3 (List.map encB l))], objs := [] } Ex.ret { env := [(2, .bool false)], objs := [] }]) (by kernel_rfl) (by first | exact rfl | exact ⟨rfl, rfl⟩ | (simp []; done)) ⟨?q100_1, trivial⟩
    exact h
theorem rightR7 (c : CellD) (hb : c.backs.length ≤ 1000000000000) : ACalls Tryz.prog 47 [encC c] [] (.bool (rightC c)) [] := by
  have q := backs7_ac c.backs hb
  by_cases h1 : c.kind = 2
  · by_cases h2 : c.data.length = 0
    · by_cases h3 : c.backs.length = 0
      · rw [show rightC c = true by simp only [rightC, h1, h2, h3]; rfl]
        refine acallsK mixed Tryz.func47 rfl [0, 1, 2, 3, 8, 9, 18] 1000 ([.call [] false true (.bool (backs7B c.backs)) [], .f, .t, .n c.data.length, .t, .n c.backs.length, .t]) [] [] (v1 := .bool true) (objs1 := []) (ob := [ACalls Tryz.prog 84 [.lst 3 (List.map encB c.backs)] [] (.bool (backs7B c.backs)) [],
 (c.kind == (1 : Int)) = false,
 (c.kind == (2 : Int)) = true,
 ((List.map byteA c.data).length : Int) = (c.data.length : Int),
 ((c.data.length : Int) == (0 : Int)) = true,
 ((List.map encB c.backs).length : Int) = (c.backs.length : Int),
 ((c.backs.length : Int) == (0 : Int)) = true]) (by kernel_rfl) (by first | exact rfl | exact ⟨rfl, rfl⟩ | (simp [encC, celC, h1, h2, h3]; done)) ⟨?q108_1, ?z0, ?z1, ?z2, ?z3, ?z4, ?z5, trivial⟩
        case z0|z1|z2|z3|z4|z5 => first | exact rfl | (simp [encC, celC, h1, h2, h3] <;> omega) | omega
        exact q
      · rw [show rightC c = false by simp only [rightC, h1, h2, h3]; rfl]
        refine acallsK mixed Tryz.func47 rfl [0, 1, 2, 3, 8, 9, 18] 1000 ([.call [] false true (.bool (backs7B c.backs)) [], .f, .t, .n c.data.length, .t, .n c.backs.length, .f]) [] [] (v1 := .bool false) (objs1 := []) (ob := [ACalls Tryz.prog 84 [.lst 3 (List.map encB c.backs)] [] (.bool (backs7B c.backs)) [],
 (c.kind == (1 : Int)) = false,
 (c.kind == (2 : Int)) = true,
 ((List.map byteA c.data).length : Int) = (c.data.length : Int),
 ((c.data.length : Int) == (0 : Int)) = true,
 ((List.map encB c.backs).length : Int) = (c.backs.length : Int),
 ((c.backs.length : Int) == (0 : Int)) = false]) (by kernel_rfl) (by first | exact rfl | exact ⟨rfl, rfl⟩ | (simp [encC, celC, h1, h2, h3]; done) | (omega)) ⟨?q111_1, ?z6, ?z7, ?z8, ?z9, ?z10, ?z11, trivial⟩
        case z6|z7|z8|z9|z10|z11 => first | exact rfl | (simp [encC, celC, h1, h2, h3] <;> omega) | omega | (omega)
        exact q
    · rw [show rightC c = false by simp only [rightC, h1, h2]; rfl]
      refine acallsK mixed Tryz.func47 rfl [0, 1, 2, 3, 8, 9, 18] 1000 ([.call [] false true (.bool (backs7B c.backs)) [], .f, .t, .n c.data.length, .f]) [] [] (v1 := .bool false) (objs1 := []) (ob := [ACalls Tryz.prog 84 [.lst 3 (List.map encB c.backs)] [] (.bool (backs7B c.backs)) [],
 (c.kind == (1 : Int)) = false,
 (c.kind == (2 : Int)) = true,
 ((List.map byteA c.data).length : Int) = (c.data.length : Int),
 ((c.data.length : Int) == (0 : Int)) = false]) (by kernel_rfl) (by first | exact rfl | exact ⟨rfl, rfl⟩ | (simp [encC, celC, h1, h2]; done) | (omega)) ⟨?q114_1, ?z12, ?z13, ?z14, ?z15, trivial⟩
      case z12|z13|z14|z15 => first | exact rfl | (simp [encC, celC, h1, h2] <;> omega) | omega | (omega)
      exact q
  · by_cases h2 : c.kind = 1
    · by_cases h3 : c.data.length ≤ 100
      · rw [show rightC c = backs7B c.backs by unfold rightC backs7B; rw [if_neg h1]; by_cases h4 : c.backs.length ≤ 4 <;> simp [h2, h3, h4] <;> (intros; omega)]
        refine acallsK mixed Tryz.func47 rfl [0, 1, 2, 3, 8, 9, 18] 1000 ([.call [] false true (.bool (backs7B c.backs)) [], .t, .n c.data.length, .t]) [] [] (v1 := .bool (backs7B c.backs)) (objs1 := []) (ob := [ACalls Tryz.prog 84 [.lst 3 (List.map encB c.backs)] [] (.bool (backs7B c.backs)) [],
 (c.kind == (1 : Int)) = true,
 ((List.map byteA c.data).length : Int) = (c.data.length : Int),
 decide ((c.data.length : Int) ≤ (100 : Int)) = true]) (by kernel_rfl) (by first | exact rfl | exact ⟨rfl, rfl⟩ | (simp [encC, celC, h1, h2, h3]; done) | (omega)) ⟨?q119_1, ?z16, ?z17, ?z18, trivial⟩
        case z16|z17|z18 => first | exact rfl | (simp [encC, celC, h1, h2, h3] <;> omega) | omega | (omega)
        exact q
      · rw [show rightC c = false by unfold rightC; rw [if_neg h1, if_neg (fun h => h3 h.2.1)]]
        refine acallsK mixed Tryz.func47 rfl [0, 1, 2, 3, 8, 9, 18] 1000 ([.call [] false true (.bool (backs7B c.backs)) [], .t, .n c.data.length, .f]) [] [] (v1 := .bool false) (objs1 := []) (ob := [ACalls Tryz.prog 84 [.lst 3 (List.map encB c.backs)] [] (.bool (backs7B c.backs)) [],
 (c.kind == (1 : Int)) = true,
 ((List.map byteA c.data).length : Int) = (c.data.length : Int),
 decide ((c.data.length : Int) ≤ (100 : Int)) = false]) (by kernel_rfl) (by first | exact rfl | exact ⟨rfl, rfl⟩ | (simp [encC, celC, h1, h2, h3]; done) | (omega)) ⟨?q122_1, ?z19, ?z20, ?z21, trivial⟩
        case z19|z20|z21 => first | exact rfl | (simp [encC, celC, h1, h2, h3] <;> omega) | omega | (omega)
        exact q
    · rw [show rightC c = false by unfold rightC; rw [if_neg h1, if_neg (fun h => h2 h.1)]]
      refine acallsK mixed Tryz.func47 rfl [0, 1, 2, 3, 8, 9, 18] 1000 ([.call [] false true (.bool (backs7B c.backs)) [], .f, .f]) [] [] (v1 := .bool false) (objs1 := []) (ob := [ACalls Tryz.prog 84 [.lst 3 (List.map encB c.backs)] [] (.bool (backs7B c.backs)) [],
 (c.kind == (1 : Int)) = false,
 (c.kind == (2 : Int)) = false]) (by kernel_rfl) (by first | exact rfl | exact ⟨rfl, rfl⟩ | (simp [encC, celC, h1, h2]; done)) ⟨?q125_1, ?z22, ?z23, trivial⟩
      case z22|z23 => first | exact rfl | (simp [encC, celC, h1, h2] <;> omega) | omega
      exact q
theorem streams10_loop (l : List Int) (hb : l.length ≤ 1000000000000) : ∀ (n k : Nat) (v : Int), l.length = k + n → Prev id l k v →
    (scanI v (l.drop k) = false → ALoop Tryz.prog 0 Tryz.f98.ntmps (loopB Tryz.f98 0) ⟨[(3, .int .i64 k), (0, .lst 1 (l.map intA))], []⟩ (.exit 0) ⟨[(0, .lst 1 (l.map intA))], []⟩) ∧ (scanI v (l.drop k) = true → ALoop Tryz.prog 0 Tryz.f98.ntmps (loopB Tryz.f98 0) ⟨[(3, .int .i64 k), (0, .lst 1 (l.map intA))], []⟩ .ret ⟨[(2, .bool false)], []⟩)
  | 0, k, v, h, hp => by
    refine ⟨fun _ => ?_, fun hq => ?_⟩
    · refine aloopK mixed [0, 2, 3, 7, 37] 1000 ([.go, .n l.length, .f]) [0] [] (S1 := { env := [(0, .lst 1 (List.map intA l))], objs := [] }) (ob := [((List.map intA l).length : Int) = (l.length : Int),
 decide ((↑k : Int) < (l.length : Int)) = false]) (by kernel_rfl) (by first | exact rfl | exact ⟨rfl, rfl⟩ | (simp []; done)) ⟨?z0, ?z1, trivial⟩
      case z0|z1 => first | exact rfl | (simp [] <;> omega) | omega
    · rw [List.drop_of_length_le (by omega)] at hq; cases hq
  | n + 1, k, v, h, hp => by
    obtain ⟨x, hx⟩ := get_of (l := l) (k := k) (by omega)
    have hk : k < l.length := by omega
    have hw : IntKind.i64.wrap ((k : Int) + 1) = ((k + 1 : Nat) : Int) := wrap64 (by omega)
    obtain ⟨hv, hp⟩ := hp
    rw [drop_of hx]
    by_cases h1 : x < 0
    · skip
      have hbad : badI v x = true := by simp [badI, h1] <;> omega
      refine ⟨fun hq => (by simp [scanI, hbad] at hq), fun _ => ?_⟩
      refine aloopK mixed [0, 2, 3, 7, 37] 1000 ([.go, .n l.length, .t, .ix k, .el (intA x), .t]) [2] [] (S1 := { env := [(2, .bool false)], objs := [] }) (ob := [((List.map intA l).length : Int) = (l.length : Int),
 decide ((↑k : Int) < (l.length : Int)) = true,
 k < List.length (List.map intA l),
 (↑k : Int) = (↑k : Int),
 (List.map intA l)[k]? = some (.int .i64 x),
 decide (x < (0 : Int)) = true]) (by kernel_rfl) (by first | exact rfl | exact ⟨rfl, rfl⟩ | (simp [hx, hw, intA, h1]; done) | (first | exact hx | exact hpj | omega | exact wrap_pred (by omega))) ⟨?z2, ?z3, ?z4, ?z5, ?z6, ?z7, trivial⟩
      case z2|z3|z4|z5|z6|z7 => first | exact rfl | (simp [hx, hw, intA, h1] <;> omega) | omega | (first | exact hx | exact hpj | omega | exact wrap_pred (by omega))
    · skip
      by_cases h2 : 16 ≤ x
      · skip
        have hbad : badI v x = true := by simp [badI, h1, h2] <;> omega
        refine ⟨fun hq => (by simp [scanI, hbad] at hq), fun _ => ?_⟩
        refine aloopK mixed [0, 2, 3, 7, 37] 1000 ([.go, .n l.length, .t, .ix k, .el (intA x), .f, .ix k, .el (intA x), .t]) [2] [] (S1 := { env := [(2, .bool false)], objs := [] }) (ob := [((List.map intA l).length : Int) = (l.length : Int),
 decide ((↑k : Int) < (l.length : Int)) = true,
 k < List.length (List.map intA l),
 (↑k : Int) = (↑k : Int),
 (List.map intA l)[k]? = some (.int .i64 x),
 decide (x < (0 : Int)) = false,
 k < List.length (List.map intA l),
 (↑k : Int) = (↑k : Int),
 (List.map intA l)[k]? = some (.int .i64 x),
 decide (x ≥ (16 : Int)) = true]) (by kernel_rfl) (by first | exact rfl | exact ⟨rfl, rfl⟩ | (simp [hx, hw, intA, h1, h2]; done) | (first | exact hx | exact hpj | omega | exact wrap_pred (by omega))) ⟨?z8, ?z9, ?z10, ?z11, ?z12, ?z13, ?z14, ?z15, ?z16, ?z17, trivial⟩
        case z8|z9|z10|z11|z12|z13|z14|z15|z16|z17 => first | exact rfl | (simp [hx, hw, intA, h1, h2] <;> omega) | omega | (first | exact hx | exact hpj | omega | exact wrap_pred (by omega))
      · skip
        rcases hp with ⟨hk0, hv0⟩ | ⟨j, p, hkj, hpj, hpv⟩
        · have hg : decide ((k : Int) > 0) = false := by simp [hk0]
          have hbad : badI v x = false := by simp [badI, h1, h2, hv0] <;> omega
          have ih := streams10_loop l hb n (k + 1) x (by omega) ⟨by omega, .inr ⟨k, x, rfl, hx, rfl⟩⟩
          have hsc : scanI v (x :: l.drop (k + 1)) = scanI x (l.drop (k + 1)) := by simp [scanI, hbad]
          rw [hsc]
          refine ⟨fun hq => ?_, fun hq => ?_⟩
          · have ih := ih.1 hq
            refine aloopK mixed [0, 2, 3, 7, 37] 1000 ([.go, .n l.length, .t, .ix k, .el (intA x), .f, .ix k, .el (intA x), .f, .f, .n ((k + 1 : Nat) : Int), .lp [3, 0] [] (.exit 0) ⟨[(0, .lst 1 (l.map intA))], []⟩]) [0] [] (S1 := { env := [(0, .lst 1 (List.map intA l))], objs := [] }) (ob := [((List.map intA l).length : Int) = (l.length : Int),
 decide ((↑k : Int) < (l.length : Int)) = true,
 k < List.length (List.map intA l),
 (↑k : Int) = (↑k : Int),
 (List.map intA l)[k]? = some (.int .i64 x),
 decide (x < (0 : Int)) = false,
 k < List.length (List.map intA l),
 (↑k : Int) = (↑k : Int),
 (List.map intA l)[k]? = some (.int .i64 x),
 decide (x ≥ (16 : Int)) = false,
 decide ((↑k : Int) > (0 : Int)) = false,
 IntKind.i64.wrap ((↑k : Int) + (1 : Int)) = (↑(k + (1 : Nat)) : Int),
 ALoop Tryz.prog 0 41 (loopB Tryz.f98 0) { env := [(3, .int .i64 (↑(k + 1) : Int)), (0, .lst 1 (List.map intA l))], objs := [] } (Ex.exit 0) { env := [(0, .lst 1 (List.map intA l))], objs := [] }]) (by kernel_rfl) (by first | exact rfl | exact ⟨rfl, rfl⟩ | (simp [hx, hw, intA, h1, h2, hv0]; done) | (first | exact hx | exact hpj | exact hw | exact hg | omega | exact wrap_pred (by omega))) ⟨?z18, ?z19, ?z20, ?z21, ?z22, ?z23, ?z24, ?z25, ?z26, ?z27, ?z28, ?z29, ?q159_1, trivial⟩
            case z18|z19|z20|z21|z22|z23|z24|z25|z26|z27|z28|z29 => first | exact rfl | (simp [hx, hw, intA, h1, h2, hv0] <;> omega) | omega | (first | exact hx | exact hpj | exact hw | exact hg | omega | exact wrap_pred (by omega))
            · exact ih
          · have ih := ih.2 hq
            refine aloopK mixed [0, 2, 3, 7, 37] 1000 ([.go, .n l.length, .t, .ix k, .el (intA x), .f, .ix k, .el (intA x), .f, .f, .n ((k + 1 : Nat) : Int), .lp [3, 0] [] .ret ⟨[(2, .bool false)], []⟩]) [2] [] (S1 := { env := [(2, .bool false)], objs := [] }) (ob := [((List.map intA l).length : Int) = (l.length : Int),
 decide ((↑k : Int) < (l.length : Int)) = true,
 k < List.length (List.map intA l),
 (↑k : Int) = (↑k : Int),
 (List.map intA l)[k]? = some (.int .i64 x),
 decide (x < (0 : Int)) = false,
 k < List.length (List.map intA l),
 (↑k : Int) = (↑k : Int),
 (List.map intA l)[k]? = some (.int .i64 x),
 decide (x ≥ (16 : Int)) = false,
 decide ((↑k : Int) > (0 : Int)) = false,
 IntKind.i64.wrap ((↑k : Int) + (1 : Int)) = (↑(k + (1 : Nat)) : Int),
 ALoop Tryz.prog 0 41 (loopB Tryz.f98 0) { env := [(3, .int .i64 (↑(k + 1) : Int)), (0, .lst 1 (List.map intA l))], objs := [] } Ex.ret { env := [(2, .bool false)], objs := [] }]) (by kernel_rfl) (by first | exact rfl | exact ⟨rfl, rfl⟩ | (simp [hx, hw, intA, h1, h2, hv0]; done) | (first | exact hx | exact hpj | exact hw | exact hg | omega | exact wrap_pred (by omega))) ⟨?z30, ?z31, ?z32, ?z33, ?z34, ?z35, ?z36, ?z37, ?z38, ?z39, ?z40, ?z41, ?q162_1, trivial⟩
            case z30|z31|z32|z33|z34|z35|z36|z37|z38|z39|z40|z41 => first | exact rfl | (simp [hx, hw, intA, h1, h2, hv0] <;> omega) | omega | (first | exact hx | exact hpj | exact hw | exact hg | omega | exact wrap_pred (by omega))
            · exact ih
        · subst hkj
          have hpv : p = v := hpv
          subst hpv
          by_cases h9 : x ≤ p
          · skip
            have hbad : badI (p) x = true := by simp [badI, h1, h2, h9, hpj] <;> omega
            refine ⟨fun hq => (by simp [scanI, hbad] at hq), fun _ => ?_⟩
            refine aloopK mixed [0, 2, 3, 7, 37] 1000 ([.go, .n l.length, .t, .ix (j + 1), .el (intA x), .f, .ix (j + 1), .el (intA x), .f, .t, .ix (j + 1), .el (intA x), .n (j : Int), .ix j, .el (intA p), .t]) [2] [] (S1 := { env := [(2, .bool false)], objs := [] }) (ob := [((List.map intA l).length : Int) = (l.length : Int),
 decide ((↑(j + (1 : Nat)) : Int) < (l.length : Int)) = true,
 j + (1 : Nat) < List.length (List.map intA l),
 (↑(j + (1 : Nat)) : Int) = (↑(j + (1 : Nat)) : Int),
 (List.map intA l)[j + (1 : Nat)]? = some (.int .i64 x),
 decide (x < (0 : Int)) = false,
 j + (1 : Nat) < List.length (List.map intA l),
 (↑(j + (1 : Nat)) : Int) = (↑(j + (1 : Nat)) : Int),
 (List.map intA l)[j + (1 : Nat)]? = some (.int .i64 x),
 decide (x ≥ (16 : Int)) = false,
 decide ((↑(j + (1 : Nat)) : Int) > (0 : Int)) = true,
 j + (1 : Nat) < List.length (List.map intA l),
 (↑(j + (1 : Nat)) : Int) = (↑(j + (1 : Nat)) : Int),
 (List.map intA l)[j + (1 : Nat)]? = some (.int .i64 x),
 IntKind.i64.wrap ((↑(j + (1 : Nat)) : Int) - (1 : Int)) = (↑j : Int),
 j < List.length (List.map intA l),
 (↑j : Int) = (↑j : Int),
 (List.map intA l)[j]? = some (.int .i64 p),
 decide (x ≤ p) = true]) (by kernel_rfl) (by first | exact rfl | exact ⟨rfl, rfl⟩ | (simp [hx, hw, intA, h1, h2, h9, hpj]; done) | (first | exact hx | exact hpj | omega | exact wrap_pred (by omega))) ⟨?z42, ?z43, ?z44, ?z45, ?z46, ?z47, ?z48, ?z49, ?z50, ?z51, ?z52, ?z53, ?z54, ?z55, ?z56, ?z57, ?z58, ?z59, ?z60, trivial⟩
            case z42|z43|z44|z45|z46|z47|z48|z49|z50|z51|z52|z53|z54|z55|z56|z57|z58|z59|z60 => first | exact rfl | (simp [hx, hw, intA, h1, h2, h9, hpj] <;> omega) | omega | (first | exact hx | exact hpj | omega | exact wrap_pred (by omega))
          · skip
            have hbad : badI (p) x = false := by simp [badI, h1, h2, h9, hpj] <;> omega
            have ih := streams10_loop l hb n (j + 1 + 1) x (by omega) ⟨by omega, .inr ⟨j + 1, x, rfl, hx, rfl⟩⟩
            have hsc : scanI (p) (x :: l.drop (j + 1 + 1)) = scanI x (l.drop (j + 1 + 1)) := by simp [scanI, hbad]
            rw [hsc]
            refine ⟨fun hq => ?_, fun hq => ?_⟩
            · have ih := ih.1 hq
              refine aloopK mixed [0, 2, 3, 7, 37] 1000 ([.go, .n l.length, .t, .ix (j + 1), .el (intA x), .f, .ix (j + 1), .el (intA x), .f, .t, .ix (j + 1), .el (intA x), .n (j : Int), .ix j, .el (intA p), .f, .n ((j + 1 + 1 : Nat) : Int), .lp [3, 0] [] (.exit 0) ⟨[(0, .lst 1 (l.map intA))], []⟩]) [0] [] (S1 := { env := [(0, .lst 1 (List.map intA l))], objs := [] }) (ob := [((List.map intA l).length : Int) = (l.length : Int),
 decide ((↑(j + (1 : Nat)) : Int) < (l.length : Int)) = true,
 j + (1 : Nat) < List.length (List.map intA l),
 (↑(j + (1 : Nat)) : Int) = (↑(j + (1 : Nat)) : Int),
 (List.map intA l)[j + (1 : Nat)]? = some (.int .i64 x),
 decide (x < (0 : Int)) = false,
 j + (1 : Nat) < List.length (List.map intA l),
 (↑(j + (1 : Nat)) : Int) = (↑(j + (1 : Nat)) : Int),
 (List.map intA l)[j + (1 : Nat)]? = some (.int .i64 x),
 decide (x ≥ (16 : Int)) = false,
 decide ((↑(j + (1 : Nat)) : Int) > (0 : Int)) = true,
 j + (1 : Nat) < List.length (List.map intA l),
 (↑(j + (1 : Nat)) : Int) = (↑(j + (1 : Nat)) : Int),
 (List.map intA l)[j + (1 : Nat)]? = some (.int .i64 x),
 IntKind.i64.wrap ((↑(j + (1 : Nat)) : Int) - (1 : Int)) = (↑j : Int),
 j < List.length (List.map intA l),
 (↑j : Int) = (↑j : Int),
 (List.map intA l)[j]? = some (.int .i64 p),
 decide (x ≤ p) = false,
 IntKind.i64.wrap ((↑(j + (1 : Nat)) : Int) + (1 : Int)) = (↑(j + (1 : Nat) + (1 : Nat)) : Int),
 ALoop Tryz.prog 0 41 (loopB Tryz.f98 0) { env := [(3, .int .i64 (↑(j + 1 + 1) : Int)), (0, .lst 1 (List.map intA l))], objs := [] } (Ex.exit 0) { env := [(0, .lst 1 (List.map intA l))], objs := [] }]) (by kernel_rfl) (by first | exact rfl | exact ⟨rfl, rfl⟩ | (simp [hx, hw, intA, h1, h2, h9, hpj]; done) | (first | exact hx | exact hpj | exact hw | exact hg | omega | exact wrap_pred (by omega))) ⟨?z61, ?z62, ?z63, ?z64, ?z65, ?z66, ?z67, ?z68, ?z69, ?z70, ?z71, ?z72, ?z73, ?z74, ?z75, ?z76, ?z77, ?z78, ?z79, ?z80, ?q179_1, trivial⟩
              case z61|z62|z63|z64|z65|z66|z67|z68|z69|z70|z71|z72|z73|z74|z75|z76|z77|z78|z79|z80 => first | exact rfl | (simp [hx, hw, intA, h1, h2, h9, hpj] <;> omega) | omega | (first | exact hx | exact hpj | exact hw | exact hg | omega | exact wrap_pred (by omega))
              · exact ih
            · have ih := ih.2 hq
              refine aloopK mixed [0, 2, 3, 7, 37] 1000 ([.go, .n l.length, .t, .ix (j + 1), .el (intA x), .f, .ix (j + 1), .el (intA x), .f, .t, .ix (j + 1), .el (intA x), .n (j : Int), .ix j, .el (intA p), .f, .n ((j + 1 + 1 : Nat) : Int), .lp [3, 0] [] .ret ⟨[(2, .bool false)], []⟩]) [2] [] (S1 := { env := [(2, .bool false)], objs := [] }) (ob := [((List.map intA l).length : Int) = (l.length : Int),
 decide ((↑(j + (1 : Nat)) : Int) < (l.length : Int)) = true,
 j + (1 : Nat) < List.length (List.map intA l),
 (↑(j + (1 : Nat)) : Int) = (↑(j + (1 : Nat)) : Int),
 (List.map intA l)[j + (1 : Nat)]? = some (.int .i64 x),
 decide (x < (0 : Int)) = false,
 j + (1 : Nat) < List.length (List.map intA l),
 (↑(j + (1 : Nat)) : Int) = (↑(j + (1 : Nat)) : Int),
 (List.map intA l)[j + (1 : Nat)]? = some (.int .i64 x),
 decide (x ≥ (16 : Int)) = false,
 decide ((↑(j + (1 : Nat)) : Int) > (0 : Int)) = true,
 j + (1 : Nat) < List.length (List.map intA l),
 (↑(j + (1 : Nat)) : Int) = (↑(j + (1 : Nat)) : Int),
 (List.map intA l)[j + (1 : Nat)]? = some (.int .i64 x),
 IntKind.i64.wrap ((↑(j + (1 : Nat)) : Int) - (1 : Int)) = (↑j : Int),
 j < List.length (List.map intA l),
 (↑j : Int) = (↑j : Int),
 (List.map intA l)[j]? = some (.int .i64 p),
 decide (x ≤ p) = false,
 IntKind.i64.wrap ((↑(j + (1 : Nat)) : Int) + (1 : Int)) = (↑(j + (1 : Nat) + (1 : Nat)) : Int),
 ALoop Tryz.prog 0 41 (loopB Tryz.f98 0) { env := [(3, .int .i64 (↑(j + 1 + 1) : Int)), (0, .lst 1 (List.map intA l))], objs := [] } Ex.ret { env := [(2, .bool false)], objs := [] }]) (by kernel_rfl) (by first | exact rfl | exact ⟨rfl, rfl⟩ | (simp [hx, hw, intA, h1, h2, h9, hpj]; done) | (first | exact hx | exact hpj | exact hw | exact hg | omega | exact wrap_pred (by omega))) ⟨?z81, ?z82, ?z83, ?z84, ?z85, ?z86, ?z87, ?z88, ?z89, ?z90, ?z91, ?z92, ?z93, ?z94, ?z95, ?z96, ?z97, ?z98, ?z99, ?z100, ?q182_1, trivial⟩
              case z81|z82|z83|z84|z85|z86|z87|z88|z89|z90|z91|z92|z93|z94|z95|z96|z97|z98|z99|z100 => first | exact rfl | (simp [hx, hw, intA, h1, h2, h9, hpj] <;> omega) | omega | (first | exact hx | exact hpj | exact hw | exact hg | omega | exact wrap_pred (by omega))
              · exact ih
def streamsB (l : List Int) : Bool := !scanI (-1) l && decide ((l.length : Int) ≤ 4)
theorem streams10_ac (l : List Int) (hb : l.length ≤ 1000000000000) : ACalls Tryz.prog 98 [.lst 1 (l.map intA)] [] (.bool (streamsB l)) [] := by
  have h := streams10_loop l hb l.length 0 (-1) (by omega) ⟨by omega, .inl ⟨rfl, rfl⟩⟩
  rw [List.drop_zero] at h
  unfold streamsB
  cases hs : scanI (-1) l with
  | false =>
    have h := h.1 hs
    rw [Bool.not_false, Bool.true_and]
    refine acallsK mixed Tryz.func98 rfl [0, 2, 3, 7, 37] 1000 ([.lp [3, 0] [] (.exit 0) ⟨[(0, .lst 1 (l.map intA))], []⟩, .n l.length, .k]) [] [] (v1 := .bool (decide ((l.length : Int) ≤ 4))) (objs1 := []) (ob := [ALoop Tryz.prog 0 41 (loopB Tryz.f98 0) { env := [(3, .int .i64 0), (0, .lst 1 (List.map intA l))], objs := [] } (Ex.exit 0) { env := [(0, .lst 1 (List.map intA l))], objs := [] },
 ((List.map intA l).length : Int) = (l.length : Int)]) (by kernel_rfl) (by first | exact rfl | exact ⟨rfl, rfl⟩ | (simp []; done)) ⟨?q193_1, (by first | exact rfl | (simp []; done) | (simp []; omega) | omega), trivial⟩
    exact h
  | true =>
    have h := h.2 hs
    refine acallsK mixed Tryz.func98 rfl [0, 2, 3, 7, 37] 1000 ([.lp [3, 0] [] .ret ⟨[(2, .bool false)], []⟩]) [] [] (v1 := .bool false) (objs1 := []) (ob := [ALoop Tryz.prog 0 41 (loopB Tryz.f98 0) { env := [(3, .int .i64 0), (0, .lst 1 (List.map intA l))], objs := [] } Ex.ret { env := [(2, .bool false)], objs := [] }]) (by kernel_rfl) (by first | exact rfl | exact ⟨rfl, rfl⟩ | (simp []; done)) ⟨?q197_1, trivial⟩
    exact h
def badO (v : Int) (x : BackD) : Bool := !backs7B [x] || decide (x.s ≤ v)
def scanO : Int → List BackD → Bool
  | v, [] => false
  | v, x :: l => badO v x || scanO x.s l
end Go.Proofs.YtidgcfgkcidkiaaGreat.Ch
