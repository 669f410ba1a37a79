/- Texts of one proof, laid together: Do, Dp. -/
import Derived.Test.YtidgcfgkcidkiaaGreatQ06
namespace Go.Proofs.YtidgcfgkcidkiaaGreat.Ch
open Go Go.RowKit Go.Proofs.YtidgcfgkcidkiaaGreat.L Go.Proofs.YtidgcfgkcidkiaaGreat.X
set_option linter.unusedVariables false
set_option linter.unusedSimpArgs false
def tail10 (m : MsgD) : Bool := placeB m.fr m.fn && (placeB m.tr m.tn && ((sameC m.cell cell0 || rightC m.cell) && (streamsB m.streams && (backsB m.backs && (ballotB m.br m.bc && (ballotB m.pr m.pc && (noLayB m.lay || rightL m.lay)))))))
def right10 (m : MsgD) : Bool := if m.kind < 1 then false else if 14 < m.kind then false else if m.of_ < 0 then false else if 13 < m.of_ then false else if ¬ (m.kind = 14 ↔ 0 < m.of_) then false else if m.id < 0 then false else if 1048576 ≤ m.id then false else if 1048576 < m.epoch then false else if 1048576 < m.addr then false else if m.err < 0 then false else if 255 < m.err then false else tail10 m
theorem right10_e0 (m : MsgD) (hm : m.ok) (hl : ∀ s ∈ m.lay.segs, s.chains.length ≤ 1000000000) (h1 : m.kind < 1) : ACalls Tryz.prog 57 [encM m] [] (.bool (right10 m)) [] := by
  have qF := place10_ac m.fr m.fn
  have qT := place10_ac m.tr m.tn
  have qN := noCell10B_ac m.cell
  rw [noCell10_eq] at qN
  have qR := rightR7 m.cell hm.cell.b
  have qS := streams10_ac m.streams hm.st
  have qB := backs10_ac m.backs hm.b
  rw [backs10_eq] at qB
  have qa := ballot10B_ac m.br m.bc
  rw [ballot10_eq] at qa
  have qb := ballot10B_ac m.pr m.pc
  rw [ballot10_eq] at qb
  have qL := noLay10B_ac m.lay
  rw [noLay10_eq] at qL
  have qZ := right9_ac m.lay hl hm.lay.n
  rw [show right10 m = false by unfold right10; rw [if_pos h1]]
  refine acallsK mixed Tryz.func57 rfl [0, 1, 2, 3, 4, 5, 6, 7, 8, 9, 10, 67] 1000 ([.t]) [] [] (v1 := .bool false) (objs1 := []) (ob := [decide (m.kind < (1 : Int)) = true]) (by kernel_rfl) (by first | exact rfl | exact ⟨rfl, rfl⟩ | (simp [encM, celM, celC, celL, h1]; done) | (first | omega | exact xor_yes h5 | exact xor_no h5)) ⟨(by first | exact rfl | (simp [encM, celM, celC, celL, h1]; done) | (simp [encM, celM, celC, celL, h1]; omega) | omega | (first | omega | exact xor_yes h5 | exact xor_no h5)), trivial⟩
theorem right10_e1 (m : MsgD) (hm : m.ok) (hl : ∀ s ∈ m.lay.segs, s.chains.length ≤ 1000000000) (h1 : ¬ (m.kind < 1)) (h2 : 14 < m.kind) : ACalls Tryz.prog 57 [encM m] [] (.bool (right10 m)) [] := by
  have qF := place10_ac m.fr m.fn
  have qT := place10_ac m.tr m.tn
  have qN := noCell10B_ac m.cell
  rw [noCell10_eq] at qN
  have qR := rightR7 m.cell hm.cell.b
  have qS := streams10_ac m.streams hm.st
  have qB := backs10_ac m.backs hm.b
  rw [backs10_eq] at qB
  have qa := ballot10B_ac m.br m.bc
  rw [ballot10_eq] at qa
  have qb := ballot10B_ac m.pr m.pc
  rw [ballot10_eq] at qb
  have qL := noLay10B_ac m.lay
  rw [noLay10_eq] at qL
  have qZ := right9_ac m.lay hl hm.lay.n
  rw [show right10 m = false by unfold right10; rw [if_neg h1, if_pos h2]]
  refine acallsK mixed Tryz.func57 rfl [0, 1, 2, 3, 4, 5, 6, 7, 8, 9, 10, 67] 1000 ([.f, .t]) [] [] (v1 := .bool false) (objs1 := []) (ob := [decide (m.kind < (1 : Int)) = false,
 decide (m.kind > (14 : Int)) = true]) (by kernel_rfl) (by first | exact rfl | exact ⟨rfl, rfl⟩ | (simp [encM, celM, celC, celL, h1, h2]; done) | (first | omega | exact xor_yes h5 | exact xor_no h5)) ⟨?z0, ?z1, trivial⟩
  case z0|z1 => first | exact rfl | (simp [encM, celM, celC, celL, h1, h2] <;> omega) | omega | (first | omega | exact xor_yes h5 | exact xor_no h5)
theorem right10_e2 (m : MsgD) (hm : m.ok) (hl : ∀ s ∈ m.lay.segs, s.chains.length ≤ 1000000000) (h1 : ¬ (m.kind < 1)) (h2 : ¬ (14 < m.kind)) (h3 : m.of_ < 0) : ACalls Tryz.prog 57 [encM m] [] (.bool (right10 m)) [] := by
  have qF := place10_ac m.fr m.fn
  have qT := place10_ac m.tr m.tn
  have qN := noCell10B_ac m.cell
  rw [noCell10_eq] at qN
  have qR := rightR7 m.cell hm.cell.b
  have qS := streams10_ac m.streams hm.st
  have qB := backs10_ac m.backs hm.b
  rw [backs10_eq] at qB
  have qa := ballot10B_ac m.br m.bc
  rw [ballot10_eq] at qa
  have qb := ballot10B_ac m.pr m.pc
  rw [ballot10_eq] at qb
  have qL := noLay10B_ac m.lay
  rw [noLay10_eq] at qL
  have qZ := right9_ac m.lay hl hm.lay.n
  rw [show right10 m = false by unfold right10; rw [if_neg h1, if_neg h2, if_pos h3]]
  refine acallsK mixed Tryz.func57 rfl [0, 1, 2, 3, 4, 5, 6, 7, 8, 9, 10, 67] 1000 ([.f, .f, .t]) [] [] (v1 := .bool false) (objs1 := []) (ob := [decide (m.kind < (1 : Int)) = false,
 decide (m.kind > (14 : Int)) = false,
 decide (m.of_ < (0 : Int)) = true]) (by kernel_rfl) (by first | exact rfl | exact ⟨rfl, rfl⟩ | (simp [encM, celM, celC, celL, h1, h2, h3]; done) | (first | omega | exact xor_yes h5 | exact xor_no h5)) ⟨?z0, ?z1, ?z2, trivial⟩
  case z0|z1|z2 => first | exact rfl | (simp [encM, celM, celC, celL, h1, h2, h3] <;> omega) | omega | (first | omega | exact xor_yes h5 | exact xor_no h5)
theorem right10_e3 (m : MsgD) (hm : m.ok) (hl : ∀ s ∈ m.lay.segs, s.chains.length ≤ 1000000000) (h1 : ¬ (m.kind < 1)) (h2 : ¬ (14 < m.kind)) (h3 : ¬ (m.of_ < 0)) (h4 : 13 < m.of_) : ACalls Tryz.prog 57 [encM m] [] (.bool (right10 m)) [] := by
  have qF := place10_ac m.fr m.fn
  have qT := place10_ac m.tr m.tn
  have qN := noCell10B_ac m.cell
  rw [noCell10_eq] at qN
  have qR := rightR7 m.cell hm.cell.b
  have qS := streams10_ac m.streams hm.st
  have qB := backs10_ac m.backs hm.b
  rw [backs10_eq] at qB
  have qa := ballot10B_ac m.br m.bc
  rw [ballot10_eq] at qa
  have qb := ballot10B_ac m.pr m.pc
  rw [ballot10_eq] at qb
  have qL := noLay10B_ac m.lay
  rw [noLay10_eq] at qL
  have qZ := right9_ac m.lay hl hm.lay.n
  rw [show right10 m = false by unfold right10; rw [if_neg h1, if_neg h2, if_neg h3, if_pos h4]]
  refine acallsK mixed Tryz.func57 rfl [0, 1, 2, 3, 4, 5, 6, 7, 8, 9, 10, 67] 1000 ([.f, .f, .f, .t]) [] [] (v1 := .bool false) (objs1 := []) (ob := [decide (m.kind < (1 : Int)) = false,
 decide (m.kind > (14 : Int)) = false,
 decide (m.of_ < (0 : Int)) = false,
 decide (m.of_ > (13 : Int)) = true]) (by kernel_rfl) (by first | exact rfl | exact ⟨rfl, rfl⟩ | (simp [encM, celM, celC, celL, h1, h2, h3, h4]; done) | (first | omega | exact xor_yes h5 | exact xor_no h5)) ⟨?z0, ?z1, ?z2, ?z3, trivial⟩
  case z0|z1|z2|z3 => first | exact rfl | (simp [encM, celM, celC, celL, h1, h2, h3, h4] <;> omega) | omega | (first | omega | exact xor_yes h5 | exact xor_no h5)
theorem right10_e4 (m : MsgD) (hm : m.ok) (hl : ∀ s ∈ m.lay.segs, s.chains.length ≤ 1000000000) (h1 : ¬ (m.kind < 1)) (h2 : ¬ (14 < m.kind)) (h3 : ¬ (m.of_ < 0)) (h4 : ¬ (13 < m.of_)) (h5 : ¬ (m.kind = 14 ↔ 0 < m.of_)) : ACalls Tryz.prog 57 [encM m] [] (.bool (right10 m)) [] := by
  have qF := place10_ac m.fr m.fn
  have qT := place10_ac m.tr m.tn
  have qN := noCell10B_ac m.cell
  rw [noCell10_eq] at qN
  have qR := rightR7 m.cell hm.cell.b
  have qS := streams10_ac m.streams hm.st
  have qB := backs10_ac m.backs hm.b
  rw [backs10_eq] at qB
  have qa := ballot10B_ac m.br m.bc
  rw [ballot10_eq] at qa
  have qb := ballot10B_ac m.pr m.pc
  rw [ballot10_eq] at qb
  have qL := noLay10B_ac m.lay
  rw [noLay10_eq] at qL
  have qZ := right9_ac m.lay hl hm.lay.n
  rw [show right10 m = false by unfold right10; rw [if_neg h1, if_neg h2, if_neg h3, if_neg h4, if_pos h5]]
  refine acallsK mixed Tryz.func57 rfl [0, 1, 2, 3, 4, 5, 6, 7, 8, 9, 10, 67] 1000 ([.f, .f, .f, .f, .k, .k, .t]) [] [] (v1 := .bool false) (objs1 := []) (ob := [decide (m.kind < (1 : Int)) = false,
 decide (m.kind > (14 : Int)) = false,
 decide (m.of_ < (0 : Int)) = false,
 decide (m.of_ > (13 : Int)) = false,
 (!(m.kind == (14 : Int)) == decide (m.of_ > (0 : Int))) = true]) (by kernel_rfl) (by first | exact rfl | exact ⟨rfl, rfl⟩ | (simp [encM, celM, celC, celL, h1, h2, h3, h4, h5]; done) | (first | omega | exact xor_yes h5 | exact xor_no h5)) ⟨?z0, ?z1, ?z2, ?z3, ?z4, trivial⟩
  case z0|z1|z2|z3|z4 => first | exact rfl | (simp [encM, celM, celC, celL, h1, h2, h3, h4, h5] <;> omega) | omega | (first | omega | exact xor_yes h5 | exact xor_no h5)
theorem right10_e5 (m : MsgD) (hm : m.ok) (hl : ∀ s ∈ m.lay.segs, s.chains.length ≤ 1000000000) (h1 : ¬ (m.kind < 1)) (h2 : ¬ (14 < m.kind)) (h3 : ¬ (m.of_ < 0)) (h4 : ¬ (13 < m.of_)) (h5 : ¬ (¬ (m.kind = 14 ↔ 0 < m.of_))) (h6 : m.id < 0) : ACalls Tryz.prog 57 [encM m] [] (.bool (right10 m)) [] := by
  have qF := place10_ac m.fr m.fn
  have qT := place10_ac m.tr m.tn
  have qN := noCell10B_ac m.cell
  rw [noCell10_eq] at qN
  have qR := rightR7 m.cell hm.cell.b
  have qS := streams10_ac m.streams hm.st
  have qB := backs10_ac m.backs hm.b
  rw [backs10_eq] at qB
  have qa := ballot10B_ac m.br m.bc
  rw [ballot10_eq] at qa
  have qb := ballot10B_ac m.pr m.pc
  rw [ballot10_eq] at qb
  have qL := noLay10B_ac m.lay
  rw [noLay10_eq] at qL
  have qZ := right9_ac m.lay hl hm.lay.n
  rw [show right10 m = false by unfold right10; rw [if_neg h1, if_neg h2, if_neg h3, if_neg h4, if_neg h5, if_pos h6]]
  refine acallsK mixed Tryz.func57 rfl [0, 1, 2, 3, 4, 5, 6, 7, 8, 9, 10, 67] 1000 ([.f, .f, .f, .f, .k, .k, .f, .t]) [] [] (v1 := .bool false) (objs1 := []) (ob := [decide (m.kind < (1 : Int)) = false,
 decide (m.kind > (14 : Int)) = false,
 decide (m.of_ < (0 : Int)) = false,
 decide (m.of_ > (13 : Int)) = false,
 (!(m.kind == (14 : Int)) == decide (m.of_ > (0 : Int))) = false,
 decide (m.id < (0 : Int)) = true]) (by kernel_rfl) (by first | exact rfl | exact ⟨rfl, rfl⟩ | (simp [encM, celM, celC, celL, h1, h2, h3, h4, h5, h6]; done) | (first | omega | exact xor_yes h5 | exact xor_no h5)) ⟨?z0, ?z1, ?z2, ?z3, ?z4, ?z5, trivial⟩
  case z0|z1|z2|z3|z4|z5 => first | exact rfl | (simp [encM, celM, celC, celL, h1, h2, h3, h4, h5, h6] <;> omega) | omega | (first | omega | exact xor_yes h5 | exact xor_no h5)
theorem right10_e6 (m : MsgD) (hm : m.ok) (hl : ∀ s ∈ m.lay.segs, s.chains.length ≤ 1000000000) (h1 : ¬ (m.kind < 1)) (h2 : ¬ (14 < m.kind)) (h3 : ¬ (m.of_ < 0)) (h4 : ¬ (13 < m.of_)) (h5 : ¬ (¬ (m.kind = 14 ↔ 0 < m.of_))) (h6 : ¬ (m.id < 0)) (h7 : 1048576 ≤ m.id) : ACalls Tryz.prog 57 [encM m] [] (.bool (right10 m)) [] := by
  have qF := place10_ac m.fr m.fn
  have qT := place10_ac m.tr m.tn
  have qN := noCell10B_ac m.cell
  rw [noCell10_eq] at qN
  have qR := rightR7 m.cell hm.cell.b
  have qS := streams10_ac m.streams hm.st
  have qB := backs10_ac m.backs hm.b
  rw [backs10_eq] at qB
  have qa := ballot10B_ac m.br m.bc
  rw [ballot10_eq] at qa
  have qb := ballot10B_ac m.pr m.pc
  rw [ballot10_eq] at qb
  have qL := noLay10B_ac m.lay
  rw [noLay10_eq] at qL
  have qZ := right9_ac m.lay hl hm.lay.n
  rw [show right10 m = false by unfold right10; rw [if_neg h1, if_neg h2, if_neg h3, if_neg h4, if_neg h5, if_neg h6, if_pos h7]]
  refine acallsK mixed Tryz.func57 rfl [0, 1, 2, 3, 4, 5, 6, 7, 8, 9, 10, 67] 1000 ([.f, .f, .f, .f, .k, .k, .f, .f, .t]) [] [] (v1 := .bool false) (objs1 := []) (ob := [decide (m.kind < (1 : Int)) = false,
 decide (m.kind > (14 : Int)) = false,
 decide (m.of_ < (0 : Int)) = false,
 decide (m.of_ > (13 : Int)) = false,
 (!(m.kind == (14 : Int)) == decide (m.of_ > (0 : Int))) = false,
 decide (m.id < (0 : Int)) = false,
 decide (m.id ≥ (1048576 : Int)) = true]) (by kernel_rfl) (by first | exact rfl | exact ⟨rfl, rfl⟩ | (simp [encM, celM, celC, celL, h1, h2, h3, h4, h5, h6, h7]; done) | (first | omega | exact xor_yes h5 | exact xor_no h5)) ⟨?z0, ?z1, ?z2, ?z3, ?z4, ?z5, ?z6, trivial⟩
  case z0|z1|z2|z3|z4|z5|z6 => first | exact rfl | (simp [encM, celM, celC, celL, h1, h2, h3, h4, h5, h6, h7] <;> omega) | omega | (first | omega | exact xor_yes h5 | exact xor_no h5)
theorem right10_e7 (m : MsgD) (hm : m.ok) (hl : ∀ s ∈ m.lay.segs, s.chains.length ≤ 1000000000) (h1 : ¬ (m.kind < 1)) (h2 : ¬ (14 < m.kind)) (h3 : ¬ (m.of_ < 0)) (h4 : ¬ (13 < m.of_)) (h5 : ¬ (¬ (m.kind = 14 ↔ 0 < m.of_))) (h6 : ¬ (m.id < 0)) (h7 : ¬ (1048576 ≤ m.id)) (h8 : 1048576 < m.epoch) : ACalls Tryz.prog 57 [encM m] [] (.bool (right10 m)) [] := by
  have qF := place10_ac m.fr m.fn
  have qT := place10_ac m.tr m.tn
  have qN := noCell10B_ac m.cell
  rw [noCell10_eq] at qN
  have qR := rightR7 m.cell hm.cell.b
  have qS := streams10_ac m.streams hm.st
  have qB := backs10_ac m.backs hm.b
  rw [backs10_eq] at qB
  have qa := ballot10B_ac m.br m.bc
  rw [ballot10_eq] at qa
  have qb := ballot10B_ac m.pr m.pc
  rw [ballot10_eq] at qb
  have qL := noLay10B_ac m.lay
  rw [noLay10_eq] at qL
  have qZ := right9_ac m.lay hl hm.lay.n
  rw [show right10 m = false by unfold right10; rw [if_neg h1, if_neg h2, if_neg h3, if_neg h4, if_neg h5, if_neg h6, if_neg h7, if_pos h8]]
  refine acallsK mixed Tryz.func57 rfl [0, 1, 2, 3, 4, 5, 6, 7, 8, 9, 10, 67] 1000 ([.f, .f, .f, .f, .k, .k, .f, .f, .f, .t]) [] [] (v1 := .bool false) (objs1 := []) (ob := [decide (m.kind < (1 : Int)) = false,
 decide (m.kind > (14 : Int)) = false,
 decide (m.of_ < (0 : Int)) = false,
 decide (m.of_ > (13 : Int)) = false,
 (!(m.kind == (14 : Int)) == decide (m.of_ > (0 : Int))) = false,
 decide (m.id < (0 : Int)) = false,
 decide (m.id ≥ (1048576 : Int)) = false,
 decide (m.epoch > (1048576 : Int)) = true]) (by kernel_rfl) (by first | exact rfl | exact ⟨rfl, rfl⟩ | (simp [encM, celM, celC, celL, h1, h2, h3, h4, h5, h6, h7, h8]; done) | (first | omega | exact xor_yes h5 | exact xor_no h5)) ⟨?z0, ?z1, ?z2, ?z3, ?z4, ?z5, ?z6, ?z7, trivial⟩
  case z0|z1|z2|z3|z4|z5|z6|z7 => first | exact rfl | (simp [encM, celM, celC, celL, h1, h2, h3, h4, h5, h6, h7, h8] <;> omega) | omega | (first | omega | exact xor_yes h5 | exact xor_no h5)
theorem right10_e8 (m : MsgD) (hm : m.ok) (hl : ∀ s ∈ m.lay.segs, s.chains.length ≤ 1000000000) (h1 : ¬ (m.kind < 1)) (h2 : ¬ (14 < m.kind)) (h3 : ¬ (m.of_ < 0)) (h4 : ¬ (13 < m.of_)) (h5 : ¬ (¬ (m.kind = 14 ↔ 0 < m.of_))) (h6 : ¬ (m.id < 0)) (h7 : ¬ (1048576 ≤ m.id)) (h8 : ¬ (1048576 < m.epoch)) (h9 : 1048576 < m.addr) : ACalls Tryz.prog 57 [encM m] [] (.bool (right10 m)) [] := by
  have qF := place10_ac m.fr m.fn
  have qT := place10_ac m.tr m.tn
  have qN := noCell10B_ac m.cell
  rw [noCell10_eq] at qN
  have qR := rightR7 m.cell hm.cell.b
  have qS := streams10_ac m.streams hm.st
  have qB := backs10_ac m.backs hm.b
  rw [backs10_eq] at qB
  have qa := ballot10B_ac m.br m.bc
  rw [ballot10_eq] at qa
  have qb := ballot10B_ac m.pr m.pc
  rw [ballot10_eq] at qb
  have qL := noLay10B_ac m.lay
  rw [noLay10_eq] at qL
  have qZ := right9_ac m.lay hl hm.lay.n
  rw [show right10 m = false by unfold right10; rw [if_neg h1, if_neg h2, if_neg h3, if_neg h4, if_neg h5, if_neg h6, if_neg h7, if_neg h8, if_pos h9]]
  refine acallsK mixed Tryz.func57 rfl [0, 1, 2, 3, 4, 5, 6, 7, 8, 9, 10, 67] 1000 ([.f, .f, .f, .f, .k, .k, .f, .f, .f, .f, .t]) [] [] (v1 := .bool false) (objs1 := []) (ob := [decide (m.kind < (1 : Int)) = false,
 decide (m.kind > (14 : Int)) = false,
 decide (m.of_ < (0 : Int)) = false,
 decide (m.of_ > (13 : Int)) = false,
 (!(m.kind == (14 : Int)) == decide (m.of_ > (0 : Int))) = false,
 decide (m.id < (0 : Int)) = false,
 decide (m.id ≥ (1048576 : Int)) = false,
 decide (m.epoch > (1048576 : Int)) = false,
 decide (m.addr > (1048576 : Int)) = true]) (by kernel_rfl) (by first | exact rfl | exact ⟨rfl, rfl⟩ | (simp [encM, celM, celC, celL, h1, h2, h3, h4, h5, h6, h7, h8, h9]; done) | (first | omega | exact xor_yes h5 | exact xor_no h5)) ⟨?z0, ?z1, ?z2, ?z3, ?z4, ?z5, ?z6, ?z7, ?z8, trivial⟩
  case z0|z1|z2|z3|z4|z5|z6|z7|z8 => first | exact rfl | (simp [encM, celM, celC, celL, h1, h2, h3, h4, h5, h6, h7, h8, h9] <;> omega) | omega | (first | omega | exact xor_yes h5 | exact xor_no h5)
theorem right10_e9 (m : MsgD) (hm : m.ok) (hl : ∀ s ∈ m.lay.segs, s.chains.length ≤ 1000000000) (h1 : ¬ (m.kind < 1)) (h2 : ¬ (14 < m.kind)) (h3 : ¬ (m.of_ < 0)) (h4 : ¬ (13 < m.of_)) (h5 : ¬ (¬ (m.kind = 14 ↔ 0 < m.of_))) (h6 : ¬ (m.id < 0)) (h7 : ¬ (1048576 ≤ m.id)) (h8 : ¬ (1048576 < m.epoch)) (h9 : ¬ (1048576 < m.addr)) (h10 : m.err < 0) : ACalls Tryz.prog 57 [encM m] [] (.bool (right10 m)) [] := by
  have qF := place10_ac m.fr m.fn
  have qT := place10_ac m.tr m.tn
  have qN := noCell10B_ac m.cell
  rw [noCell10_eq] at qN
  have qR := rightR7 m.cell hm.cell.b
  have qS := streams10_ac m.streams hm.st
  have qB := backs10_ac m.backs hm.b
  rw [backs10_eq] at qB
  have qa := ballot10B_ac m.br m.bc
  rw [ballot10_eq] at qa
  have qb := ballot10B_ac m.pr m.pc
  rw [ballot10_eq] at qb
  have qL := noLay10B_ac m.lay
  rw [noLay10_eq] at qL
  have qZ := right9_ac m.lay hl hm.lay.n
  rw [show right10 m = false by unfold right10; rw [if_neg h1, if_neg h2, if_neg h3, if_neg h4, if_neg h5, if_neg h6, if_neg h7, if_neg h8, if_neg h9, if_pos h10]]
  refine acallsK mixed Tryz.func57 rfl [0, 1, 2, 3, 4, 5, 6, 7, 8, 9, 10, 67] 1000 ([.f, .f, .f, .f, .k, .k, .f, .f, .f, .f, .f, .t]) [] [] (v1 := .bool false) (objs1 := []) (ob := [decide (m.kind < (1 : Int)) = false,
 decide (m.kind > (14 : Int)) = false,
 decide (m.of_ < (0 : Int)) = false,
 decide (m.of_ > (13 : Int)) = false,
 (!(m.kind == (14 : Int)) == decide (m.of_ > (0 : Int))) = false,
 decide (m.id < (0 : Int)) = false,
 decide (m.id ≥ (1048576 : Int)) = false,
 decide (m.epoch > (1048576 : Int)) = false,
 decide (m.addr > (1048576 : Int)) = false,
 decide (m.err < (0 : Int)) = true]) (by kernel_rfl) (by first | exact rfl | exact ⟨rfl, rfl⟩ | (simp [encM, celM, celC, celL, h1, h2, h3, h4, h5, h6, h7, h8, h9, h10]; done) | (first | omega | exact xor_yes h5 | exact xor_no h5)) ⟨?z0, ?z1, ?z2, ?z3, ?z4, ?z5, ?z6, ?z7, ?z8, ?z9, trivial⟩
  case z0|z1|z2|z3|z4|z5|z6|z7|z8|z9 => first | exact rfl | (simp [encM, celM, celC, celL, h1, h2, h3, h4, h5, h6, h7, h8, h9, h10] <;> omega) | omega | (first | omega | exact xor_yes h5 | exact xor_no h5)
theorem right10_e10 (m : MsgD) (hm : m.ok) (hl : ∀ s ∈ m.lay.segs, s.chains.length ≤ 1000000000) (h1 : ¬ (m.kind < 1)) (h2 : ¬ (14 < m.kind)) (h3 : ¬ (m.of_ < 0)) (h4 : ¬ (13 < m.of_)) (h5 : ¬ (¬ (m.kind = 14 ↔ 0 < m.of_))) (h6 : ¬ (m.id < 0)) (h7 : ¬ (1048576 ≤ m.id)) (h8 : ¬ (1048576 < m.epoch)) (h9 : ¬ (1048576 < m.addr)) (h10 : ¬ (m.err < 0)) (h11 : 255 < m.err) : ACalls Tryz.prog 57 [encM m] [] (.bool (right10 m)) [] := by
  have qF := place10_ac m.fr m.fn
  have qT := place10_ac m.tr m.tn
  have qN := noCell10B_ac m.cell
  rw [noCell10_eq] at qN
  have qR := rightR7 m.cell hm.cell.b
  have qS := streams10_ac m.streams hm.st
  have qB := backs10_ac m.backs hm.b
  rw [backs10_eq] at qB
  have qa := ballot10B_ac m.br m.bc
  rw [ballot10_eq] at qa
  have qb := ballot10B_ac m.pr m.pc
  rw [ballot10_eq] at qb
  have qL := noLay10B_ac m.lay
  rw [noLay10_eq] at qL
  have qZ := right9_ac m.lay hl hm.lay.n
  rw [show right10 m = false by unfold right10; rw [if_neg h1, if_neg h2, if_neg h3, if_neg h4, if_neg h5, if_neg h6, if_neg h7, if_neg h8, if_neg h9, if_neg h10, if_pos h11]]
  refine acallsK mixed Tryz.func57 rfl [0, 1, 2, 3, 4, 5, 6, 7, 8, 9, 10, 67] 1000 ([.f, .f, .f, .f, .k, .k, .f, .f, .f, .f, .f, .f, .t]) [] [] (v1 := .bool false) (objs1 := []) (ob := [decide (m.kind < (1 : Int)) = false,
 decide (m.kind > (14 : Int)) = false,
 decide (m.of_ < (0 : Int)) = false,
 decide (m.of_ > (13 : Int)) = false,
 (!(m.kind == (14 : Int)) == decide (m.of_ > (0 : Int))) = false,
 decide (m.id < (0 : Int)) = false,
 decide (m.id ≥ (1048576 : Int)) = false,
 decide (m.epoch > (1048576 : Int)) = false,
 decide (m.addr > (1048576 : Int)) = false,
 decide (m.err < (0 : Int)) = false,
 decide (m.err > (255 : Int)) = true]) (by kernel_rfl) (by first | exact rfl | exact ⟨rfl, rfl⟩ | (simp [encM, celM, celC, celL, h1, h2, h3, h4, h5, h6, h7, h8, h9, h10, h11]; done) | (first | omega | exact xor_yes h5 | exact xor_no h5)) ⟨?z0, ?z1, ?z2, ?z3, ?z4, ?z5, ?z6, ?z7, ?z8, ?z9, ?z10, trivial⟩
  case z0|z1|z2|z3|z4|z5|z6|z7|z8|z9|z10 => first | exact rfl | (simp [encM, celM, celC, celL, h1, h2, h3, h4, h5, h6, h7, h8, h9, h10, h11] <;> omega) | omega | (first | omega | exact xor_yes h5 | exact xor_no h5)
theorem right10_e11 (m : MsgD) (hm : m.ok) (hl : ∀ s ∈ m.lay.segs, s.chains.length ≤ 1000000000) (h1 : ¬ (m.kind < 1)) (h2 : ¬ (14 < m.kind)) (h3 : ¬ (m.of_ < 0)) (h4 : ¬ (13 < m.of_)) (h5 : ¬ (¬ (m.kind = 14 ↔ 0 < m.of_))) (h6 : ¬ (m.id < 0)) (h7 : ¬ (1048576 ≤ m.id)) (h8 : ¬ (1048576 < m.epoch)) (h9 : ¬ (1048576 < m.addr)) (h10 : ¬ (m.err < 0)) (h11 : ¬ (255 < m.err)) (kF : placeB m.fr m.fn = false) (kN : sameC m.cell cell0 = false) (kL : noLayB m.lay = false) : ACalls Tryz.prog 57 [encM m] [] (.bool (right10 m)) [] := by
  have qF := place10_ac m.fr m.fn
  have qT := place10_ac m.tr m.tn
  have qN := noCell10B_ac m.cell
  rw [noCell10_eq] at qN
  have qR := rightR7 m.cell hm.cell.b
  have qS := streams10_ac m.streams hm.st
  have qB := backs10_ac m.backs hm.b
  rw [backs10_eq] at qB
  have qa := ballot10B_ac m.br m.bc
  rw [ballot10_eq] at qa
  have qb := ballot10B_ac m.pr m.pc
  rw [ballot10_eq] at qb
  have qL := noLay10B_ac m.lay
  rw [noLay10_eq] at qL
  have qZ := right9_ac m.lay hl hm.lay.n
  rw [kF] at qF
  rw [kN] at qN
  rw [kL] at qL
  rw [show right10 m = false by unfold right10; rw [if_neg h1, if_neg h2, if_neg h3, if_neg h4, if_neg h5, if_neg h6, if_neg h7, if_neg h8, if_neg h9, if_neg h10, if_neg h11]; unfold tail10; simp [kF, kN, kL]]
  refine acallsK mixed Tryz.func57 rfl [0, 1, 2, 3, 4, 5, 6, 7, 8, 9, 10, 67] 1000 ([.f, .f, .f, .f, .k, .k, .f, .f, .f, .f, .f, .f, .f, .call [] false true (.bool false) [], .call [] false true (.bool (placeB m.tr m.tn)) [], .call [] false true (.bool false) [], .call [] false true (.bool (rightC m.cell)) [], .call [] false true (.bool (streamsB m.streams)) [], .call [] false true (.bool (backsB m.backs)) [], .call [] false true (.bool (ballotB m.br m.bc)) [], .call [] false true (.bool (ballotB m.pr m.pc)) [], .call [] false true (.bool false) [], .call [] false true (.bool (rightL m.lay)) []]) [] [] (v1 := .bool false) (objs1 := []) (ob := [decide (m.kind < (1 : Int)) = false,
 decide (m.kind > (14 : Int)) = false,
 decide (m.of_ < (0 : Int)) = false,
 decide (m.of_ > (13 : Int)) = false,
 (!(m.kind == (14 : Int)) == decide (m.of_ > (0 : Int))) = false,
 decide (m.id < (0 : Int)) = false,
 decide (m.id ≥ (1048576 : Int)) = false,
 decide (m.epoch > (1048576 : Int)) = false,
 decide (m.addr > (1048576 : Int)) = false,
 decide (m.err < (0 : Int)) = false,
 decide (m.err > (255 : Int)) = false,
 ACalls Tryz.prog 96 [.agg [.int .i64 m.fr, .int .i64 m.fn]] [] (.bool false) [],
 ACalls Tryz.prog 96 [.agg [.int .i64 m.tr, .int .i64 m.tn]] [] (.bool (placeB m.tr m.tn)) [],
 ACalls Tryz.prog 97 [(encC m.cell)] [] (.bool false) [],
 ACalls Tryz.prog 47 [(encC m.cell)] [] (.bool (rightC m.cell)) [],
 ACalls Tryz.prog 98 [.lst 1 (List.map intA m.streams)] [] (.bool (streamsB m.streams)) [],
 ACalls Tryz.prog 99 [.lst 3 (List.map encB m.backs)] [] (.bool (backsB m.backs)) [],
 ACalls Tryz.prog 100 [.agg [.int .i64 m.br, .int .i64 m.bc]] [] (.bool (ballotB m.br m.bc)) [],
 ACalls Tryz.prog 100 [.agg [.int .i64 m.pr, .int .i64 m.pc]] [] (.bool (ballotB m.pr m.pc)) [],
 ACalls Tryz.prog 101 [(encL m.lay)] [] (.bool false) [],
 ACalls Tryz.prog 46 [(encL m.lay)] [] (.bool (rightL m.lay)) []]) (by kernel_rfl) (by first | exact rfl | exact ⟨rfl, rfl⟩ | (simp [encM, celM, celC, celL, h1, h2, h3, h4, h5, h6, h7, h8, h9, h10, h11, kF, kN, kL]; done) | (first | omega | exact xor_yes h5 | exact xor_no h5)) ⟨?z0, ?z1, ?z2, ?z3, ?z4, ?z5, ?z6, ?z7, ?z8, ?z9, ?z10, ?q227_1, ?q227_2, ?q227_3, ?q227_4, ?q227_5, ?q227_6, ?q227_7, ?q227_8, ?q227_9, ?q227_10, trivial⟩
  case z0|z1|z2|z3|z4|z5|z6|z7|z8|z9|z10 => first | exact rfl | (simp [encM, celM, celC, celL, h1, h2, h3, h4, h5, h6, h7, h8, h9, h10, h11, kF, kN, kL] <;> omega) | omega | (first | omega | exact xor_yes h5 | exact xor_no h5)
  · exact qF
  · exact qT
  · exact qN
  · exact qR
  · exact qS
  · exact qB
  · exact qa
  · exact qb
  · exact qL
  · exact qZ
theorem right10_e12 (m : MsgD) (hm : m.ok) (hl : ∀ s ∈ m.lay.segs, s.chains.length ≤ 1000000000) (h1 : ¬ (m.kind < 1)) (h2 : ¬ (14 < m.kind)) (h3 : ¬ (m.of_ < 0)) (h4 : ¬ (13 < m.of_)) (h5 : ¬ (¬ (m.kind = 14 ↔ 0 < m.of_))) (h6 : ¬ (m.id < 0)) (h7 : ¬ (1048576 ≤ m.id)) (h8 : ¬ (1048576 < m.epoch)) (h9 : ¬ (1048576 < m.addr)) (h10 : ¬ (m.err < 0)) (h11 : ¬ (255 < m.err)) (kF : placeB m.fr m.fn = true) (kT : placeB m.tr m.tn = false) (kN : sameC m.cell cell0 = false) (kL : noLayB m.lay = false) : ACalls Tryz.prog 57 [encM m] [] (.bool (right10 m)) [] := by
  have qF := place10_ac m.fr m.fn
  have qT := place10_ac m.tr m.tn
  have qN := noCell10B_ac m.cell
  rw [noCell10_eq] at qN
  have qR := rightR7 m.cell hm.cell.b
  have qS := streams10_ac m.streams hm.st
  have qB := backs10_ac m.backs hm.b
  rw [backs10_eq] at qB
  have qa := ballot10B_ac m.br m.bc
  rw [ballot10_eq] at qa
  have qb := ballot10B_ac m.pr m.pc
  rw [ballot10_eq] at qb
  have qL := noLay10B_ac m.lay
  rw [noLay10_eq] at qL
  have qZ := right9_ac m.lay hl hm.lay.n
  rw [kF] at qF
  rw [kT] at qT
  rw [kN] at qN
  rw [kL] at qL
  rw [show right10 m = false by unfold right10; rw [if_neg h1, if_neg h2, if_neg h3, if_neg h4, if_neg h5, if_neg h6, if_neg h7, if_neg h8, if_neg h9, if_neg h10, if_neg h11]; unfold tail10; simp [kF, kT, kN, kL]]
  refine acallsK mixed Tryz.func57 rfl [0, 1, 2, 3, 4, 5, 6, 7, 8, 9, 10, 67] 1000 ([.f, .f, .f, .f, .k, .k, .f, .f, .f, .f, .f, .f, .f, .call [] false true (.bool true) [], .call [] false true (.bool false) [], .call [] false true (.bool false) [], .call [] false true (.bool (rightC m.cell)) [], .call [] false true (.bool (streamsB m.streams)) [], .call [] false true (.bool (backsB m.backs)) [], .call [] false true (.bool (ballotB m.br m.bc)) [], .call [] false true (.bool (ballotB m.pr m.pc)) [], .call [] false true (.bool false) [], .call [] false true (.bool (rightL m.lay)) []]) [] [] (v1 := .bool false) (objs1 := []) (ob := [decide (m.kind < (1 : Int)) = false,
 decide (m.kind > (14 : Int)) = false,
 decide (m.of_ < (0 : Int)) = false,
 decide (m.of_ > (13 : Int)) = false,
 (!(m.kind == (14 : Int)) == decide (m.of_ > (0 : Int))) = false,
 decide (m.id < (0 : Int)) = false,
 decide (m.id ≥ (1048576 : Int)) = false,
 decide (m.epoch > (1048576 : Int)) = false,
 decide (m.addr > (1048576 : Int)) = false,
 decide (m.err < (0 : Int)) = false,
 decide (m.err > (255 : Int)) = false,
 ACalls Tryz.prog 96 [.agg [.int .i64 m.fr, .int .i64 m.fn]] [] (.bool true) [],
 ACalls Tryz.prog 96 [.agg [.int .i64 m.tr, .int .i64 m.tn]] [] (.bool false) [],
 ACalls Tryz.prog 97 [(encC m.cell)] [] (.bool false) [],
 ACalls Tryz.prog 47 [(encC m.cell)] [] (.bool (rightC m.cell)) [],
 ACalls Tryz.prog 98 [.lst 1 (List.map intA m.streams)] [] (.bool (streamsB m.streams)) [],
 ACalls Tryz.prog 99 [.lst 3 (List.map encB m.backs)] [] (.bool (backsB m.backs)) [],
 ACalls Tryz.prog 100 [.agg [.int .i64 m.br, .int .i64 m.bc]] [] (.bool (ballotB m.br m.bc)) [],
 ACalls Tryz.prog 100 [.agg [.int .i64 m.pr, .int .i64 m.pc]] [] (.bool (ballotB m.pr m.pc)) [],
 ACalls Tryz.prog 101 [(encL m.lay)] [] (.bool false) [],
 ACalls Tryz.prog 46 [(encL m.lay)] [] (.bool (rightL m.lay)) []]) (by kernel_rfl) (by first | exact rfl | exact ⟨rfl, rfl⟩ | (simp [encM, celM, celC, celL, h1, h2, h3, h4, h5, h6, h7, h8, h9, h10, h11, kF, kT, kN, kL]; done) | (first | omega | exact xor_yes h5 | exact xor_no h5)) ⟨?z0, ?z1, ?z2, ?z3, ?z4, ?z5, ?z6, ?z7, ?z8, ?z9, ?z10, ?q259_1, ?q259_2, ?q259_3, ?q259_4, ?q259_5, ?q259_6, ?q259_7, ?q259_8, ?q259_9, ?q259_10, trivial⟩
  case z0|z1|z2|z3|z4|z5|z6|z7|z8|z9|z10 => first | exact rfl | (simp [encM, celM, celC, celL, h1, h2, h3, h4, h5, h6, h7, h8, h9, h10, h11, kF, kT, kN, kL] <;> omega) | omega | (first | omega | exact xor_yes h5 | exact xor_no h5)
  · exact qF
  · exact qT
  · exact qN
  · exact qR
  · exact qS
  · exact qB
  · exact qa
  · exact qb
  · exact qL
  · exact qZ
theorem right10_e13 (m : MsgD) (hm : m.ok) (hl : ∀ s ∈ m.lay.segs, s.chains.length ≤ 1000000000) (h1 : ¬ (m.kind < 1)) (h2 : ¬ (14 < m.kind)) (h3 : ¬ (m.of_ < 0)) (h4 : ¬ (13 < m.of_)) (h5 : ¬ (¬ (m.kind = 14 ↔ 0 < m.of_))) (h6 : ¬ (m.id < 0)) (h7 : ¬ (1048576 ≤ m.id)) (h8 : ¬ (1048576 < m.epoch)) (h9 : ¬ (1048576 < m.addr)) (h10 : ¬ (m.err < 0)) (h11 : ¬ (255 < m.err)) (kF : placeB m.fr m.fn = true) (kT : placeB m.tr m.tn = true) (kN : sameC m.cell cell0 = false) (kR : rightC m.cell = false) (kL : noLayB m.lay = false) : ACalls Tryz.prog 57 [encM m] [] (.bool (right10 m)) [] := by
  have qF := place10_ac m.fr m.fn
  have qT := place10_ac m.tr m.tn
  have qN := noCell10B_ac m.cell
  rw [noCell10_eq] at qN
  have qR := rightR7 m.cell hm.cell.b
  have qS := streams10_ac m.streams hm.st
  have qB := backs10_ac m.backs hm.b
  rw [backs10_eq] at qB
  have qa := ballot10B_ac m.br m.bc
  rw [ballot10_eq] at qa
  have qb := ballot10B_ac m.pr m.pc
  rw [ballot10_eq] at qb
  have qL := noLay10B_ac m.lay
  rw [noLay10_eq] at qL
  have qZ := right9_ac m.lay hl hm.lay.n
  rw [kF] at qF
  rw [kT] at qT
  rw [kN] at qN
  rw [kR] at qR
  rw [kL] at qL
  rw [show right10 m = false by unfold right10; rw [if_neg h1, if_neg h2, if_neg h3, if_neg h4, if_neg h5, if_neg h6, if_neg h7, if_neg h8, if_neg h9, if_neg h10, if_neg h11]; unfold tail10; simp [kF, kT, kN, kR, kL]]
  refine acallsK mixed Tryz.func57 rfl [0, 1, 2, 3, 4, 5, 6, 7, 8, 9, 10, 67] 1000 ([.f, .f, .f, .f, .k, .k, .f, .f, .f, .f, .f, .f, .f, .call [] false true (.bool true) [], .call [] false true (.bool true) [], .call [] false true (.bool false) [], .call [] false true (.bool false) [], .call [] false true (.bool (streamsB m.streams)) [], .call [] false true (.bool (backsB m.backs)) [], .call [] false true (.bool (ballotB m.br m.bc)) [], .call [] false true (.bool (ballotB m.pr m.pc)) [], .call [] false true (.bool false) [], .call [] false true (.bool (rightL m.lay)) []]) [] [] (v1 := .bool false) (objs1 := []) (ob := [decide (m.kind < (1 : Int)) = false,
 decide (m.kind > (14 : Int)) = false,
 decide (m.of_ < (0 : Int)) = false,
 decide (m.of_ > (13 : Int)) = false,
 (!(m.kind == (14 : Int)) == decide (m.of_ > (0 : Int))) = false,
 decide (m.id < (0 : Int)) = false,
 decide (m.id ≥ (1048576 : Int)) = false,
 decide (m.epoch > (1048576 : Int)) = false,
 decide (m.addr > (1048576 : Int)) = false,
 decide (m.err < (0 : Int)) = false,
 decide (m.err > (255 : Int)) = false,
 ACalls Tryz.prog 96 [.agg [.int .i64 m.fr, .int .i64 m.fn]] [] (.bool true) [],
 ACalls Tryz.prog 96 [.agg [.int .i64 m.tr, .int .i64 m.tn]] [] (.bool true) [],
 ACalls Tryz.prog 97 [(encC m.cell)] [] (.bool false) [],
 ACalls Tryz.prog 47 [(encC m.cell)] [] (.bool false) [],
 ACalls Tryz.prog 98 [.lst 1 (List.map intA m.streams)] [] (.bool (streamsB m.streams)) [],
 ACalls Tryz.prog 99 [.lst 3 (List.map encB m.backs)] [] (.bool (backsB m.backs)) [],
 ACalls Tryz.prog 100 [.agg [.int .i64 m.br, .int .i64 m.bc]] [] (.bool (ballotB m.br m.bc)) [],
 ACalls Tryz.prog 100 [.agg [.int .i64 m.pr, .int .i64 m.pc]] [] (.bool (ballotB m.pr m.pc)) [],
 ACalls Tryz.prog 101 [(encL m.lay)] [] (.bool false) [],
 ACalls Tryz.prog 46 [(encL m.lay)] [] (.bool (rightL m.lay)) []]) (by kernel_rfl) (by first | exact rfl | exact ⟨rfl, rfl⟩ | (simp [encM, celM, celC, celL, h1, h2, h3, h4, h5, h6, h7, h8, h9, h10, h11, kF, kT, kN, kR, kL]; done) | (first | omega | exact xor_yes h5 | exact xor_no h5)) ⟨?z0, ?z1, ?z2, ?z3, ?z4, ?z5, ?z6, ?z7, ?z8, ?z9, ?z10, ?q292_1, ?q292_2, ?q292_3, ?q292_4, ?q292_5, ?q292_6, ?q292_7, ?q292_8, ?q292_9, ?q292_10, trivial⟩
  case z0|z1|z2|z3|z4|z5|z6|z7|z8|z9|z10 => first | exact rfl | (simp [encM, celM, celC, celL, h1, h2, h3, h4, h5, h6, h7, h8, h9, h10, h11, kF, kT, kN, kR, kL] <;> omega) | omega | (first | omega | exact xor_yes h5 | exact xor_no h5)
  · exact qF
  · exact qT
  · exact qN
  · exact qR
  · exact qS
  · exact qB
  · exact qa
  · exact qb
  · exact qL
  · exact qZ
theorem right10_e14 (m : MsgD) (hm : m.ok) (hl : ∀ s ∈ m.lay.segs, s.chains.length ≤ 1000000000) (h1 : ¬ (m.kind < 1)) (h2 : ¬ (14 < m.kind)) (h3 : ¬ (m.of_ < 0)) (h4 : ¬ (13 < m.of_)) (h5 : ¬ (¬ (m.kind = 14 ↔ 0 < m.of_))) (h6 : ¬ (m.id < 0)) (h7 : ¬ (1048576 ≤ m.id)) (h8 : ¬ (1048576 < m.epoch)) (h9 : ¬ (1048576 < m.addr)) (h10 : ¬ (m.err < 0)) (h11 : ¬ (255 < m.err)) (kF : placeB m.fr m.fn = true) (kT : placeB m.tr m.tn = true) (kN : sameC m.cell cell0 = false) (kR : rightC m.cell = true) (kS : streamsB m.streams = false) (kL : noLayB m.lay = false) : ACalls Tryz.prog 57 [encM m] [] (.bool (right10 m)) [] := by
  have qF := place10_ac m.fr m.fn
  have qT := place10_ac m.tr m.tn
  have qN := noCell10B_ac m.cell
  rw [noCell10_eq] at qN
  have qR := rightR7 m.cell hm.cell.b
  have qS := streams10_ac m.streams hm.st
  have qB := backs10_ac m.backs hm.b
  rw [backs10_eq] at qB
  have qa := ballot10B_ac m.br m.bc
  rw [ballot10_eq] at qa
  have qb := ballot10B_ac m.pr m.pc
  rw [ballot10_eq] at qb
  have qL := noLay10B_ac m.lay
  rw [noLay10_eq] at qL
  have qZ := right9_ac m.lay hl hm.lay.n
  rw [kF] at qF
  rw [kT] at qT
  rw [kN] at qN
  rw [kR] at qR
  rw [kS] at qS
  rw [kL] at qL
  rw [show right10 m = false by unfold right10; rw [if_neg h1, if_neg h2, if_neg h3, if_neg h4, if_neg h5, if_neg h6, if_neg h7, if_neg h8, if_neg h9, if_neg h10, if_neg h11]; unfold tail10; simp [kF, kT, kN, kR, kS, kL]]
  refine acallsK mixed Tryz.func57 rfl [0, 1, 2, 3, 4, 5, 6, 7, 8, 9, 10, 67] 1000 ([.f, .f, .f, .f, .k, .k, .f, .f, .f, .f, .f, .f, .f, .call [] false true (.bool true) [], .call [] false true (.bool true) [], .call [] false true (.bool false) [], .call [] false true (.bool true) [], .call [] false true (.bool false) [], .call [] false true (.bool (backsB m.backs)) [], .call [] false true (.bool (ballotB m.br m.bc)) [], .call [] false true (.bool (ballotB m.pr m.pc)) [], .call [] false true (.bool false) [], .call [] false true (.bool (rightL m.lay)) []]) [] [] (v1 := .bool false) (objs1 := []) (ob := [decide (m.kind < (1 : Int)) = false,
 decide (m.kind > (14 : Int)) = false,
 decide (m.of_ < (0 : Int)) = false,
 decide (m.of_ > (13 : Int)) = false,
 (!(m.kind == (14 : Int)) == decide (m.of_ > (0 : Int))) = false,
 decide (m.id < (0 : Int)) = false,
 decide (m.id ≥ (1048576 : Int)) = false,
 decide (m.epoch > (1048576 : Int)) = false,
 decide (m.addr > (1048576 : Int)) = false,
 decide (m.err < (0 : Int)) = false,
 decide (m.err > (255 : Int)) = false,
 ACalls Tryz.prog 96 [.agg [.int .i64 m.fr, .int .i64 m.fn]] [] (.bool true) [],
 ACalls Tryz.prog 96 [.agg [.int .i64 m.tr, .int .i64 m.tn]] [] (.bool true) [],
 ACalls Tryz.prog 97 [(encC m.cell)] [] (.bool false) [],
 ACalls Tryz.prog 47 [(encC m.cell)] [] (.bool true) [],
 ACalls Tryz.prog 98 [.lst 1 (List.map intA m.streams)] [] (.bool false) [],
 ACalls Tryz.prog 99 [.lst 3 (List.map encB m.backs)] [] (.bool (backsB m.backs)) [],
 ACalls Tryz.prog 100 [.agg [.int .i64 m.br, .int .i64 m.bc]] [] (.bool (ballotB m.br m.bc)) [],
 ACalls Tryz.prog 100 [.agg [.int .i64 m.pr, .int .i64 m.pc]] [] (.bool (ballotB m.pr m.pc)) [],
 ACalls Tryz.prog 101 [(encL m.lay)] [] (.bool false) [],
 ACalls Tryz.prog 46 [(encL m.lay)] [] (.bool (rightL m.lay)) []]) (by kernel_rfl) (by first | exact rfl | exact ⟨rfl, rfl⟩ | (simp [encM, celM, celC, celL, h1, h2, h3, h4, h5, h6, h7, h8, h9, h10, h11, kF, kT, kN, kR, kS, kL]; done) | (first | omega | exact xor_yes h5 | exact xor_no h5)) ⟨?z0, ?z1, ?z2, ?z3, ?z4, ?z5, ?z6, ?z7, ?z8, ?z9, ?z10, ?q326_1, ?q326_2, ?q326_3, ?q326_4, ?q326_5, ?q326_6, ?q326_7, ?q326_8, ?q326_9, ?q326_10, trivial⟩
  case z0|z1|z2|z3|z4|z5|z6|z7|z8|z9|z10 => first | exact rfl | (simp [encM, celM, celC, celL, h1, h2, h3, h4, h5, h6, h7, h8, h9, h10, h11, kF, kT, kN, kR, kS, kL] <;> omega) | omega | (first | omega | exact xor_yes h5 | exact xor_no h5)
  · exact qF
  · exact qT
  · exact qN
  · exact qR
  · exact qS
  · exact qB
  · exact qa
  · exact qb
  · exact qL
  · exact qZ
theorem right10_e15 (m : MsgD) (hm : m.ok) (hl : ∀ s ∈ m.lay.segs, s.chains.length ≤ 1000000000) (h1 : ¬ (m.kind < 1)) (h2 : ¬ (14 < m.kind)) (h3 : ¬ (m.of_ < 0)) (h4 : ¬ (13 < m.of_)) (h5 : ¬ (¬ (m.kind = 14 ↔ 0 < m.of_))) (h6 : ¬ (m.id < 0)) (h7 : ¬ (1048576 ≤ m.id)) (h8 : ¬ (1048576 < m.epoch)) (h9 : ¬ (1048576 < m.addr)) (h10 : ¬ (m.err < 0)) (h11 : ¬ (255 < m.err)) (kF : placeB m.fr m.fn = true) (kT : placeB m.tr m.tn = true) (kN : sameC m.cell cell0 = false) (kR : rightC m.cell = true) (kS : streamsB m.streams = true) (kB : backsB m.backs = false) (kL : noLayB m.lay = false) : ACalls Tryz.prog 57 [encM m] [] (.bool (right10 m)) [] := by
  have qF := place10_ac m.fr m.fn
  have qT := place10_ac m.tr m.tn
  have qN := noCell10B_ac m.cell
  rw [noCell10_eq] at qN
  have qR := rightR7 m.cell hm.cell.b
  have qS := streams10_ac m.streams hm.st
  have qB := backs10_ac m.backs hm.b
  rw [backs10_eq] at qB
  have qa := ballot10B_ac m.br m.bc
  rw [ballot10_eq] at qa
  have qb := ballot10B_ac m.pr m.pc
  rw [ballot10_eq] at qb
  have qL := noLay10B_ac m.lay
  rw [noLay10_eq] at qL
  have qZ := right9_ac m.lay hl hm.lay.n
  rw [kF] at qF
  rw [kT] at qT
  rw [kN] at qN
  rw [kR] at qR
  rw [kS] at qS
  rw [kB] at qB
  rw [kL] at qL
  rw [show right10 m = false by unfold right10; rw [if_neg h1, if_neg h2, if_neg h3, if_neg h4, if_neg h5, if_neg h6, if_neg h7, if_neg h8, if_neg h9, if_neg h10, if_neg h11]; unfold tail10; simp [kF, kT, kN, kR, kS, kB, kL]]
  refine acallsK mixed Tryz.func57 rfl [0, 1, 2, 3, 4, 5, 6, 7, 8, 9, 10, 67] 1000 ([.f, .f, .f, .f, .k, .k, .f, .f, .f, .f, .f, .f, .f, .call [] false true (.bool true) [], .call [] false true (.bool true) [], .call [] false true (.bool false) [], .call [] false true (.bool true) [], .call [] false true (.bool true) [], .call [] false true (.bool false) [], .call [] false true (.bool (ballotB m.br m.bc)) [], .call [] false true (.bool (ballotB m.pr m.pc)) [], .call [] false true (.bool false) [], .call [] false true (.bool (rightL m.lay)) []]) [] [] (v1 := .bool false) (objs1 := []) (ob := [decide (m.kind < (1 : Int)) = false,
 decide (m.kind > (14 : Int)) = false,
 decide (m.of_ < (0 : Int)) = false,
 decide (m.of_ > (13 : Int)) = false,
 (!(m.kind == (14 : Int)) == decide (m.of_ > (0 : Int))) = false,
 decide (m.id < (0 : Int)) = false,
 decide (m.id ≥ (1048576 : Int)) = false,
 decide (m.epoch > (1048576 : Int)) = false,
 decide (m.addr > (1048576 : Int)) = false,
 decide (m.err < (0 : Int)) = false,
 decide (m.err > (255 : Int)) = false,
 ACalls Tryz.prog 96 [.agg [.int .i64 m.fr, .int .i64 m.fn]] [] (.bool true) [],
 ACalls Tryz.prog 96 [.agg [.int .i64 m.tr, .int .i64 m.tn]] [] (.bool true) [],
 ACalls Tryz.prog 97 [(encC m.cell)] [] (.bool false) [],
 ACalls Tryz.prog 47 [(encC m.cell)] [] (.bool true) [],
 ACalls Tryz.prog 98 [.lst 1 (List.map intA m.streams)] [] (.bool true) [],
 ACalls Tryz.prog 99 [.lst 3 (List.map encB m.backs)] [] (.bool false) [],
 ACalls Tryz.prog 100 [.agg [.int .i64 m.br, .int .i64 m.bc]] [] (.bool (ballotB m.br m.bc)) [],
 ACalls Tryz.prog 100 [.agg [.int .i64 m.pr, .int .i64 m.pc]] [] (.bool (ballotB m.pr m.pc)) [],
 ACalls Tryz.prog 101 [(encL m.lay)] [] (.bool false) [],
 ACalls Tryz.prog 46 [(encL m.lay)] [] (.bool (rightL m.lay)) []]) (by kernel_rfl) (by first | exact rfl | exact ⟨rfl, rfl⟩ | (simp [encM, celM, celC, celL, h1, h2, h3, h4, h5, h6, h7, h8, h9, h10, h11, kF, kT, kN, kR, kS, kB, kL]; done) | (first | omega | exact xor_yes h5 | exact xor_no h5)) ⟨?z0, ?z1, ?z2, ?z3, ?z4, ?z5, ?z6, ?z7, ?z8, ?z9, ?z10, ?q361_1, ?q361_2, ?q361_3, ?q361_4, ?q361_5, ?q361_6, ?q361_7, ?q361_8, ?q361_9, ?q361_10, trivial⟩
  case z0|z1|z2|z3|z4|z5|z6|z7|z8|z9|z10 => first | exact rfl | (simp [encM, celM, celC, celL, h1, h2, h3, h4, h5, h6, h7, h8, h9, h10, h11, kF, kT, kN, kR, kS, kB, kL] <;> omega) | omega | (first | omega | exact xor_yes h5 | exact xor_no h5)
  · exact qF
  · exact qT
  · exact qN
  · exact qR
  · exact qS
  · exact qB
  · exact qa
  · exact qb
  · exact qL
  · exact qZ
theorem right10_e16 (m : MsgD) (hm : m.ok) (hl : ∀ s ∈ m.lay.segs, s.chains.length ≤ 1000000000) (h1 : ¬ (m.kind < 1)) (h2 : ¬ (14 < m.kind)) (h3 : ¬ (m.of_ < 0)) (h4 : ¬ (13 < m.of_)) (h5 : ¬ (¬ (m.kind = 14 ↔ 0 < m.of_))) (h6 : ¬ (m.id < 0)) (h7 : ¬ (1048576 ≤ m.id)) (h8 : ¬ (1048576 < m.epoch)) (h9 : ¬ (1048576 < m.addr)) (h10 : ¬ (m.err < 0)) (h11 : ¬ (255 < m.err)) (kF : placeB m.fr m.fn = true) (kT : placeB m.tr m.tn = true) (kN : sameC m.cell cell0 = false) (kR : rightC m.cell = true) (kS : streamsB m.streams = true) (kB : backsB m.backs = true) (ka : ballotB m.br m.bc = false) (kL : noLayB m.lay = false) : ACalls Tryz.prog 57 [encM m] [] (.bool (right10 m)) [] := by
  have qF := place10_ac m.fr m.fn
  have qT := place10_ac m.tr m.tn
  have qN := noCell10B_ac m.cell
  rw [noCell10_eq] at qN
  have qR := rightR7 m.cell hm.cell.b
  have qS := streams10_ac m.streams hm.st
  have qB := backs10_ac m.backs hm.b
  rw [backs10_eq] at qB
  have qa := ballot10B_ac m.br m.bc
  rw [ballot10_eq] at qa
  have qb := ballot10B_ac m.pr m.pc
  rw [ballot10_eq] at qb
  have qL := noLay10B_ac m.lay
  rw [noLay10_eq] at qL
  have qZ := right9_ac m.lay hl hm.lay.n
  rw [kF] at qF
  rw [kT] at qT
  rw [kN] at qN
  rw [kR] at qR
  rw [kS] at qS
  rw [kB] at qB
  rw [ka] at qa
  rw [kL] at qL
  rw [show right10 m = false by unfold right10; rw [if_neg h1, if_neg h2, if_neg h3, if_neg h4, if_neg h5, if_neg h6, if_neg h7, if_neg h8, if_neg h9, if_neg h10, if_neg h11]; unfold tail10; simp [kF, kT, kN, kR, kS, kB, ka, kL]]
  refine acallsK mixed Tryz.func57 rfl [0, 1, 2, 3, 4, 5, 6, 7, 8, 9, 10, 67] 1000 ([.f, .f, .f, .f, .k, .k, .f, .f, .f, .f, .f, .f, .f, .call [] false true (.bool true) [], .call [] false true (.bool true) [], .call [] false true (.bool false) [], .call [] false true (.bool true) [], .call [] false true (.bool true) [], .call [] false true (.bool true) [], .call [] false true (.bool false) [], .call [] false true (.bool (ballotB m.pr m.pc)) [], .call [] false true (.bool false) [], .call [] false true (.bool (rightL m.lay)) []]) [] [] (v1 := .bool false) (objs1 := []) (ob := [decide (m.kind < (1 : Int)) = false,
 decide (m.kind > (14 : Int)) = false,
 decide (m.of_ < (0 : Int)) = false,
 decide (m.of_ > (13 : Int)) = false,
 (!(m.kind == (14 : Int)) == decide (m.of_ > (0 : Int))) = false,
 decide (m.id < (0 : Int)) = false,
 decide (m.id ≥ (1048576 : Int)) = false,
 decide (m.epoch > (1048576 : Int)) = false,
 decide (m.addr > (1048576 : Int)) = false,
 decide (m.err < (0 : Int)) = false,
 decide (m.err > (255 : Int)) = false,
 ACalls Tryz.prog 96 [.agg [.int .i64 m.fr, .int .i64 m.fn]] [] (.bool true) [],
 ACalls Tryz.prog 96 [.agg [.int .i64 m.tr, .int .i64 m.tn]] [] (.bool true) [],
 ACalls Tryz.prog 97 [(encC m.cell)] [] (.bool false) [],
 ACalls Tryz.prog 47 [(encC m.cell)] [] (.bool true) [],
 ACalls Tryz.prog 98 [.lst 1 (List.map intA m.streams)] [] (.bool true) [],
 ACalls Tryz.prog 99 [.lst 3 (List.map encB m.backs)] [] (.bool true) [],
 ACalls Tryz.prog 100 [.agg [.int .i64 m.br, .int .i64 m.bc]] [] (.bool false) [],
 ACalls Tryz.prog 100 [.agg [.int .i64 m.pr, .int .i64 m.pc]] [] (.bool (ballotB m.pr m.pc)) [],
 ACalls Tryz.prog 101 [(encL m.lay)] [] (.bool false) [],
 ACalls Tryz.prog 46 [(encL m.lay)] [] (.bool (rightL m.lay)) []]) (by kernel_rfl) (by first | exact rfl | exact ⟨rfl, rfl⟩ | (simp [encM, celM, celC, celL, h1, h2, h3, h4, h5, h6, h7, h8, h9, h10, h11, kF, kT, kN, kR, kS, kB, ka, kL]; done) | (first | omega | exact xor_yes h5 | exact xor_no h5)) ⟨?z0, ?z1, ?z2, ?z3, ?z4, ?z5, ?z6, ?z7, ?z8, ?z9, ?z10, ?q397_1, ?q397_2, ?q397_3, ?q397_4, ?q397_5, ?q397_6, ?q397_7, ?q397_8, ?q397_9, ?q397_10, trivial⟩
  case z0|z1|z2|z3|z4|z5|z6|z7|z8|z9|z10 => first | exact rfl | (simp [encM, celM, celC, celL, h1, h2, h3, h4, h5, h6, h7, h8, h9, h10, h11, kF, kT, kN, kR, kS, kB, ka, kL] <;> omega) | omega | (first | omega | exact xor_yes h5 | exact xor_no h5)
  · exact qF
  · exact qT
  · exact qN
  · exact qR
  · exact qS
  · exact qB
  · exact qa
  · exact qb
  · exact qL
  · exact qZ
theorem right10_e17 (m : MsgD) (hm : m.ok) (hl : ∀ s ∈ m.lay.segs, s.chains.length ≤ 1000000000) (h1 : ¬ (m.kind < 1)) (h2 : ¬ (14 < m.kind)) (h3 : ¬ (m.of_ < 0)) (h4 : ¬ (13 < m.of_)) (h5 : ¬ (¬ (m.kind = 14 ↔ 0 < m.of_))) (h6 : ¬ (m.id < 0)) (h7 : ¬ (1048576 ≤ m.id)) (h8 : ¬ (1048576 < m.epoch)) (h9 : ¬ (1048576 < m.addr)) (h10 : ¬ (m.err < 0)) (h11 : ¬ (255 < m.err)) (kF : placeB m.fr m.fn = true) (kT : placeB m.tr m.tn = true) (kN : sameC m.cell cell0 = false) (kR : rightC m.cell = true) (kS : streamsB m.streams = true) (kB : backsB m.backs = true) (ka : ballotB m.br m.bc = true) (kb : ballotB m.pr m.pc = false) (kL : noLayB m.lay = false) : ACalls Tryz.prog 57 [encM m] [] (.bool (right10 m)) [] := by
  have qF := place10_ac m.fr m.fn
  have qT := place10_ac m.tr m.tn
  have qN := noCell10B_ac m.cell
  rw [noCell10_eq] at qN
  have qR := rightR7 m.cell hm.cell.b
  have qS := streams10_ac m.streams hm.st
  have qB := backs10_ac m.backs hm.b
  rw [backs10_eq] at qB
  have qa := ballot10B_ac m.br m.bc
  rw [ballot10_eq] at qa
  have qb := ballot10B_ac m.pr m.pc
  rw [ballot10_eq] at qb
  have qL := noLay10B_ac m.lay
  rw [noLay10_eq] at qL
  have qZ := right9_ac m.lay hl hm.lay.n
  rw [kF] at qF
  rw [kT] at qT
  rw [kN] at qN
  rw [kR] at qR
  rw [kS] at qS
  rw [kB] at qB
  rw [ka] at qa
  rw [kb] at qb
  rw [kL] at qL
  rw [show right10 m = false by unfold right10; rw [if_neg h1, if_neg h2, if_neg h3, if_neg h4, if_neg h5, if_neg h6, if_neg h7, if_neg h8, if_neg h9, if_neg h10, if_neg h11]; unfold tail10; simp [kF, kT, kN, kR, kS, kB, ka, kb, kL]]
  refine acallsK mixed Tryz.func57 rfl [0, 1, 2, 3, 4, 5, 6, 7, 8, 9, 10, 67] 1000 ([.f, .f, .f, .f, .k, .k, .f, .f, .f, .f, .f, .f, .f, .call [] false true (.bool true) [], .call [] false true (.bool true) [], .call [] false true (.bool false) [], .call [] false true (.bool true) [], .call [] false true (.bool true) [], .call [] false true (.bool true) [], .call [] false true (.bool true) [], .call [] false true (.bool false) [], .call [] false true (.bool false) [], .call [] false true (.bool (rightL m.lay)) []]) [] [] (v1 := .bool false) (objs1 := []) (ob := [decide (m.kind < (1 : Int)) = false,
 decide (m.kind > (14 : Int)) = false,
 decide (m.of_ < (0 : Int)) = false,
 decide (m.of_ > (13 : Int)) = false,
 (!(m.kind == (14 : Int)) == decide (m.of_ > (0 : Int))) = false,
 decide (m.id < (0 : Int)) = false,
 decide (m.id ≥ (1048576 : Int)) = false,
 decide (m.epoch > (1048576 : Int)) = false,
 decide (m.addr > (1048576 : Int)) = false,
 decide (m.err < (0 : Int)) = false,
 decide (m.err > (255 : Int)) = false,
 ACalls Tryz.prog 96 [.agg [.int .i64 m.fr, .int .i64 m.fn]] [] (.bool true) [],
 ACalls Tryz.prog 96 [.agg [.int .i64 m.tr, .int .i64 m.tn]] [] (.bool true) [],
 ACalls Tryz.prog 97 [(encC m.cell)] [] (.bool false) [],
 ACalls Tryz.prog 47 [(encC m.cell)] [] (.bool true) [],
 ACalls Tryz.prog 98 [.lst 1 (List.map intA m.streams)] [] (.bool true) [],
 ACalls Tryz.prog 99 [.lst 3 (List.map encB m.backs)] [] (.bool true) [],
 ACalls Tryz.prog 100 [.agg [.int .i64 m.br, .int .i64 m.bc]] [] (.bool true) [],
 ACalls Tryz.prog 100 [.agg [.int .i64 m.pr, .int .i64 m.pc]] [] (.bool false) [],
 ACalls Tryz.prog 101 [(encL m.lay)] [] (.bool false) [],
 ACalls Tryz.prog 46 [(encL m.lay)] [] (.bool (rightL m.lay)) []]) (by kernel_rfl) (by first | exact rfl | exact ⟨rfl, rfl⟩ | (simp [encM, celM, celC, celL, h1, h2, h3, h4, h5, h6, h7, h8, h9, h10, h11, kF, kT, kN, kR, kS, kB, ka, kb, kL]; done) | (first | omega | exact xor_yes h5 | exact xor_no h5)) ⟨?z0, ?z1, ?z2, ?z3, ?z4, ?z5, ?z6, ?z7, ?z8, ?z9, ?z10, ?q434_1, ?q434_2, ?q434_3, ?q434_4, ?q434_5, ?q434_6, ?q434_7, ?q434_8, ?q434_9, ?q434_10, trivial⟩
  case z0|z1|z2|z3|z4|z5|z6|z7|z8|z9|z10 => first | exact rfl | (simp [encM, celM, celC, celL, h1, h2, h3, h4, h5, h6, h7, h8, h9, h10, h11, kF, kT, kN, kR, kS, kB, ka, kb, kL] <;> omega) | omega | (first | omega | exact xor_yes h5 | exact xor_no h5)
  · exact qF
  · exact qT
  · exact qN
  · exact qR
  · exact qS
  · exact qB
  · exact qa
  · exact qb
  · exact qL
  · exact qZ
theorem right10_e18 (m : MsgD) (hm : m.ok) (hl : ∀ s ∈ m.lay.segs, s.chains.length ≤ 1000000000) (h1 : ¬ (m.kind < 1)) (h2 : ¬ (14 < m.kind)) (h3 : ¬ (m.of_ < 0)) (h4 : ¬ (13 < m.of_)) (h5 : ¬ (¬ (m.kind = 14 ↔ 0 < m.of_))) (h6 : ¬ (m.id < 0)) (h7 : ¬ (1048576 ≤ m.id)) (h8 : ¬ (1048576 < m.epoch)) (h9 : ¬ (1048576 < m.addr)) (h10 : ¬ (m.err < 0)) (h11 : ¬ (255 < m.err)) (kF : placeB m.fr m.fn = true) (kT : placeB m.tr m.tn = true) (kN : sameC m.cell cell0 = false) (kR : rightC m.cell = true) (kS : streamsB m.streams = true) (kB : backsB m.backs = true) (ka : ballotB m.br m.bc = true) (kb : ballotB m.pr m.pc = true) (kL : noLayB m.lay = false) : ACalls Tryz.prog 57 [encM m] [] (.bool (right10 m)) [] := by
  have qF := place10_ac m.fr m.fn
  have qT := place10_ac m.tr m.tn
  have qN := noCell10B_ac m.cell
  rw [noCell10_eq] at qN
  have qR := rightR7 m.cell hm.cell.b
  have qS := streams10_ac m.streams hm.st
  have qB := backs10_ac m.backs hm.b
  rw [backs10_eq] at qB
  have qa := ballot10B_ac m.br m.bc
  rw [ballot10_eq] at qa
  have qb := ballot10B_ac m.pr m.pc
  rw [ballot10_eq] at qb
  have qL := noLay10B_ac m.lay
  rw [noLay10_eq] at qL
  have qZ := right9_ac m.lay hl hm.lay.n
  rw [kF] at qF
  rw [kT] at qT
  rw [kN] at qN
  rw [kR] at qR
  rw [kS] at qS
  rw [kB] at qB
  rw [ka] at qa
  rw [kb] at qb
  rw [kL] at qL
  rw [show right10 m = rightL m.lay by unfold right10; rw [if_neg h1, if_neg h2, if_neg h3, if_neg h4, if_neg h5, if_neg h6, if_neg h7, if_neg h8, if_neg h9, if_neg h10, if_neg h11]; unfold tail10; simp [kF, kT, kN, kR, kS, kB, ka, kb, kL]]
  refine acallsK mixed Tryz.func57 rfl [0, 1, 2, 3, 4, 5, 6, 7, 8, 9, 10, 67] 1000 ([.f, .f, .f, .f, .k, .k, .f, .f, .f, .f, .f, .f, .f, .call [] false true (.bool true) [], .call [] false true (.bool true) [], .call [] false true (.bool false) [], .call [] false true (.bool true) [], .call [] false true (.bool true) [], .call [] false true (.bool true) [], .call [] false true (.bool true) [], .call [] false true (.bool true) [], .call [] false true (.bool false) [], .call [] false true (.bool (rightL m.lay)) []]) [] [] (v1 := .bool (rightL m.lay)) (objs1 := []) (ob := [decide (m.kind < (1 : Int)) = false,
 decide (m.kind > (14 : Int)) = false,
 decide (m.of_ < (0 : Int)) = false,
 decide (m.of_ > (13 : Int)) = false,
 (!(m.kind == (14 : Int)) == decide (m.of_ > (0 : Int))) = false,
 decide (m.id < (0 : Int)) = false,
 decide (m.id ≥ (1048576 : Int)) = false,
 decide (m.epoch > (1048576 : Int)) = false,
 decide (m.addr > (1048576 : Int)) = false,
 decide (m.err < (0 : Int)) = false,
 decide (m.err > (255 : Int)) = false,
 ACalls Tryz.prog 96 [.agg [.int .i64 m.fr, .int .i64 m.fn]] [] (.bool true) [],
 ACalls Tryz.prog 96 [.agg [.int .i64 m.tr, .int .i64 m.tn]] [] (.bool true) [],
 ACalls Tryz.prog 97 [(encC m.cell)] [] (.bool false) [],
 ACalls Tryz.prog 47 [(encC m.cell)] [] (.bool true) [],
 ACalls Tryz.prog 98 [.lst 1 (List.map intA m.streams)] [] (.bool true) [],
 ACalls Tryz.prog 99 [.lst 3 (List.map encB m.backs)] [] (.bool true) [],
 ACalls Tryz.prog 100 [.agg [.int .i64 m.br, .int .i64 m.bc]] [] (.bool true) [],
 ACalls Tryz.prog 100 [.agg [.int .i64 m.pr, .int .i64 m.pc]] [] (.bool true) [],
 ACalls Tryz.prog 101 [(encL m.lay)] [] (.bool false) [],
 ACalls Tryz.prog 46 [(encL m.lay)] [] (.bool (rightL m.lay)) []]) (by kernel_rfl) (by first | exact rfl | exact ⟨rfl, rfl⟩ | (simp [encM, celM, celC, celL, h1, h2, h3, h4, h5, h6, h7, h8, h9, h10, h11, kF, kT, kN, kR, kS, kB, ka, kb, kL]; done) | (first | omega | exact xor_yes h5 | exact xor_no h5)) ⟨?z0, ?z1, ?z2, ?z3, ?z4, ?z5, ?z6, ?z7, ?z8, ?z9, ?z10, ?q471_1, ?q471_2, ?q471_3, ?q471_4, ?q471_5, ?q471_6, ?q471_7, ?q471_8, ?q471_9, ?q471_10, trivial⟩
  case z0|z1|z2|z3|z4|z5|z6|z7|z8|z9|z10 => first | exact rfl | (simp [encM, celM, celC, celL, h1, h2, h3, h4, h5, h6, h7, h8, h9, h10, h11, kF, kT, kN, kR, kS, kB, ka, kb, kL] <;> omega) | omega | (first | omega | exact xor_yes h5 | exact xor_no h5)
  · exact qF
  · exact qT
  · exact qN
  · exact qR
  · exact qS
  · exact qB
  · exact qa
  · exact qb
  · exact qL
  · exact qZ
theorem right10_e19 (m : MsgD) (hm : m.ok) (hl : ∀ s ∈ m.lay.segs, s.chains.length ≤ 1000000000) (h1 : ¬ (m.kind < 1)) (h2 : ¬ (14 < m.kind)) (h3 : ¬ (m.of_ < 0)) (h4 : ¬ (13 < m.of_)) (h5 : ¬ (¬ (m.kind = 14 ↔ 0 < m.of_))) (h6 : ¬ (m.id < 0)) (h7 : ¬ (1048576 ≤ m.id)) (h8 : ¬ (1048576 < m.epoch)) (h9 : ¬ (1048576 < m.addr)) (h10 : ¬ (m.err < 0)) (h11 : ¬ (255 < m.err)) (kF : placeB m.fr m.fn = false) (kN : sameC m.cell cell0 = false) (kL : noLayB m.lay = true) : ACalls Tryz.prog 57 [encM m] [] (.bool (right10 m)) [] := by
  have qF := place10_ac m.fr m.fn
  have qT := place10_ac m.tr m.tn
  have qN := noCell10B_ac m.cell
  rw [noCell10_eq] at qN
  have qR := rightR7 m.cell hm.cell.b
  have qS := streams10_ac m.streams hm.st
  have qB := backs10_ac m.backs hm.b
  rw [backs10_eq] at qB
  have qa := ballot10B_ac m.br m.bc
  rw [ballot10_eq] at qa
  have qb := ballot10B_ac m.pr m.pc
  rw [ballot10_eq] at qb
  have qL := noLay10B_ac m.lay
  rw [noLay10_eq] at qL
  have qZ := right9_ac m.lay hl hm.lay.n
  rw [kF] at qF
  rw [kN] at qN
  rw [kL] at qL
  rw [show right10 m = false by unfold right10; rw [if_neg h1, if_neg h2, if_neg h3, if_neg h4, if_neg h5, if_neg h6, if_neg h7, if_neg h8, if_neg h9, if_neg h10, if_neg h11]; unfold tail10; simp [kF, kN, kL]]
  refine acallsK mixed Tryz.func57 rfl [0, 1, 2, 3, 4, 5, 6, 7, 8, 9, 10, 67] 1000 ([.f, .f, .f, .f, .k, .k, .f, .f, .f, .f, .f, .f, .f, .call [] false true (.bool false) [], .call [] false true (.bool (placeB m.tr m.tn)) [], .call [] false true (.bool false) [], .call [] false true (.bool (rightC m.cell)) [], .call [] false true (.bool (streamsB m.streams)) [], .call [] false true (.bool (backsB m.backs)) [], .call [] false true (.bool (ballotB m.br m.bc)) [], .call [] false true (.bool (ballotB m.pr m.pc)) [], .call [] false true (.bool true) []]) [] [] (v1 := .bool false) (objs1 := []) (ob := [decide (m.kind < (1 : Int)) = false,
 decide (m.kind > (14 : Int)) = false,
 decide (m.of_ < (0 : Int)) = false,
 decide (m.of_ > (13 : Int)) = false,
 (!(m.kind == (14 : Int)) == decide (m.of_ > (0 : Int))) = false,
 decide (m.id < (0 : Int)) = false,
 decide (m.id ≥ (1048576 : Int)) = false,
 decide (m.epoch > (1048576 : Int)) = false,
 decide (m.addr > (1048576 : Int)) = false,
 decide (m.err < (0 : Int)) = false,
 decide (m.err > (255 : Int)) = false,
 ACalls Tryz.prog 96 [.agg [.int .i64 m.fr, .int .i64 m.fn]] [] (.bool false) [],
 ACalls Tryz.prog 96 [.agg [.int .i64 m.tr, .int .i64 m.tn]] [] (.bool (placeB m.tr m.tn)) [],
 ACalls Tryz.prog 97 [(encC m.cell)] [] (.bool false) [],
 ACalls Tryz.prog 47 [(encC m.cell)] [] (.bool (rightC m.cell)) [],
 ACalls Tryz.prog 98 [.lst 1 (List.map intA m.streams)] [] (.bool (streamsB m.streams)) [],
 ACalls Tryz.prog 99 [.lst 3 (List.map encB m.backs)] [] (.bool (backsB m.backs)) [],
 ACalls Tryz.prog 100 [.agg [.int .i64 m.br, .int .i64 m.bc]] [] (.bool (ballotB m.br m.bc)) [],
 ACalls Tryz.prog 100 [.agg [.int .i64 m.pr, .int .i64 m.pc]] [] (.bool (ballotB m.pr m.pc)) [],
 ACalls Tryz.prog 101 [(encL m.lay)] [] (.bool true) []]) (by kernel_rfl) (by first | exact rfl | exact ⟨rfl, rfl⟩ | (simp [encM, celM, celC, celL, h1, h2, h3, h4, h5, h6, h7, h8, h9, h10, h11, kF, kN, kL]; done) | (first | omega | exact xor_yes h5 | exact xor_no h5)) ⟨?z0, ?z1, ?z2, ?z3, ?z4, ?z5, ?z6, ?z7, ?z8, ?z9, ?z10, ?q502_1, ?q502_2, ?q502_3, ?q502_4, ?q502_5, ?q502_6, ?q502_7, ?q502_8, ?q502_9, trivial⟩
  case z0|z1|z2|z3|z4|z5|z6|z7|z8|z9|z10 => first | exact rfl | (simp [encM, celM, celC, celL, h1, h2, h3, h4, h5, h6, h7, h8, h9, h10, h11, kF, kN, kL] <;> omega) | omega | (first | omega | exact xor_yes h5 | exact xor_no h5)
  · exact qF
  · exact qT
  · exact qN
  · exact qR
  · exact qS
  · exact qB
  · exact qa
  · exact qb
  · exact qL
theorem right10_e20 (m : MsgD) (hm : m.ok) (hl : ∀ s ∈ m.lay.segs, s.chains.length ≤ 1000000000) (h1 : ¬ (m.kind < 1)) (h2 : ¬ (14 < m.kind)) (h3 : ¬ (m.of_ < 0)) (h4 : ¬ (13 < m.of_)) (h5 : ¬ (¬ (m.kind = 14 ↔ 0 < m.of_))) (h6 : ¬ (m.id < 0)) (h7 : ¬ (1048576 ≤ m.id)) (h8 : ¬ (1048576 < m.epoch)) (h9 : ¬ (1048576 < m.addr)) (h10 : ¬ (m.err < 0)) (h11 : ¬ (255 < m.err)) (kF : placeB m.fr m.fn = true) (kT : placeB m.tr m.tn = false) (kN : sameC m.cell cell0 = false) (kL : noLayB m.lay = true) : ACalls Tryz.prog 57 [encM m] [] (.bool (right10 m)) [] := by
  have qF := place10_ac m.fr m.fn
  have qT := place10_ac m.tr m.tn
  have qN := noCell10B_ac m.cell
  rw [noCell10_eq] at qN
  have qR := rightR7 m.cell hm.cell.b
  have qS := streams10_ac m.streams hm.st
  have qB := backs10_ac m.backs hm.b
  rw [backs10_eq] at qB
  have qa := ballot10B_ac m.br m.bc
  rw [ballot10_eq] at qa
  have qb := ballot10B_ac m.pr m.pc
  rw [ballot10_eq] at qb
  have qL := noLay10B_ac m.lay
  rw [noLay10_eq] at qL
  have qZ := right9_ac m.lay hl hm.lay.n
  rw [kF] at qF
  rw [kT] at qT
  rw [kN] at qN
  rw [kL] at qL
  rw [show right10 m = false by unfold right10; rw [if_neg h1, if_neg h2, if_neg h3, if_neg h4, if_neg h5, if_neg h6, if_neg h7, if_neg h8, if_neg h9, if_neg h10, if_neg h11]; unfold tail10; simp [kF, kT, kN, kL]]
  refine acallsK mixed Tryz.func57 rfl [0, 1, 2, 3, 4, 5, 6, 7, 8, 9, 10, 67] 1000 ([.f, .f, .f, .f, .k, .k, .f, .f, .f, .f, .f, .f, .f, .call [] false true (.bool true) [], .call [] false true (.bool false) [], .call [] false true (.bool false) [], .call [] false true (.bool (rightC m.cell)) [], .call [] false true (.bool (streamsB m.streams)) [], .call [] false true (.bool (backsB m.backs)) [], .call [] false true (.bool (ballotB m.br m.bc)) [], .call [] false true (.bool (ballotB m.pr m.pc)) [], .call [] false true (.bool true) []]) [] [] (v1 := .bool false) (objs1 := []) (ob := [decide (m.kind < (1 : Int)) = false,
 decide (m.kind > (14 : Int)) = false,
 decide (m.of_ < (0 : Int)) = false,
 decide (m.of_ > (13 : Int)) = false,
 (!(m.kind == (14 : Int)) == decide (m.of_ > (0 : Int))) = false,
 decide (m.id < (0 : Int)) = false,
 decide (m.id ≥ (1048576 : Int)) = false,
 decide (m.epoch > (1048576 : Int)) = false,
 decide (m.addr > (1048576 : Int)) = false,
 decide (m.err < (0 : Int)) = false,
 decide (m.err > (255 : Int)) = false,
 ACalls Tryz.prog 96 [.agg [.int .i64 m.fr, .int .i64 m.fn]] [] (.bool true) [],
 ACalls Tryz.prog 96 [.agg [.int .i64 m.tr, .int .i64 m.tn]] [] (.bool false) [],
 ACalls Tryz.prog 97 [(encC m.cell)] [] (.bool false) [],
 ACalls Tryz.prog 47 [(encC m.cell)] [] (.bool (rightC m.cell)) [],
 ACalls Tryz.prog 98 [.lst 1 (List.map intA m.streams)] [] (.bool (streamsB m.streams)) [],
 ACalls Tryz.prog 99 [.lst 3 (List.map encB m.backs)] [] (.bool (backsB m.backs)) [],
 ACalls Tryz.prog 100 [.agg [.int .i64 m.br, .int .i64 m.bc]] [] (.bool (ballotB m.br m.bc)) [],
 ACalls Tryz.prog 100 [.agg [.int .i64 m.pr, .int .i64 m.pc]] [] (.bool (ballotB m.pr m.pc)) [],
 ACalls Tryz.prog 101 [(encL m.lay)] [] (.bool true) []]) (by kernel_rfl) (by first | exact rfl | exact ⟨rfl, rfl⟩ | (simp [encM, celM, celC, celL, h1, h2, h3, h4, h5, h6, h7, h8, h9, h10, h11, kF, kT, kN, kL]; done) | (first | omega | exact xor_yes h5 | exact xor_no h5)) ⟨?z0, ?z1, ?z2, ?z3, ?z4, ?z5, ?z6, ?z7, ?z8, ?z9, ?z10, ?q533_1, ?q533_2, ?q533_3, ?q533_4, ?q533_5, ?q533_6, ?q533_7, ?q533_8, ?q533_9, trivial⟩
  case z0|z1|z2|z3|z4|z5|z6|z7|z8|z9|z10 => first | exact rfl | (simp [encM, celM, celC, celL, h1, h2, h3, h4, h5, h6, h7, h8, h9, h10, h11, kF, kT, kN, kL] <;> omega) | omega | (first | omega | exact xor_yes h5 | exact xor_no h5)
  · exact qF
  · exact qT
  · exact qN
  · exact qR
  · exact qS
  · exact qB
  · exact qa
  · exact qb
  · exact qL
theorem right10_e21 (m : MsgD) (hm : m.ok) (hl : ∀ s ∈ m.lay.segs, s.chains.length ≤ 1000000000) (h1 : ¬ (m.kind < 1)) (h2 : ¬ (14 < m.kind)) (h3 : ¬ (m.of_ < 0)) (h4 : ¬ (13 < m.of_)) (h5 : ¬ (¬ (m.kind = 14 ↔ 0 < m.of_))) (h6 : ¬ (m.id < 0)) (h7 : ¬ (1048576 ≤ m.id)) (h8 : ¬ (1048576 < m.epoch)) (h9 : ¬ (1048576 < m.addr)) (h10 : ¬ (m.err < 0)) (h11 : ¬ (255 < m.err)) (kF : placeB m.fr m.fn = true) (kT : placeB m.tr m.tn = true) (kN : sameC m.cell cell0 = false) (kR : rightC m.cell = false) (kL : noLayB m.lay = true) : ACalls Tryz.prog 57 [encM m] [] (.bool (right10 m)) [] := by
  have qF := place10_ac m.fr m.fn
  have qT := place10_ac m.tr m.tn
  have qN := noCell10B_ac m.cell
  rw [noCell10_eq] at qN
  have qR := rightR7 m.cell hm.cell.b
  have qS := streams10_ac m.streams hm.st
  have qB := backs10_ac m.backs hm.b
  rw [backs10_eq] at qB
  have qa := ballot10B_ac m.br m.bc
  rw [ballot10_eq] at qa
  have qb := ballot10B_ac m.pr m.pc
  rw [ballot10_eq] at qb
  have qL := noLay10B_ac m.lay
  rw [noLay10_eq] at qL
  have qZ := right9_ac m.lay hl hm.lay.n
  rw [kF] at qF
  rw [kT] at qT
  rw [kN] at qN
  rw [kR] at qR
  rw [kL] at qL
  rw [show right10 m = false by unfold right10; rw [if_neg h1, if_neg h2, if_neg h3, if_neg h4, if_neg h5, if_neg h6, if_neg h7, if_neg h8, if_neg h9, if_neg h10, if_neg h11]; unfold tail10; simp [kF, kT, kN, kR, kL]]
  refine acallsK mixed Tryz.func57 rfl [0, 1, 2, 3, 4, 5, 6, 7, 8, 9, 10, 67] 1000 ([.f, .f, .f, .f, .k, .k, .f, .f, .f, .f, .f, .f, .f, .call [] false true (.bool true) [], .call [] false true (.bool true) [], .call [] false true (.bool false) [], .call [] false true (.bool false) [], .call [] false true (.bool (streamsB m.streams)) [], .call [] false true (.bool (backsB m.backs)) [], .call [] false true (.bool (ballotB m.br m.bc)) [], .call [] false true (.bool (ballotB m.pr m.pc)) [], .call [] false true (.bool true) []]) [] [] (v1 := .bool false) (objs1 := []) (ob := [decide (m.kind < (1 : Int)) = false,
 decide (m.kind > (14 : Int)) = false,
 decide (m.of_ < (0 : Int)) = false,
 decide (m.of_ > (13 : Int)) = false,
 (!(m.kind == (14 : Int)) == decide (m.of_ > (0 : Int))) = false,
 decide (m.id < (0 : Int)) = false,
 decide (m.id ≥ (1048576 : Int)) = false,
 decide (m.epoch > (1048576 : Int)) = false,
 decide (m.addr > (1048576 : Int)) = false,
 decide (m.err < (0 : Int)) = false,
 decide (m.err > (255 : Int)) = false,
 ACalls Tryz.prog 96 [.agg [.int .i64 m.fr, .int .i64 m.fn]] [] (.bool true) [],
 ACalls Tryz.prog 96 [.agg [.int .i64 m.tr, .int .i64 m.tn]] [] (.bool true) [],
 ACalls Tryz.prog 97 [(encC m.cell)] [] (.bool false) [],
 ACalls Tryz.prog 47 [(encC m.cell)] [] (.bool false) [],
 ACalls Tryz.prog 98 [.lst 1 (List.map intA m.streams)] [] (.bool (streamsB m.streams)) [],
 ACalls Tryz.prog 99 [.lst 3 (List.map encB m.backs)] [] (.bool (backsB m.backs)) [],
 ACalls Tryz.prog 100 [.agg [.int .i64 m.br, .int .i64 m.bc]] [] (.bool (ballotB m.br m.bc)) [],
 ACalls Tryz.prog 100 [.agg [.int .i64 m.pr, .int .i64 m.pc]] [] (.bool (ballotB m.pr m.pc)) [],
 ACalls Tryz.prog 101 [(encL m.lay)] [] (.bool true) []]) (by kernel_rfl) (by first | exact rfl | exact ⟨rfl, rfl⟩ | (simp [encM, celM, celC, celL, h1, h2, h3, h4, h5, h6, h7, h8, h9, h10, h11, kF, kT, kN, kR, kL]; done) | (first | omega | exact xor_yes h5 | exact xor_no h5)) ⟨?z0, ?z1, ?z2, ?z3, ?z4, ?z5, ?z6, ?z7, ?z8, ?z9, ?z10, ?q565_1, ?q565_2, ?q565_3, ?q565_4, ?q565_5, ?q565_6, ?q565_7, ?q565_8, ?q565_9, trivial⟩
  case z0|z1|z2|z3|z4|z5|z6|z7|z8|z9|z10 => first | exact rfl | (simp [encM, celM, celC, celL, h1, h2, h3, h4, h5, h6, h7, h8, h9, h10, h11, kF, kT, kN, kR, kL] <;> omega) | omega | (first | omega | exact xor_yes h5 | exact xor_no h5)
  · exact qF
  · exact qT
  · exact qN
  · exact qR
  · exact qS
  · exact qB
  · exact qa
  · exact qb
  · exact qL
theorem right10_e22 (m : MsgD) (hm : m.ok) (hl : ∀ s ∈ m.lay.segs, s.chains.length ≤ 1000000000) (h1 : ¬ (m.kind < 1)) (h2 : ¬ (14 < m.kind)) (h3 : ¬ (m.of_ < 0)) (h4 : ¬ (13 < m.of_)) (h5 : ¬ (¬ (m.kind = 14 ↔ 0 < m.of_))) (h6 : ¬ (m.id < 0)) (h7 : ¬ (1048576 ≤ m.id)) (h8 : ¬ (1048576 < m.epoch)) (h9 : ¬ (1048576 < m.addr)) (h10 : ¬ (m.err < 0)) (h11 : ¬ (255 < m.err)) (kF : placeB m.fr m.fn = true) (kT : placeB m.tr m.tn = true) (kN : sameC m.cell cell0 = false) (kR : rightC m.cell = true) (kS : streamsB m.streams = false) (kL : noLayB m.lay = true) : ACalls Tryz.prog 57 [encM m] [] (.bool (right10 m)) [] := by
  have qF := place10_ac m.fr m.fn
  have qT := place10_ac m.tr m.tn
  have qN := noCell10B_ac m.cell
  rw [noCell10_eq] at qN
  have qR := rightR7 m.cell hm.cell.b
  have qS := streams10_ac m.streams hm.st
  have qB := backs10_ac m.backs hm.b
  rw [backs10_eq] at qB
  have qa := ballot10B_ac m.br m.bc
  rw [ballot10_eq] at qa
  have qb := ballot10B_ac m.pr m.pc
  rw [ballot10_eq] at qb
  have qL := noLay10B_ac m.lay
  rw [noLay10_eq] at qL
  have qZ := right9_ac m.lay hl hm.lay.n
  rw [kF] at qF
  rw [kT] at qT
  rw [kN] at qN
  rw [kR] at qR
  rw [kS] at qS
  rw [kL] at qL
  rw [show right10 m = false by unfold right10; rw [if_neg h1, if_neg h2, if_neg h3, if_neg h4, if_neg h5, if_neg h6, if_neg h7, if_neg h8, if_neg h9, if_neg h10, if_neg h11]; unfold tail10; simp [kF, kT, kN, kR, kS, kL]]
  refine acallsK mixed Tryz.func57 rfl [0, 1, 2, 3, 4, 5, 6, 7, 8, 9, 10, 67] 1000 ([.f, .f, .f, .f, .k, .k, .f, .f, .f, .f, .f, .f, .f, .call [] false true (.bool true) [], .call [] false true (.bool true) [], .call [] false true (.bool false) [], .call [] false true (.bool true) [], .call [] false true (.bool false) [], .call [] false true (.bool (backsB m.backs)) [], .call [] false true (.bool (ballotB m.br m.bc)) [], .call [] false true (.bool (ballotB m.pr m.pc)) [], .call [] false true (.bool true) []]) [] [] (v1 := .bool false) (objs1 := []) (ob := [decide (m.kind < (1 : Int)) = false,
 decide (m.kind > (14 : Int)) = false,
 decide (m.of_ < (0 : Int)) = false,
 decide (m.of_ > (13 : Int)) = false,
 (!(m.kind == (14 : Int)) == decide (m.of_ > (0 : Int))) = false,
 decide (m.id < (0 : Int)) = false,
 decide (m.id ≥ (1048576 : Int)) = false,
 decide (m.epoch > (1048576 : Int)) = false,
 decide (m.addr > (1048576 : Int)) = false,
 decide (m.err < (0 : Int)) = false,
 decide (m.err > (255 : Int)) = false,
 ACalls Tryz.prog 96 [.agg [.int .i64 m.fr, .int .i64 m.fn]] [] (.bool true) [],
 ACalls Tryz.prog 96 [.agg [.int .i64 m.tr, .int .i64 m.tn]] [] (.bool true) [],
 ACalls Tryz.prog 97 [(encC m.cell)] [] (.bool false) [],
 ACalls Tryz.prog 47 [(encC m.cell)] [] (.bool true) [],
 ACalls Tryz.prog 98 [.lst 1 (List.map intA m.streams)] [] (.bool false) [],
 ACalls Tryz.prog 99 [.lst 3 (List.map encB m.backs)] [] (.bool (backsB m.backs)) [],
 ACalls Tryz.prog 100 [.agg [.int .i64 m.br, .int .i64 m.bc]] [] (.bool (ballotB m.br m.bc)) [],
 ACalls Tryz.prog 100 [.agg [.int .i64 m.pr, .int .i64 m.pc]] [] (.bool (ballotB m.pr m.pc)) [],
 ACalls Tryz.prog 101 [(encL m.lay)] [] (.bool true) []]) (by kernel_rfl) (by first | exact rfl | exact ⟨rfl, rfl⟩ | (simp [encM, celM, celC, celL, h1, h2, h3, h4, h5, h6, h7, h8, h9, h10, h11, kF, kT, kN, kR, kS, kL]; done) | (first | omega | exact xor_yes h5 | exact xor_no h5)) ⟨?z0, ?z1, ?z2, ?z3, ?z4, ?z5, ?z6, ?z7, ?z8, ?z9, ?z10, ?q598_1, ?q598_2, ?q598_3, ?q598_4, ?q598_5, ?q598_6, ?q598_7, ?q598_8, ?q598_9, trivial⟩
  case z0|z1|z2|z3|z4|z5|z6|z7|z8|z9|z10 => first | exact rfl | (simp [encM, celM, celC, celL, h1, h2, h3, h4, h5, h6, h7, h8, h9, h10, h11, kF, kT, kN, kR, kS, kL] <;> omega) | omega | (first | omega | exact xor_yes h5 | exact xor_no h5)
  · exact qF
  · exact qT
  · exact qN
  · exact qR
  · exact qS
  · exact qB
  · exact qa
  · exact qb
  · exact qL
theorem right10_e23 (m : MsgD) (hm : m.ok) (hl : ∀ s ∈ m.lay.segs, s.chains.length ≤ 1000000000) (h1 : ¬ (m.kind < 1)) (h2 : ¬ (14 < m.kind)) (h3 : ¬ (m.of_ < 0)) (h4 : ¬ (13 < m.of_)) (h5 : ¬ (¬ (m.kind = 14 ↔ 0 < m.of_))) (h6 : ¬ (m.id < 0)) (h7 : ¬ (1048576 ≤ m.id)) (h8 : ¬ (1048576 < m.epoch)) (h9 : ¬ (1048576 < m.addr)) (h10 : ¬ (m.err < 0)) (h11 : ¬ (255 < m.err)) (kF : placeB m.fr m.fn = true) (kT : placeB m.tr m.tn = true) (kN : sameC m.cell cell0 = false) (kR : rightC m.cell = true) (kS : streamsB m.streams = true) (kB : backsB m.backs = false) (kL : noLayB m.lay = true) : ACalls Tryz.prog 57 [encM m] [] (.bool (right10 m)) [] := by
  have qF := place10_ac m.fr m.fn
  have qT := place10_ac m.tr m.tn
  have qN := noCell10B_ac m.cell
  rw [noCell10_eq] at qN
  have qR := rightR7 m.cell hm.cell.b
  have qS := streams10_ac m.streams hm.st
  have qB := backs10_ac m.backs hm.b
  rw [backs10_eq] at qB
  have qa := ballot10B_ac m.br m.bc
  rw [ballot10_eq] at qa
  have qb := ballot10B_ac m.pr m.pc
  rw [ballot10_eq] at qb
  have qL := noLay10B_ac m.lay
  rw [noLay10_eq] at qL
  have qZ := right9_ac m.lay hl hm.lay.n
  rw [kF] at qF
  rw [kT] at qT
  rw [kN] at qN
  rw [kR] at qR
  rw [kS] at qS
  rw [kB] at qB
  rw [kL] at qL
  rw [show right10 m = false by unfold right10; rw [if_neg h1, if_neg h2, if_neg h3, if_neg h4, if_neg h5, if_neg h6, if_neg h7, if_neg h8, if_neg h9, if_neg h10, if_neg h11]; unfold tail10; simp [kF, kT, kN, kR, kS, kB, kL]]
  refine acallsK mixed Tryz.func57 rfl [0, 1, 2, 3, 4, 5, 6, 7, 8, 9, 10, 67] 1000 ([.f, .f, .f, .f, .k, .k, .f, .f, .f, .f, .f, .f, .f, .call [] false true (.bool true) [], .call [] false true (.bool true) [], .call [] false true (.bool false) [], .call [] false true (.bool true) [], .call [] false true (.bool true) [], .call [] false true (.bool false) [], .call [] false true (.bool (ballotB m.br m.bc)) [], .call [] false true (.bool (ballotB m.pr m.pc)) [], .call [] false true (.bool true) []]) [] [] (v1 := .bool false) (objs1 := []) (ob := [decide (m.kind < (1 : Int)) = false,
 decide (m.kind > (14 : Int)) = false,
 decide (m.of_ < (0 : Int)) = false,
 decide (m.of_ > (13 : Int)) = false,
 (!(m.kind == (14 : Int)) == decide (m.of_ > (0 : Int))) = false,
 decide (m.id < (0 : Int)) = false,
 decide (m.id ≥ (1048576 : Int)) = false,
 decide (m.epoch > (1048576 : Int)) = false,
 decide (m.addr > (1048576 : Int)) = false,
 decide (m.err < (0 : Int)) = false,
 decide (m.err > (255 : Int)) = false,
 ACalls Tryz.prog 96 [.agg [.int .i64 m.fr, .int .i64 m.fn]] [] (.bool true) [],
 ACalls Tryz.prog 96 [.agg [.int .i64 m.tr, .int .i64 m.tn]] [] (.bool true) [],
 ACalls Tryz.prog 97 [(encC m.cell)] [] (.bool false) [],
 ACalls Tryz.prog 47 [(encC m.cell)] [] (.bool true) [],
 ACalls Tryz.prog 98 [.lst 1 (List.map intA m.streams)] [] (.bool true) [],
 ACalls Tryz.prog 99 [.lst 3 (List.map encB m.backs)] [] (.bool false) [],
 ACalls Tryz.prog 100 [.agg [.int .i64 m.br, .int .i64 m.bc]] [] (.bool (ballotB m.br m.bc)) [],
 ACalls Tryz.prog 100 [.agg [.int .i64 m.pr, .int .i64 m.pc]] [] (.bool (ballotB m.pr m.pc)) [],
 ACalls Tryz.prog 101 [(encL m.lay)] [] (.bool true) []]) (by kernel_rfl) (by first | exact rfl | exact ⟨rfl, rfl⟩ | (simp [encM, celM, celC, celL, h1, h2, h3, h4, h5, h6, h7, h8, h9, h10, h11, kF, kT, kN, kR, kS, kB, kL]; done) | (first | omega | exact xor_yes h5 | exact xor_no h5)) ⟨?z0, ?z1, ?z2, ?z3, ?z4, ?z5, ?z6, ?z7, ?z8, ?z9, ?z10, ?q632_1, ?q632_2, ?q632_3, ?q632_4, ?q632_5, ?q632_6, ?q632_7, ?q632_8, ?q632_9, trivial⟩
  case z0|z1|z2|z3|z4|z5|z6|z7|z8|z9|z10 => first | exact rfl | (simp [encM, celM, celC, celL, h1, h2, h3, h4, h5, h6, h7, h8, h9, h10, h11, kF, kT, kN, kR, kS, kB, kL] <;> omega) | omega | (first | omega | exact xor_yes h5 | exact xor_no h5)
  · exact qF
  · exact qT
  · exact qN
  · exact qR
  · exact qS
  · exact qB
  · exact qa
  · exact qb
  · exact qL
theorem right10_e24 (m : MsgD) (hm : m.ok) (hl : ∀ s ∈ m.lay.segs, s.chains.length ≤ 1000000000) (h1 : ¬ (m.kind < 1)) (h2 : ¬ (14 < m.kind)) (h3 : ¬ (m.of_ < 0)) (h4 : ¬ (13 < m.of_)) (h5 : ¬ (¬ (m.kind = 14 ↔ 0 < m.of_))) (h6 : ¬ (m.id < 0)) (h7 : ¬ (1048576 ≤ m.id)) (h8 : ¬ (1048576 < m.epoch)) (h9 : ¬ (1048576 < m.addr)) (h10 : ¬ (m.err < 0)) (h11 : ¬ (255 < m.err)) (kF : placeB m.fr m.fn = true) (kT : placeB m.tr m.tn = true) (kN : sameC m.cell cell0 = false) (kR : rightC m.cell = true) (kS : streamsB m.streams = true) (kB : backsB m.backs = true) (ka : ballotB m.br m.bc = false) (kL : noLayB m.lay = true) : ACalls Tryz.prog 57 [encM m] [] (.bool (right10 m)) [] := by
  have qF := place10_ac m.fr m.fn
  have qT := place10_ac m.tr m.tn
  have qN := noCell10B_ac m.cell
  rw [noCell10_eq] at qN
  have qR := rightR7 m.cell hm.cell.b
  have qS := streams10_ac m.streams hm.st
  have qB := backs10_ac m.backs hm.b
  rw [backs10_eq] at qB
  have qa := ballot10B_ac m.br m.bc
  rw [ballot10_eq] at qa
  have qb := ballot10B_ac m.pr m.pc
  rw [ballot10_eq] at qb
  have qL := noLay10B_ac m.lay
  rw [noLay10_eq] at qL
  have qZ := right9_ac m.lay hl hm.lay.n
  rw [kF] at qF
  rw [kT] at qT
  rw [kN] at qN
  rw [kR] at qR
  rw [kS] at qS
  rw [kB] at qB
  rw [ka] at qa
  rw [kL] at qL
  rw [show right10 m = false by unfold right10; rw [if_neg h1, if_neg h2, if_neg h3, if_neg h4, if_neg h5, if_neg h6, if_neg h7, if_neg h8, if_neg h9, if_neg h10, if_neg h11]; unfold tail10; simp [kF, kT, kN, kR, kS, kB, ka, kL]]
  refine acallsK mixed Tryz.func57 rfl [0, 1, 2, 3, 4, 5, 6, 7, 8, 9, 10, 67] 1000 ([.f, .f, .f, .f, .k, .k, .f, .f, .f, .f, .f, .f, .f, .call [] false true (.bool true) [], .call [] false true (.bool true) [], .call [] false true (.bool false) [], .call [] false true (.bool true) [], .call [] false true (.bool true) [], .call [] false true (.bool true) [], .call [] false true (.bool false) [], .call [] false true (.bool (ballotB m.pr m.pc)) [], .call [] false true (.bool true) []]) [] [] (v1 := .bool false) (objs1 := []) (ob := [decide (m.kind < (1 : Int)) = false,
 decide (m.kind > (14 : Int)) = false,
 decide (m.of_ < (0 : Int)) = false,
 decide (m.of_ > (13 : Int)) = false,
 (!(m.kind == (14 : Int)) == decide (m.of_ > (0 : Int))) = false,
 decide (m.id < (0 : Int)) = false,
 decide (m.id ≥ (1048576 : Int)) = false,
 decide (m.epoch > (1048576 : Int)) = false,
 decide (m.addr > (1048576 : Int)) = false,
 decide (m.err < (0 : Int)) = false,
 decide (m.err > (255 : Int)) = false,
 ACalls Tryz.prog 96 [.agg [.int .i64 m.fr, .int .i64 m.fn]] [] (.bool true) [],
 ACalls Tryz.prog 96 [.agg [.int .i64 m.tr, .int .i64 m.tn]] [] (.bool true) [],
 ACalls Tryz.prog 97 [(encC m.cell)] [] (.bool false) [],
 ACalls Tryz.prog 47 [(encC m.cell)] [] (.bool true) [],
 ACalls Tryz.prog 98 [.lst 1 (List.map intA m.streams)] [] (.bool true) [],
 ACalls Tryz.prog 99 [.lst 3 (List.map encB m.backs)] [] (.bool true) [],
 ACalls Tryz.prog 100 [.agg [.int .i64 m.br, .int .i64 m.bc]] [] (.bool false) [],
 ACalls Tryz.prog 100 [.agg [.int .i64 m.pr, .int .i64 m.pc]] [] (.bool (ballotB m.pr m.pc)) [],
 ACalls Tryz.prog 101 [(encL m.lay)] [] (.bool true) []]) (by kernel_rfl) (by first | exact rfl | exact ⟨rfl, rfl⟩ | (simp [encM, celM, celC, celL, h1, h2, h3, h4, h5, h6, h7, h8, h9, h10, h11, kF, kT, kN, kR, kS, kB, ka, kL]; done) | (first | omega | exact xor_yes h5 | exact xor_no h5)) ⟨?z0, ?z1, ?z2, ?z3, ?z4, ?z5, ?z6, ?z7, ?z8, ?z9, ?z10, ?q667_1, ?q667_2, ?q667_3, ?q667_4, ?q667_5, ?q667_6, ?q667_7, ?q667_8, ?q667_9, trivial⟩
  case z0|z1|z2|z3|z4|z5|z6|z7|z8|z9|z10 => first | exact rfl | (simp [encM, celM, celC, celL, h1, h2, h3, h4, h5, h6, h7, h8, h9, h10, h11, kF, kT, kN, kR, kS, kB, ka, kL] <;> omega) | omega | (first | omega | exact xor_yes h5 | exact xor_no h5)
  · exact qF
  · exact qT
  · exact qN
  · exact qR
  · exact qS
  · exact qB
  · exact qa
  · exact qb
  · exact qL
theorem right10_e25 (m : MsgD) (hm : m.ok) (hl : ∀ s ∈ m.lay.segs, s.chains.length ≤ 1000000000) (h1 : ¬ (m.kind < 1)) (h2 : ¬ (14 < m.kind)) (h3 : ¬ (m.of_ < 0)) (h4 : ¬ (13 < m.of_)) (h5 : ¬ (¬ (m.kind = 14 ↔ 0 < m.of_))) (h6 : ¬ (m.id < 0)) (h7 : ¬ (1048576 ≤ m.id)) (h8 : ¬ (1048576 < m.epoch)) (h9 : ¬ (1048576 < m.addr)) (h10 : ¬ (m.err < 0)) (h11 : ¬ (255 < m.err)) (kF : placeB m.fr m.fn = true) (kT : placeB m.tr m.tn = true) (kN : sameC m.cell cell0 = false) (kR : rightC m.cell = true) (kS : streamsB m.streams = true) (kB : backsB m.backs = true) (ka : ballotB m.br m.bc = true) (kb : ballotB m.pr m.pc = false) (kL : noLayB m.lay = true) : ACalls Tryz.prog 57 [encM m] [] (.bool (right10 m)) [] := by
  have qF := place10_ac m.fr m.fn
  have qT := place10_ac m.tr m.tn
  have qN := noCell10B_ac m.cell
  rw [noCell10_eq] at qN
  have qR := rightR7 m.cell hm.cell.b
  have qS := streams10_ac m.streams hm.st
  have qB := backs10_ac m.backs hm.b
  rw [backs10_eq] at qB
  have qa := ballot10B_ac m.br m.bc
  rw [ballot10_eq] at qa
  have qb := ballot10B_ac m.pr m.pc
  rw [ballot10_eq] at qb
  have qL := noLay10B_ac m.lay
  rw [noLay10_eq] at qL
  have qZ := right9_ac m.lay hl hm.lay.n
  rw [kF] at qF
  rw [kT] at qT
  rw [kN] at qN
  rw [kR] at qR
  rw [kS] at qS
  rw [kB] at qB
  rw [ka] at qa
  rw [kb] at qb
  rw [kL] at qL
  rw [show right10 m = false by unfold right10; rw [if_neg h1, if_neg h2, if_neg h3, if_neg h4, if_neg h5, if_neg h6, if_neg h7, if_neg h8, if_neg h9, if_neg h10, if_neg h11]; unfold tail10; simp [kF, kT, kN, kR, kS, kB, ka, kb, kL]]
  refine acallsK mixed Tryz.func57 rfl [0, 1, 2, 3, 4, 5, 6, 7, 8, 9, 10, 67] 1000 ([.f, .f, .f, .f, .k, .k, .f, .f, .f, .f, .f, .f, .f, .call [] false true (.bool true) [], .call [] false true (.bool true) [], .call [] false true (.bool false) [], .call [] false true (.bool true) [], .call [] false true (.bool true) [], .call [] false true (.bool true) [], .call [] false true (.bool true) [], .call [] false true (.bool false) [], .call [] false true (.bool true) []]) [] [] (v1 := .bool false) (objs1 := []) (ob := [decide (m.kind < (1 : Int)) = false,
 decide (m.kind > (14 : Int)) = false,
 decide (m.of_ < (0 : Int)) = false,
 decide (m.of_ > (13 : Int)) = false,
 (!(m.kind == (14 : Int)) == decide (m.of_ > (0 : Int))) = false,
 decide (m.id < (0 : Int)) = false,
 decide (m.id ≥ (1048576 : Int)) = false,
 decide (m.epoch > (1048576 : Int)) = false,
 decide (m.addr > (1048576 : Int)) = false,
 decide (m.err < (0 : Int)) = false,
 decide (m.err > (255 : Int)) = false,
 ACalls Tryz.prog 96 [.agg [.int .i64 m.fr, .int .i64 m.fn]] [] (.bool true) [],
 ACalls Tryz.prog 96 [.agg [.int .i64 m.tr, .int .i64 m.tn]] [] (.bool true) [],
 ACalls Tryz.prog 97 [(encC m.cell)] [] (.bool false) [],
 ACalls Tryz.prog 47 [(encC m.cell)] [] (.bool true) [],
 ACalls Tryz.prog 98 [.lst 1 (List.map intA m.streams)] [] (.bool true) [],
 ACalls Tryz.prog 99 [.lst 3 (List.map encB m.backs)] [] (.bool true) [],
 ACalls Tryz.prog 100 [.agg [.int .i64 m.br, .int .i64 m.bc]] [] (.bool true) [],
 ACalls Tryz.prog 100 [.agg [.int .i64 m.pr, .int .i64 m.pc]] [] (.bool false) [],
 ACalls Tryz.prog 101 [(encL m.lay)] [] (.bool true) []]) (by kernel_rfl) (by first | exact rfl | exact ⟨rfl, rfl⟩ | (simp [encM, celM, celC, celL, h1, h2, h3, h4, h5, h6, h7, h8, h9, h10, h11, kF, kT, kN, kR, kS, kB, ka, kb, kL]; done) | (first | omega | exact xor_yes h5 | exact xor_no h5)) ⟨?z0, ?z1, ?z2, ?z3, ?z4, ?z5, ?z6, ?z7, ?z8, ?z9, ?z10, ?q703_1, ?q703_2, ?q703_3, ?q703_4, ?q703_5, ?q703_6, ?q703_7, ?q703_8, ?q703_9, trivial⟩
  case z0|z1|z2|z3|z4|z5|z6|z7|z8|z9|z10 => first | exact rfl | (simp [encM, celM, celC, celL, h1, h2, h3, h4, h5, h6, h7, h8, h9, h10, h11, kF, kT, kN, kR, kS, kB, ka, kb, kL] <;> omega) | omega | (first | omega | exact xor_yes h5 | exact xor_no h5)
  · exact qF
  · exact qT
  · exact qN
  · exact qR
  · exact qS
  · exact qB
  · exact qa
  · exact qb
  · exact qL
theorem right10_e26 (m : MsgD) (hm : m.ok) (hl : ∀ s ∈ m.lay.segs, s.chains.length ≤ 1000000000) (h1 : ¬ (m.kind < 1)) (h2 : ¬ (14 < m.kind)) (h3 : ¬ (m.of_ < 0)) (h4 : ¬ (13 < m.of_)) (h5 : ¬ (¬ (m.kind = 14 ↔ 0 < m.of_))) (h6 : ¬ (m.id < 0)) (h7 : ¬ (1048576 ≤ m.id)) (h8 : ¬ (1048576 < m.epoch)) (h9 : ¬ (1048576 < m.addr)) (h10 : ¬ (m.err < 0)) (h11 : ¬ (255 < m.err)) (kF : placeB m.fr m.fn = true) (kT : placeB m.tr m.tn = true) (kN : sameC m.cell cell0 = false) (kR : rightC m.cell = true) (kS : streamsB m.streams = true) (kB : backsB m.backs = true) (ka : ballotB m.br m.bc = true) (kb : ballotB m.pr m.pc = true) (kL : noLayB m.lay = true) : ACalls Tryz.prog 57 [encM m] [] (.bool (right10 m)) [] := by
  have qF := place10_ac m.fr m.fn
  have qT := place10_ac m.tr m.tn
  have qN := noCell10B_ac m.cell
  rw [noCell10_eq] at qN
  have qR := rightR7 m.cell hm.cell.b
  have qS := streams10_ac m.streams hm.st
  have qB := backs10_ac m.backs hm.b
  rw [backs10_eq] at qB
  have qa := ballot10B_ac m.br m.bc
  rw [ballot10_eq] at qa
  have qb := ballot10B_ac m.pr m.pc
  rw [ballot10_eq] at qb
  have qL := noLay10B_ac m.lay
  rw [noLay10_eq] at qL
  have qZ := right9_ac m.lay hl hm.lay.n
  rw [kF] at qF
  rw [kT] at qT
  rw [kN] at qN
  rw [kR] at qR
  rw [kS] at qS
  rw [kB] at qB
  rw [ka] at qa
  rw [kb] at qb
  rw [kL] at qL
  rw [show right10 m = true by unfold right10; rw [if_neg h1, if_neg h2, if_neg h3, if_neg h4, if_neg h5, if_neg h6, if_neg h7, if_neg h8, if_neg h9, if_neg h10, if_neg h11]; unfold tail10; simp [kF, kT, kN, kR, kS, kB, ka, kb, kL]]
  refine acallsK mixed Tryz.func57 rfl [0, 1, 2, 3, 4, 5, 6, 7, 8, 9, 10, 67] 1000 ([.f, .f, .f, .f, .k, .k, .f, .f, .f, .f, .f, .f, .f, .call [] false true (.bool true) [], .call [] false true (.bool true) [], .call [] false true (.bool false) [], .call [] false true (.bool true) [], .call [] false true (.bool true) [], .call [] false true (.bool true) [], .call [] false true (.bool true) [], .call [] false true (.bool true) [], .call [] false true (.bool true) []]) [] [] (v1 := .bool true) (objs1 := []) (ob := [decide (m.kind < (1 : Int)) = false,
 decide (m.kind > (14 : Int)) = false,
 decide (m.of_ < (0 : Int)) = false,
 decide (m.of_ > (13 : Int)) = false,
 (!(m.kind == (14 : Int)) == decide (m.of_ > (0 : Int))) = false,
 decide (m.id < (0 : Int)) = false,
 decide (m.id ≥ (1048576 : Int)) = false,
 decide (m.epoch > (1048576 : Int)) = false,
 decide (m.addr > (1048576 : Int)) = false,
 decide (m.err < (0 : Int)) = false,
 decide (m.err > (255 : Int)) = false,
 ACalls Tryz.prog 96 [.agg [.int .i64 m.fr, .int .i64 m.fn]] [] (.bool true) [],
 ACalls Tryz.prog 96 [.agg [.int .i64 m.tr, .int .i64 m.tn]] [] (.bool true) [],
 ACalls Tryz.prog 97 [(encC m.cell)] [] (.bool false) [],
 ACalls Tryz.prog 47 [(encC m.cell)] [] (.bool true) [],
 ACalls Tryz.prog 98 [.lst 1 (List.map intA m.streams)] [] (.bool true) [],
 ACalls Tryz.prog 99 [.lst 3 (List.map encB m.backs)] [] (.bool true) [],
 ACalls Tryz.prog 100 [.agg [.int .i64 m.br, .int .i64 m.bc]] [] (.bool true) [],
 ACalls Tryz.prog 100 [.agg [.int .i64 m.pr, .int .i64 m.pc]] [] (.bool true) [],
 ACalls Tryz.prog 101 [(encL m.lay)] [] (.bool true) []]) (by kernel_rfl) (by first | exact rfl | exact ⟨rfl, rfl⟩ | (simp [encM, celM, celC, celL, h1, h2, h3, h4, h5, h6, h7, h8, h9, h10, h11, kF, kT, kN, kR, kS, kB, ka, kb, kL]; done) | (first | omega | exact xor_yes h5 | exact xor_no h5)) ⟨?z0, ?z1, ?z2, ?z3, ?z4, ?z5, ?z6, ?z7, ?z8, ?z9, ?z10, ?q739_1, ?q739_2, ?q739_3, ?q739_4, ?q739_5, ?q739_6, ?q739_7, ?q739_8, ?q739_9, trivial⟩
  case z0|z1|z2|z3|z4|z5|z6|z7|z8|z9|z10 => first | exact rfl | (simp [encM, celM, celC, celL, h1, h2, h3, h4, h5, h6, h7, h8, h9, h10, h11, kF, kT, kN, kR, kS, kB, ka, kb, kL] <;> omega) | omega | (first | omega | exact xor_yes h5 | exact xor_no h5)
  · exact qF
  · exact qT
  · exact qN
  · exact qR
  · exact qS
  · exact qB
  · exact qa
  · exact qb
  · exact qL
theorem right10_e27 (m : MsgD) (hm : m.ok) (hl : ∀ s ∈ m.lay.segs, s.chains.length ≤ 1000000000) (h1 : ¬ (m.kind < 1)) (h2 : ¬ (14 < m.kind)) (h3 : ¬ (m.of_ < 0)) (h4 : ¬ (13 < m.of_)) (h5 : ¬ (¬ (m.kind = 14 ↔ 0 < m.of_))) (h6 : ¬ (m.id < 0)) (h7 : ¬ (1048576 ≤ m.id)) (h8 : ¬ (1048576 < m.epoch)) (h9 : ¬ (1048576 < m.addr)) (h10 : ¬ (m.err < 0)) (h11 : ¬ (255 < m.err)) (kF : placeB m.fr m.fn = false) (kN : sameC m.cell cell0 = true) (kL : noLayB m.lay = false) : ACalls Tryz.prog 57 [encM m] [] (.bool (right10 m)) [] := by
  have qF := place10_ac m.fr m.fn
  have qT := place10_ac m.tr m.tn
  have qN := noCell10B_ac m.cell
  rw [noCell10_eq] at qN
  have qR := rightR7 m.cell hm.cell.b
  have qS := streams10_ac m.streams hm.st
  have qB := backs10_ac m.backs hm.b
  rw [backs10_eq] at qB
  have qa := ballot10B_ac m.br m.bc
  rw [ballot10_eq] at qa
  have qb := ballot10B_ac m.pr m.pc
  rw [ballot10_eq] at qb
  have qL := noLay10B_ac m.lay
  rw [noLay10_eq] at qL
  have qZ := right9_ac m.lay hl hm.lay.n
  rw [kF] at qF
  rw [kN] at qN
  rw [kL] at qL
  rw [show right10 m = false by unfold right10; rw [if_neg h1, if_neg h2, if_neg h3, if_neg h4, if_neg h5, if_neg h6, if_neg h7, if_neg h8, if_neg h9, if_neg h10, if_neg h11]; unfold tail10; simp [kF, kN, kL]]
  refine acallsK mixed Tryz.func57 rfl [0, 1, 2, 3, 4, 5, 6, 7, 8, 9, 10, 67] 1000 ([.f, .f, .f, .f, .k, .k, .f, .f, .f, .f, .f, .f, .f, .call [] false true (.bool false) [], .call [] false true (.bool (placeB m.tr m.tn)) [], .call [] false true (.bool true) [], .call [] false true (.bool (streamsB m.streams)) [], .call [] false true (.bool (backsB m.backs)) [], .call [] false true (.bool (ballotB m.br m.bc)) [], .call [] false true (.bool (ballotB m.pr m.pc)) [], .call [] false true (.bool false) [], .call [] false true (.bool (rightL m.lay)) []]) [] [] (v1 := .bool false) (objs1 := []) (ob := [decide (m.kind < (1 : Int)) = false,
 decide (m.kind > (14 : Int)) = false,
 decide (m.of_ < (0 : Int)) = false,
 decide (m.of_ > (13 : Int)) = false,
 (!(m.kind == (14 : Int)) == decide (m.of_ > (0 : Int))) = false,
 decide (m.id < (0 : Int)) = false,
 decide (m.id ≥ (1048576 : Int)) = false,
 decide (m.epoch > (1048576 : Int)) = false,
 decide (m.addr > (1048576 : Int)) = false,
 decide (m.err < (0 : Int)) = false,
 decide (m.err > (255 : Int)) = false,
 ACalls Tryz.prog 96 [.agg [.int .i64 m.fr, .int .i64 m.fn]] [] (.bool false) [],
 ACalls Tryz.prog 96 [.agg [.int .i64 m.tr, .int .i64 m.tn]] [] (.bool (placeB m.tr m.tn)) [],
 ACalls Tryz.prog 97 [(encC m.cell)] [] (.bool true) [],
 ACalls Tryz.prog 98 [.lst 1 (List.map intA m.streams)] [] (.bool (streamsB m.streams)) [],
 ACalls Tryz.prog 99 [.lst 3 (List.map encB m.backs)] [] (.bool (backsB m.backs)) [],
 ACalls Tryz.prog 100 [.agg [.int .i64 m.br, .int .i64 m.bc]] [] (.bool (ballotB m.br m.bc)) [],
 ACalls Tryz.prog 100 [.agg [.int .i64 m.pr, .int .i64 m.pc]] [] (.bool (ballotB m.pr m.pc)) [],
 ACalls Tryz.prog 101 [(encL m.lay)] [] (.bool false) [],
 ACalls Tryz.prog 46 [(encL m.lay)] [] (.bool (rightL m.lay)) []]) (by kernel_rfl) (by first | exact rfl | exact ⟨rfl, rfl⟩ | (simp [encM, celM, celC, celL, h1, h2, h3, h4, h5, h6, h7, h8, h9, h10, h11, kF, kN, kL]; done) | (first | omega | exact xor_yes h5 | exact xor_no h5)) ⟨?z0, ?z1, ?z2, ?z3, ?z4, ?z5, ?z6, ?z7, ?z8, ?z9, ?z10, ?q769_1, ?q769_2, ?q769_3, ?q769_4, ?q769_5, ?q769_6, ?q769_7, ?q769_8, ?q769_9, trivial⟩
  case z0|z1|z2|z3|z4|z5|z6|z7|z8|z9|z10 => first | exact rfl | (simp [encM, celM, celC, celL, h1, h2, h3, h4, h5, h6, h7, h8, h9, h10, h11, kF, kN, kL] <;> omega) | omega | (first | omega | exact xor_yes h5 | exact xor_no h5)
  · exact qF
  · exact qT
  · exact qN
  · exact qS
  · exact qB
  · exact qa
  · exact qb
  · exact qL
  · exact qZ
theorem right10_e28 (m : MsgD) (hm : m.ok) (hl : ∀ s ∈ m.lay.segs, s.chains.length ≤ 1000000000) (h1 : ¬ (m.kind < 1)) (h2 : ¬ (14 < m.kind)) (h3 : ¬ (m.of_ < 0)) (h4 : ¬ (13 < m.of_)) (h5 : ¬ (¬ (m.kind = 14 ↔ 0 < m.of_))) (h6 : ¬ (m.id < 0)) (h7 : ¬ (1048576 ≤ m.id)) (h8 : ¬ (1048576 < m.epoch)) (h9 : ¬ (1048576 < m.addr)) (h10 : ¬ (m.err < 0)) (h11 : ¬ (255 < m.err)) (kF : placeB m.fr m.fn = true) (kT : placeB m.tr m.tn = false) (kN : sameC m.cell cell0 = true) (kL : noLayB m.lay = false) : ACalls Tryz.prog 57 [encM m] [] (.bool (right10 m)) [] := by
  have qF := place10_ac m.fr m.fn
  have qT := place10_ac m.tr m.tn
  have qN := noCell10B_ac m.cell
  rw [noCell10_eq] at qN
  have qR := rightR7 m.cell hm.cell.b
  have qS := streams10_ac m.streams hm.st
  have qB := backs10_ac m.backs hm.b
  rw [backs10_eq] at qB
  have qa := ballot10B_ac m.br m.bc
  rw [ballot10_eq] at qa
  have qb := ballot10B_ac m.pr m.pc
  rw [ballot10_eq] at qb
  have qL := noLay10B_ac m.lay
  rw [noLay10_eq] at qL
  have qZ := right9_ac m.lay hl hm.lay.n
  rw [kF] at qF
  rw [kT] at qT
  rw [kN] at qN
  rw [kL] at qL
  rw [show right10 m = false by unfold right10; rw [if_neg h1, if_neg h2, if_neg h3, if_neg h4, if_neg h5, if_neg h6, if_neg h7, if_neg h8, if_neg h9, if_neg h10, if_neg h11]; unfold tail10; simp [kF, kT, kN, kL]]
  refine acallsK mixed Tryz.func57 rfl [0, 1, 2, 3, 4, 5, 6, 7, 8, 9, 10, 67] 1000 ([.f, .f, .f, .f, .k, .k, .f, .f, .f, .f, .f, .f, .f, .call [] false true (.bool true) [], .call [] false true (.bool false) [], .call [] false true (.bool true) [], .call [] false true (.bool (streamsB m.streams)) [], .call [] false true (.bool (backsB m.backs)) [], .call [] false true (.bool (ballotB m.br m.bc)) [], .call [] false true (.bool (ballotB m.pr m.pc)) [], .call [] false true (.bool false) [], .call [] false true (.bool (rightL m.lay)) []]) [] [] (v1 := .bool false) (objs1 := []) (ob := [decide (m.kind < (1 : Int)) = false,
 decide (m.kind > (14 : Int)) = false,
 decide (m.of_ < (0 : Int)) = false,
 decide (m.of_ > (13 : Int)) = false,
 (!(m.kind == (14 : Int)) == decide (m.of_ > (0 : Int))) = false,
 decide (m.id < (0 : Int)) = false,
 decide (m.id ≥ (1048576 : Int)) = false,
 decide (m.epoch > (1048576 : Int)) = false,
 decide (m.addr > (1048576 : Int)) = false,
 decide (m.err < (0 : Int)) = false,
 decide (m.err > (255 : Int)) = false,
 ACalls Tryz.prog 96 [.agg [.int .i64 m.fr, .int .i64 m.fn]] [] (.bool true) [],
 ACalls Tryz.prog 96 [.agg [.int .i64 m.tr, .int .i64 m.tn]] [] (.bool false) [],
 ACalls Tryz.prog 97 [(encC m.cell)] [] (.bool true) [],
 ACalls Tryz.prog 98 [.lst 1 (List.map intA m.streams)] [] (.bool (streamsB m.streams)) [],
 ACalls Tryz.prog 99 [.lst 3 (List.map encB m.backs)] [] (.bool (backsB m.backs)) [],
 ACalls Tryz.prog 100 [.agg [.int .i64 m.br, .int .i64 m.bc]] [] (.bool (ballotB m.br m.bc)) [],
 ACalls Tryz.prog 100 [.agg [.int .i64 m.pr, .int .i64 m.pc]] [] (.bool (ballotB m.pr m.pc)) [],
 ACalls Tryz.prog 101 [(encL m.lay)] [] (.bool false) [],
 ACalls Tryz.prog 46 [(encL m.lay)] [] (.bool (rightL m.lay)) []]) (by kernel_rfl) (by first | exact rfl | exact ⟨rfl, rfl⟩ | (simp [encM, celM, celC, celL, h1, h2, h3, h4, h5, h6, h7, h8, h9, h10, h11, kF, kT, kN, kL]; done) | (first | omega | exact xor_yes h5 | exact xor_no h5)) ⟨?z0, ?z1, ?z2, ?z3, ?z4, ?z5, ?z6, ?z7, ?z8, ?z9, ?z10, ?q800_1, ?q800_2, ?q800_3, ?q800_4, ?q800_5, ?q800_6, ?q800_7, ?q800_8, ?q800_9, trivial⟩
  case z0|z1|z2|z3|z4|z5|z6|z7|z8|z9|z10 => first | exact rfl | (simp [encM, celM, celC, celL, h1, h2, h3, h4, h5, h6, h7, h8, h9, h10, h11, kF, kT, kN, kL] <;> omega) | omega | (first | omega | exact xor_yes h5 | exact xor_no h5)
  · exact qF
  · exact qT
  · exact qN
  · exact qS
  · exact qB
  · exact qa
  · exact qb
  · exact qL
  · exact qZ
theorem right10_e29 (m : MsgD) (hm : m.ok) (hl : ∀ s ∈ m.lay.segs, s.chains.length ≤ 1000000000) (h1 : ¬ (m.kind < 1)) (h2 : ¬ (14 < m.kind)) (h3 : ¬ (m.of_ < 0)) (h4 : ¬ (13 < m.of_)) (h5 : ¬ (¬ (m.kind = 14 ↔ 0 < m.of_))) (h6 : ¬ (m.id < 0)) (h7 : ¬ (1048576 ≤ m.id)) (h8 : ¬ (1048576 < m.epoch)) (h9 : ¬ (1048576 < m.addr)) (h10 : ¬ (m.err < 0)) (h11 : ¬ (255 < m.err)) (kF : placeB m.fr m.fn = true) (kT : placeB m.tr m.tn = true) (kN : sameC m.cell cell0 = true) (kS : streamsB m.streams = false) (kL : noLayB m.lay = false) : ACalls Tryz.prog 57 [encM m] [] (.bool (right10 m)) [] := by
  have qF := place10_ac m.fr m.fn
  have qT := place10_ac m.tr m.tn
  have qN := noCell10B_ac m.cell
  rw [noCell10_eq] at qN
  have qR := rightR7 m.cell hm.cell.b
  have qS := streams10_ac m.streams hm.st
  have qB := backs10_ac m.backs hm.b
  rw [backs10_eq] at qB
  have qa := ballot10B_ac m.br m.bc
  rw [ballot10_eq] at qa
  have qb := ballot10B_ac m.pr m.pc
  rw [ballot10_eq] at qb
  have qL := noLay10B_ac m.lay
  rw [noLay10_eq] at qL
  have qZ := right9_ac m.lay hl hm.lay.n
  rw [kF] at qF
  rw [kT] at qT
  rw [kN] at qN
  rw [kS] at qS
  rw [kL] at qL
  rw [show right10 m = false by unfold right10; rw [if_neg h1, if_neg h2, if_neg h3, if_neg h4, if_neg h5, if_neg h6, if_neg h7, if_neg h8, if_neg h9, if_neg h10, if_neg h11]; unfold tail10; simp [kF, kT, kN, kS, kL]]
  refine acallsK mixed Tryz.func57 rfl [0, 1, 2, 3, 4, 5, 6, 7, 8, 9, 10, 67] 1000 ([.f, .f, .f, .f, .k, .k, .f, .f, .f, .f, .f, .f, .f, .call [] false true (.bool true) [], .call [] false true (.bool true) [], .call [] false true (.bool true) [], .call [] false true (.bool false) [], .call [] false true (.bool (backsB m.backs)) [], .call [] false true (.bool (ballotB m.br m.bc)) [], .call [] false true (.bool (ballotB m.pr m.pc)) [], .call [] false true (.bool false) [], .call [] false true (.bool (rightL m.lay)) []]) [] [] (v1 := .bool false) (objs1 := []) (ob := [decide (m.kind < (1 : Int)) = false,
 decide (m.kind > (14 : Int)) = false,
 decide (m.of_ < (0 : Int)) = false,
 decide (m.of_ > (13 : Int)) = false,
 (!(m.kind == (14 : Int)) == decide (m.of_ > (0 : Int))) = false,
 decide (m.id < (0 : Int)) = false,
 decide (m.id ≥ (1048576 : Int)) = false,
 decide (m.epoch > (1048576 : Int)) = false,
 decide (m.addr > (1048576 : Int)) = false,
 decide (m.err < (0 : Int)) = false,
 decide (m.err > (255 : Int)) = false,
 ACalls Tryz.prog 96 [.agg [.int .i64 m.fr, .int .i64 m.fn]] [] (.bool true) [],
 ACalls Tryz.prog 96 [.agg [.int .i64 m.tr, .int .i64 m.tn]] [] (.bool true) [],
 ACalls Tryz.prog 97 [(encC m.cell)] [] (.bool true) [],
 ACalls Tryz.prog 98 [.lst 1 (List.map intA m.streams)] [] (.bool false) [],
 ACalls Tryz.prog 99 [.lst 3 (List.map encB m.backs)] [] (.bool (backsB m.backs)) [],
 ACalls Tryz.prog 100 [.agg [.int .i64 m.br, .int .i64 m.bc]] [] (.bool (ballotB m.br m.bc)) [],
 ACalls Tryz.prog 100 [.agg [.int .i64 m.pr, .int .i64 m.pc]] [] (.bool (ballotB m.pr m.pc)) [],
 ACalls Tryz.prog 101 [(encL m.lay)] [] (.bool false) [],
 ACalls Tryz.prog 46 [(encL m.lay)] [] (.bool (rightL m.lay)) []]) (by kernel_rfl) (by first | exact rfl | exact ⟨rfl, rfl⟩ | (simp [encM, celM, celC, celL, h1, h2, h3, h4, h5, h6, h7, h8, h9, h10, h11, kF, kT, kN, kS, kL]; done) | (first | omega | exact xor_yes h5 | exact xor_no h5)) ⟨?z0, ?z1, ?z2, ?z3, ?z4, ?z5, ?z6, ?z7, ?z8, ?z9, ?z10, ?q832_1, ?q832_2, ?q832_3, ?q832_4, ?q832_5, ?q832_6, ?q832_7, ?q832_8, ?q832_9, trivial⟩
  case z0|z1|z2|z3|z4|z5|z6|z7|z8|z9|z10 => first | exact rfl | (simp [encM, celM, celC, celL, h1, h2, h3, h4, h5, h6, h7, h8, h9, h10, h11, kF, kT, kN, kS, kL] <;> omega) | omega | (first | omega | exact xor_yes h5 | exact xor_no h5)
  · exact qF
  · exact qT
  · exact qN
  · exact qS
  · exact qB
  · exact qa
  · exact qb
  · exact qL
  · exact qZ
theorem right10_e30 (m : MsgD) (hm : m.ok) (hl : ∀ s ∈ m.lay.segs, s.chains.length ≤ 1000000000) (h1 : ¬ (m.kind < 1)) (h2 : ¬ (14 < m.kind)) (h3 : ¬ (m.of_ < 0)) (h4 : ¬ (13 < m.of_)) (h5 : ¬ (¬ (m.kind = 14 ↔ 0 < m.of_))) (h6 : ¬ (m.id < 0)) (h7 : ¬ (1048576 ≤ m.id)) (h8 : ¬ (1048576 < m.epoch)) (h9 : ¬ (1048576 < m.addr)) (h10 : ¬ (m.err < 0)) (h11 : ¬ (255 < m.err)) (kF : placeB m.fr m.fn = true) (kT : placeB m.tr m.tn = true) (kN : sameC m.cell cell0 = true) (kS : streamsB m.streams = true) (kB : backsB m.backs = false) (kL : noLayB m.lay = false) : ACalls Tryz.prog 57 [encM m] [] (.bool (right10 m)) [] := by
  have qF := place10_ac m.fr m.fn
  have qT := place10_ac m.tr m.tn
  have qN := noCell10B_ac m.cell
  rw [noCell10_eq] at qN
  have qR := rightR7 m.cell hm.cell.b
  have qS := streams10_ac m.streams hm.st
  have qB := backs10_ac m.backs hm.b
  rw [backs10_eq] at qB
  have qa := ballot10B_ac m.br m.bc
  rw [ballot10_eq] at qa
  have qb := ballot10B_ac m.pr m.pc
  rw [ballot10_eq] at qb
  have qL := noLay10B_ac m.lay
  rw [noLay10_eq] at qL
  have qZ := right9_ac m.lay hl hm.lay.n
  rw [kF] at qF
  rw [kT] at qT
  rw [kN] at qN
  rw [kS] at qS
  rw [kB] at qB
  rw [kL] at qL
  rw [show right10 m = false by unfold right10; rw [if_neg h1, if_neg h2, if_neg h3, if_neg h4, if_neg h5, if_neg h6, if_neg h7, if_neg h8, if_neg h9, if_neg h10, if_neg h11]; unfold tail10; simp [kF, kT, kN, kS, kB, kL]]
  refine acallsK mixed Tryz.func57 rfl [0, 1, 2, 3, 4, 5, 6, 7, 8, 9, 10, 67] 1000 ([.f, .f, .f, .f, .k, .k, .f, .f, .f, .f, .f, .f, .f, .call [] false true (.bool true) [], .call [] false true (.bool true) [], .call [] false true (.bool true) [], .call [] false true (.bool true) [], .call [] false true (.bool false) [], .call [] false true (.bool (ballotB m.br m.bc)) [], .call [] false true (.bool (ballotB m.pr m.pc)) [], .call [] false true (.bool false) [], .call [] false true (.bool (rightL m.lay)) []]) [] [] (v1 := .bool false) (objs1 := []) (ob := [decide (m.kind < (1 : Int)) = false,
 decide (m.kind > (14 : Int)) = false,
 decide (m.of_ < (0 : Int)) = false,
 decide (m.of_ > (13 : Int)) = false,
 (!(m.kind == (14 : Int)) == decide (m.of_ > (0 : Int))) = false,
 decide (m.id < (0 : Int)) = false,
 decide (m.id ≥ (1048576 : Int)) = false,
 decide (m.epoch > (1048576 : Int)) = false,
 decide (m.addr > (1048576 : Int)) = false,
 decide (m.err < (0 : Int)) = false,
 decide (m.err > (255 : Int)) = false,
 ACalls Tryz.prog 96 [.agg [.int .i64 m.fr, .int .i64 m.fn]] [] (.bool true) [],
 ACalls Tryz.prog 96 [.agg [.int .i64 m.tr, .int .i64 m.tn]] [] (.bool true) [],
 ACalls Tryz.prog 97 [(encC m.cell)] [] (.bool true) [],
 ACalls Tryz.prog 98 [.lst 1 (List.map intA m.streams)] [] (.bool true) [],
 ACalls Tryz.prog 99 [.lst 3 (List.map encB m.backs)] [] (.bool false) [],
 ACalls Tryz.prog 100 [.agg [.int .i64 m.br, .int .i64 m.bc]] [] (.bool (ballotB m.br m.bc)) [],
 ACalls Tryz.prog 100 [.agg [.int .i64 m.pr, .int .i64 m.pc]] [] (.bool (ballotB m.pr m.pc)) [],
 ACalls Tryz.prog 101 [(encL m.lay)] [] (.bool false) [],
 ACalls Tryz.prog 46 [(encL m.lay)] [] (.bool (rightL m.lay)) []]) (by kernel_rfl) (by first | exact rfl | exact ⟨rfl, rfl⟩ | (simp [encM, celM, celC, celL, h1, h2, h3, h4, h5, h6, h7, h8, h9, h10, h11, kF, kT, kN, kS, kB, kL]; done) | (first | omega | exact xor_yes h5 | exact xor_no h5)) ⟨?z0, ?z1, ?z2, ?z3, ?z4, ?z5, ?z6, ?z7, ?z8, ?z9, ?z10, ?q865_1, ?q865_2, ?q865_3, ?q865_4, ?q865_5, ?q865_6, ?q865_7, ?q865_8, ?q865_9, trivial⟩
  case z0|z1|z2|z3|z4|z5|z6|z7|z8|z9|z10 => first | exact rfl | (simp [encM, celM, celC, celL, h1, h2, h3, h4, h5, h6, h7, h8, h9, h10, h11, kF, kT, kN, kS, kB, kL] <;> omega) | omega | (first | omega | exact xor_yes h5 | exact xor_no h5)
  · exact qF
  · exact qT
  · exact qN
  · exact qS
  · exact qB
  · exact qa
  · exact qb
  · exact qL
  · exact qZ
theorem right10_e31 (m : MsgD) (hm : m.ok) (hl : ∀ s ∈ m.lay.segs, s.chains.length ≤ 1000000000) (h1 : ¬ (m.kind < 1)) (h2 : ¬ (14 < m.kind)) (h3 : ¬ (m.of_ < 0)) (h4 : ¬ (13 < m.of_)) (h5 : ¬ (¬ (m.kind = 14 ↔ 0 < m.of_))) (h6 : ¬ (m.id < 0)) (h7 : ¬ (1048576 ≤ m.id)) (h8 : ¬ (1048576 < m.epoch)) (h9 : ¬ (1048576 < m.addr)) (h10 : ¬ (m.err < 0)) (h11 : ¬ (255 < m.err)) (kF : placeB m.fr m.fn = true) (kT : placeB m.tr m.tn = true) (kN : sameC m.cell cell0 = true) (kS : streamsB m.streams = true) (kB : backsB m.backs = true) (ka : ballotB m.br m.bc = false) (kL : noLayB m.lay = false) : ACalls Tryz.prog 57 [encM m] [] (.bool (right10 m)) [] := by
  have qF := place10_ac m.fr m.fn
  have qT := place10_ac m.tr m.tn
  have qN := noCell10B_ac m.cell
  rw [noCell10_eq] at qN
  have qR := rightR7 m.cell hm.cell.b
  have qS := streams10_ac m.streams hm.st
  have qB := backs10_ac m.backs hm.b
  rw [backs10_eq] at qB
  have qa := ballot10B_ac m.br m.bc
  rw [ballot10_eq] at qa
  have qb := ballot10B_ac m.pr m.pc
  rw [ballot10_eq] at qb
  have qL := noLay10B_ac m.lay
  rw [noLay10_eq] at qL
  have qZ := right9_ac m.lay hl hm.lay.n
  rw [kF] at qF
  rw [kT] at qT
  rw [kN] at qN
  rw [kS] at qS
  rw [kB] at qB
  rw [ka] at qa
  rw [kL] at qL
  rw [show right10 m = false by unfold right10; rw [if_neg h1, if_neg h2, if_neg h3, if_neg h4, if_neg h5, if_neg h6, if_neg h7, if_neg h8, if_neg h9, if_neg h10, if_neg h11]; unfold tail10; simp [kF, kT, kN, kS, kB, ka, kL]]
  refine acallsK mixed Tryz.func57 rfl [0, 1, 2, 3, 4, 5, 6, 7, 8, 9, 10, 67] 1000 ([.f, .f, .f, .f, .k, .k, .f, .f, .f, .f, .f, .f, .f, .call [] false true (.bool true) [], .call [] false true (.bool true) [], .call [] false true (.bool true) [], .call [] false true (.bool true) [], .call [] false true (.bool true) [], .call [] false true (.bool false) [], .call [] false true (.bool (ballotB m.pr m.pc)) [], .call [] false true (.bool false) [], .call [] false true (.bool (rightL m.lay)) []]) [] [] (v1 := .bool false) (objs1 := []) (ob := [decide (m.kind < (1 : Int)) = false,
 decide (m.kind > (14 : Int)) = false,
 decide (m.of_ < (0 : Int)) = false,
 decide (m.of_ > (13 : Int)) = false,
 (!(m.kind == (14 : Int)) == decide (m.of_ > (0 : Int))) = false,
 decide (m.id < (0 : Int)) = false,
 decide (m.id ≥ (1048576 : Int)) = false,
 decide (m.epoch > (1048576 : Int)) = false,
 decide (m.addr > (1048576 : Int)) = false,
 decide (m.err < (0 : Int)) = false,
 decide (m.err > (255 : Int)) = false,
 ACalls Tryz.prog 96 [.agg [.int .i64 m.fr, .int .i64 m.fn]] [] (.bool true) [],
 ACalls Tryz.prog 96 [.agg [.int .i64 m.tr, .int .i64 m.tn]] [] (.bool true) [],
 ACalls Tryz.prog 97 [(encC m.cell)] [] (.bool true) [],
 ACalls Tryz.prog 98 [.lst 1 (List.map intA m.streams)] [] (.bool true) [],
 ACalls Tryz.prog 99 [.lst 3 (List.map encB m.backs)] [] (.bool true) [],
 ACalls Tryz.prog 100 [.agg [.int .i64 m.br, .int .i64 m.bc]] [] (.bool false) [],
 ACalls Tryz.prog 100 [.agg [.int .i64 m.pr, .int .i64 m.pc]] [] (.bool (ballotB m.pr m.pc)) [],
 ACalls Tryz.prog 101 [(encL m.lay)] [] (.bool false) [],
 ACalls Tryz.prog 46 [(encL m.lay)] [] (.bool (rightL m.lay)) []]) (by kernel_rfl) (by first | exact rfl | exact ⟨rfl, rfl⟩ | (simp [encM, celM, celC, celL, h1, h2, h3, h4, h5, h6, h7, h8, h9, h10, h11, kF, kT, kN, kS, kB, ka, kL]; done) | (first | omega | exact xor_yes h5 | exact xor_no h5)) ⟨?z0, ?z1, ?z2, ?z3, ?z4, ?z5, ?z6, ?z7, ?z8, ?z9, ?z10, ?q899_1, ?q899_2, ?q899_3, ?q899_4, ?q899_5, ?q899_6, ?q899_7, ?q899_8, ?q899_9, trivial⟩
  case z0|z1|z2|z3|z4|z5|z6|z7|z8|z9|z10 => first | exact rfl | (simp [encM, celM, celC, celL, h1, h2, h3, h4, h5, h6, h7, h8, h9, h10, h11, kF, kT, kN, kS, kB, ka, kL] <;> omega) | omega | (first | omega | exact xor_yes h5 | exact xor_no h5)
  · exact qF
  · exact qT
  · exact qN
  · exact qS
  · exact qB
  · exact qa
  · exact qb
  · exact qL
  · exact qZ
theorem right10_e32 (m : MsgD) (hm : m.ok) (hl : ∀ s ∈ m.lay.segs, s.chains.length ≤ 1000000000) (h1 : ¬ (m.kind < 1)) (h2 : ¬ (14 < m.kind)) (h3 : ¬ (m.of_ < 0)) (h4 : ¬ (13 < m.of_)) (h5 : ¬ (¬ (m.kind = 14 ↔ 0 < m.of_))) (h6 : ¬ (m.id < 0)) (h7 : ¬ (1048576 ≤ m.id)) (h8 : ¬ (1048576 < m.epoch)) (h9 : ¬ (1048576 < m.addr)) (h10 : ¬ (m.err < 0)) (h11 : ¬ (255 < m.err)) (kF : placeB m.fr m.fn = true) (kT : placeB m.tr m.tn = true) (kN : sameC m.cell cell0 = true) (kS : streamsB m.streams = true) (kB : backsB m.backs = true) (ka : ballotB m.br m.bc = true) (kb : ballotB m.pr m.pc = false) (kL : noLayB m.lay = false) : ACalls Tryz.prog 57 [encM m] [] (.bool (right10 m)) [] := by
  have qF := place10_ac m.fr m.fn
  have qT := place10_ac m.tr m.tn
  have qN := noCell10B_ac m.cell
  rw [noCell10_eq] at qN
  have qR := rightR7 m.cell hm.cell.b
  have qS := streams10_ac m.streams hm.st
  have qB := backs10_ac m.backs hm.b
  rw [backs10_eq] at qB
  have qa := ballot10B_ac m.br m.bc
  rw [ballot10_eq] at qa
  have qb := ballot10B_ac m.pr m.pc
  rw [ballot10_eq] at qb
  have qL := noLay10B_ac m.lay
  rw [noLay10_eq] at qL
  have qZ := right9_ac m.lay hl hm.lay.n
  rw [kF] at qF
  rw [kT] at qT
  rw [kN] at qN
  rw [kS] at qS
  rw [kB] at qB
  rw [ka] at qa
  rw [kb] at qb
  rw [kL] at qL
  rw [show right10 m = false by unfold right10; rw [if_neg h1, if_neg h2, if_neg h3, if_neg h4, if_neg h5, if_neg h6, if_neg h7, if_neg h8, if_neg h9, if_neg h10, if_neg h11]; unfold tail10; simp [kF, kT, kN, kS, kB, ka, kb, kL]]
  refine acallsK mixed Tryz.func57 rfl [0, 1, 2, 3, 4, 5, 6, 7, 8, 9, 10, 67] 1000 ([.f, .f, .f, .f, .k, .k, .f, .f, .f, .f, .f, .f, .f, .call [] false true (.bool true) [], .call [] false true (.bool true) [], .call [] false true (.bool true) [], .call [] false true (.bool true) [], .call [] false true (.bool true) [], .call [] false true (.bool true) [], .call [] false true (.bool false) [], .call [] false true (.bool false) [], .call [] false true (.bool (rightL m.lay)) []]) [] [] (v1 := .bool false) (objs1 := []) (ob := [decide (m.kind < (1 : Int)) = false,
 decide (m.kind > (14 : Int)) = false,
 decide (m.of_ < (0 : Int)) = false,
 decide (m.of_ > (13 : Int)) = false,
 (!(m.kind == (14 : Int)) == decide (m.of_ > (0 : Int))) = false,
 decide (m.id < (0 : Int)) = false,
 decide (m.id ≥ (1048576 : Int)) = false,
 decide (m.epoch > (1048576 : Int)) = false,
 decide (m.addr > (1048576 : Int)) = false,
 decide (m.err < (0 : Int)) = false,
 decide (m.err > (255 : Int)) = false,
 ACalls Tryz.prog 96 [.agg [.int .i64 m.fr, .int .i64 m.fn]] [] (.bool true) [],
 ACalls Tryz.prog 96 [.agg [.int .i64 m.tr, .int .i64 m.tn]] [] (.bool true) [],
 ACalls Tryz.prog 97 [(encC m.cell)] [] (.bool true) [],
 ACalls Tryz.prog 98 [.lst 1 (List.map intA m.streams)] [] (.bool true) [],
 ACalls Tryz.prog 99 [.lst 3 (List.map encB m.backs)] [] (.bool true) [],
 ACalls Tryz.prog 100 [.agg [.int .i64 m.br, .int .i64 m.bc]] [] (.bool true) [],
 ACalls Tryz.prog 100 [.agg [.int .i64 m.pr, .int .i64 m.pc]] [] (.bool false) [],
 ACalls Tryz.prog 101 [(encL m.lay)] [] (.bool false) [],
 ACalls Tryz.prog 46 [(encL m.lay)] [] (.bool (rightL m.lay)) []]) (by kernel_rfl) (by first | exact rfl | exact ⟨rfl, rfl⟩ | (simp [encM, celM, celC, celL, h1, h2, h3, h4, h5, h6, h7, h8, h9, h10, h11, kF, kT, kN, kS, kB, ka, kb, kL]; done) | (first | omega | exact xor_yes h5 | exact xor_no h5)) ⟨?z0, ?z1, ?z2, ?z3, ?z4, ?z5, ?z6, ?z7, ?z8, ?z9, ?z10, ?q934_1, ?q934_2, ?q934_3, ?q934_4, ?q934_5, ?q934_6, ?q934_7, ?q934_8, ?q934_9, trivial⟩
  case z0|z1|z2|z3|z4|z5|z6|z7|z8|z9|z10 => first | exact rfl | (simp [encM, celM, celC, celL, h1, h2, h3, h4, h5, h6, h7, h8, h9, h10, h11, kF, kT, kN, kS, kB, ka, kb, kL] <;> omega) | omega | (first | omega | exact xor_yes h5 | exact xor_no h5)
  · exact qF
  · exact qT
  · exact qN
  · exact qS
  · exact qB
  · exact qa
  · exact qb
  · exact qL
  · exact qZ
theorem right10_e33 (m : MsgD) (hm : m.ok) (hl : ∀ s ∈ m.lay.segs, s.chains.length ≤ 1000000000) (h1 : ¬ (m.kind < 1)) (h2 : ¬ (14 < m.kind)) (h3 : ¬ (m.of_ < 0)) (h4 : ¬ (13 < m.of_)) (h5 : ¬ (¬ (m.kind = 14 ↔ 0 < m.of_))) (h6 : ¬ (m.id < 0)) (h7 : ¬ (1048576 ≤ m.id)) (h8 : ¬ (1048576 < m.epoch)) (h9 : ¬ (1048576 < m.addr)) (h10 : ¬ (m.err < 0)) (h11 : ¬ (255 < m.err)) (kF : placeB m.fr m.fn = true) (kT : placeB m.tr m.tn = true) (kN : sameC m.cell cell0 = true) (kS : streamsB m.streams = true) (kB : backsB m.backs = true) (ka : ballotB m.br m.bc = true) (kb : ballotB m.pr m.pc = true) (kL : noLayB m.lay = false) : ACalls Tryz.prog 57 [encM m] [] (.bool (right10 m)) [] := by
  have qF := place10_ac m.fr m.fn
  have qT := place10_ac m.tr m.tn
  have qN := noCell10B_ac m.cell
  rw [noCell10_eq] at qN
  have qR := rightR7 m.cell hm.cell.b
  have qS := streams10_ac m.streams hm.st
  have qB := backs10_ac m.backs hm.b
  rw [backs10_eq] at qB
  have qa := ballot10B_ac m.br m.bc
  rw [ballot10_eq] at qa
  have qb := ballot10B_ac m.pr m.pc
  rw [ballot10_eq] at qb
  have qL := noLay10B_ac m.lay
  rw [noLay10_eq] at qL
  have qZ := right9_ac m.lay hl hm.lay.n
  rw [kF] at qF
  rw [kT] at qT
  rw [kN] at qN
  rw [kS] at qS
  rw [kB] at qB
  rw [ka] at qa
  rw [kb] at qb
  rw [kL] at qL
  rw [show right10 m = rightL m.lay by unfold right10; rw [if_neg h1, if_neg h2, if_neg h3, if_neg h4, if_neg h5, if_neg h6, if_neg h7, if_neg h8, if_neg h9, if_neg h10, if_neg h11]; unfold tail10; simp [kF, kT, kN, kS, kB, ka, kb, kL]]
  refine acallsK mixed Tryz.func57 rfl [0, 1, 2, 3, 4, 5, 6, 7, 8, 9, 10, 67] 1000 ([.f, .f, .f, .f, .k, .k, .f, .f, .f, .f, .f, .f, .f, .call [] false true (.bool true) [], .call [] false true (.bool true) [], .call [] false true (.bool true) [], .call [] false true (.bool true) [], .call [] false true (.bool true) [], .call [] false true (.bool true) [], .call [] false true (.bool true) [], .call [] false true (.bool false) [], .call [] false true (.bool (rightL m.lay)) []]) [] [] (v1 := .bool (rightL m.lay)) (objs1 := []) (ob := [decide (m.kind < (1 : Int)) = false,
 decide (m.kind > (14 : Int)) = false,
 decide (m.of_ < (0 : Int)) = false,
 decide (m.of_ > (13 : Int)) = false,
 (!(m.kind == (14 : Int)) == decide (m.of_ > (0 : Int))) = false,
 decide (m.id < (0 : Int)) = false,
 decide (m.id ≥ (1048576 : Int)) = false,
 decide (m.epoch > (1048576 : Int)) = false,
 decide (m.addr > (1048576 : Int)) = false,
 decide (m.err < (0 : Int)) = false,
 decide (m.err > (255 : Int)) = false,
 ACalls Tryz.prog 96 [.agg [.int .i64 m.fr, .int .i64 m.fn]] [] (.bool true) [],
 ACalls Tryz.prog 96 [.agg [.int .i64 m.tr, .int .i64 m.tn]] [] (.bool true) [],
 ACalls Tryz.prog 97 [(encC m.cell)] [] (.bool true) [],
 ACalls Tryz.prog 98 [.lst 1 (List.map intA m.streams)] [] (.bool true) [],
 ACalls Tryz.prog 99 [.lst 3 (List.map encB m.backs)] [] (.bool true) [],
 ACalls Tryz.prog 100 [.agg [.int .i64 m.br, .int .i64 m.bc]] [] (.bool true) [],
 ACalls Tryz.prog 100 [.agg [.int .i64 m.pr, .int .i64 m.pc]] [] (.bool true) [],
 ACalls Tryz.prog 101 [(encL m.lay)] [] (.bool false) [],
 ACalls Tryz.prog 46 [(encL m.lay)] [] (.bool (rightL m.lay)) []]) (by kernel_rfl) (by first | exact rfl | exact ⟨rfl, rfl⟩ | (simp [encM, celM, celC, celL, h1, h2, h3, h4, h5, h6, h7, h8, h9, h10, h11, kF, kT, kN, kS, kB, ka, kb, kL]; done) | (first | omega | exact xor_yes h5 | exact xor_no h5)) ⟨?z0, ?z1, ?z2, ?z3, ?z4, ?z5, ?z6, ?z7, ?z8, ?z9, ?z10, ?q969_1, ?q969_2, ?q969_3, ?q969_4, ?q969_5, ?q969_6, ?q969_7, ?q969_8, ?q969_9, trivial⟩
  case z0|z1|z2|z3|z4|z5|z6|z7|z8|z9|z10 => first | exact rfl | (simp [encM, celM, celC, celL, h1, h2, h3, h4, h5, h6, h7, h8, h9, h10, h11, kF, kT, kN, kS, kB, ka, kb, kL] <;> omega) | omega | (first | omega | exact xor_yes h5 | exact xor_no h5)
  · exact qF
  · exact qT
  · exact qN
  · exact qS
  · exact qB
  · exact qa
  · exact qb
  · exact qL
  · exact qZ
theorem right10_e34 (m : MsgD) (hm : m.ok) (hl : ∀ s ∈ m.lay.segs, s.chains.length ≤ 1000000000) (h1 : ¬ (m.kind < 1)) (h2 : ¬ (14 < m.kind)) (h3 : ¬ (m.of_ < 0)) (h4 : ¬ (13 < m.of_)) (h5 : ¬ (¬ (m.kind = 14 ↔ 0 < m.of_))) (h6 : ¬ (m.id < 0)) (h7 : ¬ (1048576 ≤ m.id)) (h8 : ¬ (1048576 < m.epoch)) (h9 : ¬ (1048576 < m.addr)) (h10 : ¬ (m.err < 0)) (h11 : ¬ (255 < m.err)) (kF : placeB m.fr m.fn = false) (kN : sameC m.cell cell0 = true) (kL : noLayB m.lay = true) : ACalls Tryz.prog 57 [encM m] [] (.bool (right10 m)) [] := by
  have qF := place10_ac m.fr m.fn
  have qT := place10_ac m.tr m.tn
  have qN := noCell10B_ac m.cell
  rw [noCell10_eq] at qN
  have qR := rightR7 m.cell hm.cell.b
  have qS := streams10_ac m.streams hm.st
  have qB := backs10_ac m.backs hm.b
  rw [backs10_eq] at qB
  have qa := ballot10B_ac m.br m.bc
  rw [ballot10_eq] at qa
  have qb := ballot10B_ac m.pr m.pc
  rw [ballot10_eq] at qb
  have qL := noLay10B_ac m.lay
  rw [noLay10_eq] at qL
  have qZ := right9_ac m.lay hl hm.lay.n
  rw [kF] at qF
  rw [kN] at qN
  rw [kL] at qL
  rw [show right10 m = false by unfold right10; rw [if_neg h1, if_neg h2, if_neg h3, if_neg h4, if_neg h5, if_neg h6, if_neg h7, if_neg h8, if_neg h9, if_neg h10, if_neg h11]; unfold tail10; simp [kF, kN, kL]]
  refine acallsK mixed Tryz.func57 rfl [0, 1, 2, 3, 4, 5, 6, 7, 8, 9, 10, 67] 1000 ([.f, .f, .f, .f, .k, .k, .f, .f, .f, .f, .f, .f, .f, .call [] false true (.bool false) [], .call [] false true (.bool (placeB m.tr m.tn)) [], .call [] false true (.bool true) [], .call [] false true (.bool (streamsB m.streams)) [], .call [] false true (.bool (backsB m.backs)) [], .call [] false true (.bool (ballotB m.br m.bc)) [], .call [] false true (.bool (ballotB m.pr m.pc)) [], .call [] false true (.bool true) []]) [] [] (v1 := .bool false) (objs1 := []) (ob := [decide (m.kind < (1 : Int)) = false,
 decide (m.kind > (14 : Int)) = false,
 decide (m.of_ < (0 : Int)) = false,
 decide (m.of_ > (13 : Int)) = false,
 (!(m.kind == (14 : Int)) == decide (m.of_ > (0 : Int))) = false,
 decide (m.id < (0 : Int)) = false,
 decide (m.id ≥ (1048576 : Int)) = false,
 decide (m.epoch > (1048576 : Int)) = false,
 decide (m.addr > (1048576 : Int)) = false,
 decide (m.err < (0 : Int)) = false,
 decide (m.err > (255 : Int)) = false,
 ACalls Tryz.prog 96 [.agg [.int .i64 m.fr, .int .i64 m.fn]] [] (.bool false) [],
 ACalls Tryz.prog 96 [.agg [.int .i64 m.tr, .int .i64 m.tn]] [] (.bool (placeB m.tr m.tn)) [],
 ACalls Tryz.prog 97 [(encC m.cell)] [] (.bool true) [],
 ACalls Tryz.prog 98 [.lst 1 (List.map intA m.streams)] [] (.bool (streamsB m.streams)) [],
 ACalls Tryz.prog 99 [.lst 3 (List.map encB m.backs)] [] (.bool (backsB m.backs)) [],
 ACalls Tryz.prog 100 [.agg [.int .i64 m.br, .int .i64 m.bc]] [] (.bool (ballotB m.br m.bc)) [],
 ACalls Tryz.prog 100 [.agg [.int .i64 m.pr, .int .i64 m.pc]] [] (.bool (ballotB m.pr m.pc)) [],
 ACalls Tryz.prog 101 [(encL m.lay)] [] (.bool true) []]) (by kernel_rfl) (by first | exact rfl | exact ⟨rfl, rfl⟩ | (simp [encM, celM, celC, celL, h1, h2, h3, h4, h5, h6, h7, h8, h9, h10, h11, kF, kN, kL]; done) | (first | omega | exact xor_yes h5 | exact xor_no h5)) ⟨?z0, ?z1, ?z2, ?z3, ?z4, ?z5, ?z6, ?z7, ?z8, ?z9, ?z10, ?q999_1, ?q999_2, ?q999_3, ?q999_4, ?q999_5, ?q999_6, ?q999_7, ?q999_8, trivial⟩
  case z0|z1|z2|z3|z4|z5|z6|z7|z8|z9|z10 => first | exact rfl | (simp [encM, celM, celC, celL, h1, h2, h3, h4, h5, h6, h7, h8, h9, h10, h11, kF, kN, kL] <;> omega) | omega | (first | omega | exact xor_yes h5 | exact xor_no h5)
  · exact qF
  · exact qT
  · exact qN
  · exact qS
  · exact qB
  · exact qa
  · exact qb
  · exact qL
theorem right10_e35 (m : MsgD) (hm : m.ok) (hl : ∀ s ∈ m.lay.segs, s.chains.length ≤ 1000000000) (h1 : ¬ (m.kind < 1)) (h2 : ¬ (14 < m.kind)) (h3 : ¬ (m.of_ < 0)) (h4 : ¬ (13 < m.of_)) (h5 : ¬ (¬ (m.kind = 14 ↔ 0 < m.of_))) (h6 : ¬ (m.id < 0)) (h7 : ¬ (1048576 ≤ m.id)) (h8 : ¬ (1048576 < m.epoch)) (h9 : ¬ (1048576 < m.addr)) (h10 : ¬ (m.err < 0)) (h11 : ¬ (255 < m.err)) (kF : placeB m.fr m.fn = true) (kT : placeB m.tr m.tn = false) (kN : sameC m.cell cell0 = true) (kL : noLayB m.lay = true) : ACalls Tryz.prog 57 [encM m] [] (.bool (right10 m)) [] := by
  have qF := place10_ac m.fr m.fn
  have qT := place10_ac m.tr m.tn
  have qN := noCell10B_ac m.cell
  rw [noCell10_eq] at qN
  have qR := rightR7 m.cell hm.cell.b
  have qS := streams10_ac m.streams hm.st
  have qB := backs10_ac m.backs hm.b
  rw [backs10_eq] at qB
  have qa := ballot10B_ac m.br m.bc
  rw [ballot10_eq] at qa
  have qb := ballot10B_ac m.pr m.pc
  rw [ballot10_eq] at qb
  have qL := noLay10B_ac m.lay
  rw [noLay10_eq] at qL
  have qZ := right9_ac m.lay hl hm.lay.n
  rw [kF] at qF
  rw [kT] at qT
  rw [kN] at qN
  rw [kL] at qL
  rw [show right10 m = false by unfold right10; rw [if_neg h1, if_neg h2, if_neg h3, if_neg h4, if_neg h5, if_neg h6, if_neg h7, if_neg h8, if_neg h9, if_neg h10, if_neg h11]; unfold tail10; simp [kF, kT, kN, kL]]
  refine acallsK mixed Tryz.func57 rfl [0, 1, 2, 3, 4, 5, 6, 7, 8, 9, 10, 67] 1000 ([.f, .f, .f, .f, .k, .k, .f, .f, .f, .f, .f, .f, .f, .call [] false true (.bool true) [], .call [] false true (.bool false) [], .call [] false true (.bool true) [], .call [] false true (.bool (streamsB m.streams)) [], .call [] false true (.bool (backsB m.backs)) [], .call [] false true (.bool (ballotB m.br m.bc)) [], .call [] false true (.bool (ballotB m.pr m.pc)) [], .call [] false true (.bool true) []]) [] [] (v1 := .bool false) (objs1 := []) (ob := [decide (m.kind < (1 : Int)) = false,
 decide (m.kind > (14 : Int)) = false,
 decide (m.of_ < (0 : Int)) = false,
 decide (m.of_ > (13 : Int)) = false,
 (!(m.kind == (14 : Int)) == decide (m.of_ > (0 : Int))) = false,
 decide (m.id < (0 : Int)) = false,
 decide (m.id ≥ (1048576 : Int)) = false,
 decide (m.epoch > (1048576 : Int)) = false,
 decide (m.addr > (1048576 : Int)) = false,
 decide (m.err < (0 : Int)) = false,
 decide (m.err > (255 : Int)) = false,
 ACalls Tryz.prog 96 [.agg [.int .i64 m.fr, .int .i64 m.fn]] [] (.bool true) [],
 ACalls Tryz.prog 96 [.agg [.int .i64 m.tr, .int .i64 m.tn]] [] (.bool false) [],
 ACalls Tryz.prog 97 [(encC m.cell)] [] (.bool true) [],
 ACalls Tryz.prog 98 [.lst 1 (List.map intA m.streams)] [] (.bool (streamsB m.streams)) [],
 ACalls Tryz.prog 99 [.lst 3 (List.map encB m.backs)] [] (.bool (backsB m.backs)) [],
 ACalls Tryz.prog 100 [.agg [.int .i64 m.br, .int .i64 m.bc]] [] (.bool (ballotB m.br m.bc)) [],
 ACalls Tryz.prog 100 [.agg [.int .i64 m.pr, .int .i64 m.pc]] [] (.bool (ballotB m.pr m.pc)) [],
 ACalls Tryz.prog 101 [(encL m.lay)] [] (.bool true) []]) (by kernel_rfl) (by first | exact rfl | exact ⟨rfl, rfl⟩ | (simp [encM, celM, celC, celL, h1, h2, h3, h4, h5, h6, h7, h8, h9, h10, h11, kF, kT, kN, kL]; done) | (first | omega | exact xor_yes h5 | exact xor_no h5)) ⟨?z0, ?z1, ?z2, ?z3, ?z4, ?z5, ?z6, ?z7, ?z8, ?z9, ?z10, ?q1029_1, ?q1029_2, ?q1029_3, ?q1029_4, ?q1029_5, ?q1029_6, ?q1029_7, ?q1029_8, trivial⟩
  case z0|z1|z2|z3|z4|z5|z6|z7|z8|z9|z10 => first | exact rfl | (simp [encM, celM, celC, celL, h1, h2, h3, h4, h5, h6, h7, h8, h9, h10, h11, kF, kT, kN, kL] <;> omega) | omega | (first | omega | exact xor_yes h5 | exact xor_no h5)
  · exact qF
  · exact qT
  · exact qN
  · exact qS
  · exact qB
  · exact qa
  · exact qb
  · exact qL
theorem right10_e36 (m : MsgD) (hm : m.ok) (hl : ∀ s ∈ m.lay.segs, s.chains.length ≤ 1000000000) (h1 : ¬ (m.kind < 1)) (h2 : ¬ (14 < m.kind)) (h3 : ¬ (m.of_ < 0)) (h4 : ¬ (13 < m.of_)) (h5 : ¬ (¬ (m.kind = 14 ↔ 0 < m.of_))) (h6 : ¬ (m.id < 0)) (h7 : ¬ (1048576 ≤ m.id)) (h8 : ¬ (1048576 < m.epoch)) (h9 : ¬ (1048576 < m.addr)) (h10 : ¬ (m.err < 0)) (h11 : ¬ (255 < m.err)) (kF : placeB m.fr m.fn = true) (kT : placeB m.tr m.tn = true) (kN : sameC m.cell cell0 = true) (kS : streamsB m.streams = false) (kL : noLayB m.lay = true) : ACalls Tryz.prog 57 [encM m] [] (.bool (right10 m)) [] := by
  have qF := place10_ac m.fr m.fn
  have qT := place10_ac m.tr m.tn
  have qN := noCell10B_ac m.cell
  rw [noCell10_eq] at qN
  have qR := rightR7 m.cell hm.cell.b
  have qS := streams10_ac m.streams hm.st
  have qB := backs10_ac m.backs hm.b
  rw [backs10_eq] at qB
  have qa := ballot10B_ac m.br m.bc
  rw [ballot10_eq] at qa
  have qb := ballot10B_ac m.pr m.pc
  rw [ballot10_eq] at qb
  have qL := noLay10B_ac m.lay
  rw [noLay10_eq] at qL
  have qZ := right9_ac m.lay hl hm.lay.n
  rw [kF] at qF
  rw [kT] at qT
  rw [kN] at qN
  rw [kS] at qS
  rw [kL] at qL
  rw [show right10 m = false by unfold right10; rw [if_neg h1, if_neg h2, if_neg h3, if_neg h4, if_neg h5, if_neg h6, if_neg h7, if_neg h8, if_neg h9, if_neg h10, if_neg h11]; unfold tail10; simp [kF, kT, kN, kS, kL]]
  refine acallsK mixed Tryz.func57 rfl [0, 1, 2, 3, 4, 5, 6, 7, 8, 9, 10, 67] 1000 ([.f, .f, .f, .f, .k, .k, .f, .f, .f, .f, .f, .f, .f, .call [] false true (.bool true) [], .call [] false true (.bool true) [], .call [] false true (.bool true) [], .call [] false true (.bool false) [], .call [] false true (.bool (backsB m.backs)) [], .call [] false true (.bool (ballotB m.br m.bc)) [], .call [] false true (.bool (ballotB m.pr m.pc)) [], .call [] false true (.bool true) []]) [] [] (v1 := .bool false) (objs1 := []) (ob := [decide (m.kind < (1 : Int)) = false,
 decide (m.kind > (14 : Int)) = false,
 decide (m.of_ < (0 : Int)) = false,
 decide (m.of_ > (13 : Int)) = false,
 (!(m.kind == (14 : Int)) == decide (m.of_ > (0 : Int))) = false,
 decide (m.id < (0 : Int)) = false,
 decide (m.id ≥ (1048576 : Int)) = false,
 decide (m.epoch > (1048576 : Int)) = false,
 decide (m.addr > (1048576 : Int)) = false,
 decide (m.err < (0 : Int)) = false,
 decide (m.err > (255 : Int)) = false,
 ACalls Tryz.prog 96 [.agg [.int .i64 m.fr, .int .i64 m.fn]] [] (.bool true) [],
 ACalls Tryz.prog 96 [.agg [.int .i64 m.tr, .int .i64 m.tn]] [] (.bool true) [],
 ACalls Tryz.prog 97 [(encC m.cell)] [] (.bool true) [],
 ACalls Tryz.prog 98 [.lst 1 (List.map intA m.streams)] [] (.bool false) [],
 ACalls Tryz.prog 99 [.lst 3 (List.map encB m.backs)] [] (.bool (backsB m.backs)) [],
 ACalls Tryz.prog 100 [.agg [.int .i64 m.br, .int .i64 m.bc]] [] (.bool (ballotB m.br m.bc)) [],
 ACalls Tryz.prog 100 [.agg [.int .i64 m.pr, .int .i64 m.pc]] [] (.bool (ballotB m.pr m.pc)) [],
 ACalls Tryz.prog 101 [(encL m.lay)] [] (.bool true) []]) (by kernel_rfl) (by first | exact rfl | exact ⟨rfl, rfl⟩ | (simp [encM, celM, celC, celL, h1, h2, h3, h4, h5, h6, h7, h8, h9, h10, h11, kF, kT, kN, kS, kL]; done) | (first | omega | exact xor_yes h5 | exact xor_no h5)) ⟨?z0, ?z1, ?z2, ?z3, ?z4, ?z5, ?z6, ?z7, ?z8, ?z9, ?z10, ?q1060_1, ?q1060_2, ?q1060_3, ?q1060_4, ?q1060_5, ?q1060_6, ?q1060_7, ?q1060_8, trivial⟩
  case z0|z1|z2|z3|z4|z5|z6|z7|z8|z9|z10 => first | exact rfl | (simp [encM, celM, celC, celL, h1, h2, h3, h4, h5, h6, h7, h8, h9, h10, h11, kF, kT, kN, kS, kL] <;> omega) | omega | (first | omega | exact xor_yes h5 | exact xor_no h5)
  · exact qF
  · exact qT
  · exact qN
  · exact qS
  · exact qB
  · exact qa
  · exact qb
  · exact qL
theorem right10_e37 (m : MsgD) (hm : m.ok) (hl : ∀ s ∈ m.lay.segs, s.chains.length ≤ 1000000000) (h1 : ¬ (m.kind < 1)) (h2 : ¬ (14 < m.kind)) (h3 : ¬ (m.of_ < 0)) (h4 : ¬ (13 < m.of_)) (h5 : ¬ (¬ (m.kind = 14 ↔ 0 < m.of_))) (h6 : ¬ (m.id < 0)) (h7 : ¬ (1048576 ≤ m.id)) (h8 : ¬ (1048576 < m.epoch)) (h9 : ¬ (1048576 < m.addr)) (h10 : ¬ (m.err < 0)) (h11 : ¬ (255 < m.err)) (kF : placeB m.fr m.fn = true) (kT : placeB m.tr m.tn = true) (kN : sameC m.cell cell0 = true) (kS : streamsB m.streams = true) (kB : backsB m.backs = false) (kL : noLayB m.lay = true) : ACalls Tryz.prog 57 [encM m] [] (.bool (right10 m)) [] := by
  have qF := place10_ac m.fr m.fn
  have qT := place10_ac m.tr m.tn
  have qN := noCell10B_ac m.cell
  rw [noCell10_eq] at qN
  have qR := rightR7 m.cell hm.cell.b
  have qS := streams10_ac m.streams hm.st
  have qB := backs10_ac m.backs hm.b
  rw [backs10_eq] at qB
  have qa := ballot10B_ac m.br m.bc
  rw [ballot10_eq] at qa
  have qb := ballot10B_ac m.pr m.pc
  rw [ballot10_eq] at qb
  have qL := noLay10B_ac m.lay
  rw [noLay10_eq] at qL
  have qZ := right9_ac m.lay hl hm.lay.n
  rw [kF] at qF
  rw [kT] at qT
  rw [kN] at qN
  rw [kS] at qS
  rw [kB] at qB
  rw [kL] at qL
  rw [show right10 m = false by unfold right10; rw [if_neg h1, if_neg h2, if_neg h3, if_neg h4, if_neg h5, if_neg h6, if_neg h7, if_neg h8, if_neg h9, if_neg h10, if_neg h11]; unfold tail10; simp [kF, kT, kN, kS, kB, kL]]
  refine acallsK mixed Tryz.func57 rfl [0, 1, 2, 3, 4, 5, 6, 7, 8, 9, 10, 67] 1000 ([.f, .f, .f, .f, .k, .k, .f, .f, .f, .f, .f, .f, .f, .call [] false true (.bool true) [], .call [] false true (.bool true) [], .call [] false true (.bool true) [], .call [] false true (.bool true) [], .call [] false true (.bool false) [], .call [] false true (.bool (ballotB m.br m.bc)) [], .call [] false true (.bool (ballotB m.pr m.pc)) [], .call [] false true (.bool true) []]) [] [] (v1 := .bool false) (objs1 := []) (ob := [decide (m.kind < (1 : Int)) = false,
 decide (m.kind > (14 : Int)) = false,
 decide (m.of_ < (0 : Int)) = false,
 decide (m.of_ > (13 : Int)) = false,
 (!(m.kind == (14 : Int)) == decide (m.of_ > (0 : Int))) = false,
 decide (m.id < (0 : Int)) = false,
 decide (m.id ≥ (1048576 : Int)) = false,
 decide (m.epoch > (1048576 : Int)) = false,
 decide (m.addr > (1048576 : Int)) = false,
 decide (m.err < (0 : Int)) = false,
 decide (m.err > (255 : Int)) = false,
 ACalls Tryz.prog 96 [.agg [.int .i64 m.fr, .int .i64 m.fn]] [] (.bool true) [],
 ACalls Tryz.prog 96 [.agg [.int .i64 m.tr, .int .i64 m.tn]] [] (.bool true) [],
 ACalls Tryz.prog 97 [(encC m.cell)] [] (.bool true) [],
 ACalls Tryz.prog 98 [.lst 1 (List.map intA m.streams)] [] (.bool true) [],
 ACalls Tryz.prog 99 [.lst 3 (List.map encB m.backs)] [] (.bool false) [],
 ACalls Tryz.prog 100 [.agg [.int .i64 m.br, .int .i64 m.bc]] [] (.bool (ballotB m.br m.bc)) [],
 ACalls Tryz.prog 100 [.agg [.int .i64 m.pr, .int .i64 m.pc]] [] (.bool (ballotB m.pr m.pc)) [],
 ACalls Tryz.prog 101 [(encL m.lay)] [] (.bool true) []]) (by kernel_rfl) (by first | exact rfl | exact ⟨rfl, rfl⟩ | (simp [encM, celM, celC, celL, h1, h2, h3, h4, h5, h6, h7, h8, h9, h10, h11, kF, kT, kN, kS, kB, kL]; done) | (first | omega | exact xor_yes h5 | exact xor_no h5)) ⟨?z0, ?z1, ?z2, ?z3, ?z4, ?z5, ?z6, ?z7, ?z8, ?z9, ?z10, ?q1092_1, ?q1092_2, ?q1092_3, ?q1092_4, ?q1092_5, ?q1092_6, ?q1092_7, ?q1092_8, trivial⟩
  case z0|z1|z2|z3|z4|z5|z6|z7|z8|z9|z10 => first | exact rfl | (simp [encM, celM, celC, celL, h1, h2, h3, h4, h5, h6, h7, h8, h9, h10, h11, kF, kT, kN, kS, kB, kL] <;> omega) | omega | (first | omega | exact xor_yes h5 | exact xor_no h5)
  · exact qF
  · exact qT
  · exact qN
  · exact qS
  · exact qB
  · exact qa
  · exact qb
  · exact qL
theorem right10_e38 (m : MsgD) (hm : m.ok) (hl : ∀ s ∈ m.lay.segs, s.chains.length ≤ 1000000000) (h1 : ¬ (m.kind < 1)) (h2 : ¬ (14 < m.kind)) (h3 : ¬ (m.of_ < 0)) (h4 : ¬ (13 < m.of_)) (h5 : ¬ (¬ (m.kind = 14 ↔ 0 < m.of_))) (h6 : ¬ (m.id < 0)) (h7 : ¬ (1048576 ≤ m.id)) (h8 : ¬ (1048576 < m.epoch)) (h9 : ¬ (1048576 < m.addr)) (h10 : ¬ (m.err < 0)) (h11 : ¬ (255 < m.err)) (kF : placeB m.fr m.fn = true) (kT : placeB m.tr m.tn = true) (kN : sameC m.cell cell0 = true) (kS : streamsB m.streams = true) (kB : backsB m.backs = true) (ka : ballotB m.br m.bc = false) (kL : noLayB m.lay = true) : ACalls Tryz.prog 57 [encM m] [] (.bool (right10 m)) [] := by
  have qF := place10_ac m.fr m.fn
  have qT := place10_ac m.tr m.tn
  have qN := noCell10B_ac m.cell
  rw [noCell10_eq] at qN
  have qR := rightR7 m.cell hm.cell.b
  have qS := streams10_ac m.streams hm.st
  have qB := backs10_ac m.backs hm.b
  rw [backs10_eq] at qB
  have qa := ballot10B_ac m.br m.bc
  rw [ballot10_eq] at qa
  have qb := ballot10B_ac m.pr m.pc
  rw [ballot10_eq] at qb
  have qL := noLay10B_ac m.lay
  rw [noLay10_eq] at qL
  have qZ := right9_ac m.lay hl hm.lay.n
  rw [kF] at qF
  rw [kT] at qT
  rw [kN] at qN
  rw [kS] at qS
  rw [kB] at qB
  rw [ka] at qa
  rw [kL] at qL
  rw [show right10 m = false by unfold right10; rw [if_neg h1, if_neg h2, if_neg h3, if_neg h4, if_neg h5, if_neg h6, if_neg h7, if_neg h8, if_neg h9, if_neg h10, if_neg h11]; unfold tail10; simp [kF, kT, kN, kS, kB, ka, kL]]
  refine acallsK mixed Tryz.func57 rfl [0, 1, 2, 3, 4, 5, 6, 7, 8, 9, 10, 67] 1000 ([.f, .f, .f, .f, .k, .k, .f, .f, .f, .f, .f, .f, .f, .call [] false true (.bool true) [], .call [] false true (.bool true) [], .call [] false true (.bool true) [], .call [] false true (.bool true) [], .call [] false true (.bool true) [], .call [] false true (.bool false) [], .call [] false true (.bool (ballotB m.pr m.pc)) [], .call [] false true (.bool true) []]) [] [] (v1 := .bool false) (objs1 := []) (ob := [decide (m.kind < (1 : Int)) = false,
 decide (m.kind > (14 : Int)) = false,
 decide (m.of_ < (0 : Int)) = false,
 decide (m.of_ > (13 : Int)) = false,
 (!(m.kind == (14 : Int)) == decide (m.of_ > (0 : Int))) = false,
 decide (m.id < (0 : Int)) = false,
 decide (m.id ≥ (1048576 : Int)) = false,
 decide (m.epoch > (1048576 : Int)) = false,
 decide (m.addr > (1048576 : Int)) = false,
 decide (m.err < (0 : Int)) = false,
 decide (m.err > (255 : Int)) = false,
 ACalls Tryz.prog 96 [.agg [.int .i64 m.fr, .int .i64 m.fn]] [] (.bool true) [],
 ACalls Tryz.prog 96 [.agg [.int .i64 m.tr, .int .i64 m.tn]] [] (.bool true) [],
 ACalls Tryz.prog 97 [(encC m.cell)] [] (.bool true) [],
 ACalls Tryz.prog 98 [.lst 1 (List.map intA m.streams)] [] (.bool true) [],
 ACalls Tryz.prog 99 [.lst 3 (List.map encB m.backs)] [] (.bool true) [],
 ACalls Tryz.prog 100 [.agg [.int .i64 m.br, .int .i64 m.bc]] [] (.bool false) [],
 ACalls Tryz.prog 100 [.agg [.int .i64 m.pr, .int .i64 m.pc]] [] (.bool (ballotB m.pr m.pc)) [],
 ACalls Tryz.prog 101 [(encL m.lay)] [] (.bool true) []]) (by kernel_rfl) (by first | exact rfl | exact ⟨rfl, rfl⟩ | (simp [encM, celM, celC, celL, h1, h2, h3, h4, h5, h6, h7, h8, h9, h10, h11, kF, kT, kN, kS, kB, ka, kL]; done) | (first | omega | exact xor_yes h5 | exact xor_no h5)) ⟨?z0, ?z1, ?z2, ?z3, ?z4, ?z5, ?z6, ?z7, ?z8, ?z9, ?z10, ?q1125_1, ?q1125_2, ?q1125_3, ?q1125_4, ?q1125_5, ?q1125_6, ?q1125_7, ?q1125_8, trivial⟩
  case z0|z1|z2|z3|z4|z5|z6|z7|z8|z9|z10 => first | exact rfl | (simp [encM, celM, celC, celL, h1, h2, h3, h4, h5, h6, h7, h8, h9, h10, h11, kF, kT, kN, kS, kB, ka, kL] <;> omega) | omega | (first | omega | exact xor_yes h5 | exact xor_no h5)
  · exact qF
  · exact qT
  · exact qN
  · exact qS
  · exact qB
  · exact qa
  · exact qb
  · exact qL
theorem right10_e39 (m : MsgD) (hm : m.ok) (hl : ∀ s ∈ m.lay.segs, s.chains.length ≤ 1000000000) (h1 : ¬ (m.kind < 1)) (h2 : ¬ (14 < m.kind)) (h3 : ¬ (m.of_ < 0)) (h4 : ¬ (13 < m.of_)) (h5 : ¬ (¬ (m.kind = 14 ↔ 0 < m.of_))) (h6 : ¬ (m.id < 0)) (h7 : ¬ (1048576 ≤ m.id)) (h8 : ¬ (1048576 < m.epoch)) (h9 : ¬ (1048576 < m.addr)) (h10 : ¬ (m.err < 0)) (h11 : ¬ (255 < m.err)) (kF : placeB m.fr m.fn = true) (kT : placeB m.tr m.tn = true) (kN : sameC m.cell cell0 = true) (kS : streamsB m.streams = true) (kB : backsB m.backs = true) (ka : ballotB m.br m.bc = true) (kb : ballotB m.pr m.pc = false) (kL : noLayB m.lay = true) : ACalls Tryz.prog 57 [encM m] [] (.bool (right10 m)) [] := by
  have qF := place10_ac m.fr m.fn
  have qT := place10_ac m.tr m.tn
  have qN := noCell10B_ac m.cell
  rw [noCell10_eq] at qN
  have qR := rightR7 m.cell hm.cell.b
  have qS := streams10_ac m.streams hm.st
  have qB := backs10_ac m.backs hm.b
  rw [backs10_eq] at qB
  have qa := ballot10B_ac m.br m.bc
  rw [ballot10_eq] at qa
  have qb := ballot10B_ac m.pr m.pc
  rw [ballot10_eq] at qb
  have qL := noLay10B_ac m.lay
  rw [noLay10_eq] at qL
  have qZ := right9_ac m.lay hl hm.lay.n
  rw [kF] at qF
  rw [kT] at qT
  rw [kN] at qN
  rw [kS] at qS
  rw [kB] at qB
  rw [ka] at qa
  rw [kb] at qb
  rw [kL] at qL
  rw [show right10 m = false by unfold right10; rw [if_neg h1, if_neg h2, if_neg h3, if_neg h4, if_neg h5, if_neg h6, if_neg h7, if_neg h8, if_neg h9, if_neg h10, if_neg h11]; unfold tail10; simp [kF, kT, kN, kS, kB, ka, kb, kL]]
  refine acallsK mixed Tryz.func57 rfl [0, 1, 2, 3, 4, 5, 6, 7, 8, 9, 10, 67] 1000 ([.f, .f, .f, .f, .k, .k, .f, .f, .f, .f, .f, .f, .f, .call [] false true (.bool true) [], .call [] false true (.bool true) [], .call [] false true (.bool true) [], .call [] false true (.bool true) [], .call [] false true (.bool true) [], .call [] false true (.bool true) [], .call [] false true (.bool false) [], .call [] false true (.bool true) []]) [] [] (v1 := .bool false) (objs1 := []) (ob := [decide (m.kind < (1 : Int)) = false,
 decide (m.kind > (14 : Int)) = false,
 decide (m.of_ < (0 : Int)) = false,
 decide (m.of_ > (13 : Int)) = false,
 (!(m.kind == (14 : Int)) == decide (m.of_ > (0 : Int))) = false,
 decide (m.id < (0 : Int)) = false,
 decide (m.id ≥ (1048576 : Int)) = false,
 decide (m.epoch > (1048576 : Int)) = false,
 decide (m.addr > (1048576 : Int)) = false,
 decide (m.err < (0 : Int)) = false,
 decide (m.err > (255 : Int)) = false,
 ACalls Tryz.prog 96 [.agg [.int .i64 m.fr, .int .i64 m.fn]] [] (.bool true) [],
 ACalls Tryz.prog 96 [.agg [.int .i64 m.tr, .int .i64 m.tn]] [] (.bool true) [],
 ACalls Tryz.prog 97 [(encC m.cell)] [] (.bool true) [],
 ACalls Tryz.prog 98 [.lst 1 (List.map intA m.streams)] [] (.bool true) [],
 ACalls Tryz.prog 99 [.lst 3 (List.map encB m.backs)] [] (.bool true) [],
 ACalls Tryz.prog 100 [.agg [.int .i64 m.br, .int .i64 m.bc]] [] (.bool true) [],
 ACalls Tryz.prog 100 [.agg [.int .i64 m.pr, .int .i64 m.pc]] [] (.bool false) [],
 ACalls Tryz.prog 101 [(encL m.lay)] [] (.bool true) []]) (by kernel_rfl) (by first | exact rfl | exact ⟨rfl, rfl⟩ | (simp [encM, celM, celC, celL, h1, h2, h3, h4, h5, h6, h7, h8, h9, h10, h11, kF, kT, kN, kS, kB, ka, kb, kL]; done) | (first | omega | exact xor_yes h5 | exact xor_no h5)) ⟨?z0, ?z1, ?z2, ?z3, ?z4, ?z5, ?z6, ?z7, ?z8, ?z9, ?z10, ?q1159_1, ?q1159_2, ?q1159_3, ?q1159_4, ?q1159_5, ?q1159_6, ?q1159_7, ?q1159_8, trivial⟩
  case z0|z1|z2|z3|z4|z5|z6|z7|z8|z9|z10 => first | exact rfl | (simp [encM, celM, celC, celL, h1, h2, h3, h4, h5, h6, h7, h8, h9, h10, h11, kF, kT, kN, kS, kB, ka, kb, kL] <;> omega) | omega | (first | omega | exact xor_yes h5 | exact xor_no h5)
  · exact qF
  · exact qT
  · exact qN
  · exact qS
  · exact qB
  · exact qa
  · exact qb
  · exact qL
theorem right10_e40 (m : MsgD) (hm : m.ok) (hl : ∀ s ∈ m.lay.segs, s.chains.length ≤ 1000000000) (h1 : ¬ (m.kind < 1)) (h2 : ¬ (14 < m.kind)) (h3 : ¬ (m.of_ < 0)) (h4 : ¬ (13 < m.of_)) (h5 : ¬ (¬ (m.kind = 14 ↔ 0 < m.of_))) (h6 : ¬ (m.id < 0)) (h7 : ¬ (1048576 ≤ m.id)) (h8 : ¬ (1048576 < m.epoch)) (h9 : ¬ (1048576 < m.addr)) (h10 : ¬ (m.err < 0)) (h11 : ¬ (255 < m.err)) (kF : placeB m.fr m.fn = true) (kT : placeB m.tr m.tn = true) (kN : sameC m.cell cell0 = true) (kS : streamsB m.streams = true) (kB : backsB m.backs = true) (ka : ballotB m.br m.bc = true) (kb : ballotB m.pr m.pc = true) (kL : noLayB m.lay = true) : ACalls Tryz.prog 57 [encM m] [] (.bool (right10 m)) [] := by
  have qF := place10_ac m.fr m.fn
  have qT := place10_ac m.tr m.tn
  have qN := noCell10B_ac m.cell
  rw [noCell10_eq] at qN
  have qR := rightR7 m.cell hm.cell.b
  have qS := streams10_ac m.streams hm.st
  have qB := backs10_ac m.backs hm.b
  rw [backs10_eq] at qB
  have qa := ballot10B_ac m.br m.bc
  rw [ballot10_eq] at qa
  have qb := ballot10B_ac m.pr m.pc
  rw [ballot10_eq] at qb
  have qL := noLay10B_ac m.lay
  rw [noLay10_eq] at qL
  have qZ := right9_ac m.lay hl hm.lay.n
  rw [kF] at qF
  rw [kT] at qT
  rw [kN] at qN
  rw [kS] at qS
  rw [kB] at qB
  rw [ka] at qa
  rw [kb] at qb
  rw [kL] at qL
  rw [show right10 m = true by unfold right10; rw [if_neg h1, if_neg h2, if_neg h3, if_neg h4, if_neg h5, if_neg h6, if_neg h7, if_neg h8, if_neg h9, if_neg h10, if_neg h11]; unfold tail10; simp [kF, kT, kN, kS, kB, ka, kb, kL]]
  refine acallsK mixed Tryz.func57 rfl [0, 1, 2, 3, 4, 5, 6, 7, 8, 9, 10, 67] 1000 ([.f, .f, .f, .f, .k, .k, .f, .f, .f, .f, .f, .f, .f, .call [] false true (.bool true) [], .call [] false true (.bool true) [], .call [] false true (.bool true) [], .call [] false true (.bool true) [], .call [] false true (.bool true) [], .call [] false true (.bool true) [], .call [] false true (.bool true) [], .call [] false true (.bool true) []]) [] [] (v1 := .bool true) (objs1 := []) (ob := [decide (m.kind < (1 : Int)) = false,
 decide (m.kind > (14 : Int)) = false,
 decide (m.of_ < (0 : Int)) = false,
 decide (m.of_ > (13 : Int)) = false,
 (!(m.kind == (14 : Int)) == decide (m.of_ > (0 : Int))) = false,
 decide (m.id < (0 : Int)) = false,
 decide (m.id ≥ (1048576 : Int)) = false,
 decide (m.epoch > (1048576 : Int)) = false,
 decide (m.addr > (1048576 : Int)) = false,
 decide (m.err < (0 : Int)) = false,
 decide (m.err > (255 : Int)) = false,
 ACalls Tryz.prog 96 [.agg [.int .i64 m.fr, .int .i64 m.fn]] [] (.bool true) [],
 ACalls Tryz.prog 96 [.agg [.int .i64 m.tr, .int .i64 m.tn]] [] (.bool true) [],
 ACalls Tryz.prog 97 [(encC m.cell)] [] (.bool true) [],
 ACalls Tryz.prog 98 [.lst 1 (List.map intA m.streams)] [] (.bool true) [],
 ACalls Tryz.prog 99 [.lst 3 (List.map encB m.backs)] [] (.bool true) [],
 ACalls Tryz.prog 100 [.agg [.int .i64 m.br, .int .i64 m.bc]] [] (.bool true) [],
 ACalls Tryz.prog 100 [.agg [.int .i64 m.pr, .int .i64 m.pc]] [] (.bool true) [],
 ACalls Tryz.prog 101 [(encL m.lay)] [] (.bool true) []]) (by kernel_rfl) (by first | exact rfl | exact ⟨rfl, rfl⟩ | (simp [encM, celM, celC, celL, h1, h2, h3, h4, h5, h6, h7, h8, h9, h10, h11, kF, kT, kN, kS, kB, ka, kb, kL]; done) | (first | omega | exact xor_yes h5 | exact xor_no h5)) ⟨?z0, ?z1, ?z2, ?z3, ?z4, ?z5, ?z6, ?z7, ?z8, ?z9, ?z10, ?q1193_1, ?q1193_2, ?q1193_3, ?q1193_4, ?q1193_5, ?q1193_6, ?q1193_7, ?q1193_8, trivial⟩
  case z0|z1|z2|z3|z4|z5|z6|z7|z8|z9|z10 => first | exact rfl | (simp [encM, celM, celC, celL, h1, h2, h3, h4, h5, h6, h7, h8, h9, h10, h11, kF, kT, kN, kS, kB, ka, kb, kL] <;> omega) | omega | (first | omega | exact xor_yes h5 | exact xor_no h5)
  · exact qF
  · exact qT
  · exact qN
  · exact qS
  · exact qB
  · exact qa
  · exact qb
  · exact qL
theorem right10_ac (m : MsgD) (hm : m.ok) (hl : ∀ s ∈ m.lay.segs, s.chains.length ≤ 1000000000) : ACalls Tryz.prog 57 [encM m] [] (.bool (right10 m)) [] := by
  by_cases h1 : m.kind < 1
  · exact right10_e0 m hm hl h1
  by_cases h2 : 14 < m.kind
  · exact right10_e1 m hm hl h1 h2
  by_cases h3 : m.of_ < 0
  · exact right10_e2 m hm hl h1 h2 h3
  by_cases h4 : 13 < m.of_
  · exact right10_e3 m hm hl h1 h2 h3 h4
  by_cases h5 : ¬ (m.kind = 14 ↔ 0 < m.of_)
  · exact right10_e4 m hm hl h1 h2 h3 h4 h5
  by_cases h6 : m.id < 0
  · exact right10_e5 m hm hl h1 h2 h3 h4 h5 h6
  by_cases h7 : 1048576 ≤ m.id
  · exact right10_e6 m hm hl h1 h2 h3 h4 h5 h6 h7
  by_cases h8 : 1048576 < m.epoch
  · exact right10_e7 m hm hl h1 h2 h3 h4 h5 h6 h7 h8
  by_cases h9 : 1048576 < m.addr
  · exact right10_e8 m hm hl h1 h2 h3 h4 h5 h6 h7 h8 h9
  by_cases h10 : m.err < 0
  · exact right10_e9 m hm hl h1 h2 h3 h4 h5 h6 h7 h8 h9 h10
  by_cases h11 : 255 < m.err
  · exact right10_e10 m hm hl h1 h2 h3 h4 h5 h6 h7 h8 h9 h10 h11
  cases kN : sameC m.cell cell0 with
  | false =>
    cases kL : noLayB m.lay with
    | false =>
      cases kF : placeB m.fr m.fn with
      | false => exact right10_e11 m hm hl h1 h2 h3 h4 h5 h6 h7 h8 h9 h10 h11 kF kN kL
      | true =>
        cases kT : placeB m.tr m.tn with
        | false => exact right10_e12 m hm hl h1 h2 h3 h4 h5 h6 h7 h8 h9 h10 h11 kF kT kN kL
        | true =>
          cases kR : rightC m.cell with
          | false => exact right10_e13 m hm hl h1 h2 h3 h4 h5 h6 h7 h8 h9 h10 h11 kF kT kN kR kL
          | true =>
            cases kS : streamsB m.streams with
            | false => exact right10_e14 m hm hl h1 h2 h3 h4 h5 h6 h7 h8 h9 h10 h11 kF kT kN kR kS kL
            | true =>
              cases kB : backsB m.backs with
              | false => exact right10_e15 m hm hl h1 h2 h3 h4 h5 h6 h7 h8 h9 h10 h11 kF kT kN kR kS kB kL
              | true =>
                cases ka : ballotB m.br m.bc with
                | false => exact right10_e16 m hm hl h1 h2 h3 h4 h5 h6 h7 h8 h9 h10 h11 kF kT kN kR kS kB ka kL
                | true =>
                  cases kb : ballotB m.pr m.pc with
                  | false => exact right10_e17 m hm hl h1 h2 h3 h4 h5 h6 h7 h8 h9 h10 h11 kF kT kN kR kS kB ka kb kL
                  | true =>
                    exact right10_e18 m hm hl h1 h2 h3 h4 h5 h6 h7 h8 h9 h10 h11 kF kT kN kR kS kB ka kb kL
    | true =>
      cases kF : placeB m.fr m.fn with
      | false => exact right10_e19 m hm hl h1 h2 h3 h4 h5 h6 h7 h8 h9 h10 h11 kF kN kL
      | true =>
        cases kT : placeB m.tr m.tn with
        | false => exact right10_e20 m hm hl h1 h2 h3 h4 h5 h6 h7 h8 h9 h10 h11 kF kT kN kL
        | true =>
          cases kR : rightC m.cell with
          | false => exact right10_e21 m hm hl h1 h2 h3 h4 h5 h6 h7 h8 h9 h10 h11 kF kT kN kR kL
          | true =>
            cases kS : streamsB m.streams with
            | false => exact right10_e22 m hm hl h1 h2 h3 h4 h5 h6 h7 h8 h9 h10 h11 kF kT kN kR kS kL
            | true =>
              cases kB : backsB m.backs with
              | false => exact right10_e23 m hm hl h1 h2 h3 h4 h5 h6 h7 h8 h9 h10 h11 kF kT kN kR kS kB kL
              | true =>
                cases ka : ballotB m.br m.bc with
                | false => exact right10_e24 m hm hl h1 h2 h3 h4 h5 h6 h7 h8 h9 h10 h11 kF kT kN kR kS kB ka kL
                | true =>
                  cases kb : ballotB m.pr m.pc with
                  | false => exact right10_e25 m hm hl h1 h2 h3 h4 h5 h6 h7 h8 h9 h10 h11 kF kT kN kR kS kB ka kb kL
                  | true =>
                    exact right10_e26 m hm hl h1 h2 h3 h4 h5 h6 h7 h8 h9 h10 h11 kF kT kN kR kS kB ka kb kL
  | true =>
    cases kL : noLayB m.lay with
    | false =>
      cases kF : placeB m.fr m.fn with
      | false => exact right10_e27 m hm hl h1 h2 h3 h4 h5 h6 h7 h8 h9 h10 h11 kF kN kL
      | true =>
        cases kT : placeB m.tr m.tn with
        | false => exact right10_e28 m hm hl h1 h2 h3 h4 h5 h6 h7 h8 h9 h10 h11 kF kT kN kL
        | true =>
          cases kS : streamsB m.streams with
          | false => exact right10_e29 m hm hl h1 h2 h3 h4 h5 h6 h7 h8 h9 h10 h11 kF kT kN kS kL
          | true =>
            cases kB : backsB m.backs with
            | false => exact right10_e30 m hm hl h1 h2 h3 h4 h5 h6 h7 h8 h9 h10 h11 kF kT kN kS kB kL
            | true =>
              cases ka : ballotB m.br m.bc with
              | false => exact right10_e31 m hm hl h1 h2 h3 h4 h5 h6 h7 h8 h9 h10 h11 kF kT kN kS kB ka kL
              | true =>
                cases kb : ballotB m.pr m.pc with
                | false => exact right10_e32 m hm hl h1 h2 h3 h4 h5 h6 h7 h8 h9 h10 h11 kF kT kN kS kB ka kb kL
                | true =>
                  exact right10_e33 m hm hl h1 h2 h3 h4 h5 h6 h7 h8 h9 h10 h11 kF kT kN kS kB ka kb kL
    | true =>
      cases kF : placeB m.fr m.fn with
      | false => exact right10_e34 m hm hl h1 h2 h3 h4 h5 h6 h7 h8 h9 h10 h11 kF kN kL
      | true =>
        cases kT : placeB m.tr m.tn with
        | false => exact right10_e35 m hm hl h1 h2 h3 h4 h5 h6 h7 h8 h9 h10 h11 kF kT kN kL
        | true =>
          cases kS : streamsB m.streams with
          | false => exact right10_e36 m hm hl h1 h2 h3 h4 h5 h6 h7 h8 h9 h10 h11 kF kT kN kS kL
          | true =>
            cases kB : backsB m.backs with
            | false => exact right10_e37 m hm hl h1 h2 h3 h4 h5 h6 h7 h8 h9 h10 h11 kF kT kN kS kB kL
            | true =>
              cases ka : ballotB m.br m.bc with
              | false => exact right10_e38 m hm hl h1 h2 h3 h4 h5 h6 h7 h8 h9 h10 h11 kF kT kN kS kB ka kL
              | true =>
                cases kb : ballotB m.pr m.pc with
                | false => exact right10_e39 m hm hl h1 h2 h3 h4 h5 h6 h7 h8 h9 h10 h11 kF kT kN kS kB ka kb kL
                | true =>
                  exact right10_e40 m hm hl h1 h2 h3 h4 h5 h6 h7 h8 h9 h10 h11 kF kT kN kS kB ka kb kL
theorem right10_eq (m : MsgD) : right10 m = rightM m := by
  unfold right10 rightM
  by_cases h1 : m.kind < 1
  · rw [if_pos h1, if_pos h1]
  rw [if_neg h1, if_neg h1]
  by_cases h2 : 14 < m.kind
  · rw [if_pos h2, if_pos h2]
  rw [if_neg h2, if_neg h2]
  by_cases h3 : m.of_ < 0
  · rw [if_pos h3, if_pos h3]
  rw [if_neg h3, if_neg h3]
  by_cases h4 : 13 < m.of_
  · rw [if_pos h4, if_pos h4]
  rw [if_neg h4, if_neg h4]
  by_cases h5 : ¬ (m.kind = 14 ↔ 0 < m.of_)
  · rw [if_pos h5, if_pos h5]
  rw [if_neg h5, if_neg h5]
  have i1 : inB m.id 1048576 = (!decide (m.id < 0) && !decide (1048576 ≤ m.id)) := by
    by_cases a : m.id < 0 <;> by_cases b : 1048576 ≤ m.id <;> simp [inB, a, b] <;> omega
  have i2 : inB m.err 256 = (!decide (m.err < 0) && !decide (255 < m.err)) := by
    by_cases a : m.err < 0 <;> by_cases b : 255 < m.err <;> simp [inB, a, b] <;> omega
  unfold tail10 restM
  rw [streams_eq]
  have e : ∀ (c : Prop) [Decidable c] (x : Bool), (if c then false else x) = (!decide c && x) := by
    intro c _ x
    by_cases hc : c <;> simp [hc]
  simp only [e, Bool.decide_eq_false, Bool.not_not, i1, i2]
  ac_rfl
theorem rightR10 (m : MsgD) (hm : m.ok) (hl : ∀ s ∈ m.lay.segs, s.chains.length ≤ 1000000000) : ACalls Tryz.prog 57 [encM m] [] (.bool (rightM m)) [] := by
  rw [← right10_eq]
  exact right10_ac m hm hl
end Go.Proofs.YtidgcfgkcidkiaaGreat.Ch
namespace Go.Proofs.YtidgcfgkcidkiaaGreat.Ch
open Go Go.RowKit Go.Proofs.YtidgcfgkcidkiaaGreat.L Go.Proofs.YtidgcfgkcidkiaaGreat.X
set_option linter.unusedVariables false
set_option linter.unusedSimpArgs false
def celR (s : SetD) (at_ : Int) : List AV := [.int .i64 s.client, .int .i64 s.id, .int .u64 s.epoch, .int .u64 s.a, .int .i64 s.cell.kind, .lst 1 (s.cell.data.map byteA), .lst 3 (s.cell.backs.map encB), .lst 1 (s.chain.map intA), .int .i64 at_, .bool s.over, .int .i64 s.e, .int .i64 s.ticks, .int .i64 s.writes]
def refO (s : SetD) (at_ : Int) : List X.Obj := [.vars 88 (celR s at_ ++ [.row 1 22 s.out.length]), .row 50 22 s.out]
theorem rWrite (s : SetD) (k : Nat) {u : Int} (hu : s.chain[k]? = some u) (h3 : s.out.length ≤ 1000) (h4 : 0 ≤ s.writes) (h5 : s.writes ≤ 1000) : ACalls Tryz.prog 50 [.ptr 0 0] (refO s k) (.tup []) (refO (wrote s u) k) := by
  have hk := (List.getElem?_eq_some_iff.1 hu).1
  have hw := wrap_i (x := s.writes + 1) (by omega) (by omega)
  have hg : (s.chain.map intA)[k]? = some (.int .i64 u) := by rw [List.getElem?_map, hu]; rfl
  refine acallsK mixed Tryz.func50 rfl [0, 2] 1000 ([.ix k, .el (intA u), .ls s.out, .ls (s.out ++ [wrM s u]), .n (s.writes + 1)]) [] [0, 6] (v1 := .tup []) (objs1 := [.vars 88 [.int .i64 s.client, .int .i64 s.id, .int .u64 s.epoch, .int .u64 s.a, .int .i64 s.cell.kind, .lst 1 (List.map byteA s.cell.data), .lst 3 (List.map encB s.cell.backs), .lst 1 (List.map intA s.chain), .int .i64 (↑k : Int), .bool s.over, .int .i64 s.e, .int .i64 0, .int .i64 (s.writes + 1), .row 1 22 (List.length (s.out ++ [wrM s u]))], .row 50 22 (s.out ++ [wrM s u])]) (ob := [k < List.length (List.map intA s.chain),
 (↑k : Int) = (↑k : Int),
 (List.map intA s.chain)[k]? = some (.int .i64 u),
 ((0 : Nat) + List.length s.out) * (256 : Nat) ≤ (140737488355328 : Nat),
 [] ++ s.out = s.out,
 (List.length s.out + (1 : Nat)) * (256 : Nat) ≤ (140737488355328 : Nat),
 s.out ++ [.agg [.int .i64 (1 : Int), .int .i64 (4 : Int), .int .i64 s.client, .int .i64 (1 : Int), .int .i64 u, .int .i64 s.id, .int .i64 (0 : Int), .int .u64 s.epoch, .int .u64 s.a, .int .i64 (0 : Int), .int .i64 s.cell.kind, .lst (nat_lit 1) (List.map byteA s.cell.data), .lst (nat_lit 3) (List.map encB s.cell.backs), .nils, .nils, .int .i64 (0 : Int), .int .i64 (0 : Int), .int .i64 (0 : Int), .int .i64 (0 : Int), .int .u64 (0 : Int), .nils, .int .i64 (0 : Int)]] = s.out ++ [wrM s u],
 IntKind.i64.wrap (s.writes + (1 : Int)) = s.writes + (1 : Int)]) (by kernel_rfl) (by first | exact rfl | exact ⟨rfl, rfl⟩ | (simp [refO, celR, wrM, wrote, hu, intA]; done) | (first | exact hw | exact hg | omega)) ⟨?z0, ?z1, ?z2, ?z3, ?z4, ?z5, ?z6, ?z7, trivial⟩
  case z0|z1|z2|z3|z4|z5|z6|z7 => first | exact rfl | (simp [refO, celR, wrM, wrote, hu, intA] <;> omega) | omega | (first | exact hw | exact hg | omega)
theorem rStart (s : SetD) {u : Int} (hs : s.started = false) (h0 : s.at_ = 0) (hu : s.chain[s.at_]? = some u) (h3 : s.out.length ≤ 1000) (h4 : 0 ≤ s.writes) (h5 : s.writes ≤ 1000) : ACalls Tryz.prog 12 [.ptr 0 0] (refO s (-1)) (.int .i64 0) (refO (startS s u) 0) := by
  rw [h0] at hu
  have q := rWrite { s with started := true } 0 hu h3 h4 h5
  refine acallsK mixed Tryz.func12 rfl [0, 2, 7] 1000 ([.f, .call [0, 1] false false (.tup []) (refO (startS s u) 0)]) [] [0, 3] (v1 := .int .i64 0) (objs1 := [.vars 88 (celR (startS s u) 0 ++ [.row 1 22 (List.length (startS s u).out)]), .row 50 22 (startS s u).out]) (ob := [decide ((-1 : Int) ≥ (0 : Int)) = false,
 ACalls Tryz.prog 50 [.ptr 0 0] [.vars 88 (celR s 0 ++ [.row 1 22 (List.length s.out)]), .row 50 22 s.out] (.tup []) [.vars 88 (celR (startS s u) 0 ++ [.row 1 22 (List.length (startS s u).out)]), .row 50 22 (startS s u).out]]) (by kernel_rfl) (by first | exact rfl | exact ⟨rfl, rfl⟩ | (simp [refO, celR, wrM, wrote, startS]; done) | (omega)) ⟨(by first | exact rfl | (simp [refO, celR, wrM, wrote, startS]; done) | (simp [refO, celR, wrM, wrote, startS]; omega) | omega | (omega)), ?q17_1, trivial⟩
  exact q
theorem rStart_no (s : SetD) (at_ : Int) (h : 0 ≤ at_) : ACalls Tryz.prog 12 [.ptr 0 0] (refO s at_) (.int .i64 131) (refO s at_) := by
  refine acallsK mixed Tryz.func12 rfl [0, 2, 7] 1000 ([.t]) [] [0, 1] (v1 := .int .i64 131) (objs1 := [.vars 88 (celR s at_ ++ [.row 1 22 (List.length s.out)]), .row 50 22 s.out]) (ob := [decide (at_ ≥ (0 : Int)) = true]) (by kernel_rfl) (by first | exact rfl | exact ⟨rfl, rfl⟩ | (simp [refO, celR, h]; done) | (omega)) ⟨(by first | exact rfl | (simp [refO, celR, h]; done) | (simp [refO, celR, h]; omega) | omega | (omega)), trivial⟩
theorem start_no (s : SetD) (hs : s.started = true) : ACalls Tryz.prog 11 [.ptr 0 0] (setO s) (.int .i64 131) (setO s) := by
  refine acallsK mixed Tryz.func11 rfl [0, 2, 3, 6] 1000 ([.t]) [] [0, 1] (v1 := .int .i64 131) (objs1 := [.vars 86 (celS s ++ [.row 1 22 (List.length s.out)]), .row 50 22 s.out]) (ob := [s.started = true]) (by kernel_rfl) (by first | exact rfl | exact ⟨rfl, rfl⟩ | (simp [hs, celS, setO]; done)) ⟨(by first | exact rfl | (simp [hs, celS, setO]; done) | (simp [hs, celS, setO]; omega) | omega), trivial⟩
theorem rOut (s : SetD) (at_ : Int) : ACalls Tryz.prog 20 [.ptr 0 0] (refO s at_) (.row 2 22 s.out.length) (refO (emptied s) at_ ++ [.row 50 22 s.out]) := by
  refine acallsK mixed Tryz.func20 rfl [0, 2, 3] 1000 ([.mkc 0 13 50 22]) [] [0, 2, 1] (v1 := .row 2 22 (List.length s.out)) (objs1 := [.vars 88 (celR s at_ ++ [.row 1 22 0]), .row 50 22 [], .row 50 22 s.out]) (ob := []) (by kernel_rfl) (by first | exact rfl | exact ⟨rfl, rfl⟩ | (simp [refO, celR, emptied]; done) | (omega)) trivial
def refN (s : SetD) (at_ e : Int) : List X.Obj := [.vars 88 [.int .i64 s.client, .int .i64 s.id, .int .u64 s.epoch, .int .u64 s.a, .int .i64 0, .nils, .nils, .lst 1 (s.chain.map intA), .int .i64 at_, .bool true, .int .i64 e, .int .i64 s.ticks, .int .i64 s.writes, .row 1 22 s.out.length], .row 50 22 s.out]
theorem refN_refO {K : Ctx} {w : World} (s : SetD) (at_ e : Int) (he : e ≠ 0) (h : Rel K (getO (refN s at_ e)) w) : Rel K (getO (refO (ended s e) at_)) w := by
  have hs : refO (ended s e) at_ = .vars 88 ([.int .i64 s.client, .int .i64 s.id, .int .u64 s.epoch, .int .u64 s.a, .int .i64 0, .lst 1 [], .lst 3 [], .lst 1 (s.chain.map intA), .int .i64 at_, .bool true, .int .i64 e, .int .i64 s.ticks, .int .i64 s.writes, .row 1 22 s.out.length]) :: [.row 50 22 s.out] := by
    simp [refO, ended, celR, he]
  rw [hs]
  refine rel_cells h fun ds hd => ⟨hd.1, fun i v d hv hd' => ?_⟩
  by_cases h5 : i = 5
  · subst h5; injection hv with hv; subst hv
    exact nils_lst 1 (by decide) (hd.2 5 _ d rfl hd')
  · by_cases h6 : i = 6
    · subst h6; injection hv with hv; subst hv
      exact nils_lst 3 (by decide) (hd.2 6 _ d rfl hd')
    · refine hd.2 i v d ?_ hd'
      match i, h5, h6, hv with
      | 0, _, _, hv | 1, _, _, hv | 2, _, _, hv | 3, _, _, hv | 4, _, _, hv | 7, _, _, hv | 8, _, _, hv | 9, _, _, hv | 10, _, _, hv | 11, _, _, hv | 12, _, _, hv | 13, _, _, hv => exact hv
      | i + 14, _, _, hv => cases hv
theorem rEnd (s : SetD) (at_ e : Int) : ACalls Tryz.prog 58 [.ptr 0 0, .int .i64 e] (refO s at_) (.tup []) (refO (ended s e) at_) := by
  by_cases he : e = 0
  · subst he
    refine acallsK mixed Tryz.func58 rfl [0, 1, 12] 1000 ([.f]) [] [0, 1] (v1 := .tup []) (objs1 := [.vars 88 [.int .i64 s.client, .int .i64 s.id, .int .u64 s.epoch, .int .u64 s.a, .int .i64 s.cell.kind, .lst 1 (List.map byteA s.cell.data), .lst 3 (List.map encB s.cell.backs), .lst 1 (List.map intA s.chain), .int .i64 at_, .bool true, .int .i64 0, .int .i64 s.ticks, .int .i64 s.writes, .row 1 22 (List.length s.out)], .row 50 22 s.out]) (ob := [((0 : Int) != (0 : Int)) = false]) (by kernel_rfl) (by first | exact rfl | exact ⟨rfl, rfl⟩ | (simp [refO, celR, ended]; done) | (omega)) ⟨(by first | exact rfl | (simp [refO, celR, ended]; done) | (simp [refO, celR, ended]; omega) | omega | (omega)), trivial⟩
  · have q : ACalls Tryz.prog 58 [.ptr 0 0, .int .i64 e] (refO s at_) (.tup []) (refN s at_ e) := by
      refine acallsK mixed Tryz.func58 rfl [0, 1, 12] 1000 ([.t]) [] [0, 1] (v1 := .tup []) (objs1 := [.vars 88 [.int .i64 s.client, .int .i64 s.id, .int .u64 s.epoch, .int .u64 s.a, .int .i64 0, .nils, .nils, .lst 1 (List.map intA s.chain), .int .i64 at_, .bool true, .int .i64 e, .int .i64 s.ticks, .int .i64 s.writes, .row 1 22 (List.length s.out)], .row 50 22 s.out]) (ob := [(e != (0 : Int)) = true]) (by kernel_rfl) (by first | exact rfl | exact ⟨rfl, rfl⟩ | (simp [refO, celR, refN, he]; done) | (omega)) ⟨(by first | exact rfl | (simp [refO, celR, refN, he]; done) | (simp [refO, celR, refN, he]; omega) | omega | (omega)), trivial⟩
    exact ACalls.post q (fun _ _ h => h) fun K w h => refN_refO s at_ e he h
theorem rTold (s : SetD) (at_ : Int) : ACalls Tryz.prog 22 [.ptr 0 0] (refO s at_) (.tup [encC (toldC s), .int .i64 (toldE s), .bool s.over]) (refO s at_) := by
  unfold toldC toldE
  by_cases h : s.over = true
  · rw [if_pos h, if_pos h, h]
    refine acallsK mixed Tryz.func22 rfl [0, 2, 3, 4, 9] 1000 ([.t]) [] [0, 1] (v1 := .tup [(encC s.cell), .int .i64 s.e, .bool true]) (objs1 := [.vars 88 (celR s at_ ++ [.row 1 22 (List.length s.out)]), .row 50 22 s.out]) (ob := [s.over = true]) (by kernel_rfl) (by first | exact rfl | exact ⟨rfl, rfl⟩ | (simp [refO, celR, encC, celC, h]; done) | (omega)) ⟨(by first | exact rfl | (simp [refO, celR, encC, celC, h]; done) | (simp [refO, celR, encC, celC, h]; omega) | omega | (omega)), trivial⟩
  · rw [if_neg h, if_neg h]
    have h : s.over = false := by simpa using h
    rw [h]
    have q : ACalls Tryz.prog 22 [.ptr 0 0] (refO s at_) (.tup [nilC, .int .i64 0, .bool false]) (refO s at_) := by
      refine acallsK mixed Tryz.func22 rfl [0, 2, 3, 4, 9] 1000 ([.f]) [] [0, 1] (v1 := .tup [.agg [.int .i64 0, .nils, .nils], .int .i64 0, .bool false]) (objs1 := [.vars 88 (celR s at_ ++ [.row 1 22 (List.length s.out)]), .row 50 22 s.out]) (ob := [s.over = false]) (by kernel_rfl) (by first | exact rfl | exact ⟨rfl, rfl⟩ | (simp [refO, celR, nilC, h]; done) | (omega)) ⟨(by first | exact rfl | (simp [refO, celR, nilC, h]; done) | (simp [refO, celR, nilC, h]; omega) | omega | (omega)), trivial⟩
    refine ACalls.post q (fun K c hc => ?_) fun _ _ h => h
    obtain ⟨ds, rfl, hd⟩ := hc.tup_inv
    refine VR.mkTup ⟨hd.1, fun i u d hu hd' => ?_⟩
    match i, hu with
    | 0, hu => injection hu with hu; subst hu; exact nilcell (hd.2 0 _ d rfl hd')
    | 1, hu => exact hd.2 1 _ d hu hd'
    | 2, hu => exact hd.2 2 _ d hu hd'
/-- Where the reference says that a settler is. -/
structure At (s : SetD) (at_ : Int) : Prop where
  no : s.started = false → at_ = -1
  yes : s.started = true → 0 ≤ at_
  eq : s.started = true → s.over = false → at_ = s.at_
theorem rTick (s : SetD) (at_ : Int) (hs : s.ok) (ha : At s at_) {v : Int} (hv : s.over = false → s.chain[s.at_]? = some v) : ACalls Tryz.prog 17 [.ptr 0 0] (refO s at_) (.int .i64 0) (refO (tickS s v) at_) := by
  have t0 := hs.t0
  have w0 := hs.w0
  have w1 := hs.w1
  have hu := hs.out
  unfold tickS
  by_cases h1 : s.started = false
  · rw [if_pos (.inl h1)]
    have h0 := ha.no h1
    refine acallsK mixed Tryz.func17 rfl [0, 2, 13, 25, 30] 1000 ([.t]) [] [0, 1] (v1 := .int .i64 0) (objs1 := [.vars 88 (celR s at_ ++ [.row 1 22 (List.length s.out)]), .row 50 22 s.out]) (ob := [decide (at_ < (0 : Int)) = true]) (by kernel_rfl) (by first | exact rfl | exact ⟨rfl, rfl⟩ | (simp [refO, celR, h0]; done) | (omega)) ⟨(by first | exact rfl | (simp [refO, celR, h0]; done) | (simp [refO, celR, h0]; omega) | omega | (omega)), trivial⟩
  · have h1 : s.started = true := by simpa using h1
    have h0 := ha.yes h1
    by_cases h2 : s.over = true
    · rw [if_pos (.inr h2)]
      refine acallsK mixed Tryz.func17 rfl [0, 2, 13, 25, 30] 1000 ([.f, .t]) [] [0, 1] (v1 := .int .i64 0) (objs1 := [.vars 88 (celR s at_ ++ [.row 1 22 (List.length s.out)]), .row 50 22 s.out]) (ob := [decide (at_ < (0 : Int)) = false,
 s.over = true]) (by kernel_rfl) (by first | exact rfl | exact ⟨rfl, rfl⟩ | (simp [refO, celR, h2]; done) | (omega)) ⟨?z0, ?z1, trivial⟩
      case z0|z1 => first | exact rfl | (simp [refO, celR, h2] <;> omega) | omega | (omega)
    · rw [if_neg (by rw [h1]; simp [h2])]
      have h2 : s.over = false := by simpa using h2
      have t1 : s.ticks < 6 := by rcases hs.t1 with h | h; exact h; rw [h2] at h; cases h
      by_cases h3 : s.ticks + 1 < 6
      · rw [if_pos h3]
        refine acallsK mixed Tryz.func17 rfl [0, 2, 13, 25, 30] 1000 ([.f, .f, .n (s.ticks + 1), .t]) [] [0, 1] (v1 := .int .i64 0) (objs1 := [.vars 88 [.int .i64 s.client, .int .i64 s.id, .int .u64 s.epoch, .int .u64 s.a, .int .i64 s.cell.kind, .lst 1 (List.map byteA s.cell.data), .lst 3 (List.map encB s.cell.backs), .lst 1 (List.map intA s.chain), .int .i64 at_, .bool s.over, .int .i64 s.e, .int .i64 (s.ticks + 1), .int .i64 s.writes, .row 1 22 (List.length s.out)], .row 50 22 s.out]) (ob := [decide (at_ < (0 : Int)) = false,
 s.over = false,
 IntKind.i64.wrap (s.ticks + (1 : Int)) = s.ticks + (1 : Int),
 decide (s.ticks + (1 : Int) < (6 : Int)) = true]) (by kernel_rfl) (by first | exact rfl | exact ⟨rfl, rfl⟩ | (simp [refO, celR, h2, h3]; done) | (first | omega | exact wrap_i (by omega) (by omega))) ⟨?z2, ?z3, ?z4, ?z5, trivial⟩
        case z2|z3|z4|z5 => first | exact rfl | (simp [refO, celR, h2, h3] <;> omega) | omega | (first | omega | exact wrap_i (by omega) (by omega))
      · rw [if_neg h3]
        by_cases h4 : 5 ≤ s.writes
        · rw [if_pos h4]
          have q := rEnd { s with ticks := s.ticks + 1 } at_ 162
          refine acallsK mixed Tryz.func17 rfl [0, 2, 13, 25, 30] 1000 ([.f, .f, .n (s.ticks + 1), .f, .t, .call [0, 1] false false (.tup []) (refO (ended { s with ticks := s.ticks + 1 } 162) at_)]) [] [0, 3] (v1 := .int .i64 0) (objs1 := [.vars 88 [.int .i64 (ended { client := s.client, id := s.id, epoch := s.epoch, a := s.a, cell := s.cell, chain := s.chain, at_ := s.at_, started := s.started, over := s.over, e := s.e, ticks := s.ticks + 1, writes := s.writes, out := s.out } 162).client, .int .i64 (ended { client := s.client, id := s.id, epoch := s.epoch, a := s.a, cell := s.cell, chain := s.chain, at_ := s.at_, started := s.started, over := s.over, e := s.e, ticks := s.ticks + 1, writes := s.writes, out := s.out } 162).id, .int .u64 (ended { client := s.client, id := s.id, epoch := s.epoch, a := s.a, cell := s.cell, chain := s.chain, at_ := s.at_, started := s.started, over := s.over, e := s.e, ticks := s.ticks + 1, writes := s.writes, out := s.out } 162).epoch, .int .u64 (ended { client := s.client, id := s.id, epoch := s.epoch, a := s.a, cell := s.cell, chain := s.chain, at_ := s.at_, started := s.started, over := s.over, e := s.e, ticks := s.ticks + 1, writes := s.writes, out := s.out } 162).a, .int .i64 (ended { client := s.client, id := s.id, epoch := s.epoch, a := s.a, cell := s.cell, chain := s.chain, at_ := s.at_, started := s.started, over := s.over, e := s.e, ticks := s.ticks + 1, writes := s.writes, out := s.out } 162).cell.kind, .lst 1 [], .lst 3 [], .lst 1 (List.map intA (ended { client := s.client, id := s.id, epoch := s.epoch, a := s.a, cell := s.cell, chain := s.chain, at_ := s.at_, started := s.started, over := s.over, e := s.e, ticks := s.ticks + 1, writes := s.writes, out := s.out } 162).chain), .int .i64 at_, .bool (ended { client := s.client, id := s.id, epoch := s.epoch, a := s.a, cell := s.cell, chain := s.chain, at_ := s.at_, started := s.started, over := s.over, e := s.e, ticks := s.ticks + 1, writes := s.writes, out := s.out } 162).over, .int .i64 (ended { client := s.client, id := s.id, epoch := s.epoch, a := s.a, cell := s.cell, chain := s.chain, at_ := s.at_, started := s.started, over := s.over, e := s.e, ticks := s.ticks + 1, writes := s.writes, out := s.out } 162).e, .int .i64 (ended { client := s.client, id := s.id, epoch := s.epoch, a := s.a, cell := s.cell, chain := s.chain, at_ := s.at_, started := s.started, over := s.over, e := s.e, ticks := s.ticks + 1, writes := s.writes, out := s.out } 162).ticks, .int .i64 (ended { client := s.client, id := s.id, epoch := s.epoch, a := s.a, cell := s.cell, chain := s.chain, at_ := s.at_, started := s.started, over := s.over, e := s.e, ticks := s.ticks + 1, writes := s.writes, out := s.out } 162).writes, .row 1 22 (List.length (ended { client := s.client, id := s.id, epoch := s.epoch, a := s.a, cell := s.cell, chain := s.chain, at_ := s.at_, started := s.started, over := s.over, e := s.e, ticks := s.ticks + 1, writes := s.writes, out := s.out } 162).out)], .row 50 22 (ended { client := s.client, id := s.id, epoch := s.epoch, a := s.a, cell := s.cell, chain := s.chain, at_ := s.at_, started := s.started, over := s.over, e := s.e, ticks := s.ticks + 1, writes := s.writes, out := s.out } 162).out]) (ob := [decide (at_ < (0 : Int)) = false,
 s.over = false,
 IntKind.i64.wrap (s.ticks + (1 : Int)) = s.ticks + (1 : Int),
 decide (s.ticks + (1 : Int) < (6 : Int)) = false,
 decide (s.writes ≥ (5 : Int)) = true,
 ACalls Tryz.prog 58 [.ptr 0 0, .int .i64 162] [.vars 88 [.int .i64 s.client, .int .i64 s.id, .int .u64 s.epoch, .int .u64 s.a, .int .i64 s.cell.kind, .lst 1 (List.map byteA s.cell.data), .lst 3 (List.map encB s.cell.backs), .lst 1 (List.map intA s.chain), .int .i64 at_, .bool s.over, .int .i64 s.e, .int .i64 (s.ticks + 1), .int .i64 s.writes, .row 1 22 (List.length s.out)], .row 50 22 s.out] (.tup []) [.vars 88 [.int .i64 (ended { client := s.client, id := s.id, epoch := s.epoch, a := s.a, cell := s.cell, chain := s.chain, at_ := s.at_, started := s.started, over := s.over, e := s.e, ticks := s.ticks + 1, writes := s.writes, out := s.out } 162).client, .int .i64 (ended { client := s.client, id := s.id, epoch := s.epoch, a := s.a, cell := s.cell, chain := s.chain, at_ := s.at_, started := s.started, over := s.over, e := s.e, ticks := s.ticks + 1, writes := s.writes, out := s.out } 162).id, .int .u64 (ended { client := s.client, id := s.id, epoch := s.epoch, a := s.a, cell := s.cell, chain := s.chain, at_ := s.at_, started := s.started, over := s.over, e := s.e, ticks := s.ticks + 1, writes := s.writes, out := s.out } 162).epoch, .int .u64 (ended { client := s.client, id := s.id, epoch := s.epoch, a := s.a, cell := s.cell, chain := s.chain, at_ := s.at_, started := s.started, over := s.over, e := s.e, ticks := s.ticks + 1, writes := s.writes, out := s.out } 162).a, .int .i64 (ended { client := s.client, id := s.id, epoch := s.epoch, a := s.a, cell := s.cell, chain := s.chain, at_ := s.at_, started := s.started, over := s.over, e := s.e, ticks := s.ticks + 1, writes := s.writes, out := s.out } 162).cell.kind, .lst 1 [], .lst 3 [], .lst 1 (List.map intA (ended { client := s.client, id := s.id, epoch := s.epoch, a := s.a, cell := s.cell, chain := s.chain, at_ := s.at_, started := s.started, over := s.over, e := s.e, ticks := s.ticks + 1, writes := s.writes, out := s.out } 162).chain), .int .i64 at_, .bool (ended { client := s.client, id := s.id, epoch := s.epoch, a := s.a, cell := s.cell, chain := s.chain, at_ := s.at_, started := s.started, over := s.over, e := s.e, ticks := s.ticks + 1, writes := s.writes, out := s.out } 162).over, .int .i64 (ended { client := s.client, id := s.id, epoch := s.epoch, a := s.a, cell := s.cell, chain := s.chain, at_ := s.at_, started := s.started, over := s.over, e := s.e, ticks := s.ticks + 1, writes := s.writes, out := s.out } 162).e, .int .i64 (ended { client := s.client, id := s.id, epoch := s.epoch, a := s.a, cell := s.cell, chain := s.chain, at_ := s.at_, started := s.started, over := s.over, e := s.e, ticks := s.ticks + 1, writes := s.writes, out := s.out } 162).ticks, .int .i64 (ended { client := s.client, id := s.id, epoch := s.epoch, a := s.a, cell := s.cell, chain := s.chain, at_ := s.at_, started := s.started, over := s.over, e := s.e, ticks := s.ticks + 1, writes := s.writes, out := s.out } 162).writes, .row 1 22 (List.length (ended { client := s.client, id := s.id, epoch := s.epoch, a := s.a, cell := s.cell, chain := s.chain, at_ := s.at_, started := s.started, over := s.over, e := s.e, ticks := s.ticks + 1, writes := s.writes, out := s.out } 162).out)], .row 50 22 (ended { client := s.client, id := s.id, epoch := s.epoch, a := s.a, cell := s.cell, chain := s.chain, at_ := s.at_, started := s.started, over := s.over, e := s.e, ticks := s.ticks + 1, writes := s.writes, out := s.out } 162).out]]) (by kernel_rfl) (by first | exact rfl | exact ⟨rfl, rfl⟩ | (simp [refO, celR, ended, h2, h3, h4]; done) | (first | omega | exact wrap_i (by omega) (by omega))) ⟨?z6, ?z7, ?z8, ?z9, ?z10, ?q95_1, trivial⟩
          case z6|z7|z8|z9|z10 => first | exact rfl | (simp [refO, celR, ended, h2, h3, h4] <;> omega) | omega | (first | omega | exact wrap_i (by omega) (by omega))
          exact q
        · rw [if_neg h4]
          have he := ha.eq h1 h2
          subst he
          have q := rWrite { s with ticks := s.ticks + 1 } s.at_ (hv h2) (by show s.out.length ≤ _; omega) w0 (by show s.writes ≤ _; omega)
          refine acallsK mixed Tryz.func17 rfl [0, 2, 13, 25, 30] 1000 ([.f, .f, .n (s.ticks + 1), .f, .f, .call [0, 1] false false (.tup []) (refO (wrote { s with ticks := s.ticks + 1 } v) s.at_)]) [] [0, 3] (v1 := .int .i64 0) (objs1 := [.vars 88 (celR (wrote { client := s.client, id := s.id, epoch := s.epoch, a := s.a, cell := s.cell, chain := s.chain, at_ := s.at_, started := s.started, over := s.over, e := s.e, ticks := s.ticks + 1, writes := s.writes, out := s.out } v) (↑s.at_ : Int) ++ [.row 1 22 (List.length (wrote { client := s.client, id := s.id, epoch := s.epoch, a := s.a, cell := s.cell, chain := s.chain, at_ := s.at_, started := s.started, over := s.over, e := s.e, ticks := s.ticks + 1, writes := s.writes, out := s.out } v).out)]), .row 50 22 (wrote { client := s.client, id := s.id, epoch := s.epoch, a := s.a, cell := s.cell, chain := s.chain, at_ := s.at_, started := s.started, over := s.over, e := s.e, ticks := s.ticks + 1, writes := s.writes, out := s.out } v).out]) (ob := [decide ((↑s.at_ : Int) < (0 : Int)) = false,
 s.over = false,
 IntKind.i64.wrap (s.ticks + (1 : Int)) = s.ticks + (1 : Int),
 decide (s.ticks + (1 : Int) < (6 : Int)) = false,
 decide (s.writes ≥ (5 : Int)) = false,
 ACalls Tryz.prog 50 [.ptr 0 0] [.vars 88 [.int .i64 s.client, .int .i64 s.id, .int .u64 s.epoch, .int .u64 s.a, .int .i64 s.cell.kind, .lst 1 (List.map byteA s.cell.data), .lst 3 (List.map encB s.cell.backs), .lst 1 (List.map intA s.chain), .int .i64 (↑s.at_ : Int), .bool s.over, .int .i64 s.e, .int .i64 (s.ticks + 1), .int .i64 s.writes, .row 1 22 (List.length s.out)], .row 50 22 s.out] (.tup []) [.vars 88 (celR (wrote { client := s.client, id := s.id, epoch := s.epoch, a := s.a, cell := s.cell, chain := s.chain, at_ := s.at_, started := s.started, over := s.over, e := s.e, ticks := s.ticks + 1, writes := s.writes, out := s.out } v) (↑s.at_ : Int) ++ [.row 1 22 (List.length (wrote { client := s.client, id := s.id, epoch := s.epoch, a := s.a, cell := s.cell, chain := s.chain, at_ := s.at_, started := s.started, over := s.over, e := s.e, ticks := s.ticks + 1, writes := s.writes, out := s.out } v).out)]), .row 50 22 (wrote { client := s.client, id := s.id, epoch := s.epoch, a := s.a, cell := s.cell, chain := s.chain, at_ := s.at_, started := s.started, over := s.over, e := s.e, ticks := s.ticks + 1, writes := s.writes, out := s.out } v).out]]) (by kernel_rfl) (by first | exact rfl | exact ⟨rfl, rfl⟩ | (simp [refO, celR, wrote, h2, h3, h4]; done) | (first | omega | exact wrap_i (by omega) (by omega))) ⟨?z11, ?z12, ?z13, ?z14, ?z15, ?q101_1, trivial⟩
          case z11|z12|z13|z14|z15 => first | exact rfl | (simp [refO, celR, wrote, h2, h3, h4] <;> omega) | omega | (first | omega | exact wrap_i (by omega) (by omega))
          exact q
theorem wr_chain0 : ACalls Tryz.prog 126 [.nils, .nils] [] (.bool true) [] := by
  refine acallsK mixed Tryz.func126 rfl [0, 1, 4, 5, 10, 14, 25] 1000 ([.f, .go, .f]) [] [] (v1 := .bool true) (objs1 := []) (ob := [((0 : Int) != (0 : Int)) = false,
 decide ((0 : Int) < (0 : Int)) = false]) (by kernel_rfl) (by first | exact rfl | exact ⟨rfl, rfl⟩ | (simp []; done)) ⟨?z0, ?z1, trivial⟩
  case z0|z1 => first | exact rfl | (simp [] <;> omega) | omega
theorem wr_same0 : ACalls Tryz.prog 102 [.nils, .nils] [] (.bool true) [] := by
  have q := wr_chain0
  refine acallsK mixed Tryz.func102 rfl [0, 1, 4] 1000 ([.call [] false true (.bool true) []]) [] [] (v1 := .bool true) (objs1 := []) (ob := [ACalls Tryz.prog 126 [.nils, .nils] [] (.bool true) []]) (by kernel_rfl) (by first | exact rfl | exact ⟨rfl, rfl⟩ | (simp []; done)) ⟨?q107_1, trivial⟩
  exact q
theorem wr_lay0 : ACalls Tryz.prog 103 [nilL, nilL] [] (.bool true) [] := by
  refine acallsK mixed Tryz.func103 rfl [0, 1, 2, 3, 4, 5, 6, 7, 8, 9, 30, 35, 61, 66, 81] 1000 ([.f, .f, .f, .go, .f]) [] [] (v1 := .bool true) (objs1 := []) (ob := [((0 : Int) != (0 : Int)) = false,
 ((0 : Int) != (0 : Int)) = false,
 ((0 : Int) != (0 : Int)) = false,
 decide ((0 : Int) < (0 : Int)) = false]) (by kernel_rfl) (by first | exact rfl | exact ⟨rfl, rfl⟩ | (simp [nilL]; done)) ⟨?z0, ?z1, ?z2, ?z3, trivial⟩
  case z0|z1|z2|z3 => first | exact rfl | (simp [nilL] <;> omega) | omega
theorem sameC_refl (c : CellD) : sameC c c = true := by
  unfold sameC; simp
theorem wr_same (s : SetD) (u : Int) (hs : s.cell.ok) : ACalls Tryz.prog 59 [wrM s u, wrM s u] [] (.bool true) [] := by
  have q1 := wr_same0
  have q2 := same7_ac s.cell s.cell hs hs
  rw [sameC_refl] at q2
  have q3 := wr_lay0
  refine acallsK mixed Tryz.func59 rfl [0, 1, 2, 3, 4, 5, 6, 7, 8, 30, 35, 48] 1000 ([.call [] false true (.bool true) [], .call [] false true (.bool true) [], .call [] false true (.bool true) [], .f, .go, .f, .t, .t, .t, .t, .t, .t, .t, .t, .t, .t]) [] [] (v1 := .bool true) (objs1 := []) (ob := [ACalls Tryz.prog 102 [.nils, .nils] [] (.bool true) [],
 ACalls Tryz.prog 23 [(encC s.cell), (encC s.cell)] [] (.bool true) [],
 ACalls Tryz.prog 103 [.agg [.int .u64 0, .nils, .int .i64 0], .agg [.int .u64 0, .nils, .int .i64 0]] [] (.bool true) [],
 ((0 : Int) != (0 : Int)) = false,
 decide ((0 : Int) < (0 : Int)) = false,
 ((1 : Int) == (1 : Int)) = true,
 ((0 : Int) == (0 : Int)) = true,
 ((4 : Int) == (4 : Int) && (s.client == s.client && true)) = true,
 ((1 : Int) == (1 : Int) && (u == u && true)) = true,
 (s.id == s.id) = true,
 (s.epoch == s.epoch) = true,
 (s.a == s.a) = true,
 ((0 : Int) == (0 : Int)) = true,
 ((0 : Int) == (0 : Int) && ((0 : Int) == (0 : Int) && true)) = true,
 ((0 : Int) == (0 : Int) && ((0 : Int) == (0 : Int) && true)) = true]) (by kernel_rfl) (by first | exact rfl | exact ⟨rfl, rfl⟩ | (simp [wrM]; done)) ⟨?q118_1, ?q118_2, ?q118_3, ?z0, ?z1, ?z2, ?z3, ?z4, ?z5, ?z6, ?z7, ?z8, ?z9, ?z10, ?z11, trivial⟩
  case z0|z1|z2|z3|z4|z5|z6|z7|z8|z9|z10|z11 => first | exact rfl | (simp [wrM] <;> omega) | omega
  · exact q1
  · exact q2
  · exact q3
def Wrs (xs : List AV) : Prop := ∀ x ∈ xs, ∃ s u, x = wrM s u ∧ s.cell.ok
theorem all_loop (xs : List AV) (h : Wrs xs) (hb : xs.length ≤ 1000000) : ∀ (n k : Nat), xs.length = k + n →
    ALoop Tryz.prog 0 Tryz.f18.ntmps (loopB Tryz.f18 0) ⟨[(5, .int .i64 k), (0, .lst 22 xs), (1, .lst 22 xs)], []⟩ (.exit 0) ⟨[], []⟩
  | 0, k, hk => by
    refine aloopK mixed [0, 1, 4, 5, 6, 11, 15, 28] 1000 ([.go, .n xs.length, .f]) [] [] (S1 := { env := [], objs := [] }) (ob := [(xs.length : Int) = (xs.length : Int),
 decide ((↑k : Int) < (xs.length : Int)) = false]) (by kernel_rfl) (by first | exact rfl | exact ⟨rfl, rfl⟩ | (simp []; done)) ⟨?z0, ?z1, trivial⟩
    case z0|z1 => first | exact rfl | (simp [] <;> omega) | omega
  | n + 1, k, hk => by
    have ih := all_loop xs h hb n (k + 1) (by omega)
    obtain ⟨x, hx⟩ := get_of (l := xs) (k := k) (by omega)
    obtain ⟨s, u, rfl, hs⟩ := h x (List.mem_of_getElem? hx)
    have q := wr_same s u hs
    have hk2 : k < xs.length := by omega
    have hw : IntKind.i64.wrap ((k : Int) + 1) = ((k + 1 : Nat) : Int) := wrap64 (by omega)
    refine aloopK mixed [0, 1, 4, 5, 6, 11, 15, 28] 1000 ([.go, .n xs.length, .t, .ix k, .el (wrM s u), .ix k, .el (wrM s u), .call [] false true (.bool true) [], .n ((k + 1 : Nat) : Int), .lp [5, 0, 1] [] (.exit 0) ⟨[], []⟩]) [] [] (S1 := { env := [], objs := [] }) (ob := [(xs.length : Int) = (xs.length : Int),
 decide ((↑k : Int) < (xs.length : Int)) = true,
 k < List.length xs,
 (↑k : Int) = (↑k : Int),
 xs[k]? = some (.agg [.int .i64 (1 : Int), .int .i64 (4 : Int), .int .i64 s.client, .int .i64 (1 : Int), .int .i64 u, .int .i64 s.id, .int .i64 (0 : Int), .int .u64 s.epoch, .int .u64 s.a, .int .i64 (0 : Int), .int .i64 s.cell.kind, .lst (nat_lit 1) (List.map byteA s.cell.data), .lst (nat_lit 3) (List.map encB s.cell.backs), .nils, .nils, .int .i64 (0 : Int), .int .i64 (0 : Int), .int .i64 (0 : Int), .int .i64 (0 : Int), .int .u64 (0 : Int), .nils, .int .i64 (0 : Int)]),
 k < List.length xs,
 (↑k : Int) = (↑k : Int),
 xs[k]? = some (.agg [.int .i64 (1 : Int), .int .i64 (4 : Int), .int .i64 s.client, .int .i64 (1 : Int), .int .i64 u, .int .i64 s.id, .int .i64 (0 : Int), .int .u64 s.epoch, .int .u64 s.a, .int .i64 (0 : Int), .int .i64 s.cell.kind, .lst (nat_lit 1) (List.map byteA s.cell.data), .lst (nat_lit 3) (List.map encB s.cell.backs), .nils, .nils, .int .i64 (0 : Int), .int .i64 (0 : Int), .int .i64 (0 : Int), .int .i64 (0 : Int), .int .u64 (0 : Int), .nils, .int .i64 (0 : Int)]),
 ACalls Tryz.prog 59 [.agg [.int .i64 1, .int .i64 4, .int .i64 s.client, .int .i64 1, .int .i64 u, .int .i64 s.id, .int .i64 0, .int .u64 s.epoch, .int .u64 s.a, .int .i64 0, .int .i64 s.cell.kind, .lst 1 (List.map byteA s.cell.data), .lst 3 (List.map encB s.cell.backs), .nils, .nils, .int .i64 0, .int .i64 0, .int .i64 0, .int .i64 0, .int .u64 0, .nils, .int .i64 0], .agg [.int .i64 1, .int .i64 4, .int .i64 s.client, .int .i64 1, .int .i64 u, .int .i64 s.id, .int .i64 0, .int .u64 s.epoch, .int .u64 s.a, .int .i64 0, .int .i64 s.cell.kind, .lst 1 (List.map byteA s.cell.data), .lst 3 (List.map encB s.cell.backs), .nils, .nils, .int .i64 0, .int .i64 0, .int .i64 0, .int .i64 0, .int .u64 0, .nils, .int .i64 0]] [] (.bool true) [],
 IntKind.i64.wrap ((↑k : Int) + (1 : Int)) = (↑(k + (1 : Nat)) : Int),
 ALoop Tryz.prog 0 29 (loopB Tryz.f18 0) { env := [(5, .int .i64 (↑(k + 1) : Int)), (0, .lst 22 xs), (1, .lst 22 xs)], objs := [] } (Ex.exit 0) { env := [], objs := [] }]) (by kernel_rfl) (by first | exact rfl | exact ⟨rfl, rfl⟩ | (simp [hw]; done) | (first | exact hx | omega)) ⟨?z2, ?z3, ?z4, ?z5, ?z6, ?z7, ?z8, ?z9, ?q134_1, ?z10, ?q134_2, trivial⟩
    case z2|z3|z4|z5|z6|z7|z8|z9|z10 => first | exact rfl | (simp [hw] <;> omega) | omega | (first | exact hx | omega)
    · exact q
    · exact ih
theorem all_ac (xs : List AV) (h : Wrs xs) (hb : xs.length ≤ 1000000) : ACalls Tryz.prog 18 [.lst 22 xs, .lst 22 xs] [] (.bool true) [] := by
  have q := all_loop xs h hb xs.length 0 (by omega)
  refine acallsK mixed Tryz.func18 rfl [0, 1, 4, 5, 6, 11, 15, 28] 1000 ([.n xs.length, .n xs.length, .f, .lp [5, 0, 1] [] (.exit 0) ⟨[], []⟩]) [] [] (v1 := .bool true) (objs1 := []) (ob := [(xs.length : Int) = (xs.length : Int),
 (xs.length : Int) = (xs.length : Int),
 ((xs.length : Int) != (xs.length : Int)) = false,
 ALoop Tryz.prog 0 29 (loopB Tryz.f18 0) { env := [(5, .int .i64 0), (0, .lst 22 xs), (1, .lst 22 xs)], objs := [] } (Ex.exit 0) { env := [], objs := [] }]) (by kernel_rfl) (by first | exact rfl | exact ⟨rfl, rfl⟩ | (simp []; done)) ⟨?z0, ?z1, ?z2, ?q139_1, trivial⟩
  case z0|z1|z2 => first | exact rfl | (simp [] <;> omega) | omega
  exact q
end Go.Proofs.YtidgcfgkcidkiaaGreat.Ch
