/- Texts of one proof, laid together: Fc, Fd, Fe, Ff, Fg, RdPlays. -/
import Derived.Test.YtidgcfgkcidkiaaGreatS07
import Derived.Test.YtidgcfgkcidkiaaGreatRows
import Derived.JoinedCond
namespace Go.Proofs.YtidgcfgkcidkiaaGreat.Ch
open Go Go.RowKit Go.Proofs.YtidgcfgkcidkiaaGreat.L Go.Proofs.YtidgcfgkcidkiaaGreat.X
set_option linter.unusedVariables false
set_option linter.unusedSimpArgs false
def celU (r : RdD) : List AV := [.int .i64 r.client, .int .i64 r.id] ++ celL r.lay ++ [.int .u64 r.a, .bool r.fill, .int .i64 r.last, .int .i64 r.at_]
def celV (r : RdD) : List AV := celC r.cell ++ [.int .i64 r.e, .int .i64 r.ticks, .int .i64 r.asked]
def rfO (r : RdD) : List X.Obj := [.vars 108 (celU r ++ .nilp :: celV r ++ [.row 1 22 r.out.length]), .row 50 22 r.out]
def rfS (r : RdD) (s : SetD) (at_ : Int) : List X.Obj := [.vars 108 (celU r ++ .ptr 2 0 :: celV r ++ [.row 1 22 r.out.length]), .row 50 22 r.out, .vars 88 (celR s at_ ++ [.row 3 22 s.out.length]), .row 50 22 s.out]
theorem zadd (n : Nat) (h : n ≤ 1000) : (0 + n) * 256 ≤ 140737488355328 := by
  have e : 0 + n = n := Nat.zero_add n
  rw [e]
  exact Nat.le_trans (Nat.mul_le_mul_right 256 h) (by decide)
theorem fask (r : RdD) (h1 : r.out.length ≤ 1000) (h2 : 0 ≤ r.asked) (h3 : r.asked ≤ 100) : ACalls Tryz.prog 69 [.ptr 0 0] (rfO r) (.tup []) (rfO (askR r)) := by
  have s3 : (r.out.length + 1) * 256 ≤ 140737488355328 := by omega
  have s2 : IntKind.i64.wrap (r.asked + 1) = r.asked + 1 := wrap_i (by omega) (by omega)
  have s1 := zadd r.out.length h1
  refine acallsK mixed Tryz.func69 rfl [0, 2] 1000 ([.ls r.out, .ls (r.out ++ [rdM r]), .n (r.asked + 1)]) [] [0, 6] (ob := [((0 : Nat) + List.length (RdD.out r)) * (256 : Nat) ≤ (140737488355328 : Nat),
 [] ++ RdD.out r = RdD.out r,
 (List.length (RdD.out r) + (1 : Nat)) * (256 : Nat) ≤ (140737488355328 : Nat),
 RdD.out r ++ [.agg [.int .i64 (2 : Int), .int .i64 (4 : Int), .int .i64 (RdD.client r), .int .i64 (1 : Int), .int .i64 (RdD.last r), .int .i64 (RdD.id r), .int .i64 (0 : Int), .int .u64 (RdD.lay r).epoch, .int .u64 (RdD.a r), .int .i64 (0 : Int), .int .i64 (0 : Int), .nils, .nils, .nils, .nils, .int .i64 (0 : Int), .int .i64 (0 : Int), .int .i64 (0 : Int), .int .i64 (0 : Int), .int .u64 (0 : Int), .nils, .int .i64 (0 : Int)]] = RdD.out r ++ [rdM r],
 IntKind.i64.wrap (RdD.asked r + (1 : Int)) = RdD.asked r + (1 : Int)]) (by kernel_rfl) ⟨rfl, rfl⟩ ⟨?z0, ?z1, ?z2, ?z3, ?z4, trivial⟩
  case z0|z1|z2|z3|z4 => first | (first | with_reducible exact s1 | with_reducible exact s2 | with_reducible exact s3) | exact rfl | (simp [rfO, rfS, celU, celV, celL, celC, askR, rdM]; done) | (simp [rfO, rfS, celU, celV, celL, celC, askR, rdM]; omega) | omega
theorem fstart (r : RdD) (h : r.at_ = 0) (h1 : r.out.length ≤ 1000) (h2 : 0 ≤ r.asked) (h3 : r.asked ≤ 100) : ACalls Tryz.prog 33 [.ptr 0 0] (rfO r) (.int .i64 0) (rfO (startR r)) := by
  have q := fask { r with at_ := 1 } h1 h2 h3
  refine acallsK mixed Tryz.func33 rfl [0, 2, 7] 1000 ([.f, .call [0, 1] false false (.tup []) (rfO (startR r))]) [] [0, 3] (ob := [decide (RdD.at_ r > (0 : Int)) = false,
 _]) (by kernel_rfl) ⟨rfl, rfl⟩ ⟨(by first | exact rfl | (simp [rfO, rfS, celU, celV, celL, celC, startR, askR, h]; done) | (simp [rfO, rfS, celU, celV, celL, celC, startR, askR, h]; omega) | omega), q, trivial⟩
theorem fstart_no (r : RdD) (h : 0 < r.at_) : ACalls Tryz.prog 33 [.ptr 0 0] (rfO r) (.int .i64 131) (rfO r) := by
  refine acallsK mixed Tryz.func33 rfl [0, 2, 7] 1000 ([.t]) [] [0, 1] (ob := [decide (RdD.at_ r > (0 : Int)) = true]) (by kernel_rfl) ⟨rfl, rfl⟩ ⟨(by first | exact rfl | (simp [rfO, rfS, celU, celV, celL, celC, h]; done) | (simp [rfO, rfS, celU, celV, celL, celC, h]; omega) | omega), trivial⟩
theorem fstart_noS (r : RdD) (s : SetD) (at_ : Int) (h : 0 < r.at_) : ACalls Tryz.prog 33 [.ptr 0 0] (rfS r s at_) (.int .i64 131) (rfS r s at_) := by
  refine acallsK mixed Tryz.func33 rfl [0, 2, 7] 1000 ([.t]) [] [0, 1, 2, 3] (ob := [decide (RdD.at_ r > (0 : Int)) = true]) (by kernel_rfl) ⟨rfl, rfl⟩ ⟨(by first | exact rfl | (simp [rfO, rfS, celU, celV, celL, celC, h]; done) | (simp [rfO, rfS, celU, celV, celL, celC, h]; omega) | omega), trivial⟩
theorem fend (r : RdD) (c : CellD) (e : Int) : ACalls Tryz.prog 75 [.ptr 0 0, encC c, .int .i64 e] (rfO r) (.tup []) (rfO (endR r c e)) := by
  refine acallsK mixed Tryz.func75 rfl [0, 1, 2, 4] 1000 ([]) [] [0, 1] (ob := []) (by kernel_rfl) ⟨rfl, rfl⟩ trivial
theorem fendS (r : RdD) (s : SetD) (at_ : Int) (c : CellD) (e : Int) : ACalls Tryz.prog 75 [.ptr 0 0, encC c, .int .i64 e] (rfS r s at_) (.tup []) (rfS (endR r c e) s at_) := by
  refine acallsK mixed Tryz.func75 rfl [0, 1, 2, 4] 1000 ([]) [] [0, 1, 2, 3] (ob := []) (by kernel_rfl) ⟨rfl, rfl⟩ trivial
theorem fend0 (r : RdD) (e : Int) : ACalls Tryz.prog 75 [.ptr 0 0, .agg [.int .i64 0, .nils, .nils], .int .i64 e] (rfO r) (.tup []) (rfO (endR r cell0 e)) := by
  refine ACalls.weak (fend r cell0 e) fun K ds h => ?_
  obtain ⟨c0, cs, rfl, h0, h1⟩ := h.cons_inv
  obtain ⟨c1, cs, rfl, h2, h3⟩ := h1.cons_inv
  exact .cons h0 (.cons (nilcell h2) h3)
theorem fsettled (r : RdD) (s : SetD) (at_ : Int) : ACalls Tryz.prog 74 [.ptr 0 0] (rfS r s at_) (.tup []) (rfS (settledR r s) s at_) := by
  have q := rTold s at_
  unfold toldC toldE at q
  unfold settledR
  cases h : s.over with
  | false =>
    rw [h] at q
    rw [if_neg (by decide), if_neg (by decide)] at q
    rw [if_neg (by decide)]
    refine acallsK mixed Tryz.func74 rfl [0, 2, 3, 4, 14] 1000 ([.call [2, 3] false false (.tup [encC cell0, .int .i64 0, .bool false]) (refO s at_)]) [] [0, 1, 2, 5] (ob := [_]) (by kernel_rfl) ⟨rfl, rfl⟩ ⟨q, trivial⟩
  | true =>
    rw [h] at q
    rw [if_pos rfl, if_pos rfl] at q
    rw [if_pos rfl]
    have q2 := fendS r s at_ s.cell s.e
    refine acallsK mixed Tryz.func74 rfl [0, 2, 3, 4, 14] 1000 ([.call [2, 3] false false (.tup [encC s.cell, .int .i64 s.e, .bool true]) (refO s at_), .call [0, 1, 2, 5] false false (.tup []) (rfS (endR r s.cell s.e) s at_)]) [] [0, 8, 2, 10] (ob := [_,
 _]) (by kernel_rfl) ⟨rfl, rfl⟩ ⟨q, q2, trivial⟩
def mineC (r : RdD) (m : MsgD) : Bool := if rightM m = false then false else if ¬ m.kind = 14 then false else if ¬ m.of_ = 2 then false else if ¬ m.id = r.id then false else if ¬ m.addr = r.a then false else if ¬ (m.tr = 4 ∧ m.tn = r.client) then false else if ¬ (m.fr = 1 ∧ m.fn = r.last) then false else true
theorem mineB_C (r : RdD) (m : MsgD) : mineB r m = if ¬ r.at_ = 1 then false else mineC r m := rfl
structure Mine (r : RdD) (m : MsgD) : Prop where
  at_ : r.at_ = 1
  right : rightM m = true
  kind : m.kind = 14
  of_ : m.of_ = 2
  id : m.id = r.id
  addr : m.addr = r.a
  toC : m.tr = 4 ∧ m.tn = r.client
  frU : m.fr = 1 ∧ m.fn = r.last
theorem mineB_yes {r : RdD} {m : MsgD} (h : mineB r m = true) : Mine r m := by
  unfold mineB at h
  by_cases h1 : r.at_ = 1
  · rw [if_neg (by simp [h1])] at h
    cases h2 : rightM m with
    | false => rw [if_pos h2] at h; cases h
    | true =>
      rw [if_neg (by rw [h2]; decide)] at h
      by_cases h3 : m.kind = 14
      · rw [if_neg (by simp [h3])] at h
        by_cases h4 : m.of_ = 2
        · rw [if_neg (by simp [h4])] at h
          by_cases h5 : m.id = r.id
          · rw [if_neg (by simp [h5])] at h
            by_cases h6 : m.addr = r.a
            · rw [if_neg (by simp [h6])] at h
              by_cases h7 : m.tr = 4 ∧ m.tn = r.client
              · rw [if_neg (by simp [h7])] at h
                by_cases h8 : m.fr = 1 ∧ m.fn = r.last
                · exact ⟨h1, h2, h3, h4, h5, h6, h7, h8⟩
                · rw [if_pos h8] at h; cases h
              · rw [if_pos h7] at h; cases h
            · rw [if_pos h6] at h; cases h
          · rw [if_pos h5] at h; cases h
        · rw [if_pos h4] at h; cases h
      · rw [if_pos h3] at h; cases h
  · rw [if_pos h1] at h; cases h
theorem mineC_e0 (r : RdD) (m : MsgD) (hm : m.ok) (hl : ∀ s ∈ m.lay.segs, s.chains.length ≤ 1000000000) (h0 : r.at_ = 1) (hno : mineC r m = false) (h1 : rightM m = false) : ACalls Tryz.prog 36 [.ptr 0 0, encM m] (rfO r) (.bool (mineC r m)) (rfO r) := by
  have q1 := rightR10 m hm hl
  rw [h1] at q1
  rw [show mineC r m = false by unfold mineC; rw [if_pos h1]]
  refine acallsK mixed Tryz.func36 rfl [0, 1, 3, 4, 5, 6, 7, 8, 14, 82, 91, 102, 109] 1000 ([.f, .call [] false true (.bool false) [], .f]) [] [0, 1] (ob := [(RdD.at_ r == (2 : Int)) = false,
 ACalls Tryz.prog 57 [(encM m)] [] (.bool false) [],
 (RdD.at_ r != (1 : Int)) = false]) (by kernel_rfl) ⟨rfl, rfl⟩ ⟨?z0, ?q98_1, ?z1, trivial⟩
  case z0|z1 => first | exact rfl | (simp [rfO, rfS, celU, celV, celL, celC, encM, celM, h0, h1] <;> omega) | omega | (first | exact two_yes (by assumption) | exact two_no (by assumption) | omega)
  · exact q1
theorem mineC_e1 (r : RdD) (m : MsgD) (hm : m.ok) (hl : ∀ s ∈ m.lay.segs, s.chains.length ≤ 1000000000) (h0 : r.at_ = 1) (hno : mineC r m = false) (h1 : rightM m = true) (h2 : ¬ m.kind = 14) : ACalls Tryz.prog 36 [.ptr 0 0, encM m] (rfO r) (.bool (mineC r m)) (rfO r) := by
  have q1 := rightR10 m hm hl
  rw [h1] at q1
  rw [show mineC r m = false by unfold mineC; rw [if_neg (by rw [h1]; decide), if_pos h2]]
  refine acallsK mixed Tryz.func36 rfl [0, 1, 3, 4, 5, 6, 7, 8, 14, 82, 91, 102, 109] 1000 ([.f, .call [] false true (.bool true) [], .f, .t]) [] [0, 1] (ob := [(RdD.at_ r == (2 : Int)) = false,
 ACalls Tryz.prog 57 [(encM m)] [] (.bool true) [],
 (RdD.at_ r != (1 : Int)) = false,
 (m.kind != (14 : Int)) = true]) (by kernel_rfl) ⟨rfl, rfl⟩ ⟨?z0, ?q104_1, ?z1, ?z2, trivial⟩
  case z0|z1|z2 => first | exact rfl | (simp [rfO, rfS, celU, celV, celL, celC, encM, celM, h0, h1, h2] <;> omega) | omega | (first | exact two_yes (by assumption) | exact two_no (by assumption) | omega)
  · exact q1
theorem mineC_e2 (r : RdD) (m : MsgD) (hm : m.ok) (hl : ∀ s ∈ m.lay.segs, s.chains.length ≤ 1000000000) (h0 : r.at_ = 1) (hno : mineC r m = false) (h1 : rightM m = true) (h2 : ¬ (¬ m.kind = 14)) (h3 : ¬ m.of_ = 2) : ACalls Tryz.prog 36 [.ptr 0 0, encM m] (rfO r) (.bool (mineC r m)) (rfO r) := by
  have q1 := rightR10 m hm hl
  rw [h1] at q1
  rw [show mineC r m = false by unfold mineC; rw [if_neg (by rw [h1]; decide), if_neg h2, if_pos h3]]
  refine acallsK mixed Tryz.func36 rfl [0, 1, 3, 4, 5, 6, 7, 8, 14, 82, 91, 102, 109] 1000 ([.f, .call [] false true (.bool true) [], .f, .f, .t]) [] [0, 1] (ob := [(RdD.at_ r == (2 : Int)) = false,
 ACalls Tryz.prog 57 [(encM m)] [] (.bool true) [],
 (RdD.at_ r != (1 : Int)) = false,
 (m.kind != (14 : Int)) = false,
 (m.of_ != (2 : Int)) = true]) (by kernel_rfl) ⟨rfl, rfl⟩ ⟨?z0, ?q110_1, ?z1, ?z2, ?z3, trivial⟩
  case z0|z1|z2|z3 => first | exact rfl | (simp [rfO, rfS, celU, celV, celL, celC, encM, celM, h0, h1, h2, h3] <;> omega) | omega | (first | exact two_yes (by assumption) | exact two_no (by assumption) | omega)
  · exact q1
theorem mineC_e3 (r : RdD) (m : MsgD) (hm : m.ok) (hl : ∀ s ∈ m.lay.segs, s.chains.length ≤ 1000000000) (h0 : r.at_ = 1) (hno : mineC r m = false) (h1 : rightM m = true) (h2 : ¬ (¬ m.kind = 14)) (h3 : ¬ (¬ m.of_ = 2)) (h4 : ¬ m.id = r.id) : ACalls Tryz.prog 36 [.ptr 0 0, encM m] (rfO r) (.bool (mineC r m)) (rfO r) := by
  have q1 := rightR10 m hm hl
  rw [h1] at q1
  rw [show mineC r m = false by unfold mineC; rw [if_neg (by rw [h1]; decide), if_neg h2, if_neg h3, if_pos h4]]
  refine acallsK mixed Tryz.func36 rfl [0, 1, 3, 4, 5, 6, 7, 8, 14, 82, 91, 102, 109] 1000 ([.f, .call [] false true (.bool true) [], .f, .f, .f, .t]) [] [0, 1] (ob := [(RdD.at_ r == (2 : Int)) = false,
 ACalls Tryz.prog 57 [(encM m)] [] (.bool true) [],
 (RdD.at_ r != (1 : Int)) = false,
 (m.kind != (14 : Int)) = false,
 (m.of_ != (2 : Int)) = false,
 (m.id != RdD.id r) = true]) (by kernel_rfl) ⟨rfl, rfl⟩ ⟨?z0, ?q116_1, ?z1, ?z2, ?z3, ?z4, trivial⟩
  case z0|z1|z2|z3|z4 => first | exact rfl | (simp [rfO, rfS, celU, celV, celL, celC, encM, celM, h0, h1, h2, h3, h4] <;> omega) | omega | (first | exact two_yes (by assumption) | exact two_no (by assumption) | omega)
  · exact q1
theorem mineC_e4 (r : RdD) (m : MsgD) (hm : m.ok) (hl : ∀ s ∈ m.lay.segs, s.chains.length ≤ 1000000000) (h0 : r.at_ = 1) (hno : mineC r m = false) (h1 : rightM m = true) (h2 : ¬ (¬ m.kind = 14)) (h3 : ¬ (¬ m.of_ = 2)) (h4 : ¬ (¬ m.id = r.id)) (h5 : ¬ m.addr = r.a) : ACalls Tryz.prog 36 [.ptr 0 0, encM m] (rfO r) (.bool (mineC r m)) (rfO r) := by
  have q1 := rightR10 m hm hl
  rw [h1] at q1
  rw [show mineC r m = false by unfold mineC; rw [if_neg (by rw [h1]; decide), if_neg h2, if_neg h3, if_neg h4, if_pos h5]]
  refine acallsK mixed Tryz.func36 rfl [0, 1, 3, 4, 5, 6, 7, 8, 14, 82, 91, 102, 109] 1000 ([.f, .call [] false true (.bool true) [], .f, .f, .f, .f, .t]) [] [0, 1] (ob := [(RdD.at_ r == (2 : Int)) = false,
 ACalls Tryz.prog 57 [(encM m)] [] (.bool true) [],
 (RdD.at_ r != (1 : Int)) = false,
 (m.kind != (14 : Int)) = false,
 (m.of_ != (2 : Int)) = false,
 (m.id != RdD.id r) = false,
 (m.addr != RdD.a r) = true]) (by kernel_rfl) ⟨rfl, rfl⟩ ⟨?z0, ?q122_1, ?z1, ?z2, ?z3, ?z4, ?z5, trivial⟩
  case z0|z1|z2|z3|z4|z5 => first | exact rfl | (simp [rfO, rfS, celU, celV, celL, celC, encM, celM, h0, h1, h2, h3, h4, h5] <;> omega) | omega | (first | exact two_yes (by assumption) | exact two_no (by assumption) | omega)
  · exact q1
theorem mineC_e5 (r : RdD) (m : MsgD) (hm : m.ok) (hl : ∀ s ∈ m.lay.segs, s.chains.length ≤ 1000000000) (h0 : r.at_ = 1) (hno : mineC r m = false) (h1 : rightM m = true) (h2 : ¬ (¬ m.kind = 14)) (h3 : ¬ (¬ m.of_ = 2)) (h4 : ¬ (¬ m.id = r.id)) (h5 : ¬ (¬ m.addr = r.a)) (h6 : ¬ (m.tr = 4 ∧ m.tn = r.client)) : ACalls Tryz.prog 36 [.ptr 0 0, encM m] (rfO r) (.bool (mineC r m)) (rfO r) := by
  have q1 := rightR10 m hm hl
  rw [h1] at q1
  rw [show mineC r m = false by unfold mineC; rw [if_neg (by rw [h1]; decide), if_neg h2, if_neg h3, if_neg h4, if_neg h5, if_pos h6]]
  refine acallsK mixed Tryz.func36 rfl [0, 1, 3, 4, 5, 6, 7, 8, 14, 82, 91, 102, 109] 1000 ([.f, .call [] false true (.bool true) [], .f, .f, .f, .f, .f, .t]) [] [0, 1] (ob := [(RdD.at_ r == (2 : Int)) = false,
 ACalls Tryz.prog 57 [(encM m)] [] (.bool true) [],
 (RdD.at_ r != (1 : Int)) = false,
 (m.kind != (14 : Int)) = false,
 (m.of_ != (2 : Int)) = false,
 (m.id != RdD.id r) = false,
 (m.addr != RdD.a r) = false,
 (!(m.tr == (4 : Int) && (m.tn == RdD.client r && true))) = true]) (by kernel_rfl) ⟨rfl, rfl⟩ ⟨?z0, ?q128_1, ?z1, ?z2, ?z3, ?z4, ?z5, ?z6, trivial⟩
  case z0|z1|z2|z3|z4|z5|z6 => first | exact rfl | (simp [rfO, rfS, celU, celV, celL, celC, encM, celM, h0, h1, h2, h3, h4, h5, h6] <;> omega) | omega | (first | exact two_yes (by assumption) | exact two_no (by assumption) | omega)
  · exact q1
theorem mineC_e6 (r : RdD) (m : MsgD) (hm : m.ok) (hl : ∀ s ∈ m.lay.segs, s.chains.length ≤ 1000000000) (h0 : r.at_ = 1) (hno : mineC r m = false) (h1 : rightM m = true) (h2 : ¬ (¬ m.kind = 14)) (h3 : ¬ (¬ m.of_ = 2)) (h4 : ¬ (¬ m.id = r.id)) (h5 : ¬ (¬ m.addr = r.a)) (h6 : ¬ (¬ (m.tr = 4 ∧ m.tn = r.client))) (h7 : ¬ (m.fr = 1 ∧ m.fn = r.last)) : ACalls Tryz.prog 36 [.ptr 0 0, encM m] (rfO r) (.bool (mineC r m)) (rfO r) := by
  have q1 := rightR10 m hm hl
  rw [h1] at q1
  rw [show mineC r m = false by unfold mineC; rw [if_neg (by rw [h1]; decide), if_neg h2, if_neg h3, if_neg h4, if_neg h5, if_neg h6, if_pos h7]]
  refine acallsK mixed Tryz.func36 rfl [0, 1, 3, 4, 5, 6, 7, 8, 14, 82, 91, 102, 109] 1000 ([.f, .call [] false true (.bool true) [], .f, .f, .f, .f, .f, .f, .t]) [] [0, 1] (ob := [(RdD.at_ r == (2 : Int)) = false,
 ACalls Tryz.prog 57 [(encM m)] [] (.bool true) [],
 (RdD.at_ r != (1 : Int)) = false,
 (m.kind != (14 : Int)) = false,
 (m.of_ != (2 : Int)) = false,
 (m.id != RdD.id r) = false,
 (m.addr != RdD.a r) = false,
 (!(m.tr == (4 : Int) && (m.tn == RdD.client r && true))) = false,
 (!(m.fr == (1 : Int) && (m.fn == RdD.last r && true))) = true]) (by kernel_rfl) ⟨rfl, rfl⟩ ⟨?z0, ?q134_1, ?z1, ?z2, ?z3, ?z4, ?z5, ?z6, ?z7, trivial⟩
  case z0|z1|z2|z3|z4|z5|z6|z7 => first | exact rfl | (simp [rfO, rfS, celU, celV, celL, celC, encM, celM, h0, h1, h2, h3, h4, h5, h6, h7] <;> omega) | omega | (first | exact two_yes (by assumption) | exact two_no (by assumption) | omega)
  · exact q1
theorem mineC_ac (r : RdD) (m : MsgD) (hm : m.ok) (hl : ∀ s ∈ m.lay.segs, s.chains.length ≤ 1000000000) (h0 : r.at_ = 1) (hno : mineC r m = false) : ACalls Tryz.prog 36 [.ptr 0 0, encM m] (rfO r) (.bool (mineC r m)) (rfO r) := by
  cases h1 : rightM m with
  | false => exact mineC_e0 r m hm hl h0 hno h1
  | true =>
    by_cases h2 : ¬ m.kind = 14
    · exact mineC_e1 r m hm hl h0 hno h1 h2
    by_cases h3 : ¬ m.of_ = 2
    · exact mineC_e2 r m hm hl h0 hno h1 h2 h3
    by_cases h4 : ¬ m.id = r.id
    · exact mineC_e3 r m hm hl h0 hno h1 h2 h3 h4
    by_cases h5 : ¬ m.addr = r.a
    · exact mineC_e4 r m hm hl h0 hno h1 h2 h3 h4 h5
    by_cases h6 : ¬ (m.tr = 4 ∧ m.tn = r.client)
    · exact mineC_e5 r m hm hl h0 hno h1 h2 h3 h4 h5 h6
    by_cases h7 : ¬ (m.fr = 1 ∧ m.fn = r.last)
    · exact mineC_e6 r m hm hl h0 hno h1 h2 h3 h4 h5 h6 h7
    exact absurd hno (by rw [show mineC r m = true by unfold mineC; rw [if_neg (by rw [h1]; decide), if_neg h2, if_neg h3, if_neg h4, if_neg h5, if_neg h6, if_neg h7]]; decide)
theorem fhear_no (r : RdD) (m : MsgD) (hm : m.ok) (hl : ∀ s ∈ m.lay.segs, s.chains.length ≤ 1000000000) (h0 : ¬ r.at_ = 2) (h : mineB r m = false) : ACalls Tryz.prog 36 [.ptr 0 0, encM m] (rfO r) (.bool false) (rfO r) := by
  by_cases h1 : r.at_ = 1
  · rw [mineB_C, if_neg (by simp [h1])] at h
    have := mineC_ac r m hm hl h1 h
    rw [h] at this
    exact this
  · have q := rightR10 m hm hl
    refine acallsK mixed Tryz.func36 rfl [0, 1, 3, 4, 5, 6, 7, 8, 14, 82, 91, 102, 109] 1000 ([.f, .call [] false true (.bool (rightM m)) [], .t]) [] [0, 1] (ob := [(RdD.at_ r == (2 : Int)) = false,
 _,
 (RdD.at_ r != (1 : Int)) = true]) (by kernel_rfl) ⟨rfl, rfl⟩ ⟨?z0, q, ?z1, trivial⟩
    case z0|z1 => first | exact rfl | (simp [rfO, rfS, celU, celV, celL, celC, encM, celM, h0, h1] <;> omega) | omega
theorem fhear_noS (r : RdD) (s : SetD) (at_ : Int) (m : MsgD) (hm : m.ok) (hl : ∀ s ∈ m.lay.segs, s.chains.length ≤ 1000000000) (h0 : ¬ r.at_ = 2) (h1 : ¬ r.at_ = 1) : ACalls Tryz.prog 36 [.ptr 0 0, encM m] (rfS r s at_) (.bool false) (rfS r s at_) := by
  have q := rightR10 m hm hl
  refine acallsK mixed Tryz.func36 rfl [0, 1, 3, 4, 5, 6, 7, 8, 14, 82, 91, 102, 109] 1000 ([.f, .call [] false true (.bool (rightM m)) [], .t]) [] [0, 1, 2, 3] (ob := [(RdD.at_ r == (2 : Int)) = false,
 _,
 (RdD.at_ r != (1 : Int)) = true]) (by kernel_rfl) ⟨rfl, rfl⟩ ⟨?z0, q, ?z1, trivial⟩
  case z0|z1 => first | exact rfl | (simp [rfO, rfS, celU, celV, celL, celC, encM, celM, h0, h1] <;> omega) | omega
theorem fhear_settle (r : RdD) (m : MsgD) (hm : m.ok) (hl : ∀ s ∈ m.lay.segs, s.chains.length ≤ 1000000000) (h : mineB r m = true) (h1 : m.err = 82) (h2 : r.fill = true) (hf : r.fit) (hc : ∀ s ∈ r.lay.segs, s.chains.length ≤ 1000000000) {u : List Int} (hu : chainL r.lay r.a = some u) {v : Int} (hv : u[0]? = some v) :
    ACalls Tryz.prog 36 [.ptr 0 0, encM m] (rfO r) (.bool true) (rfS (settleR r) (setlS r u v) 0) := by
  have H := mineB_yes h
  have q := rightR10 m hm hl
  rw [H.right] at q
  have q7 := rightR7 m.cell hm.cell.b
  have e0 := H.at_
  have e1 := H.kind
  have e2 := H.of_
  have e3 := H.id
  have e4 := H.addr
  have e5 := H.toC
  have e6 := H.frU
  have hA := hf.ask
  have c1 := rNew_yes r.client r.id r.lay r.a cellJ u (fun s hs => ⟨hc s hs, (hf.lay.1 s hs).2⟩) hf.lay.2 (by simp [cellJ]) hf.a0 ⟨hA.cl0, hA.cl1, hA.id0, hA.id1, hA.lay, hA.at_, rightJ⟩ hu
  have c1' : ACalls Tryz.prog 9 [.int .i64 r.client, .int .i64 r.id, encL r.lay, .int .u64 r.a, .agg [.int .i64 2, .nils, .nils]] [] (.tup [.ptr 0 0, .int .i64 0]) (refO (fresh r.client r.id r.lay r.a cellJ u) (-1)) := by
    refine ACalls.weak c1 fun K ds h => ?_
    obtain ⟨x0, cs, rfl, y0, h⟩ := h.cons_inv
    obtain ⟨x1, cs, rfl, y1, h⟩ := h.cons_inv
    obtain ⟨x2, cs, rfl, y2, h⟩ := h.cons_inv
    obtain ⟨x3, cs, rfl, y3, h⟩ := h.cons_inv
    obtain ⟨x4, cs, rfl, y4, h⟩ := h.cons_inv
    exact .cons y0 (.cons y1 (.cons y2 (.cons y3 (.cons (nilcell y4) h))))
  have c2 := rStart (fresh r.client r.id r.lay r.a cellJ u) rfl rfl hv (by simp [fresh]) (by simp [fresh]) (by simp [fresh])
  refine acallsK mixed Tryz.func36 rfl [0, 1, 3, 4, 5, 6, 7, 8, 14, 82, 91, 102, 109] 1000 ([.f, .call [] false true (.bool true) [], .f, .f, .f, .f, .f, .f, .f, .call [] false true (.bool (rightC m.cell)) [], .f, .f, .t, .t, .call [] false false (.tup [.ptr 0 0, .int .i64 0]) (refO (fresh r.client r.id r.lay r.a cellJ u) (-1)), .call [3, 4] false false (.int .i64 0) (refO (setlS r u v) 0)]) [] [0, 1, 3, 6] (ob := [(RdD.at_ r == (2 : Int)) = false,
 _,
 (RdD.at_ r != (1 : Int)) = false,
 (m.kind != (14 : Int)) = false,
 (m.of_ != (2 : Int)) = false,
 (m.id != RdD.id r) = false,
 (m.addr != RdD.a r) = false,
 (!(m.tr == (4 : Int) && (m.tn == RdD.client r && true))) = false,
 (!(m.fr == (1 : Int) && (m.fn == RdD.last r && true))) = false,
 _,
 (m.err == (0 : Int)) = false,
 (m.err == (0 : Int)) = false,
 (m.err == (82 : Int)) = true,
 RdD.fill r = true,
 _,
 _]) (by kernel_rfl) ⟨rfl, rfl⟩ ⟨?z0, q, ?z1, ?z2, ?z3, ?z4, ?z5, ?z6, ?z7, q7, ?z8, ?z9, ?z10, ?z11, c1', c2, trivial⟩
  case z0|z1|z2|z3|z4|z5|z6|z7|z8|z9|z10|z11 => first | exact rfl | (simp [rfO, rfS, celU, celV, celL, celC, encM, celM, e0, e1, e2, e3, e4, e5, e6, h1, h2, settleR, setlS] <;> omega) | omega | (first | exact two_no (by simp [e5]) | exact two_no (by simp [e6]) | omega)
theorem fhear_err (r : RdD) (m : MsgD) (hm : m.ok) (hl : ∀ s ∈ m.lay.segs, s.chains.length ≤ 1000000000) (h : mineB r m = true) (h1 : ¬ (m.err = 82 ∧ r.fill = true)) (h2 : ¬ m.err = 0) :
    ACalls Tryz.prog 36 [.ptr 0 0, encM m] (rfO r) (.bool true) (rfO (heardR r m)) := by
  have H := mineB_yes h
  have q := rightR10 m hm hl
  rw [H.right] at q
  have q7 := rightR7 m.cell hm.cell.b
  have e0 := H.at_
  have e1 := H.kind
  have e2 := H.of_
  have e3 := H.id
  have e4 := H.addr
  have e5 := H.toC
  have e6 := H.frU
  have q2 := fend0 r m.err
  rw [show heardR r m = endR r cell0 m.err by unfold heardR; rw [if_pos h2]]
  by_cases h3 : m.err = 82
  · have h4 : r.fill = false := by simpa [h3] using h1
    refine acallsK mixed Tryz.func36 rfl [0, 1, 3, 4, 5, 6, 7, 8, 14, 82, 91, 102, 109] 1000 ([.f, .call [] false true (.bool true) [], .f, .f, .f, .f, .f, .f, .f, .call [] false true (.bool (rightC m.cell)) [], .f, .f, .t, .f, .call [0, 1] false false (.tup []) (rfO (endR r cell0 m.err))]) [] [0, 4] (ob := [(RdD.at_ r == (2 : Int)) = false,
 _,
 (RdD.at_ r != (1 : Int)) = false,
 (m.kind != (14 : Int)) = false,
 (m.of_ != (2 : Int)) = false,
 (m.id != RdD.id r) = false,
 (m.addr != RdD.a r) = false,
 (!(m.tr == (4 : Int) && (m.tn == RdD.client r && true))) = false,
 (!(m.fr == (1 : Int) && (m.fn == RdD.last r && true))) = false,
 _,
 (m.err == (0 : Int)) = false,
 (m.err == (0 : Int)) = false,
 (m.err == (82 : Int)) = true,
 RdD.fill r = false,
 _]) (by kernel_rfl) ⟨rfl, rfl⟩ ⟨?z0, q, ?z1, ?z2, ?z3, ?z4, ?z5, ?z6, ?z7, q7, ?z8, ?z9, ?z10, ?z11, q2, trivial⟩
    case z0|z1|z2|z3|z4|z5|z6|z7|z8|z9|z10|z11 => first | exact rfl | (simp [rfO, rfS, celU, celV, celL, celC, encM, celM, e0, e1, e2, e3, e4, e5, e6, h2, h3, h4] <;> omega) | omega | (first | exact two_no (by simp [e5]) | exact two_no (by simp [e6]) | omega)
  · refine acallsK mixed Tryz.func36 rfl [0, 1, 3, 4, 5, 6, 7, 8, 14, 82, 91, 102, 109] 1000 ([.f, .call [] false true (.bool true) [], .f, .f, .f, .f, .f, .f, .f, .call [] false true (.bool (rightC m.cell)) [], .f, .f, .f, .call [0, 1] false false (.tup []) (rfO (endR r cell0 m.err))]) [] [0, 4] (ob := [(RdD.at_ r == (2 : Int)) = false,
 _,
 (RdD.at_ r != (1 : Int)) = false,
 (m.kind != (14 : Int)) = false,
 (m.of_ != (2 : Int)) = false,
 (m.id != RdD.id r) = false,
 (m.addr != RdD.a r) = false,
 (!(m.tr == (4 : Int) && (m.tn == RdD.client r && true))) = false,
 (!(m.fr == (1 : Int) && (m.fn == RdD.last r && true))) = false,
 _,
 (m.err == (0 : Int)) = false,
 (m.err == (0 : Int)) = false,
 (m.err == (82 : Int)) = false,
 _]) (by kernel_rfl) ⟨rfl, rfl⟩ ⟨?z12, q, ?z13, ?z14, ?z15, ?z16, ?z17, ?z18, ?z19, q7, ?z20, ?z21, ?z22, q2, trivial⟩
    case z12|z13|z14|z15|z16|z17|z18|z19|z20|z21|z22 => first | exact rfl | (simp [rfO, rfS, celU, celV, celL, celC, encM, celM, e0, e1, e2, e3, e4, e5, e6, h2, h3] <;> omega) | omega | (first | exact two_no (by simp [e5]) | exact two_no (by simp [e6]) | omega)
theorem fhear_cell (r : RdD) (m : MsgD) (hm : m.ok) (hl : ∀ s ∈ m.lay.segs, s.chains.length ≤ 1000000000) (h : mineB r m = true) (h2 : m.err = 0) :
    ACalls Tryz.prog 36 [.ptr 0 0, encM m] (rfO r) (.bool true) (rfO (heardR r m)) := by
  have H := mineB_yes h
  have q := rightR10 m hm hl
  rw [H.right] at q
  have q7 := rightR7 m.cell hm.cell.b
  have e0 := H.at_
  have e1 := H.kind
  have e2 := H.of_
  have e3 := H.id
  have e4 := H.addr
  have e5 := H.toC
  have e6 := H.frU
  cases h3 : rightC m.cell with
  | false =>
    rw [h3] at q7
    have q2 := fend0 r 71
    rw [show heardR r m = endR r cell0 71 by unfold heardR; rw [if_neg (by simp [h2]), if_pos h3]]
    refine acallsK mixed Tryz.func36 rfl [0, 1, 3, 4, 5, 6, 7, 8, 14, 82, 91, 102, 109] 1000 ([.f, .call [] false true (.bool true) [], .f, .f, .f, .f, .f, .f, .f, .call [] false true (.bool false) [], .t, .t, .call [0, 1] false false (.tup []) (rfO (endR r cell0 71))]) [] [0, 4] (ob := [(RdD.at_ r == (2 : Int)) = false,
 _,
 (RdD.at_ r != (1 : Int)) = false,
 (m.kind != (14 : Int)) = false,
 (m.of_ != (2 : Int)) = false,
 (m.id != RdD.id r) = false,
 (m.addr != RdD.a r) = false,
 (!(m.tr == (4 : Int) && (m.tn == RdD.client r && true))) = false,
 (!(m.fr == (1 : Int) && (m.fn == RdD.last r && true))) = false,
 _,
 (m.err == (0 : Int)) = true,
 (m.err == (0 : Int)) = true,
 _]) (by kernel_rfl) ⟨rfl, rfl⟩ ⟨?z0, q, ?z1, ?z2, ?z3, ?z4, ?z5, ?z6, ?z7, q7, ?z8, ?z9, q2, trivial⟩
    case z0|z1|z2|z3|z4|z5|z6|z7|z8|z9 => first | exact rfl | (simp [rfO, rfS, celU, celV, celL, celC, encM, celM, e0, e1, e2, e3, e4, e5, e6, h2] <;> omega) | omega | (first | exact two_no (by simp [e5]) | exact two_no (by simp [e6]) | omega)
  | true =>
    rw [h3] at q7
    have q2 := fend r m.cell 0
    rw [show heardR r m = endR r m.cell 0 by unfold heardR; rw [if_neg (by simp [h2]), if_neg (by rw [h3]; decide)]]
    refine acallsK mixed Tryz.func36 rfl [0, 1, 3, 4, 5, 6, 7, 8, 14, 82, 91, 102, 109] 1000 ([.f, .call [] false true (.bool true) [], .f, .f, .f, .f, .f, .f, .f, .call [] false true (.bool true) [], .t, .call [0, 1] false false (.tup []) (rfO (endR r m.cell 0))]) [] [0, 4] (ob := [(RdD.at_ r == (2 : Int)) = false,
 _,
 (RdD.at_ r != (1 : Int)) = false,
 (m.kind != (14 : Int)) = false,
 (m.of_ != (2 : Int)) = false,
 (m.id != RdD.id r) = false,
 (m.addr != RdD.a r) = false,
 (!(m.tr == (4 : Int) && (m.tn == RdD.client r && true))) = false,
 (!(m.fr == (1 : Int) && (m.fn == RdD.last r && true))) = false,
 _,
 (m.err == (0 : Int)) = true,
 _]) (by kernel_rfl) ⟨rfl, rfl⟩ ⟨?z10, q, ?z11, ?z12, ?z13, ?z14, ?z15, ?z16, ?z17, q7, ?z18, q2, trivial⟩
    case z10|z11|z12|z13|z14|z15|z16|z17|z18 => first | exact rfl | (simp [rfO, rfS, celU, celV, celL, celC, encM, celM, e0, e1, e2, e3, e4, e5, e6, h2] <;> omega) | omega | (first | exact two_no (by simp [e5]) | exact two_no (by simp [e6]) | omega)
theorem settledR_at (r : RdD) (s : SetD) (h : r.at_ = 2) : ¬ (settledR r s).at_ = 1 := by
  unfold settledR
  split
  · show ¬ (3 : Int) = 1; decide
  · rw [h]; decide
theorem fhearS (r : RdD) (s s' : SetD) (at_ at2 : Int) (m : MsgD) (b : Bool) (h : r.at_ = 2) (q : ACalls Tryz.prog 15 [.ptr 0 0, encM m] (refO s at_) (.bool b) (refO s' at2)) :
    ACalls Tryz.prog 36 [.ptr 0 0, encM m] (rfS r s at_) (.bool b) (rfS (settledR r s') s' at2) := by
  have q2 := fsettled r s' at2
  refine acallsK mixed Tryz.func36 rfl [0, 1, 3, 4, 5, 6, 7, 8, 14, 82, 91, 102, 109] 1000 ([.t, .call [2, 3] false false (.bool b) (refO s' at2), .call [0, 1, 2, 6] false false (.tup []) (rfS (settledR r s') s' at2)]) [] [0, 8, 2, 10] (ob := [(RdD.at_ r == (2 : Int)) = true,
 _,
 _]) (by kernel_rfl) ⟨rfl, rfl⟩ ⟨(by first | exact rfl | (simp [rfO, rfS, celU, celV, celL, celC, encM, celM, h, refO, celR]; done) | (simp [rfO, rfS, celU, celV, celL, celC, encM, celM, h, refO, celR]; omega) | omega), q, q2, trivial⟩
theorem ftick (r : RdD) (hr : r.ok) (h2 : ¬ r.at_ = 2) : ACalls Tryz.prog 38 [.ptr 0 0] (rfO r) (.int .i64 0) (rfO (tickR r)) := by
  have t0 := hr.t0
  have t1 := hr.t1
  have k0 := hr.k0
  have k1 := hr.k1
  have ho := hr.out
  have w1 : IntKind.i64.wrap (r.ticks + 1) = r.ticks + 1 := wrap_i (by omega) (by omega)
  unfold tickR
  by_cases h : r.at_ = 1
  · rw [if_neg (by simp [h])]
    by_cases h3 : r.ticks + 1 < 6
    · rw [if_pos h3]
      refine acallsK mixed Tryz.func38 rfl [0, 2, 7, 19, 31, 36] 1000 ([.f, .f, .n (r.ticks + 1), .t]) [] [0, 1] (v1 := .int .i64 0) (objs1 := [.vars 108 [.int .i64 (RdD.client r), .int .i64 (RdD.id r), .int .u64 (RdD.lay r).epoch, .lst 2 (List.map encS (RdD.lay r).segs), .int .i64 (RdD.lay r).seq, .int .u64 (RdD.a r), .bool (RdD.fill r), .int .i64 (RdD.last r), .int .i64 (RdD.at_ r), .nilp, .int .i64 (RdD.cell r).kind, .lst 1 (List.map byteA (RdD.cell r).data), .lst 3 (List.map encB (RdD.cell r).backs), .int .i64 (RdD.e r), .int .i64 (RdD.ticks r + 1), .int .i64 (RdD.asked r), .row 1 22 (List.length (RdD.out r))], .row 50 22 (RdD.out r)]) (ob := [(RdD.at_ r == (2 : Int)) = false,
 (RdD.at_ r != (1 : Int)) = false,
 IntKind.i64.wrap (RdD.ticks r + (1 : Int)) = RdD.ticks r + (1 : Int),
 decide (RdD.ticks r + (1 : Int) < (6 : Int)) = true]) (by kernel_rfl) (by first | exact rfl | exact ⟨rfl, rfl⟩ | (simp [rfO, rfS, celU, celV, celL, celC, h, h3]; done) | (first | exact w1 | omega)) ⟨?z0, ?z1, ?z2, ?z3, trivial⟩
      case z0|z1|z2|z3 => first | exact rfl | (simp [rfO, rfS, celU, celV, celL, celC, h, h3] <;> omega) | omega | (first | exact w1 | omega)
    · rw [if_neg h3]
      by_cases h4 : 5 ≤ r.asked
      · rw [if_pos h4]
        have q := fend0 { r with ticks := r.ticks + 1 } 162
        refine acallsK mixed Tryz.func38 rfl [0, 2, 7, 19, 31, 36] 1000 ([.f, .f, .n (r.ticks + 1), .f, .t, .call [0, 1] false false (.tup []) (rfO (endR { r with ticks := r.ticks + 1 } cell0 162))]) [] [0, 3] (v1 := .int .i64 0) (objs1 := [.vars 108 [.int .i64 (RdD.client (endR { client := RdD.client r, id := RdD.id r, lay := RdD.lay r, a := RdD.a r, fill := RdD.fill r, last := RdD.last r, at_ := RdD.at_ r, cell := RdD.cell r, e := RdD.e r, ticks := RdD.ticks r + 1, asked := RdD.asked r, out := RdD.out r } cell0 162)), .int .i64 (RdD.id (endR { client := RdD.client r, id := RdD.id r, lay := RdD.lay r, a := RdD.a r, fill := RdD.fill r, last := RdD.last r, at_ := RdD.at_ r, cell := RdD.cell r, e := RdD.e r, ticks := RdD.ticks r + 1, asked := RdD.asked r, out := RdD.out r } cell0 162)), .int .u64 (LayD.epoch (RdD.lay (endR { client := RdD.client r, id := RdD.id r, lay := RdD.lay r, a := RdD.a r, fill := RdD.fill r, last := RdD.last r, at_ := RdD.at_ r, cell := RdD.cell r, e := RdD.e r, ticks := RdD.ticks r + 1, asked := RdD.asked r, out := RdD.out r } cell0 162))), .lst 2 (List.map encS (LayD.segs (RdD.lay (endR { client := RdD.client r, id := RdD.id r, lay := RdD.lay r, a := RdD.a r, fill := RdD.fill r, last := RdD.last r, at_ := RdD.at_ r, cell := RdD.cell r, e := RdD.e r, ticks := RdD.ticks r + 1, asked := RdD.asked r, out := RdD.out r } cell0 162)))), .int .i64 (LayD.seq (RdD.lay (endR { client := RdD.client r, id := RdD.id r, lay := RdD.lay r, a := RdD.a r, fill := RdD.fill r, last := RdD.last r, at_ := RdD.at_ r, cell := RdD.cell r, e := RdD.e r, ticks := RdD.ticks r + 1, asked := RdD.asked r, out := RdD.out r } cell0 162))), .int .u64 (RdD.a (endR { client := RdD.client r, id := RdD.id r, lay := RdD.lay r, a := RdD.a r, fill := RdD.fill r, last := RdD.last r, at_ := RdD.at_ r, cell := RdD.cell r, e := RdD.e r, ticks := RdD.ticks r + 1, asked := RdD.asked r, out := RdD.out r } cell0 162)), .bool (RdD.fill (endR { client := RdD.client r, id := RdD.id r, lay := RdD.lay r, a := RdD.a r, fill := RdD.fill r, last := RdD.last r, at_ := RdD.at_ r, cell := RdD.cell r, e := RdD.e r, ticks := RdD.ticks r + 1, asked := RdD.asked r, out := RdD.out r } cell0 162)), .int .i64 (RdD.last (endR { client := RdD.client r, id := RdD.id r, lay := RdD.lay r, a := RdD.a r, fill := RdD.fill r, last := RdD.last r, at_ := RdD.at_ r, cell := RdD.cell r, e := RdD.e r, ticks := RdD.ticks r + 1, asked := RdD.asked r, out := RdD.out r } cell0 162)), .int .i64 (RdD.at_ (endR { client := RdD.client r, id := RdD.id r, lay := RdD.lay r, a := RdD.a r, fill := RdD.fill r, last := RdD.last r, at_ := RdD.at_ r, cell := RdD.cell r, e := RdD.e r, ticks := RdD.ticks r + 1, asked := RdD.asked r, out := RdD.out r } cell0 162)), .nilp, .int .i64 (CellD.kind (RdD.cell (endR { client := RdD.client r, id := RdD.id r, lay := RdD.lay r, a := RdD.a r, fill := RdD.fill r, last := RdD.last r, at_ := RdD.at_ r, cell := RdD.cell r, e := RdD.e r, ticks := RdD.ticks r + 1, asked := RdD.asked r, out := RdD.out r } cell0 162))), .lst 1 [], .lst 3 [], .int .i64 (RdD.e (endR { client := RdD.client r, id := RdD.id r, lay := RdD.lay r, a := RdD.a r, fill := RdD.fill r, last := RdD.last r, at_ := RdD.at_ r, cell := RdD.cell r, e := RdD.e r, ticks := RdD.ticks r + 1, asked := RdD.asked r, out := RdD.out r } cell0 162)), .int .i64 (RdD.ticks (endR { client := RdD.client r, id := RdD.id r, lay := RdD.lay r, a := RdD.a r, fill := RdD.fill r, last := RdD.last r, at_ := RdD.at_ r, cell := RdD.cell r, e := RdD.e r, ticks := RdD.ticks r + 1, asked := RdD.asked r, out := RdD.out r } cell0 162)), .int .i64 (RdD.asked (endR { client := RdD.client r, id := RdD.id r, lay := RdD.lay r, a := RdD.a r, fill := RdD.fill r, last := RdD.last r, at_ := RdD.at_ r, cell := RdD.cell r, e := RdD.e r, ticks := RdD.ticks r + 1, asked := RdD.asked r, out := RdD.out r } cell0 162)), .row 1 22 (List.length (RdD.out (endR { client := RdD.client r, id := RdD.id r, lay := RdD.lay r, a := RdD.a r, fill := RdD.fill r, last := RdD.last r, at_ := RdD.at_ r, cell := RdD.cell r, e := RdD.e r, ticks := RdD.ticks r + 1, asked := RdD.asked r, out := RdD.out r } cell0 162)))], .row 50 22 (RdD.out (endR { client := RdD.client r, id := RdD.id r, lay := RdD.lay r, a := RdD.a r, fill := RdD.fill r, last := RdD.last r, at_ := RdD.at_ r, cell := RdD.cell r, e := RdD.e r, ticks := RdD.ticks r + 1, asked := RdD.asked r, out := RdD.out r } cell0 162))]) (ob := [(RdD.at_ r == (2 : Int)) = false,
 (RdD.at_ r != (1 : Int)) = false,
 IntKind.i64.wrap (RdD.ticks r + (1 : Int)) = RdD.ticks r + (1 : Int),
 decide (RdD.ticks r + (1 : Int) < (6 : Int)) = false,
 decide (RdD.asked r ≥ (5 : Int)) = true,
 ACalls Tryz.prog 75 [.ptr 0 0, .agg [.int .i64 0, .nils, .nils], .int .i64 162] [.vars 108 [.int .i64 (RdD.client r), .int .i64 (RdD.id r), .int .u64 (RdD.lay r).epoch, .lst 2 (List.map encS (RdD.lay r).segs), .int .i64 (RdD.lay r).seq, .int .u64 (RdD.a r), .bool (RdD.fill r), .int .i64 (RdD.last r), .int .i64 (RdD.at_ r), .nilp, .int .i64 (RdD.cell r).kind, .lst 1 (List.map byteA (RdD.cell r).data), .lst 3 (List.map encB (RdD.cell r).backs), .int .i64 (RdD.e r), .int .i64 (RdD.ticks r + 1), .int .i64 (RdD.asked r), .row 1 22 (List.length (RdD.out r))], .row 50 22 (RdD.out r)] (.tup []) [.vars 108 [.int .i64 (RdD.client (endR { client := RdD.client r, id := RdD.id r, lay := RdD.lay r, a := RdD.a r, fill := RdD.fill r, last := RdD.last r, at_ := RdD.at_ r, cell := RdD.cell r, e := RdD.e r, ticks := RdD.ticks r + 1, asked := RdD.asked r, out := RdD.out r } cell0 162)), .int .i64 (RdD.id (endR { client := RdD.client r, id := RdD.id r, lay := RdD.lay r, a := RdD.a r, fill := RdD.fill r, last := RdD.last r, at_ := RdD.at_ r, cell := RdD.cell r, e := RdD.e r, ticks := RdD.ticks r + 1, asked := RdD.asked r, out := RdD.out r } cell0 162)), .int .u64 (LayD.epoch (RdD.lay (endR { client := RdD.client r, id := RdD.id r, lay := RdD.lay r, a := RdD.a r, fill := RdD.fill r, last := RdD.last r, at_ := RdD.at_ r, cell := RdD.cell r, e := RdD.e r, ticks := RdD.ticks r + 1, asked := RdD.asked r, out := RdD.out r } cell0 162))), .lst 2 (List.map encS (LayD.segs (RdD.lay (endR { client := RdD.client r, id := RdD.id r, lay := RdD.lay r, a := RdD.a r, fill := RdD.fill r, last := RdD.last r, at_ := RdD.at_ r, cell := RdD.cell r, e := RdD.e r, ticks := RdD.ticks r + 1, asked := RdD.asked r, out := RdD.out r } cell0 162)))), .int .i64 (LayD.seq (RdD.lay (endR { client := RdD.client r, id := RdD.id r, lay := RdD.lay r, a := RdD.a r, fill := RdD.fill r, last := RdD.last r, at_ := RdD.at_ r, cell := RdD.cell r, e := RdD.e r, ticks := RdD.ticks r + 1, asked := RdD.asked r, out := RdD.out r } cell0 162))), .int .u64 (RdD.a (endR { client := RdD.client r, id := RdD.id r, lay := RdD.lay r, a := RdD.a r, fill := RdD.fill r, last := RdD.last r, at_ := RdD.at_ r, cell := RdD.cell r, e := RdD.e r, ticks := RdD.ticks r + 1, asked := RdD.asked r, out := RdD.out r } cell0 162)), .bool (RdD.fill (endR { client := RdD.client r, id := RdD.id r, lay := RdD.lay r, a := RdD.a r, fill := RdD.fill r, last := RdD.last r, at_ := RdD.at_ r, cell := RdD.cell r, e := RdD.e r, ticks := RdD.ticks r + 1, asked := RdD.asked r, out := RdD.out r } cell0 162)), .int .i64 (RdD.last (endR { client := RdD.client r, id := RdD.id r, lay := RdD.lay r, a := RdD.a r, fill := RdD.fill r, last := RdD.last r, at_ := RdD.at_ r, cell := RdD.cell r, e := RdD.e r, ticks := RdD.ticks r + 1, asked := RdD.asked r, out := RdD.out r } cell0 162)), .int .i64 (RdD.at_ (endR { client := RdD.client r, id := RdD.id r, lay := RdD.lay r, a := RdD.a r, fill := RdD.fill r, last := RdD.last r, at_ := RdD.at_ r, cell := RdD.cell r, e := RdD.e r, ticks := RdD.ticks r + 1, asked := RdD.asked r, out := RdD.out r } cell0 162)), .nilp, .int .i64 (CellD.kind (RdD.cell (endR { client := RdD.client r, id := RdD.id r, lay := RdD.lay r, a := RdD.a r, fill := RdD.fill r, last := RdD.last r, at_ := RdD.at_ r, cell := RdD.cell r, e := RdD.e r, ticks := RdD.ticks r + 1, asked := RdD.asked r, out := RdD.out r } cell0 162))), .lst 1 [], .lst 3 [], .int .i64 (RdD.e (endR { client := RdD.client r, id := RdD.id r, lay := RdD.lay r, a := RdD.a r, fill := RdD.fill r, last := RdD.last r, at_ := RdD.at_ r, cell := RdD.cell r, e := RdD.e r, ticks := RdD.ticks r + 1, asked := RdD.asked r, out := RdD.out r } cell0 162)), .int .i64 (RdD.ticks (endR { client := RdD.client r, id := RdD.id r, lay := RdD.lay r, a := RdD.a r, fill := RdD.fill r, last := RdD.last r, at_ := RdD.at_ r, cell := RdD.cell r, e := RdD.e r, ticks := RdD.ticks r + 1, asked := RdD.asked r, out := RdD.out r } cell0 162)), .int .i64 (RdD.asked (endR { client := RdD.client r, id := RdD.id r, lay := RdD.lay r, a := RdD.a r, fill := RdD.fill r, last := RdD.last r, at_ := RdD.at_ r, cell := RdD.cell r, e := RdD.e r, ticks := RdD.ticks r + 1, asked := RdD.asked r, out := RdD.out r } cell0 162)), .row 1 22 (List.length (RdD.out (endR { client := RdD.client r, id := RdD.id r, lay := RdD.lay r, a := RdD.a r, fill := RdD.fill r, last := RdD.last r, at_ := RdD.at_ r, cell := RdD.cell r, e := RdD.e r, ticks := RdD.ticks r + 1, asked := RdD.asked r, out := RdD.out r } cell0 162)))], .row 50 22 (RdD.out (endR { client := RdD.client r, id := RdD.id r, lay := RdD.lay r, a := RdD.a r, fill := RdD.fill r, last := RdD.last r, at_ := RdD.at_ r, cell := RdD.cell r, e := RdD.e r, ticks := RdD.ticks r + 1, asked := RdD.asked r, out := RdD.out r } cell0 162))]]) (by kernel_rfl) (by first | exact rfl | exact ⟨rfl, rfl⟩ | (simp [rfO, rfS, celU, celV, celL, celC, h, h3, h4]; done) | (first | exact w1 | omega)) ⟨?z4, ?z5, ?z6, ?z7, ?z8, ?q278_1, trivial⟩
        case z4|z5|z6|z7|z8 => first | exact rfl | (simp [rfO, rfS, celU, celV, celL, celC, h, h3, h4] <;> omega) | omega | (first | exact w1 | omega)
        exact q
      · rw [if_neg h4]
        have q := fask { r with ticks := r.ticks + 1 } (by show r.out.length ≤ 1000; omega) k0 (by show r.asked ≤ 100; omega)
        refine acallsK mixed Tryz.func38 rfl [0, 2, 7, 19, 31, 36] 1000 ([.f, .f, .n (r.ticks + 1), .f, .f, .call [0, 1] false false (.tup []) (rfO (askR { r with ticks := r.ticks + 1 }))]) [] [0, 3] (v1 := .int .i64 0) (objs1 := [.vars 108 [.int .i64 (RdD.client (askR { client := RdD.client r, id := RdD.id r, lay := RdD.lay r, a := RdD.a r, fill := RdD.fill r, last := RdD.last r, at_ := RdD.at_ r, cell := RdD.cell r, e := RdD.e r, ticks := RdD.ticks r + 1, asked := RdD.asked r, out := RdD.out r })), .int .i64 (RdD.id (askR { client := RdD.client r, id := RdD.id r, lay := RdD.lay r, a := RdD.a r, fill := RdD.fill r, last := RdD.last r, at_ := RdD.at_ r, cell := RdD.cell r, e := RdD.e r, ticks := RdD.ticks r + 1, asked := RdD.asked r, out := RdD.out r })), .int .u64 (LayD.epoch (RdD.lay (askR { client := RdD.client r, id := RdD.id r, lay := RdD.lay r, a := RdD.a r, fill := RdD.fill r, last := RdD.last r, at_ := RdD.at_ r, cell := RdD.cell r, e := RdD.e r, ticks := RdD.ticks r + 1, asked := RdD.asked r, out := RdD.out r }))), .lst 2 (List.map encS (LayD.segs (RdD.lay (askR { client := RdD.client r, id := RdD.id r, lay := RdD.lay r, a := RdD.a r, fill := RdD.fill r, last := RdD.last r, at_ := RdD.at_ r, cell := RdD.cell r, e := RdD.e r, ticks := RdD.ticks r + 1, asked := RdD.asked r, out := RdD.out r })))), .int .i64 (LayD.seq (RdD.lay (askR { client := RdD.client r, id := RdD.id r, lay := RdD.lay r, a := RdD.a r, fill := RdD.fill r, last := RdD.last r, at_ := RdD.at_ r, cell := RdD.cell r, e := RdD.e r, ticks := RdD.ticks r + 1, asked := RdD.asked r, out := RdD.out r }))), .int .u64 (RdD.a (askR { client := RdD.client r, id := RdD.id r, lay := RdD.lay r, a := RdD.a r, fill := RdD.fill r, last := RdD.last r, at_ := RdD.at_ r, cell := RdD.cell r, e := RdD.e r, ticks := RdD.ticks r + 1, asked := RdD.asked r, out := RdD.out r })), .bool (RdD.fill (askR { client := RdD.client r, id := RdD.id r, lay := RdD.lay r, a := RdD.a r, fill := RdD.fill r, last := RdD.last r, at_ := RdD.at_ r, cell := RdD.cell r, e := RdD.e r, ticks := RdD.ticks r + 1, asked := RdD.asked r, out := RdD.out r })), .int .i64 (RdD.last (askR { client := RdD.client r, id := RdD.id r, lay := RdD.lay r, a := RdD.a r, fill := RdD.fill r, last := RdD.last r, at_ := RdD.at_ r, cell := RdD.cell r, e := RdD.e r, ticks := RdD.ticks r + 1, asked := RdD.asked r, out := RdD.out r })), .int .i64 (RdD.at_ (askR { client := RdD.client r, id := RdD.id r, lay := RdD.lay r, a := RdD.a r, fill := RdD.fill r, last := RdD.last r, at_ := RdD.at_ r, cell := RdD.cell r, e := RdD.e r, ticks := RdD.ticks r + 1, asked := RdD.asked r, out := RdD.out r })), .nilp, .int .i64 (CellD.kind (RdD.cell (askR { client := RdD.client r, id := RdD.id r, lay := RdD.lay r, a := RdD.a r, fill := RdD.fill r, last := RdD.last r, at_ := RdD.at_ r, cell := RdD.cell r, e := RdD.e r, ticks := RdD.ticks r + 1, asked := RdD.asked r, out := RdD.out r }))), .lst 1 (List.map byteA (CellD.data (RdD.cell (askR { client := RdD.client r, id := RdD.id r, lay := RdD.lay r, a := RdD.a r, fill := RdD.fill r, last := RdD.last r, at_ := RdD.at_ r, cell := RdD.cell r, e := RdD.e r, ticks := RdD.ticks r + 1, asked := RdD.asked r, out := RdD.out r })))), .lst 3 (List.map encB (CellD.backs (RdD.cell (askR { client := RdD.client r, id := RdD.id r, lay := RdD.lay r, a := RdD.a r, fill := RdD.fill r, last := RdD.last r, at_ := RdD.at_ r, cell := RdD.cell r, e := RdD.e r, ticks := RdD.ticks r + 1, asked := RdD.asked r, out := RdD.out r })))), .int .i64 (RdD.e (askR { client := RdD.client r, id := RdD.id r, lay := RdD.lay r, a := RdD.a r, fill := RdD.fill r, last := RdD.last r, at_ := RdD.at_ r, cell := RdD.cell r, e := RdD.e r, ticks := RdD.ticks r + 1, asked := RdD.asked r, out := RdD.out r })), .int .i64 (RdD.ticks (askR { client := RdD.client r, id := RdD.id r, lay := RdD.lay r, a := RdD.a r, fill := RdD.fill r, last := RdD.last r, at_ := RdD.at_ r, cell := RdD.cell r, e := RdD.e r, ticks := RdD.ticks r + 1, asked := RdD.asked r, out := RdD.out r })), .int .i64 (RdD.asked (askR { client := RdD.client r, id := RdD.id r, lay := RdD.lay r, a := RdD.a r, fill := RdD.fill r, last := RdD.last r, at_ := RdD.at_ r, cell := RdD.cell r, e := RdD.e r, ticks := RdD.ticks r + 1, asked := RdD.asked r, out := RdD.out r })), .row 1 22 (List.length (RdD.out (askR { client := RdD.client r, id := RdD.id r, lay := RdD.lay r, a := RdD.a r, fill := RdD.fill r, last := RdD.last r, at_ := RdD.at_ r, cell := RdD.cell r, e := RdD.e r, ticks := RdD.ticks r + 1, asked := RdD.asked r, out := RdD.out r })))], .row 50 22 (RdD.out (askR { client := RdD.client r, id := RdD.id r, lay := RdD.lay r, a := RdD.a r, fill := RdD.fill r, last := RdD.last r, at_ := RdD.at_ r, cell := RdD.cell r, e := RdD.e r, ticks := RdD.ticks r + 1, asked := RdD.asked r, out := RdD.out r }))]) (ob := [(RdD.at_ r == (2 : Int)) = false,
 (RdD.at_ r != (1 : Int)) = false,
 IntKind.i64.wrap (RdD.ticks r + (1 : Int)) = RdD.ticks r + (1 : Int),
 decide (RdD.ticks r + (1 : Int) < (6 : Int)) = false,
 decide (RdD.asked r ≥ (5 : Int)) = false,
 ACalls Tryz.prog 69 [.ptr 0 0] [.vars 108 [.int .i64 (RdD.client r), .int .i64 (RdD.id r), .int .u64 (RdD.lay r).epoch, .lst 2 (List.map encS (RdD.lay r).segs), .int .i64 (RdD.lay r).seq, .int .u64 (RdD.a r), .bool (RdD.fill r), .int .i64 (RdD.last r), .int .i64 (RdD.at_ r), .nilp, .int .i64 (RdD.cell r).kind, .lst 1 (List.map byteA (RdD.cell r).data), .lst 3 (List.map encB (RdD.cell r).backs), .int .i64 (RdD.e r), .int .i64 (RdD.ticks r + 1), .int .i64 (RdD.asked r), .row 1 22 (List.length (RdD.out r))], .row 50 22 (RdD.out r)] (.tup []) [.vars 108 [.int .i64 (RdD.client (askR { client := RdD.client r, id := RdD.id r, lay := RdD.lay r, a := RdD.a r, fill := RdD.fill r, last := RdD.last r, at_ := RdD.at_ r, cell := RdD.cell r, e := RdD.e r, ticks := RdD.ticks r + 1, asked := RdD.asked r, out := RdD.out r })), .int .i64 (RdD.id (askR { client := RdD.client r, id := RdD.id r, lay := RdD.lay r, a := RdD.a r, fill := RdD.fill r, last := RdD.last r, at_ := RdD.at_ r, cell := RdD.cell r, e := RdD.e r, ticks := RdD.ticks r + 1, asked := RdD.asked r, out := RdD.out r })), .int .u64 (LayD.epoch (RdD.lay (askR { client := RdD.client r, id := RdD.id r, lay := RdD.lay r, a := RdD.a r, fill := RdD.fill r, last := RdD.last r, at_ := RdD.at_ r, cell := RdD.cell r, e := RdD.e r, ticks := RdD.ticks r + 1, asked := RdD.asked r, out := RdD.out r }))), .lst 2 (List.map encS (LayD.segs (RdD.lay (askR { client := RdD.client r, id := RdD.id r, lay := RdD.lay r, a := RdD.a r, fill := RdD.fill r, last := RdD.last r, at_ := RdD.at_ r, cell := RdD.cell r, e := RdD.e r, ticks := RdD.ticks r + 1, asked := RdD.asked r, out := RdD.out r })))), .int .i64 (LayD.seq (RdD.lay (askR { client := RdD.client r, id := RdD.id r, lay := RdD.lay r, a := RdD.a r, fill := RdD.fill r, last := RdD.last r, at_ := RdD.at_ r, cell := RdD.cell r, e := RdD.e r, ticks := RdD.ticks r + 1, asked := RdD.asked r, out := RdD.out r }))), .int .u64 (RdD.a (askR { client := RdD.client r, id := RdD.id r, lay := RdD.lay r, a := RdD.a r, fill := RdD.fill r, last := RdD.last r, at_ := RdD.at_ r, cell := RdD.cell r, e := RdD.e r, ticks := RdD.ticks r + 1, asked := RdD.asked r, out := RdD.out r })), .bool (RdD.fill (askR { client := RdD.client r, id := RdD.id r, lay := RdD.lay r, a := RdD.a r, fill := RdD.fill r, last := RdD.last r, at_ := RdD.at_ r, cell := RdD.cell r, e := RdD.e r, ticks := RdD.ticks r + 1, asked := RdD.asked r, out := RdD.out r })), .int .i64 (RdD.last (askR { client := RdD.client r, id := RdD.id r, lay := RdD.lay r, a := RdD.a r, fill := RdD.fill r, last := RdD.last r, at_ := RdD.at_ r, cell := RdD.cell r, e := RdD.e r, ticks := RdD.ticks r + 1, asked := RdD.asked r, out := RdD.out r })), .int .i64 (RdD.at_ (askR { client := RdD.client r, id := RdD.id r, lay := RdD.lay r, a := RdD.a r, fill := RdD.fill r, last := RdD.last r, at_ := RdD.at_ r, cell := RdD.cell r, e := RdD.e r, ticks := RdD.ticks r + 1, asked := RdD.asked r, out := RdD.out r })), .nilp, .int .i64 (CellD.kind (RdD.cell (askR { client := RdD.client r, id := RdD.id r, lay := RdD.lay r, a := RdD.a r, fill := RdD.fill r, last := RdD.last r, at_ := RdD.at_ r, cell := RdD.cell r, e := RdD.e r, ticks := RdD.ticks r + 1, asked := RdD.asked r, out := RdD.out r }))), .lst 1 (List.map byteA (CellD.data (RdD.cell (askR { client := RdD.client r, id := RdD.id r, lay := RdD.lay r, a := RdD.a r, fill := RdD.fill r, last := RdD.last r, at_ := RdD.at_ r, cell := RdD.cell r, e := RdD.e r, ticks := RdD.ticks r + 1, asked := RdD.asked r, out := RdD.out r })))), .lst 3 (List.map encB (CellD.backs (RdD.cell (askR { client := RdD.client r, id := RdD.id r, lay := RdD.lay r, a := RdD.a r, fill := RdD.fill r, last := RdD.last r, at_ := RdD.at_ r, cell := RdD.cell r, e := RdD.e r, ticks := RdD.ticks r + 1, asked := RdD.asked r, out := RdD.out r })))), .int .i64 (RdD.e (askR { client := RdD.client r, id := RdD.id r, lay := RdD.lay r, a := RdD.a r, fill := RdD.fill r, last := RdD.last r, at_ := RdD.at_ r, cell := RdD.cell r, e := RdD.e r, ticks := RdD.ticks r + 1, asked := RdD.asked r, out := RdD.out r })), .int .i64 (RdD.ticks (askR { client := RdD.client r, id := RdD.id r, lay := RdD.lay r, a := RdD.a r, fill := RdD.fill r, last := RdD.last r, at_ := RdD.at_ r, cell := RdD.cell r, e := RdD.e r, ticks := RdD.ticks r + 1, asked := RdD.asked r, out := RdD.out r })), .int .i64 (RdD.asked (askR { client := RdD.client r, id := RdD.id r, lay := RdD.lay r, a := RdD.a r, fill := RdD.fill r, last := RdD.last r, at_ := RdD.at_ r, cell := RdD.cell r, e := RdD.e r, ticks := RdD.ticks r + 1, asked := RdD.asked r, out := RdD.out r })), .row 1 22 (List.length (RdD.out (askR { client := RdD.client r, id := RdD.id r, lay := RdD.lay r, a := RdD.a r, fill := RdD.fill r, last := RdD.last r, at_ := RdD.at_ r, cell := RdD.cell r, e := RdD.e r, ticks := RdD.ticks r + 1, asked := RdD.asked r, out := RdD.out r })))], .row 50 22 (RdD.out (askR { client := RdD.client r, id := RdD.id r, lay := RdD.lay r, a := RdD.a r, fill := RdD.fill r, last := RdD.last r, at_ := RdD.at_ r, cell := RdD.cell r, e := RdD.e r, ticks := RdD.ticks r + 1, asked := RdD.asked r, out := RdD.out r }))]]) (by kernel_rfl) (by first | exact rfl | exact ⟨rfl, rfl⟩ | (simp [rfO, rfS, celU, celV, celL, celC, h, h3, h4]; done) | (first | exact w1 | omega)) ⟨?z9, ?z10, ?z11, ?z12, ?z13, ?q282_1, trivial⟩
        case z9|z10|z11|z12|z13 => first | exact rfl | (simp [rfO, rfS, celU, celV, celL, celC, h, h3, h4] <;> omega) | omega | (first | exact w1 | omega)
        exact q
  · rw [if_pos h]
    refine acallsK mixed Tryz.func38 rfl [0, 2, 7, 19, 31, 36] 1000 ([.f, .t]) [] [0, 1] (v1 := .int .i64 0) (objs1 := [.vars 108 [.int .i64 (RdD.client r), .int .i64 (RdD.id r), .int .u64 (RdD.lay r).epoch, .lst 2 (List.map encS (RdD.lay r).segs), .int .i64 (RdD.lay r).seq, .int .u64 (RdD.a r), .bool (RdD.fill r), .int .i64 (RdD.last r), .int .i64 (RdD.at_ r), .nilp, .int .i64 (RdD.cell r).kind, .lst 1 (List.map byteA (RdD.cell r).data), .lst 3 (List.map encB (RdD.cell r).backs), .int .i64 (RdD.e r), .int .i64 (RdD.ticks r), .int .i64 (RdD.asked r), .row 1 22 (List.length (RdD.out r))], .row 50 22 (RdD.out r)]) (ob := [(RdD.at_ r == (2 : Int)) = false,
 (RdD.at_ r != (1 : Int)) = true]) (by kernel_rfl) (by first | exact rfl | exact ⟨rfl, rfl⟩ | (simp [rfO, rfS, celU, celV, celL, celC, h, h2]; done)) ⟨?z14, ?z15, trivial⟩
    case z14|z15 => first | exact rfl | (simp [rfO, rfS, celU, celV, celL, celC, h, h2] <;> omega) | omega
theorem ftickS (r : RdD) (s s' : SetD) (at_ at2 : Int) (h : r.at_ = 2) (q : ACalls Tryz.prog 17 [.ptr 0 0] (refO s at_) (.int .i64 0) (refO s' at2)) :
    ACalls Tryz.prog 38 [.ptr 0 0] (rfS r s at_) (.int .i64 0) (rfS (settledR r s') s' at2) := by
  have q2 := fsettled r s' at2
  have h3 := settledR_at r s' h
  refine acallsK mixed Tryz.func38 rfl [0, 2, 7, 19, 31, 36] 1000 ([.t, .call [2, 3] false false (.int .i64 0) (refO s' at2), .call [0, 1, 2, 5] false false (.tup []) (rfS (settledR r s') s' at2), .t]) [] [0, 7, 2, 9] (ob := [(RdD.at_ r == (2 : Int)) = true,
 _,
 _,
 (RdD.at_ (settledR r s') != (1 : Int)) = true]) (by kernel_rfl) ⟨rfl, rfl⟩ ⟨?z0, q, q2, ?z1, trivial⟩
  case z0|z1 => first | exact rfl | (simp [rfO, rfS, celU, celV, celL, celC, h, refO, celR, h3] <;> omega) | omega
theorem ftickS_no (r : RdD) (s : SetD) (at_ : Int) (h : ¬ r.at_ = 2) (h1 : ¬ r.at_ = 1) : ACalls Tryz.prog 38 [.ptr 0 0] (rfS r s at_) (.int .i64 0) (rfS r s at_) := by
  refine acallsK mixed Tryz.func38 rfl [0, 2, 7, 19, 31, 36] 1000 ([.f, .t]) [] [0, 1, 2, 3] (ob := [(RdD.at_ r == (2 : Int)) = false,
 (RdD.at_ r != (1 : Int)) = true]) (by kernel_rfl) ⟨rfl, rfl⟩ ⟨?z0, ?z1, trivial⟩
  case z0|z1 => first | exact rfl | (simp [rfO, rfS, celU, celV, celL, celC, h, h1] <;> omega) | omega
theorem fout (r : RdD) (h : r.out.length ≤ 1000) : ACalls Tryz.prog 40 [.ptr 0 0] (rfO r) (.row 2 22 r.out.length) (rfO (emptR r) ++ [.row 50 22 r.out]) := by
  refine acallsK mixed Tryz.func40 rfl [0, 2, 3, 15] 1000 ([.mkc 0 16 50 22]) [] [0, 2, 1] (ob := []) (by kernel_rfl) ⟨rfl, rfl⟩ trivial
theorem foutS (r : RdD) (s : SetD) (at_ : Int) (h : r.out.length ≤ 1000) (h2 : s.out.length ≤ 1000) : ACalls Tryz.prog 40 [.ptr 0 0] (rfS r s at_) (.row 4 22 (r.out ++ s.out).length) (rfS (emptR r) (emptied s) at_ ++ [.row 50 22 (r.out ++ s.out)]) := by
  have q := rOut s at_
  have s1 : (r.out.length + s.out.length) * 256 ≤ 140737488355328 := by omega
  have s2 := zadd r.out.length h
  refine acallsK mixed Tryz.func40 rfl [0, 2, 3, 15] 1000 ([.ls r.out, .call [2, 3] false false (.row 2 22 s.out.length) (refO (emptied s) at_ ++ [.row 50 22 s.out]), .ls (r.out ++ s.out), .mkc 0 16 50 22]) [] [0, 10, 2, 7, 9] (ob := [((0 : Nat) + List.length (RdD.out r)) * (256 : Nat) ≤ (140737488355328 : Nat),
 [] ++ RdD.out r = RdD.out r,
 _,
 (List.length (RdD.out r) + List.length s.out) * (256 : Nat) ≤ (140737488355328 : Nat),
 RdD.out r ++ s.out = RdD.out r ++ s.out]) (by kernel_rfl) ⟨rfl, rfl⟩ ⟨?z0, ?z1, q, ?z2, ?z3, trivial⟩
  case z0|z1|z2|z3 => first | (first | with_reducible exact s1 | with_reducible exact s2) | exact rfl | (simp [rfO, rfS, celU, celV, celL, celC, emptR, emptied, refO, celR]; done) | (simp [rfO, rfS, celU, celV, celL, celC, emptR, emptied, refO, celR]; omega) | omega
theorem ftold (r : RdD) : ACalls Tryz.prog 42 [.ptr 0 0] (rfO r) (.tup [encC (toldRC r), .int .i64 (toldRE r), .bool (overR r)]) (rfO r) := by
  unfold toldRC toldRE overR
  by_cases h : r.at_ = 3
  · rw [if_pos h, if_pos h, decide_eq_true h]
    refine acallsK mixed Tryz.func42 rfl [0, 2, 3, 4, 9] 1000 ([.f]) [] [0, 1] (ob := [(RdD.at_ r != (3 : Int)) = false]) (by kernel_rfl) ⟨rfl, rfl⟩ ⟨(by first | exact rfl | (simp [rfO, rfS, celU, celV, celL, celC, encC, h]; done) | (simp [rfO, rfS, celU, celV, celL, celC, encC, h]; omega) | omega), trivial⟩
  · rw [if_neg h, if_neg h, decide_eq_false h]
    have key : ACalls Tryz.prog 42 [.ptr 0 0] (rfO r) (.tup [.agg [.int .i64 0, .nils, .nils], .int .i64 0, .bool false]) (rfO r) := by
      refine acallsK mixed Tryz.func42 rfl [0, 2, 3, 4, 9] 1000 ([.t]) [] [0, 1] (ob := [(RdD.at_ r != (3 : Int)) = true]) (by kernel_rfl) ⟨rfl, rfl⟩ ⟨(by first | exact rfl | (simp [rfO, rfS, celU, celV, celL, celC, encC, h]; done) | (simp [rfO, rfS, celU, celV, celL, celC, encC, h]; omega) | omega), trivial⟩
    refine ACalls.post key (fun K c hc => ?_) fun _ _ h => h
    obtain ⟨ds, rfl, hd⟩ := hc.tup_inv
    refine VR.mkTup ⟨hd.1, fun i u d hu hd' => ?_⟩
    match i, hu with
    | 0, hu => injection hu with hu; subst hu; exact nilcell (hd.2 0 _ d rfl hd')
    | 1, hu => exact hd.2 1 _ d hu hd'
    | 2, hu => exact hd.2 2 _ d hu hd'
theorem ftoldS (r : RdD) (s : SetD) (at_ : Int) : ACalls Tryz.prog 42 [.ptr 0 0] (rfS r s at_) (.tup [encC (toldRC r), .int .i64 (toldRE r), .bool (overR r)]) (rfS r s at_) := by
  unfold toldRC toldRE overR
  by_cases h : r.at_ = 3
  · rw [if_pos h, if_pos h, decide_eq_true h]
    refine acallsK mixed Tryz.func42 rfl [0, 2, 3, 4, 9] 1000 ([.f]) [] [0, 1, 2, 3] (ob := [(RdD.at_ r != (3 : Int)) = false]) (by kernel_rfl) ⟨rfl, rfl⟩ ⟨(by first | exact rfl | (simp [rfO, rfS, celU, celV, celL, celC, encC, h]; done) | (simp [rfO, rfS, celU, celV, celL, celC, encC, h]; omega) | omega), trivial⟩
  · rw [if_neg h, if_neg h, decide_eq_false h]
    have key : ACalls Tryz.prog 42 [.ptr 0 0] (rfS r s at_) (.tup [.agg [.int .i64 0, .nils, .nils], .int .i64 0, .bool false]) (rfS r s at_) := by
      refine acallsK mixed Tryz.func42 rfl [0, 2, 3, 4, 9] 1000 ([.t]) [] [0, 1, 2, 3] (ob := [(RdD.at_ r != (3 : Int)) = true]) (by kernel_rfl) ⟨rfl, rfl⟩ ⟨(by first | exact rfl | (simp [rfO, rfS, celU, celV, celL, celC, encC, h]; done) | (simp [rfO, rfS, celU, celV, celL, celC, encC, h]; omega) | omega), trivial⟩
    refine ACalls.post key (fun K c hc => ?_) fun _ _ h => h
    obtain ⟨ds, rfl, hd⟩ := hc.tup_inv
    refine VR.mkTup ⟨hd.1, fun i u d hu hd' => ?_⟩
    match i, hu with
    | 0, hu => injection hu with hu; subst hu; exact nilcell (hd.2 0 _ d rfl hd')
    | 1, hu => exact hd.2 1 _ d hu hd'
    | 2, hu => exact hd.2 2 _ d hu hd'
theorem fnew_yes (cl id : Int) (l : LayD) (a : Int) (f : Bool) (u : List Int) (hs : ∀ s ∈ l.segs, s.chains.length ≤ 1000000000 ∧ 0 ≤ s.at_) (hb : l.segs.length ≤ 1000000000000) (ha : 0 ≤ a) (h : AsksR cl id l a) (hu : chainL l a = some u) (hU : Units u) :
    ACalls Tryz.prog 31 [.int .i64 cl, .int .i64 id, encL l, .int .u64 a, .bool f] [] (.tup [.ptr 0 0, .int .i64 0]) (rfO (readyR cl id l a f u)) := by
  have q1 := right9_ac l (fun s h => (hs s h).1) hb
  rw [h.lay] at q1
  have q3 := chain9_ac l a u hs h.lay ha h.at_ hu
  have g1 := h.cl0
  have g2 := h.cl1
  have g3 := h.id0
  have g4 := h.id1
  have g5 := h.at_
  have gp := hU.pos
  have gm := hU.most
  obtain ⟨v, hv⟩ := get_of (l := u) (k := u.length - 1) (by omega)
  have g7 : IntKind.i64.wrap ((u.length : Int) - 1) = ((u.length - 1 : Nat) : Int) := wN _ _ (by omega) (by omega)
  have g8 := idx_at hv
  have g9 : u.length - 1 < (u.map intA).length := by simp; omega
  have gl : lastU u = v := by unfold lastU; rw [hv]; rfl
  have key : ACalls Tryz.prog 31 [.int .i64 cl, .int .i64 id, encL l, .int .u64 a, .bool f] [] (.tup [.ptr 0 0, .int .i64 0]) [.vars 108 ([.int .i64 cl, .int .i64 id] ++ celL l ++ [.int .u64 a, .bool f, .int .i64 v, .int .i64 0, .nilp, .int .i64 0, .nils, .nils, .int .i64 0, .int .i64 0, .int .i64 0, .row 1 22 0]), .row 50 22 []] := by
    refine acallsK mixed Tryz.func31 rfl [0, 1, 2, 3, 4, 7, 10, 11, 12, 13, 37] 1000 ([.call [] false true (.bool true) [], .f, .f, .f, .f, .f, .call [] false false (encU u) [], .n u.length, .n ((u.length - 1 : Nat) : Int), .ix (u.length - 1), .el (.int .i64 v), .mkc 1 16 50 22]) [] [1, 2] (ob := [_,
 decide (cl < (0 : Int)) = false,
 decide (cl ≥ (4 : Int)) = false,
 decide (id < (0 : Int)) = false,
 decide (id ≥ (1048576 : Int)) = false,
 decide (a ≥ (1048576 : Int)) = false,
 _,
 ((List.map intA u).length : Int) = (u.length : Int),
 IntKind.i64.wrap ((u.length : Int) - (1 : Int)) = (↑(List.length u - (1 : Nat)) : Int),
 List.length u - (1 : Nat) < List.length (List.map intA u),
 (↑(List.length u - (1 : Nat)) : Int) = (↑(List.length u - (1 : Nat)) : Int),
 (List.map intA u)[List.length u - (1 : Nat)]? = some (.int .i64 v)]) (by kernel_rfl) ⟨rfl, rfl⟩ ⟨q1, ?z0, ?z1, ?z2, ?z3, ?z4, q3, ?z5, ?z6, ?z7, ?z8, ?z9, trivial⟩
    case z0|z1|z2|z3|z4|z5|z6|z7|z8|z9 => first | exact rfl | (simp [encL, celL, encU, g1, g2, g3, g4, g5] <;> omega) | omega | (first | exact g7 | exact g8 | exact g9 | omega)
  refine ACalls.post key (fun K c h => h) fun K w h => ?_
  refine rel_cells h fun ds hd => ?_
  unfold readyR
  rw [gl]
  refine WeakL.vrs ?_ hd
  repeat' first | exact .nil | exact WeakA.same _ | exact WeakA.nil _ (by decide) | refine WeakL.cons ?_ ?_
theorem fnew_no (cl id : Int) (l : LayD) (a : Int) (f : Bool) (hs : ∀ s ∈ l.segs, s.chains.length ≤ 1000000000) (hb : l.segs.length ≤ 1000000000000) (h : ¬ AsksR cl id l a) : ACalls Tryz.prog 31 [.int .i64 cl, .int .i64 id, encL l, .int .u64 a, .bool f] [] (.tup [.nilp, .int .i64 1]) [] := by
  have q1 := right9_ac l hs hb
  by_cases h1 : cl < 0
  · refine acallsK mixed Tryz.func31 rfl [0, 1, 2, 3, 4, 7, 10, 11, 12, 13, 37] 1000 ([.call [] false true (.bool (rightL l)) [], .t]) [] [] (ob := [_,
 decide (cl < (0 : Int)) = true]) (by kernel_rfl) ⟨rfl, rfl⟩ ⟨q1, (by first | exact rfl | (simp [encL, celL, h1]; done) | (simp [encL, celL, h1]; omega) | omega | (omega)), trivial⟩
  by_cases h2 : 4 ≤ cl
  · refine acallsK mixed Tryz.func31 rfl [0, 1, 2, 3, 4, 7, 10, 11, 12, 13, 37] 1000 ([.call [] false true (.bool (rightL l)) [], .f, .t]) [] [] (ob := [_,
 decide (cl < (0 : Int)) = false,
 decide (cl ≥ (4 : Int)) = true]) (by kernel_rfl) ⟨rfl, rfl⟩ ⟨q1, ?z0, ?z1, trivial⟩
    case z0|z1 => first | exact rfl | (simp [encL, celL, h1, h2] <;> omega) | omega | (omega)
  by_cases h3 : id < 0
  · refine acallsK mixed Tryz.func31 rfl [0, 1, 2, 3, 4, 7, 10, 11, 12, 13, 37] 1000 ([.call [] false true (.bool (rightL l)) [], .f, .f, .t]) [] [] (ob := [_,
 decide (cl < (0 : Int)) = false,
 decide (cl ≥ (4 : Int)) = false,
 decide (id < (0 : Int)) = true]) (by kernel_rfl) ⟨rfl, rfl⟩ ⟨q1, ?z2, ?z3, ?z4, trivial⟩
    case z2|z3|z4 => first | exact rfl | (simp [encL, celL, h1, h2, h3] <;> omega) | omega | (omega)
  by_cases h4 : 1048576 ≤ id
  · refine acallsK mixed Tryz.func31 rfl [0, 1, 2, 3, 4, 7, 10, 11, 12, 13, 37] 1000 ([.call [] false true (.bool (rightL l)) [], .f, .f, .f, .t]) [] [] (ob := [_,
 decide (cl < (0 : Int)) = false,
 decide (cl ≥ (4 : Int)) = false,
 decide (id < (0 : Int)) = false,
 decide (id ≥ (1048576 : Int)) = true]) (by kernel_rfl) ⟨rfl, rfl⟩ ⟨q1, ?z5, ?z6, ?z7, ?z8, trivial⟩
    case z5|z6|z7|z8 => first | exact rfl | (simp [encL, celL, h1, h2, h3, h4] <;> omega) | omega | (omega)
  cases h5 : rightL l with
  | false =>
    rw [h5] at q1
    refine acallsK mixed Tryz.func31 rfl [0, 1, 2, 3, 4, 7, 10, 11, 12, 13, 37] 1000 ([.call [] false true (.bool false) [], .f, .f, .f, .f]) [] [] (ob := [_,
 decide (cl < (0 : Int)) = false,
 decide (cl ≥ (4 : Int)) = false,
 decide (id < (0 : Int)) = false,
 decide (id ≥ (1048576 : Int)) = false]) (by kernel_rfl) ⟨rfl, rfl⟩ ⟨q1, ?z9, ?z10, ?z11, ?z12, trivial⟩
    case z9|z10|z11|z12 => first | exact rfl | (simp [encL, celL, h1, h2, h3, h4] <;> omega) | omega | (omega)
  | true =>
    rw [h5] at q1
    have h6 : 1048576 ≤ a := by
      rcases Int.lt_or_le a 1048576 with h6 | h6
      · exact absurd ⟨by omega, by omega, by omega, by omega, h5, h6⟩ h
      · exact h6
    refine acallsK mixed Tryz.func31 rfl [0, 1, 2, 3, 4, 7, 10, 11, 12, 13, 37] 1000 ([.call [] false true (.bool true) [], .f, .f, .f, .f, .t]) [] [] (ob := [_,
 decide (cl < (0 : Int)) = false,
 decide (cl ≥ (4 : Int)) = false,
 decide (id < (0 : Int)) = false,
 decide (id ≥ (1048576 : Int)) = false,
 decide (a ≥ (1048576 : Int)) = true]) (by kernel_rfl) ⟨rfl, rfl⟩ ⟨q1, ?z13, ?z14, ?z15, ?z16, ?z17, trivial⟩
    case z13|z14|z15|z16|z17 => first | exact rfl | (simp [encL, celL, h1, h2, h3, h4, h6] <;> omega) | omega | (omega)
end Go.Proofs.YtidgcfgkcidkiaaGreat.Ch
namespace Go.Proofs.YtidgcfgkcidkiaaGreat.Ch
open Go Go.RowKit Go.Proofs.YtidgcfgkcidkiaaGreat.L Go.Proofs.YtidgcfgkcidkiaaGreat.X
set_option linter.unusedVariables false
set_option linter.unusedSimpArgs false
def OfR := Int × Int × LayD × Int × Bool
def ofR (o : OfR) : List AV := [.int .i64 o.1, .int .i64 o.2.1] ++ celL o.2.2.1 ++ [.int .u64 o.2.2.2.1, .bool o.2.2.2.2]
def lawA (o : OfR) (r : RdD) : List X.Obj := [.vars 68 (ofR o), .vars 106 (.nilp :: celT r ++ [.row 2 22 r.out.length]), .row 50 22 r.out, .vars 108 (celU r ++ .nilp :: celV r ++ [.row 4 22 r.out.length]), .row 50 22 r.out]
def lawB (o : OfR) (r : RdD) (s : SetD) (at_ : Int) : List X.Obj := [.vars 68 (ofR o), .vars 106 (.ptr 3 0 :: celT r ++ [.row 2 22 r.out.length]), .row 50 22 r.out, .vars 86 (celS s ++ [.row 4 22 s.out.length]), .row 50 22 s.out, .vars 108 (celU r ++ .ptr 7 0 :: celV r ++ [.row 6 22 r.out.length]), .row 50 22 r.out, .vars 88 (celR s at_ ++ [.row 8 22 s.out.length]), .row 50 22 s.out]
def ended17A (r : RdD) : List X.Obj := [.vars 106 (.nilp :: celT r ++ [.row 1 22 r.out.length]), .row 50 22 r.out, .vars 108 (celU r ++ .nilp :: celV r ++ [.row 3 22 r.out.length]), .row 50 22 r.out]
def ended17B (r : RdD) (s : SetD) (at_ : Int) : List X.Obj := [.vars 106 (.ptr 2 0 :: celT r ++ [.row 1 22 r.out.length]), .row 50 22 r.out, .vars 86 (celS s ++ [.row 3 22 s.out.length]), .row 50 22 s.out, .vars 108 (celU r ++ .ptr 6 0 :: celV r ++ [.row 5 22 r.out.length]), .row 50 22 r.out, .vars 88 (celR s at_ ++ [.row 7 22 s.out.length]), .row 50 22 s.out]
def msgA (o : OfR) (x : ActD) (r : RdD) : MsgD := if x.own = true then { x.m with kind := 14, of_ := 2, fr := 1, fn := r.last, tr := 4, tn := o.1, id := o.2.1, addr := o.2.2.2.1 } else x.m
def msgB (o : OfR) (x : ActD) (r : RdD) (s : SetD) (at_ : Int) : MsgD :=
  if x.own = true then (if r.at_ = 2 ∧ at_ < s.chain.length then { x.m with kind := 14, of_ := 1, fr := 1, fn := (s.chain[at_.toNat]?).getD 0, tr := 4, tn := o.1, id := o.2.1, addr := o.2.2.2.1 } else { x.m with kind := 14, of_ := 2, fr := 1, fn := r.last, tr := 4, tn := o.1, id := o.2.1, addr := o.2.2.2.1 }) else x.m
theorem msgA_ok {o : OfR} {x : ActD} {r : RdD} (h : x.m.ok) : (msgA o x r).ok := by
  unfold msgA
  split
  · exact ⟨h.cell, h.st, h.b, h.lay⟩
  · exact h
theorem msgA_lay {o : OfR} {x : ActD} {r : RdD} : (msgA o x r).lay = x.m.lay := by unfold msgA; split <;> rfl
theorem msgB_ok {o : OfR} {x : ActD} {r : RdD} {s : SetD} {at_ : Int} (h : x.m.ok) : (msgB o x r s at_).ok := by
  unfold msgB
  split
  · split
    · exact ⟨h.cell, h.st, h.b, h.lay⟩
    · exact ⟨h.cell, h.st, h.b, h.lay⟩
  · exact h
theorem msgB_lay {o : OfR} {x : ActD} {r : RdD} {s : SetD} {at_ : Int} : (msgB o x r s at_).lay = x.m.lay := by
  unfold msgB; split
  · split <;> rfl
  · rfl
theorem msgA_ac (o : OfR) (x : ActD) (r : RdD) (h : ¬ r.at_ = 2) : ACalls Tryz.prog 34 [encAct x, .agg (ofR o), .ptr 0 0] (rfO r) (encM (msgA o x r)) (rfO r) := by
  unfold msgA
  by_cases h1 : x.own = true
  · rw [if_pos h1]
    refine acallsK mixed Tryz.func34 rfl [0, 1, 2, 3, 4, 6, 7, 12, 54] 1000 ([.t, .f]) [] [0, 1] (ob := [x.own = true,
 (RdD.at_ r == (2 : Int)) = false]) (by kernel_rfl) ⟨rfl, rfl⟩ ⟨?z0, ?z1, trivial⟩
    case z0|z1 => first | exact rfl | (simp [rfO, celU, celV, encAct, celM, celC, celL, ofR, encM, h1, h] <;> omega) | omega
  · rw [if_neg h1]
    refine acallsK mixed Tryz.func34 rfl [0, 1, 2, 3, 4, 6, 7, 12, 54] 1000 ([.f]) [] [0, 1] (ob := [x.own = false]) (by kernel_rfl) ⟨rfl, rfl⟩ ⟨(by first | exact rfl | (simp [rfO, celU, celV, encAct, celM, celC, celL, ofR, encM, h1]; done) | (simp [rfO, celU, celV, encAct, celM, celC, celL, ofR, encM, h1]; omega) | omega), trivial⟩
theorem msgB_ac (o : OfR) (x : ActD) (r : RdD) (s : SetD) (at_ : Int) (h0 : 0 ≤ at_) : ACalls Tryz.prog 34 [encAct x, .agg (ofR o), .ptr 0 0] (rfS r s at_) (encM (msgB o x r s at_)) (rfS r s at_) := by
  unfold msgB
  by_cases h1 : x.own = true
  · rw [if_pos h1]
    by_cases h2 : r.at_ = 2
    · by_cases h3 : at_ < s.chain.length
      · rw [if_pos ⟨h2, h3⟩]
        obtain ⟨k, rfl⟩ : ∃ k : Nat, at_ = k := ⟨at_.toNat, by omega⟩
        have hk : k < s.chain.length := by omega
        obtain ⟨u, hu⟩ := get_of hk
        rw [show ((k : Int)).toNat = k by omega, hu]
        have g1 := idx_lt hu
        have g2 := idx_at hu
        refine acallsK mixed Tryz.func34 rfl [0, 1, 2, 3, 4, 6, 7, 12, 54] 1000 ([.t, .t, .n s.chain.length, .t, .ix k, .el (intA u)]) [] [0, 1, 2, 3] (ob := [x.own = true,
 (RdD.at_ r == (2 : Int)) = true,
 ((List.map intA s.chain).length : Int) = (s.chain.length : Int),
 decide ((↑k : Int) < (s.chain.length : Int)) = true,
 k < List.length (List.map intA s.chain),
 (↑k : Int) = (↑k : Int),
 (List.map intA s.chain)[k]? = some (.int .i64 u)]) (by kernel_rfl) ⟨rfl, rfl⟩ ⟨?z0, ?z1, ?z2, ?z3, ?z4, ?z5, ?z6, trivial⟩
        case z0|z1|z2|z3|z4|z5|z6 => first | exact rfl | (simp [rfS, celU, celV, celR, encAct, celM, celC, celL, ofR, encM, h1, h2, h3, intA] <;> omega) | omega | (first | exact g1 | exact g2 | omega)
      · rw [if_neg fun h => h3 h.2]
        refine acallsK mixed Tryz.func34 rfl [0, 1, 2, 3, 4, 6, 7, 12, 54] 1000 ([.t, .t, .n s.chain.length, .f]) [] [0, 1, 2, 3] (ob := [x.own = true,
 (RdD.at_ r == (2 : Int)) = true,
 ((List.map intA s.chain).length : Int) = (s.chain.length : Int),
 decide (at_ < (s.chain.length : Int)) = false]) (by kernel_rfl) ⟨rfl, rfl⟩ ⟨?z7, ?z8, ?z9, ?z10, trivial⟩
        case z7|z8|z9|z10 => first | exact rfl | (simp [rfS, celU, celV, celR, encAct, celM, celC, celL, ofR, encM, h1, h2, h3] <;> omega) | omega | (omega)
    · rw [if_neg fun h => h2 h.1]
      refine acallsK mixed Tryz.func34 rfl [0, 1, 2, 3, 4, 6, 7, 12, 54] 1000 ([.t, .f]) [] [0, 1, 2, 3] (ob := [x.own = true,
 (RdD.at_ r == (2 : Int)) = false]) (by kernel_rfl) ⟨rfl, rfl⟩ ⟨?z11, ?z12, trivial⟩
      case z11|z12 => first | exact rfl | (simp [rfS, celU, celV, celR, encAct, celM, celC, celL, ofR, encM, h1, h2] <;> omega) | omega
  · rw [if_neg h1]
    refine acallsK mixed Tryz.func34 rfl [0, 1, 2, 3, 4, 6, 7, 12, 54] 1000 ([.f]) [] [0, 1, 2, 3] (ob := [x.own = false]) (by kernel_rfl) ⟨rfl, rfl⟩ ⟨(by first | exact rfl | (simp [rfS, celU, celV, celR, encAct, celM, celC, celL, ofR, encM, h1]; done) | (simp [rfS, celU, celV, celR, encAct, celM, celC, celL, ofR, encM, h1]; omega) | omega), trivial⟩
theorem rd_same (r : RdD) : ACalls Tryz.prog 59 [rdM r, rdM r] [] (.bool true) [] := by
  have q1 := wr_same0
  have q2 : ACalls Tryz.prog 23 [.agg [.int .i64 0, .nils, .nils], .agg [.int .i64 0, .nils, .nils]] [] (.bool true) [] := by
    have q := same7_ac cell0 cell0 cell0_ok cell0_ok
    rw [sameC_refl] at q
    refine ACalls.weak q fun K ds h => ?_
    obtain ⟨c0, cs, rfl, y0, h⟩ := h.cons_inv
    obtain ⟨c1, cs, rfl, y1, h⟩ := h.cons_inv
    exact .cons (nilcell y0) (.cons (nilcell y1) h)
  have q3 := wr_lay0
  refine acallsK mixed Tryz.func59 rfl [0, 1, 2, 3, 4, 5, 6, 7, 8, 30, 35, 48] 1000 ([.call [] false true (.bool true) [], .call [] false true (.bool true) [], .call [] false true (.bool true) [], .f, .go, .f, .t, .t, .t, .t, .t, .t, .t, .t, .t, .t]) [] [] (ob := [_,
 _,
 _,
 ((0 : Int) != (0 : Int)) = false,
 decide ((0 : Int) < (0 : Int)) = false,
 ((2 : Int) == (2 : Int)) = true,
 ((0 : Int) == (0 : Int)) = true,
 ((4 : Int) == (4 : Int) && (RdD.client r == RdD.client r && true)) = true,
 ((1 : Int) == (1 : Int) && (RdD.last r == RdD.last r && true)) = true,
 (RdD.id r == RdD.id r) = true,
 ((RdD.lay r).epoch == (RdD.lay r).epoch) = true,
 (RdD.a r == RdD.a r) = true,
 ((0 : Int) == (0 : Int)) = true,
 ((0 : Int) == (0 : Int) && ((0 : Int) == (0 : Int) && true)) = true,
 ((0 : Int) == (0 : Int) && ((0 : Int) == (0 : Int) && true)) = true]) (by kernel_rfl) ⟨rfl, rfl⟩ ⟨q1, q2, q3, ?z0, ?z1, ?z2, ?z3, ?z4, ?z5, ?z6, ?z7, ?z8, ?z9, ?z10, ?z11, trivial⟩
  case z0|z1|z2|z3|z4|z5|z6|z7|z8|z9|z10|z11 => first | exact rfl | (simp [rdM] <;> omega) | omega
def Msgs (xs : List AV) : Prop := ∀ x ∈ xs, (∃ s u, x = wrM s u ∧ s.cell.ok) ∨ ∃ r, x = rdM r
theorem Msgs.app {xs ys : List AV} (h : Msgs xs) (k : Msgs ys) : Msgs (xs ++ ys) := fun x hx => by
  rcases List.mem_append.1 hx with hx | hx
  · exact h x hx
  · exact k x hx
theorem Msgs.of {xs : List AV} (h : Wrs xs) : Msgs xs := fun x hx => .inl (h x hx)
theorem all2_loop (xs : List AV) (h : Msgs xs) (hb : xs.length ≤ 1000000) : ∀ (n k : Nat), xs.length = k + n →
    ALoop Tryz.prog 0 Tryz.f18.ntmps (loopB Tryz.f18 0) ⟨[(5, .int .i64 k), (0, .lst 22 xs), (1, .lst 22 xs)], []⟩ (.exit 0) ⟨[], []⟩
  | 0, k, hk => by
    refine aloopK mixed [0, 1, 4, 5, 6, 11, 15, 28] 1000 ([.go, .n xs.length, .f]) [] [] (S1 := { env := [], objs := [] }) (ob := [(xs.length : Int) = (xs.length : Int),
 decide ((↑k : Int) < (xs.length : Int)) = false]) (by kernel_rfl) (by first | exact rfl | exact ⟨rfl, rfl⟩ | (simp []; done)) ⟨?z0, ?z1, trivial⟩
    case z0|z1 => first | exact rfl | (simp [] <;> omega) | omega
  | n + 1, k, hk => by
    have ih := all2_loop xs h hb n (k + 1) (by omega)
    obtain ⟨x, hx⟩ := get_of (l := xs) (k := k) (by omega)
    have hk2 : k < xs.length := by omega
    have hw : IntKind.i64.wrap ((k : Int) + 1) = ((k + 1 : Nat) : Int) := wrap64 (by omega)
    rcases h x (List.mem_of_getElem? hx) with ⟨s, u, rfl, hs⟩ | ⟨r, rfl⟩
    · have q := wr_same s u hs
      refine aloopK mixed [0, 1, 4, 5, 6, 11, 15, 28] 1000 ([.go, .n xs.length, .t, .ix k, .el (wrM s u), .ix k, .el (wrM s u), .call [] false true (.bool true) [], .n ((k + 1 : Nat) : Int), .lp [5, 0, 1] [] (.exit 0) ⟨[], []⟩]) [] [] (S1 := { env := [], objs := [] }) (ob := [(xs.length : Int) = (xs.length : Int),
 decide ((↑k : Int) < (xs.length : Int)) = true,
 k < List.length xs,
 (↑k : Int) = (↑k : Int),
 xs[k]? = some (.agg [.int .i64 (1 : Int), .int .i64 (4 : Int), .int .i64 s.client, .int .i64 (1 : Int), .int .i64 u, .int .i64 s.id, .int .i64 (0 : Int), .int .u64 s.epoch, .int .u64 s.a, .int .i64 (0 : Int), .int .i64 s.cell.kind, .lst (nat_lit 1) (List.map byteA s.cell.data), .lst (nat_lit 3) (List.map encB s.cell.backs), .nils, .nils, .int .i64 (0 : Int), .int .i64 (0 : Int), .int .i64 (0 : Int), .int .i64 (0 : Int), .int .u64 (0 : Int), .nils, .int .i64 (0 : Int)]),
 k < List.length xs,
 (↑k : Int) = (↑k : Int),
 xs[k]? = some (.agg [.int .i64 (1 : Int), .int .i64 (4 : Int), .int .i64 s.client, .int .i64 (1 : Int), .int .i64 u, .int .i64 s.id, .int .i64 (0 : Int), .int .u64 s.epoch, .int .u64 s.a, .int .i64 (0 : Int), .int .i64 s.cell.kind, .lst (nat_lit 1) (List.map byteA s.cell.data), .lst (nat_lit 3) (List.map encB s.cell.backs), .nils, .nils, .int .i64 (0 : Int), .int .i64 (0 : Int), .int .i64 (0 : Int), .int .i64 (0 : Int), .int .u64 (0 : Int), .nils, .int .i64 (0 : Int)]),
 ACalls Tryz.prog 59 [.agg [.int .i64 1, .int .i64 4, .int .i64 s.client, .int .i64 1, .int .i64 u, .int .i64 s.id, .int .i64 0, .int .u64 s.epoch, .int .u64 s.a, .int .i64 0, .int .i64 s.cell.kind, .lst 1 (List.map byteA s.cell.data), .lst 3 (List.map encB s.cell.backs), .nils, .nils, .int .i64 0, .int .i64 0, .int .i64 0, .int .i64 0, .int .u64 0, .nils, .int .i64 0], .agg [.int .i64 1, .int .i64 4, .int .i64 s.client, .int .i64 1, .int .i64 u, .int .i64 s.id, .int .i64 0, .int .u64 s.epoch, .int .u64 s.a, .int .i64 0, .int .i64 s.cell.kind, .lst 1 (List.map byteA s.cell.data), .lst 3 (List.map encB s.cell.backs), .nils, .nils, .int .i64 0, .int .i64 0, .int .i64 0, .int .i64 0, .int .u64 0, .nils, .int .i64 0]] [] (.bool true) [],
 IntKind.i64.wrap ((↑k : Int) + (1 : Int)) = (↑(k + (1 : Nat)) : Int),
 ALoop Tryz.prog 0 29 (loopB Tryz.f18 0) { env := [(5, .int .i64 (↑(k + 1) : Int)), (0, .lst 22 xs), (1, .lst 22 xs)], objs := [] } (Ex.exit 0) { env := [], objs := [] }]) (by kernel_rfl) (by first | exact rfl | exact ⟨rfl, rfl⟩ | (simp [hw]; done) | (first | exact hx | omega)) ⟨?z2, ?z3, ?z4, ?z5, ?z6, ?z7, ?z8, ?z9, ?q91_1, ?z10, ?q91_2, trivial⟩
      case z2|z3|z4|z5|z6|z7|z8|z9|z10 => first | exact rfl | (simp [hw] <;> omega) | omega | (first | exact hx | omega)
      · exact q
      · exact ih
    · have q := rd_same r
      refine aloopK mixed [0, 1, 4, 5, 6, 11, 15, 28] 1000 ([.go, .n xs.length, .t, .ix k, .el (rdM r), .ix k, .el (rdM r), .call [] false true (.bool true) [], .n ((k + 1 : Nat) : Int), .lp [5, 0, 1] [] (.exit 0) ⟨[], []⟩]) [] [] (S1 := { env := [], objs := [] }) (ob := [(xs.length : Int) = (xs.length : Int),
 decide ((↑k : Int) < (xs.length : Int)) = true,
 k < List.length xs,
 (↑k : Int) = (↑k : Int),
 xs[k]? = some (.agg [.int .i64 (2 : Int), .int .i64 (4 : Int), .int .i64 (RdD.client r), .int .i64 (1 : Int), .int .i64 (RdD.last r), .int .i64 (RdD.id r), .int .i64 (0 : Int), .int .u64 (RdD.lay r).epoch, .int .u64 (RdD.a r), .int .i64 (0 : Int), .int .i64 (0 : Int), .nils, .nils, .nils, .nils, .int .i64 (0 : Int), .int .i64 (0 : Int), .int .i64 (0 : Int), .int .i64 (0 : Int), .int .u64 (0 : Int), .nils, .int .i64 (0 : Int)]),
 k < List.length xs,
 (↑k : Int) = (↑k : Int),
 xs[k]? = some (.agg [.int .i64 (2 : Int), .int .i64 (4 : Int), .int .i64 (RdD.client r), .int .i64 (1 : Int), .int .i64 (RdD.last r), .int .i64 (RdD.id r), .int .i64 (0 : Int), .int .u64 (RdD.lay r).epoch, .int .u64 (RdD.a r), .int .i64 (0 : Int), .int .i64 (0 : Int), .nils, .nils, .nils, .nils, .int .i64 (0 : Int), .int .i64 (0 : Int), .int .i64 (0 : Int), .int .i64 (0 : Int), .int .u64 (0 : Int), .nils, .int .i64 (0 : Int)]),
 ACalls Tryz.prog 59 [.agg [.int .i64 2, .int .i64 4, .int .i64 (RdD.client r), .int .i64 1, .int .i64 (RdD.last r), .int .i64 (RdD.id r), .int .i64 0, .int .u64 (RdD.lay r).epoch, .int .u64 (RdD.a r), .int .i64 0, .int .i64 0, .nils, .nils, .nils, .nils, .int .i64 0, .int .i64 0, .int .i64 0, .int .i64 0, .int .u64 0, .nils, .int .i64 0], .agg [.int .i64 2, .int .i64 4, .int .i64 (RdD.client r), .int .i64 1, .int .i64 (RdD.last r), .int .i64 (RdD.id r), .int .i64 0, .int .u64 (RdD.lay r).epoch, .int .u64 (RdD.a r), .int .i64 0, .int .i64 0, .nils, .nils, .nils, .nils, .int .i64 0, .int .i64 0, .int .i64 0, .int .i64 0, .int .u64 0, .nils, .int .i64 0]] [] (.bool true) [],
 IntKind.i64.wrap ((↑k : Int) + (1 : Int)) = (↑(k + (1 : Nat)) : Int),
 ALoop Tryz.prog 0 29 (loopB Tryz.f18 0) { env := [(5, .int .i64 (↑(k + 1) : Int)), (0, .lst 22 xs), (1, .lst 22 xs)], objs := [] } (Ex.exit 0) { env := [], objs := [] }]) (by kernel_rfl) (by first | exact rfl | exact ⟨rfl, rfl⟩ | (simp [hw]; done) | (first | exact hx | omega)) ⟨?z11, ?z12, ?z13, ?z14, ?z15, ?z16, ?z17, ?z18, ?q95_1, ?z19, ?q95_2, trivial⟩
      case z11|z12|z13|z14|z15|z16|z17|z18|z19 => first | exact rfl | (simp [hw] <;> omega) | omega | (first | exact hx | omega)
      · exact q
      · exact ih
theorem all2_ac (xs : List AV) (h : Msgs xs) (hb : xs.length ≤ 1000000) : ACalls Tryz.prog 18 [.lst 22 xs, .lst 22 xs] [] (.bool true) [] := by
  have q := all2_loop xs h hb xs.length 0 (by omega)
  refine acallsK mixed Tryz.func18 rfl [0, 1, 4, 5, 6, 11, 15, 28] 1000 ([.n xs.length, .n xs.length, .f, .lp [5, 0, 1] [] (.exit 0) ⟨[], []⟩]) [] [] (ob := [(xs.length : Int) = (xs.length : Int),
 (xs.length : Int) = (xs.length : Int),
 ((xs.length : Int) != (xs.length : Int)) = false,
 _]) (by kernel_rfl) ⟨rfl, rfl⟩ ⟨?z0, ?z1, ?z2, q, trivial⟩
  case z0|z1|z2 => first | exact rfl | (simp [] <;> omega) | omega
theorem toldRC_ok {r : RdD} (h : r.cell.ok) : (toldRC r).ok := by
  unfold toldRC; split
  · exact h
  · exact cell0_ok
theorem q0A (o : OfR) (xs : List ActD) (k : Nat) (x : ActD) (r : RdD) (hc : r.cell.ok) (hx : xs[k]? = some x) (hk : k < 60) (h1 : ACalls Tryz.prog 10 [encM x.m] [] (.bool true) []) (hkd : ¬ x.kind = 1 ∧ ¬ x.kind = 2 ∧ ¬ x.kind = 3 ∧ ¬ x.kind = 4) (S3 : X.St)
    (ih : ALoop Tryz.prog 0 Tryz.f5.ntmps (loopB Tryz.f5 0) ⟨[(10, .int .i64 (k + 1 : Nat)), (8, .ptr 3 0), (6, .ptr 1 0), (2, .ptr 0 0), (1, .lst 25 (xs.map encAct))], lawA o r⟩ (.exit 0) S3) :
    ALoop Tryz.prog 0 Tryz.f5.ntmps (loopB Tryz.f5 0) ⟨[(10, .int .i64 k), (8, .ptr 3 0), (6, .ptr 1 0), (2, .ptr 0 0), (1, .lst 25 (xs.map encAct))], lawA o r⟩ (.exit 0) S3 := by
  have hk2 : k < xs.length := (List.getElem?_eq_some_iff.1 hx).1
  have hk3 : (xs.map encAct)[k]? = some (encAct x) := by rw [List.getElem?_map, hx]; rfl
  have hw : IntKind.i64.wrap ((k : Int) + 1) = ((k + 1 : Nat) : Int) := wrap64 (by omega)
  have q7 := rover r hc
  have q8 := ftold r
  have q9 := same7_ac (toldRC r) (toldRC r) (toldRC_ok hc) (toldRC_ok hc)
  rw [sameC_refl] at q9
  refine aloop mixed [0, 1, 2, 4, 5, 6, 7, 8, 9, 10, 11, 12, 13, 14, 15, 16, 17, 18, 19, 20, 21, 22, 27, 63, 81, 92, 94, 95, 102, 115, 122, 133, 170] 1000 ([.go, .n xs.length, .t, .t, .ix k, .el (encAct x), .call [] false true (.bool true) [], .f, .f, .f, .f, .call [1, 2] false false (.tup [encC (toldRC r), .int .i64 (toldRE r), .bool (overR r)]) (rdO r), .call [3, 4] false false (.tup [encC (toldRC r), .int .i64 (toldRE r), .bool (overR r)]) (rfO r), .call [] false true (.bool true) [], .f, .f, .n ((k + 1 : Nat) : Int), .lp [10, 8, 6, 2, 1] [0, 1, 7, 3, 10] (.exit 0) S3]) (ob := [((List.map encAct xs).length : Int) = (xs.length : Int),
 decide ((↑k : Int) < (xs.length : Int)) = true,
 decide ((↑k : Int) < (60 : Int)) = true,
 k < List.length (List.map encAct xs),
 (↑k : Int) = (↑k : Int),
 (List.map encAct xs)[k]? = some (.agg [.int .i64 x.kind, .int .i64 x.n, .int .i64 x.m.kind, .int .i64 x.m.fr, .int .i64 x.m.fn, .int .i64 x.m.tr, .int .i64 x.m.tn, .int .i64 x.m.id, .int .i64 x.m.of_, .int .u64 x.m.epoch, .int .u64 x.m.addr, .int .i64 x.m.err, .int .i64 x.m.cell.kind, .lst (nat_lit 1) (List.map byteA x.m.cell.data), .lst (nat_lit 3) (List.map encB x.m.cell.backs), .lst (nat_lit 1) (List.map intA x.m.streams), .lst (nat_lit 3) (List.map encB x.m.backs), .int .i64 x.m.br, .int .i64 x.m.bc, .int .i64 x.m.pr, .int .i64 x.m.pc, .int .u64 x.m.lay.epoch, .lst (nat_lit 2) (List.map encS x.m.lay.segs), .int .i64 x.m.lay.seq, .bool x.own]),
 _,
 (x.kind == (1 : Int)) = false,
 (x.kind == (2 : Int)) = false,
 (x.kind == (3 : Int)) = false,
 (x.kind == (4 : Int)) = false,
 _,
 _,
 _,
 (toldRE r != toldRE r) = false,
 (!overR r == overR r) = false,
 IntKind.i64.wrap ((↑k : Int) + (1 : Int)) = (↑(k + (1 : Nat)) : Int),
 _]) (by kernel_rfl) ⟨?z0, ?z1, ?z2, ?z3, ?z4, ?z5, h1, ?z6, ?z7, ?z8, ?z9, q7, q8, q9, ?z10, ?z11, ?z12, ih, trivial⟩
  case z0|z1|z2|z3|z4|z5|z6|z7|z8|z9|z10|z11|z12 => first | exact rfl | (simp [lawA, lawB, celT, celU, celV, celS, celR, celL, celC, setO, refO, rdO, rdS, rfO, rfS, ofR, encAct, hkd, hx, hw] <;> omega) | omega | (first | exact hk3 | exact hw | exact hm1 | exact hm2 | omega)
theorem q1A (o : OfR) (xs : List ActD) (k : Nat) (x : ActD) (r : RdD) (r2 : RdD) (hc : r2.cell.ok) (hx : xs[k]? = some x) (hk : k < 60) (h1 : ACalls Tryz.prog 10 [encM x.m] [] (.bool true) []) (hkd : x.kind = 1) (e : Int) (qa : ACalls Tryz.prog 32 [.ptr 0 0] (rdO r) (.int .i64 e) (rdO r2)) (qb : ACalls Tryz.prog 33 [.ptr 0 0] (rfO r) (.int .i64 e) (rfO r2)) (S3 : X.St)
    (ih : ALoop Tryz.prog 0 Tryz.f5.ntmps (loopB Tryz.f5 0) ⟨[(10, .int .i64 (k + 1 : Nat)), (8, .ptr 3 0), (6, .ptr 1 0), (2, .ptr 0 0), (1, .lst 25 (xs.map encAct))], lawA o r2⟩ (.exit 0) S3) :
    ALoop Tryz.prog 0 Tryz.f5.ntmps (loopB Tryz.f5 0) ⟨[(10, .int .i64 k), (8, .ptr 3 0), (6, .ptr 1 0), (2, .ptr 0 0), (1, .lst 25 (xs.map encAct))], lawA o r⟩ (.exit 0) S3 := by
  have hk2 : k < xs.length := (List.getElem?_eq_some_iff.1 hx).1
  have hk3 : (xs.map encAct)[k]? = some (encAct x) := by rw [List.getElem?_map, hx]; rfl
  have hw : IntKind.i64.wrap ((k : Int) + 1) = ((k + 1 : Nat) : Int) := wrap64 (by omega)
  have q7 := rover r2 hc
  have q8 := ftold r2
  have q9 := same7_ac (toldRC r2) (toldRC r2) (toldRC_ok hc) (toldRC_ok hc)
  rw [sameC_refl] at q9
  refine aloop mixed [0, 1, 2, 4, 5, 6, 7, 8, 9, 10, 11, 12, 13, 14, 15, 16, 17, 18, 19, 20, 21, 22, 27, 63, 81, 92, 94, 95, 102, 115, 122, 133, 170] 1000 ([.go, .n xs.length, .t, .t, .ix k, .el (encAct x), .call [] false true (.bool true) [], .t, .call [1, 2] false false (.int .i64 e) (rdO r2), .call [3, 4] false false (.int .i64 e) (rfO r2), .t, .call [1, 7] false false (.tup [encC (toldRC r2), .int .i64 (toldRE r2), .bool (overR r2)]) (rdO r2), .call [3, 9] false false (.tup [encC (toldRC r2), .int .i64 (toldRE r2), .bool (overR r2)]) (rfO r2), .call [] false true (.bool true) [], .f, .f, .n ((k + 1 : Nat) : Int), .lp [10, 8, 6, 2, 1] [0, 1, 11, 3, 14] (.exit 0) S3]) (ob := [((List.map encAct xs).length : Int) = (xs.length : Int),
 decide ((↑k : Int) < (xs.length : Int)) = true,
 decide ((↑k : Int) < (60 : Int)) = true,
 k < List.length (List.map encAct xs),
 (↑k : Int) = (↑k : Int),
 (List.map encAct xs)[k]? = some (.agg [.int .i64 x.kind, .int .i64 x.n, .int .i64 x.m.kind, .int .i64 x.m.fr, .int .i64 x.m.fn, .int .i64 x.m.tr, .int .i64 x.m.tn, .int .i64 x.m.id, .int .i64 x.m.of_, .int .u64 x.m.epoch, .int .u64 x.m.addr, .int .i64 x.m.err, .int .i64 x.m.cell.kind, .lst (nat_lit 1) (List.map byteA x.m.cell.data), .lst (nat_lit 3) (List.map encB x.m.cell.backs), .lst (nat_lit 1) (List.map intA x.m.streams), .lst (nat_lit 3) (List.map encB x.m.backs), .int .i64 x.m.br, .int .i64 x.m.bc, .int .i64 x.m.pr, .int .i64 x.m.pc, .int .u64 x.m.lay.epoch, .lst (nat_lit 2) (List.map encS x.m.lay.segs), .int .i64 x.m.lay.seq, .bool x.own]),
 _,
 (x.kind == (1 : Int)) = true,
 _,
 _,
 (e == e) = true,
 _,
 _,
 _,
 (toldRE r2 != toldRE r2) = false,
 (!overR r2 == overR r2) = false,
 IntKind.i64.wrap ((↑k : Int) + (1 : Int)) = (↑(k + (1 : Nat)) : Int),
 _]) (by kernel_rfl) ⟨?z0, ?z1, ?z2, ?z3, ?z4, ?z5, h1, ?z6, qa, qb, ?z7, q7, q8, q9, ?z8, ?z9, ?z10, ih, trivial⟩
  case z0|z1|z2|z3|z4|z5|z6|z7|z8|z9|z10 => first | exact rfl | (simp [lawA, lawB, celT, celU, celV, celS, celR, celL, celC, setO, refO, rdO, rdS, rfO, rfS, ofR, encAct, hkd, hx, hw] <;> omega) | omega | (first | exact hk3 | exact hw | exact hm1 | exact hm2 | omega)
theorem q2A (o : OfR) (xs : List ActD) (k : Nat) (x : ActD) (r : RdD) (r2 : RdD) (hc : r2.cell.ok) (hx : xs[k]? = some x) (hk : k < 60) (h1 : ACalls Tryz.prog 10 [encM x.m] [] (.bool true) []) (hkd : x.kind = 2) (b : Bool) (qm : ACalls Tryz.prog 34 [encAct x, .agg (ofR o), .ptr 0 0] (rfO r) (encM (msgA o x r)) (rfO r)) (qa : ACalls Tryz.prog 35 [.ptr 0 0, encM (msgA o x r)] (rdO r) (.bool b) (rdO r2)) (qb : ACalls Tryz.prog 36 [.ptr 0 0, encM (msgA o x r)] (rfO r) (.bool b) (rfO r2)) (S3 : X.St)
    (ih : ALoop Tryz.prog 0 Tryz.f5.ntmps (loopB Tryz.f5 0) ⟨[(10, .int .i64 (k + 1 : Nat)), (8, .ptr 3 0), (6, .ptr 1 0), (2, .ptr 0 0), (1, .lst 25 (xs.map encAct))], lawA o r2⟩ (.exit 0) S3) :
    ALoop Tryz.prog 0 Tryz.f5.ntmps (loopB Tryz.f5 0) ⟨[(10, .int .i64 k), (8, .ptr 3 0), (6, .ptr 1 0), (2, .ptr 0 0), (1, .lst 25 (xs.map encAct))], lawA o r⟩ (.exit 0) S3 := by
  have hk2 : k < xs.length := (List.getElem?_eq_some_iff.1 hx).1
  have hk3 : (xs.map encAct)[k]? = some (encAct x) := by rw [List.getElem?_map, hx]; rfl
  have hw : IntKind.i64.wrap ((k : Int) + 1) = ((k + 1 : Nat) : Int) := wrap64 (by omega)
  have q7 := rover r2 hc
  have q8 := ftold r2
  have q9 := same7_ac (toldRC r2) (toldRC r2) (toldRC_ok hc) (toldRC_ok hc)
  rw [sameC_refl] at q9
  refine aloop mixed [0, 1, 2, 4, 5, 6, 7, 8, 9, 10, 11, 12, 13, 14, 15, 16, 17, 18, 19, 20, 21, 22, 27, 63, 81, 92, 94, 95, 102, 115, 122, 133, 170] 1000 ([.go, .n xs.length, .t, .t, .ix k, .el (encAct x), .call [] false true (.bool true) [], .f, .t, .call [3, 4] false false (encM (msgA o x r)) (rfO r), .call [1, 2] false false (.bool b) (rdO r2), .call [3, 7] false false (.bool b) (rfO r2), .t, .call [1, 10] false false (.tup [encC (toldRC r2), .int .i64 (toldRE r2), .bool (overR r2)]) (rdO r2), .call [3, 12] false false (.tup [encC (toldRC r2), .int .i64 (toldRE r2), .bool (overR r2)]) (rfO r2), .call [] false true (.bool true) [], .f, .f, .n ((k + 1 : Nat) : Int), .lp [10, 8, 6, 2, 1] [0, 1, 14, 3, 17] (.exit 0) S3]) (ob := [((List.map encAct xs).length : Int) = (xs.length : Int),
 decide ((↑k : Int) < (xs.length : Int)) = true,
 decide ((↑k : Int) < (60 : Int)) = true,
 k < List.length (List.map encAct xs),
 (↑k : Int) = (↑k : Int),
 (List.map encAct xs)[k]? = some (.agg [.int .i64 x.kind, .int .i64 x.n, .int .i64 x.m.kind, .int .i64 x.m.fr, .int .i64 x.m.fn, .int .i64 x.m.tr, .int .i64 x.m.tn, .int .i64 x.m.id, .int .i64 x.m.of_, .int .u64 x.m.epoch, .int .u64 x.m.addr, .int .i64 x.m.err, .int .i64 x.m.cell.kind, .lst (nat_lit 1) (List.map byteA x.m.cell.data), .lst (nat_lit 3) (List.map encB x.m.cell.backs), .lst (nat_lit 1) (List.map intA x.m.streams), .lst (nat_lit 3) (List.map encB x.m.backs), .int .i64 x.m.br, .int .i64 x.m.bc, .int .i64 x.m.pr, .int .i64 x.m.pc, .int .u64 x.m.lay.epoch, .lst (nat_lit 2) (List.map encS x.m.lay.segs), .int .i64 x.m.lay.seq, .bool x.own]),
 _,
 (x.kind == (1 : Int)) = false,
 (x.kind == (2 : Int)) = true,
 _,
 _,
 _,
 (b == b) = true,
 _,
 _,
 _,
 (toldRE r2 != toldRE r2) = false,
 (!overR r2 == overR r2) = false,
 IntKind.i64.wrap ((↑k : Int) + (1 : Int)) = (↑(k + (1 : Nat)) : Int),
 _]) (by kernel_rfl) ⟨?z0, ?z1, ?z2, ?z3, ?z4, ?z5, h1, ?z6, ?z7, qm, qa, qb, ?z8, q7, q8, q9, ?z9, ?z10, ?z11, ih, trivial⟩
  case z0|z1|z2|z3|z4|z5|z6|z7|z8|z9|z10|z11 => first | exact rfl | (simp [lawA, lawB, celT, celU, celV, celS, celR, celL, celC, setO, refO, rdO, rdS, rfO, rfS, ofR, encAct, hkd, hx, hw] <;> omega) | omega | (first | exact hk3 | exact hw | exact hm1 | exact hm2 | omega)
theorem q2AB (o : OfR) (xs : List ActD) (k : Nat) (x : ActD) (r : RdD) (r2 : RdD) (s2 : SetD) (at2 : Int) (hc : r2.cell.ok) (hx : xs[k]? = some x) (hk : k < 60) (h1 : ACalls Tryz.prog 10 [encM x.m] [] (.bool true) []) (hkd : x.kind = 2) (b : Bool) (qm : ACalls Tryz.prog 34 [encAct x, .agg (ofR o), .ptr 0 0] (rfO r) (encM (msgA o x r)) (rfO r)) (qa : ACalls Tryz.prog 35 [.ptr 0 0, encM (msgA o x r)] (rdO r) (.bool b) (rdS r2 s2)) (qb : ACalls Tryz.prog 36 [.ptr 0 0, encM (msgA o x r)] (rfO r) (.bool b) (rfS r2 s2 at2)) (S3 : X.St)
    (ih : ALoop Tryz.prog 0 Tryz.f5.ntmps (loopB Tryz.f5 0) ⟨[(10, .int .i64 (k + 1 : Nat)), (8, .ptr 5 0), (6, .ptr 1 0), (2, .ptr 0 0), (1, .lst 25 (xs.map encAct))], lawB o r2 s2 at2⟩ (.exit 0) S3) :
    ALoop Tryz.prog 0 Tryz.f5.ntmps (loopB Tryz.f5 0) ⟨[(10, .int .i64 k), (8, .ptr 3 0), (6, .ptr 1 0), (2, .ptr 0 0), (1, .lst 25 (xs.map encAct))], lawA o r⟩ (.exit 0) S3 := by
  have hk2 : k < xs.length := (List.getElem?_eq_some_iff.1 hx).1
  have hk3 : (xs.map encAct)[k]? = some (encAct x) := by rw [List.getElem?_map, hx]; rfl
  have hw : IntKind.i64.wrap ((k : Int) + 1) = ((k + 1 : Nat) : Int) := wrap64 (by omega)
  have q7 := roverS r2 s2 hc
  have q8 := ftoldS r2 s2 at2
  have q9 := same7_ac (toldRC r2) (toldRC r2) (toldRC_ok hc) (toldRC_ok hc)
  rw [sameC_refl] at q9
  refine aloop mixed [0, 1, 2, 4, 5, 6, 7, 8, 9, 10, 11, 12, 13, 14, 15, 16, 17, 18, 19, 20, 21, 22, 27, 63, 81, 92, 94, 95, 102, 115, 122, 133, 170] 1000 ([.go, .n xs.length, .t, .t, .ix k, .el (encAct x), .call [] false true (.bool true) [], .f, .t, .call [3, 4] false false (encM (msgA o x r)) (rfO r), .call [1, 2] false false (.bool b) (rdS r2 s2), .call [3, 7] false false (.bool b) (rfS r2 s2 at2), .t, .call [1, 10, 11, 12] false false (.tup [encC (toldRC r2), .int .i64 (toldRE r2), .bool (overR r2)]) (rdS r2 s2), .call [3, 14, 15, 16] false false (.tup [encC (toldRC r2), .int .i64 (toldRE r2), .bool (overR r2)]) (rfS r2 s2 at2), .call [] false true (.bool true) [], .f, .f, .n ((k + 1 : Nat) : Int), .lp [10, 8, 6, 2, 1] [0, 1, 18, 11, 20, 3, 23, 15, 25] (.exit 0) S3]) (ob := [((List.map encAct xs).length : Int) = (xs.length : Int),
 decide ((↑k : Int) < (xs.length : Int)) = true,
 decide ((↑k : Int) < (60 : Int)) = true,
 k < List.length (List.map encAct xs),
 (↑k : Int) = (↑k : Int),
 (List.map encAct xs)[k]? = some (.agg [.int .i64 x.kind, .int .i64 x.n, .int .i64 x.m.kind, .int .i64 x.m.fr, .int .i64 x.m.fn, .int .i64 x.m.tr, .int .i64 x.m.tn, .int .i64 x.m.id, .int .i64 x.m.of_, .int .u64 x.m.epoch, .int .u64 x.m.addr, .int .i64 x.m.err, .int .i64 x.m.cell.kind, .lst (nat_lit 1) (List.map byteA x.m.cell.data), .lst (nat_lit 3) (List.map encB x.m.cell.backs), .lst (nat_lit 1) (List.map intA x.m.streams), .lst (nat_lit 3) (List.map encB x.m.backs), .int .i64 x.m.br, .int .i64 x.m.bc, .int .i64 x.m.pr, .int .i64 x.m.pc, .int .u64 x.m.lay.epoch, .lst (nat_lit 2) (List.map encS x.m.lay.segs), .int .i64 x.m.lay.seq, .bool x.own]),
 _,
 (x.kind == (1 : Int)) = false,
 (x.kind == (2 : Int)) = true,
 _,
 _,
 _,
 (b == b) = true,
 _,
 _,
 _,
 (toldRE r2 != toldRE r2) = false,
 (!overR r2 == overR r2) = false,
 IntKind.i64.wrap ((↑k : Int) + (1 : Int)) = (↑(k + (1 : Nat)) : Int),
 _]) (by kernel_rfl) ⟨?z0, ?z1, ?z2, ?z3, ?z4, ?z5, h1, ?z6, ?z7, qm, qa, qb, ?z8, q7, q8, q9, ?z9, ?z10, ?z11, ih, trivial⟩
  case z0|z1|z2|z3|z4|z5|z6|z7|z8|z9|z10|z11 => first | exact rfl | (simp [lawA, lawB, celT, celU, celV, celS, celR, celL, celC, setO, refO, rdO, rdS, rfO, rfS, ofR, encAct, hkd, hx, hw] <;> omega) | omega | (first | exact hk3 | exact hw | exact hm1 | exact hm2 | omega)
theorem q3A (o : OfR) (xs : List ActD) (k : Nat) (x : ActD) (r : RdD) (r2 : RdD) (hc : r2.cell.ok) (hx : xs[k]? = some x) (hk : k < 60) (h1 : ACalls Tryz.prog 10 [encM x.m] [] (.bool true) []) (hkd : x.kind = 3) (j : Nat) (hj : (j : Int) = min (max x.n 0) 9) (qa : ALoop Tryz.prog 0 Tryz.f5.ntmps (loopB Tryz.f5 1) ⟨[(15, .int .i64 j), (13, .bool true), (10, .int .i64 k), (8, .ptr 3 0), (6, .ptr 1 0), (2, .ptr 0 0), (1, .lst 25 (xs.map encAct))], lawA o r⟩ (.exit 3) ⟨[(13, .bool true), (10, .int .i64 k), (8, .ptr 3 0), (6, .ptr 1 0), (2, .ptr 0 0), (1, .lst 25 (xs.map encAct))], lawA o r2⟩) (S3 : X.St)
    (ih : ALoop Tryz.prog 0 Tryz.f5.ntmps (loopB Tryz.f5 0) ⟨[(10, .int .i64 (k + 1 : Nat)), (8, .ptr 3 0), (6, .ptr 1 0), (2, .ptr 0 0), (1, .lst 25 (xs.map encAct))], lawA o r2⟩ (.exit 0) S3) :
    ALoop Tryz.prog 0 Tryz.f5.ntmps (loopB Tryz.f5 0) ⟨[(10, .int .i64 k), (8, .ptr 3 0), (6, .ptr 1 0), (2, .ptr 0 0), (1, .lst 25 (xs.map encAct))], lawA o r⟩ (.exit 0) S3 := by
  have hk2 : k < xs.length := (List.getElem?_eq_some_iff.1 hx).1
  have hk3 : (xs.map encAct)[k]? = some (encAct x) := by rw [List.getElem?_map, hx]; rfl
  have hw : IntKind.i64.wrap ((k : Int) + 1) = ((k + 1 : Nat) : Int) := wrap64 (by omega)
  have hm1 : Go.Proofs.YtidgcfgkcidkiaaGreat.L.mx x.n 0 = max x.n 0 := Go.Proofs.YtidgcfgkcidkiaaGreat.L.mx_max x.n 0
  have hm2 : Go.Proofs.YtidgcfgkcidkiaaGreat.L.mn (max x.n 0) 9 = (j : Int) := by rw [Go.Proofs.YtidgcfgkcidkiaaGreat.L.mn_min]; exact hj.symm
  have q7 := rover r2 hc
  have q8 := ftold r2
  have q9 := same7_ac (toldRC r2) (toldRC r2) (toldRC_ok hc) (toldRC_ok hc)
  rw [sameC_refl] at q9
  refine aloop mixed [0, 1, 2, 4, 5, 6, 7, 8, 9, 10, 11, 12, 13, 14, 15, 16, 17, 18, 19, 20, 21, 22, 27, 63, 81, 92, 94, 95, 102, 115, 122, 133, 170] 1000 ([.go, .n xs.length, .t, .t, .ix k, .el (encAct x), .call [] false true (.bool true) [], .f, .f, .t, .n (max x.n 0), .n (j : Int), .lp [15, 13, 10, 8, 6, 2, 1] [0, 1, 2, 3, 4] (.exit 3) ⟨[(13, .bool true), (10, .int .i64 k), (8, .ptr 3 0), (6, .ptr 1 0), (2, .ptr 0 0), (1, .lst 25 (xs.map encAct))], lawA o r2⟩, .call [1, 2] false false (.tup [encC (toldRC r2), .int .i64 (toldRE r2), .bool (overR r2)]) (rdO r2), .call [3, 4] false false (.tup [encC (toldRC r2), .int .i64 (toldRE r2), .bool (overR r2)]) (rfO r2), .call [] false true (.bool true) [], .f, .f, .n ((k + 1 : Nat) : Int), .lp [10, 8, 6, 2, 1] [0, 1, 6, 3, 9] (.exit 0) S3]) (ob := [((List.map encAct xs).length : Int) = (xs.length : Int),
 decide ((↑k : Int) < (xs.length : Int)) = true,
 decide ((↑k : Int) < (60 : Int)) = true,
 k < List.length (List.map encAct xs),
 (↑k : Int) = (↑k : Int),
 (List.map encAct xs)[k]? = some (.agg [.int .i64 x.kind, .int .i64 x.n, .int .i64 x.m.kind, .int .i64 x.m.fr, .int .i64 x.m.fn, .int .i64 x.m.tr, .int .i64 x.m.tn, .int .i64 x.m.id, .int .i64 x.m.of_, .int .u64 x.m.epoch, .int .u64 x.m.addr, .int .i64 x.m.err, .int .i64 x.m.cell.kind, .lst (nat_lit 1) (List.map byteA x.m.cell.data), .lst (nat_lit 3) (List.map encB x.m.cell.backs), .lst (nat_lit 1) (List.map intA x.m.streams), .lst (nat_lit 3) (List.map encB x.m.backs), .int .i64 x.m.br, .int .i64 x.m.bc, .int .i64 x.m.pr, .int .i64 x.m.pc, .int .u64 x.m.lay.epoch, .lst (nat_lit 2) (List.map encS x.m.lay.segs), .int .i64 x.m.lay.seq, .bool x.own]),
 _,
 (x.kind == (1 : Int)) = false,
 (x.kind == (2 : Int)) = false,
 (x.kind == (3 : Int)) = true,
 mx x.n (0 : Int) = max x.n (0 : Int),
 mn (max x.n (0 : Int)) (9 : Int) = (↑j : Int),
 _,
 _,
 _,
 _,
 (toldRE r2 != toldRE r2) = false,
 (!overR r2 == overR r2) = false,
 IntKind.i64.wrap ((↑k : Int) + (1 : Int)) = (↑(k + (1 : Nat)) : Int),
 _]) (by kernel_rfl) ⟨?z0, ?z1, ?z2, ?z3, ?z4, ?z5, h1, ?z6, ?z7, ?z8, ?z9, ?z10, qa, q7, q8, q9, ?z11, ?z12, ?z13, ih, trivial⟩
  case z0|z1|z2|z3|z4|z5|z6|z7|z8|z9|z10|z11|z12|z13 => first | exact rfl | (simp [lawA, lawB, celT, celU, celV, celS, celR, celL, celC, setO, refO, rdO, rdS, rfO, rfS, ofR, encAct, hkd, hx, hw] <;> omega) | omega | (first | exact hk3 | exact hw | exact hm1 | exact hm2 | omega)
theorem q4A (o : OfR) (xs : List ActD) (k : Nat) (x : ActD) (r : RdD) (r2 : RdD) (hc : r2.cell.ok) (hx : xs[k]? = some x) (hk : k < 60) (h1 : ACalls Tryz.prog 10 [encM x.m] [] (.bool true) []) (hkd : x.kind = 4) (qa : ACalls Tryz.prog 39 [.ptr 0 0] (rdO r) (.row 2 22 r.out.length) (rdO r2 ++ [.row 50 22 r.out])) (qb : ACalls Tryz.prog 40 [.ptr 0 0] (rfO r) (.row 2 22 r.out.length) (rfO r2 ++ [.row 50 22 r.out])) (qc : ACalls Tryz.prog 18 [.lst 22 r.out, .lst 22 r.out] [] (.bool true) []) (S3 : X.St)
    (ih : ALoop Tryz.prog 0 Tryz.f5.ntmps (loopB Tryz.f5 0) ⟨[(10, .int .i64 (k + 1 : Nat)), (8, .ptr 3 0), (6, .ptr 1 0), (2, .ptr 0 0), (1, .lst 25 (xs.map encAct))], lawA o r2⟩ (.exit 0) S3) :
    ALoop Tryz.prog 0 Tryz.f5.ntmps (loopB Tryz.f5 0) ⟨[(10, .int .i64 k), (8, .ptr 3 0), (6, .ptr 1 0), (2, .ptr 0 0), (1, .lst 25 (xs.map encAct))], lawA o r⟩ (.exit 0) S3 := by
  have hk2 : k < xs.length := (List.getElem?_eq_some_iff.1 hx).1
  have hk3 : (xs.map encAct)[k]? = some (encAct x) := by rw [List.getElem?_map, hx]; rfl
  have hw : IntKind.i64.wrap ((k : Int) + 1) = ((k + 1 : Nat) : Int) := wrap64 (by omega)
  have q7 := rover r2 hc
  have q8 := ftold r2
  have q9 := same7_ac (toldRC r2) (toldRC r2) (toldRC_ok hc) (toldRC_ok hc)
  rw [sameC_refl] at q9
  refine aloop mixed [0, 1, 2, 4, 5, 6, 7, 8, 9, 10, 11, 12, 13, 14, 15, 16, 17, 18, 19, 20, 21, 22, 27, 63, 81, 92, 94, 95, 102, 115, 122, 133, 170] 1000 ([.go, .n xs.length, .t, .t, .ix k, .el (encAct x), .call [] false true (.bool true) [], .f, .f, .f, .t, .call [1, 2] false false (.row 2 22 r.out.length) (rdO r2 ++ [.row 50 22 r.out]), .call [3, 4] false false (.row 2 22 r.out.length) (rfO r2 ++ [.row 50 22 r.out]), .call [] false true (.bool true) [], .call [1, 7] false false (.tup [encC (toldRC r2), .int .i64 (toldRE r2), .bool (overR r2)]) (rdO r2), .call [3, 10] false false (.tup [encC (toldRC r2), .int .i64 (toldRE r2), .bool (overR r2)]) (rfO r2), .call [] false true (.bool true) [], .f, .f, .n ((k + 1 : Nat) : Int), .lp [10, 8, 6, 2, 1] [0, 1, 13, 3, 16] (.exit 0) S3]) (ob := [((List.map encAct xs).length : Int) = (xs.length : Int),
 decide ((↑k : Int) < (xs.length : Int)) = true,
 decide ((↑k : Int) < (60 : Int)) = true,
 k < List.length (List.map encAct xs),
 (↑k : Int) = (↑k : Int),
 (List.map encAct xs)[k]? = some (.agg [.int .i64 x.kind, .int .i64 x.n, .int .i64 x.m.kind, .int .i64 x.m.fr, .int .i64 x.m.fn, .int .i64 x.m.tr, .int .i64 x.m.tn, .int .i64 x.m.id, .int .i64 x.m.of_, .int .u64 x.m.epoch, .int .u64 x.m.addr, .int .i64 x.m.err, .int .i64 x.m.cell.kind, .lst (nat_lit 1) (List.map byteA x.m.cell.data), .lst (nat_lit 3) (List.map encB x.m.cell.backs), .lst (nat_lit 1) (List.map intA x.m.streams), .lst (nat_lit 3) (List.map encB x.m.backs), .int .i64 x.m.br, .int .i64 x.m.bc, .int .i64 x.m.pr, .int .i64 x.m.pc, .int .u64 x.m.lay.epoch, .lst (nat_lit 2) (List.map encS x.m.lay.segs), .int .i64 x.m.lay.seq, .bool x.own]),
 _,
 (x.kind == (1 : Int)) = false,
 (x.kind == (2 : Int)) = false,
 (x.kind == (3 : Int)) = false,
 (x.kind == (4 : Int)) = true,
 _,
 _,
 _,
 _,
 _,
 _,
 (toldRE r2 != toldRE r2) = false,
 (!overR r2 == overR r2) = false,
 IntKind.i64.wrap ((↑k : Int) + (1 : Int)) = (↑(k + (1 : Nat)) : Int),
 _]) (by kernel_rfl) ⟨?z0, ?z1, ?z2, ?z3, ?z4, ?z5, h1, ?z6, ?z7, ?z8, ?z9, qa, qb, qc, q7, q8, q9, ?z10, ?z11, ?z12, ih, trivial⟩
  case z0|z1|z2|z3|z4|z5|z6|z7|z8|z9|z10|z11|z12 => first | exact rfl | (simp [lawA, lawB, celT, celU, celV, celS, celR, celL, celC, setO, refO, rdO, rdS, rfO, rfS, ofR, encAct, hkd, hx, hw] <;> omega) | omega | (first | exact hk3 | exact hw | exact hm1 | exact hm2 | omega)
theorem qnA (o : OfR) (xs : List ActD) (k : Nat) (x : ActD) (r : RdD) (hc : r.cell.ok) (hx : xs[k]? = some x) (hk : k < 60) (h1 : ACalls Tryz.prog 10 [encM x.m] [] (.bool false) []) (S3 : X.St)
    (ih : ALoop Tryz.prog 0 Tryz.f5.ntmps (loopB Tryz.f5 0) ⟨[(10, .int .i64 (k + 1 : Nat)), (8, .ptr 3 0), (6, .ptr 1 0), (2, .ptr 0 0), (1, .lst 25 (xs.map encAct))], lawA o r⟩ (.exit 0) S3) :
    ALoop Tryz.prog 0 Tryz.f5.ntmps (loopB Tryz.f5 0) ⟨[(10, .int .i64 k), (8, .ptr 3 0), (6, .ptr 1 0), (2, .ptr 0 0), (1, .lst 25 (xs.map encAct))], lawA o r⟩ (.exit 0) S3 := by
  have hk2 : k < xs.length := (List.getElem?_eq_some_iff.1 hx).1
  have hk3 : (xs.map encAct)[k]? = some (encAct x) := by rw [List.getElem?_map, hx]; rfl
  have hw : IntKind.i64.wrap ((k : Int) + 1) = ((k + 1 : Nat) : Int) := wrap64 (by omega)
  refine aloop mixed [0, 1, 2, 4, 5, 6, 7, 8, 9, 10, 11, 12, 13, 14, 15, 16, 17, 18, 19, 20, 21, 22, 27, 63, 81, 92, 94, 95, 102, 115, 122, 133, 170] 1000 ([.go, .n xs.length, .t, .t, .ix k, .el (encAct x), .call [] false true (.bool false) [], .n ((k + 1 : Nat) : Int), .lp [10, 8, 6, 2, 1] [0, 1, 2, 3, 4] (.exit 0) S3]) (ob := [((List.map encAct xs).length : Int) = (xs.length : Int),
 decide ((↑k : Int) < (xs.length : Int)) = true,
 decide ((↑k : Int) < (60 : Int)) = true,
 k < List.length (List.map encAct xs),
 (↑k : Int) = (↑k : Int),
 (List.map encAct xs)[k]? = some (.agg [.int .i64 x.kind, .int .i64 x.n, .int .i64 x.m.kind, .int .i64 x.m.fr, .int .i64 x.m.fn, .int .i64 x.m.tr, .int .i64 x.m.tn, .int .i64 x.m.id, .int .i64 x.m.of_, .int .u64 x.m.epoch, .int .u64 x.m.addr, .int .i64 x.m.err, .int .i64 x.m.cell.kind, .lst (nat_lit 1) (List.map byteA x.m.cell.data), .lst (nat_lit 3) (List.map encB x.m.cell.backs), .lst (nat_lit 1) (List.map intA x.m.streams), .lst (nat_lit 3) (List.map encB x.m.backs), .int .i64 x.m.br, .int .i64 x.m.bc, .int .i64 x.m.pr, .int .i64 x.m.pc, .int .u64 x.m.lay.epoch, .lst (nat_lit 2) (List.map encS x.m.lay.segs), .int .i64 x.m.lay.seq, .bool x.own]),
 _,
 IntKind.i64.wrap ((↑k : Int) + (1 : Int)) = (↑(k + (1 : Nat)) : Int),
 _]) (by kernel_rfl) ⟨?z0, ?z1, ?z2, ?z3, ?z4, ?z5, h1, ?z6, ih, trivial⟩
  case z0|z1|z2|z3|z4|z5|z6 => first | exact rfl | (simp [lawA, lawB, celT, celU, celV, celS, celR, celL, celC, setO, refO, rdO, rdS, rfO, rfS, ofR, encAct, hx, hw] <;> omega) | omega | (first | exact hk3 | exact hw | exact hm1 | exact hm2 | omega)
theorem qendA (o : OfR) (xs : List ActD) (k : Nat) (r : RdD) (h : xs.length ≤ k ∨ 60 ≤ k) : ALoop Tryz.prog 0 Tryz.f5.ntmps (loopB Tryz.f5 0) ⟨[(10, .int .i64 k), (8, .ptr 3 0), (6, .ptr 1 0), (2, .ptr 0 0), (1, .lst 25 (xs.map encAct))], lawA o r⟩ (.exit 0) ⟨[(8, .ptr 2 0), (6, .ptr 0 0)], ended17A r⟩ := by
  by_cases h1 : xs.length ≤ k
  · refine aloopK mixed [0, 1, 2, 4, 5, 6, 7, 8, 9, 10, 11, 12, 13, 14, 15, 16, 17, 18, 19, 20, 21, 22, 27, 63, 81, 92, 94, 95, 102, 115, 122, 133, 170] 1000 ([.go, .n xs.length, .f]) [8, 6] [1, 2, 3, 4] (ob := [((List.map encAct xs).length : Int) = (xs.length : Int),
 decide ((↑k : Int) < (xs.length : Int)) = false]) (by kernel_rfl) rfl ⟨?z0, ?z1, trivial⟩
    case z0|z1 => first | exact rfl | (simp [lawA, lawB, celT, celU, celV, celS, celR, celL, celC, setO, refO, rdO, rdS, rfO, rfS, ofR, encAct, ended17A] <;> omega) | omega
  · have h2 : 60 ≤ k := by omega
    refine aloopK mixed [0, 1, 2, 4, 5, 6, 7, 8, 9, 10, 11, 12, 13, 14, 15, 16, 17, 18, 19, 20, 21, 22, 27, 63, 81, 92, 94, 95, 102, 115, 122, 133, 170] 1000 ([.go, .n xs.length, .t, .f]) [8, 6] [1, 2, 3, 4] (ob := [((List.map encAct xs).length : Int) = (xs.length : Int),
 decide ((↑k : Int) < (xs.length : Int)) = true,
 decide ((↑k : Int) < (60 : Int)) = false]) (by kernel_rfl) rfl ⟨?z2, ?z3, ?z4, trivial⟩
    case z2|z3|z4 => first | exact rfl | (simp [lawA, lawB, celT, celU, celV, celS, celR, celL, celC, setO, refO, rdO, rdS, rfO, rfS, ofR, encAct, ended17A] <;> omega) | omega
theorem tick1A (o : OfR) (xs : List ActD) (k : Nat) (n : Nat) (r : RdD) (r2 : RdD) (S3 : X.St) (hn : n ≤ 9) (q1 : ACalls Tryz.prog 37 [.ptr 0 0] (rdO r) (.int .i64 0) (rdO r2)) (q2 : ACalls Tryz.prog 38 [.ptr 0 0] (rfO r) (.int .i64 0) (rfO r2))
    (ih : ALoop Tryz.prog 0 Tryz.f5.ntmps (loopB Tryz.f5 1) ⟨[(15, .int .i64 n), (13, .bool true), (10, .int .i64 k), (8, .ptr 3 0), (6, .ptr 1 0), (2, .ptr 0 0), (1, .lst 25 (xs.map encAct))], lawA o r2⟩ (.exit 3) S3) :
    ALoop Tryz.prog 0 Tryz.f5.ntmps (loopB Tryz.f5 1) ⟨[(15, .int .i64 ((n + 1 : Nat) : Int)), (13, .bool true), (10, .int .i64 k), (8, .ptr 3 0), (6, .ptr 1 0), (2, .ptr 0 0), (1, .lst 25 (xs.map encAct))], lawA o r⟩ (.exit 3) S3 := by
  have hw : IntKind.i64.wrap (((n + 1 : Nat) : Int) - 1) = (n : Int) := wrap_pred (by omega)
  refine aloop mixed [0, 1, 2, 4, 5, 6, 7, 8, 9, 10, 11, 12, 13, 14, 15, 16, 17, 18, 19, 20, 21, 22, 27, 63, 81, 92, 94, 95, 102, 115, 122, 133, 170] 1000 ([.go, .t, .call [1, 2] false false (.int .i64 0) (rdO r2), .call [3, 4] false false (.int .i64 0) (rfO r2), .t, .n (n : Int), .lp [15, 13, 10, 8, 6, 2, 1] [0, 1, 6, 3, 8] (.exit 3) S3]) (ob := [decide ((↑(n + (1 : Nat)) : Int) > (0 : Int)) = true,
 _,
 _,
 ((0 : Int) == (0 : Int)) = true,
 IntKind.i64.wrap ((↑(n + (1 : Nat)) : Int) - (1 : Int)) = (↑n : Int),
 _]) (by kernel_rfl) ⟨?z0, q1, q2, ?z1, ?z2, ih, trivial⟩
  case z0|z1|z2 => first | exact rfl | (simp [lawA, lawB, celT, celU, celV, celS, celR, celL, celC, setO, refO, rdO, rdS, rfO, rfS, ofR, encAct] <;> omega) | omega | (first | exact hw | omega)
theorem tick0A (o : OfR) (xs : List ActD) (k : Nat) (r : RdD) : ALoop Tryz.prog 0 Tryz.f5.ntmps (loopB Tryz.f5 1) ⟨[(15, .int .i64 0), (13, .bool true), (10, .int .i64 k), (8, .ptr 3 0), (6, .ptr 1 0), (2, .ptr 0 0), (1, .lst 25 (xs.map encAct))], lawA o r⟩ (.exit 3) ⟨[(13, .bool true), (10, .int .i64 k), (8, .ptr 3 0), (6, .ptr 1 0), (2, .ptr 0 0), (1, .lst 25 (xs.map encAct))], lawA o r⟩ := by
  refine aloopK mixed [0, 1, 2, 4, 5, 6, 7, 8, 9, 10, 11, 12, 13, 14, 15, 16, 17, 18, 19, 20, 21, 22, 27, 63, 81, 92, 94, 95, 102, 115, 122, 133, 170] 1000 ([.go, .f]) [13, 10, 8, 6, 2, 1] [0, 1, 2, 3, 4] (ob := [decide ((0 : Int) > (0 : Int)) = false]) (by kernel_rfl) rfl ⟨(by first | exact rfl | (simp [lawA, lawB, celT, celU, celV, celS, celR, celL, celC, setO, refO, rdO, rdS, rfO, rfS, ofR, encAct]; done) | (simp [lawA, lawB, celT, celU, celV, celS, celR, celL, celC, setO, refO, rdO, rdS, rfO, rfS, ofR, encAct]; omega) | omega), trivial⟩
theorem q0B (o : OfR) (xs : List ActD) (k : Nat) (x : ActD) (r : RdD) (s : SetD) (at_ : Int) (hc : r.cell.ok) (hx : xs[k]? = some x) (hk : k < 60) (h1 : ACalls Tryz.prog 10 [encM x.m] [] (.bool true) []) (hkd : ¬ x.kind = 1 ∧ ¬ x.kind = 2 ∧ ¬ x.kind = 3 ∧ ¬ x.kind = 4) (S3 : X.St)
    (ih : ALoop Tryz.prog 0 Tryz.f5.ntmps (loopB Tryz.f5 0) ⟨[(10, .int .i64 (k + 1 : Nat)), (8, .ptr 5 0), (6, .ptr 1 0), (2, .ptr 0 0), (1, .lst 25 (xs.map encAct))], lawB o r s at_⟩ (.exit 0) S3) :
    ALoop Tryz.prog 0 Tryz.f5.ntmps (loopB Tryz.f5 0) ⟨[(10, .int .i64 k), (8, .ptr 5 0), (6, .ptr 1 0), (2, .ptr 0 0), (1, .lst 25 (xs.map encAct))], lawB o r s at_⟩ (.exit 0) S3 := by
  have hk2 : k < xs.length := (List.getElem?_eq_some_iff.1 hx).1
  have hk3 : (xs.map encAct)[k]? = some (encAct x) := by rw [List.getElem?_map, hx]; rfl
  have hw : IntKind.i64.wrap ((k : Int) + 1) = ((k + 1 : Nat) : Int) := wrap64 (by omega)
  have q7 := roverS r s hc
  have q8 := ftoldS r s at_
  have q9 := same7_ac (toldRC r) (toldRC r) (toldRC_ok hc) (toldRC_ok hc)
  rw [sameC_refl] at q9
  refine aloop mixed [0, 1, 2, 4, 5, 6, 7, 8, 9, 10, 11, 12, 13, 14, 15, 16, 17, 18, 19, 20, 21, 22, 27, 63, 81, 92, 94, 95, 102, 115, 122, 133, 170] 1000 ([.go, .n xs.length, .t, .t, .ix k, .el (encAct x), .call [] false true (.bool true) [], .f, .f, .f, .f, .call [1, 2, 3, 4] false false (.tup [encC (toldRC r), .int .i64 (toldRE r), .bool (overR r)]) (rdS r s), .call [5, 6, 7, 8] false false (.tup [encC (toldRC r), .int .i64 (toldRE r), .bool (overR r)]) (rfS r s at_), .call [] false true (.bool true) [], .f, .f, .n ((k + 1 : Nat) : Int), .lp [10, 8, 6, 2, 1] [0, 1, 11, 3, 13, 5, 16, 7, 18] (.exit 0) S3]) (ob := [((List.map encAct xs).length : Int) = (xs.length : Int),
 decide ((↑k : Int) < (xs.length : Int)) = true,
 decide ((↑k : Int) < (60 : Int)) = true,
 k < List.length (List.map encAct xs),
 (↑k : Int) = (↑k : Int),
 (List.map encAct xs)[k]? = some (.agg [.int .i64 x.kind, .int .i64 x.n, .int .i64 x.m.kind, .int .i64 x.m.fr, .int .i64 x.m.fn, .int .i64 x.m.tr, .int .i64 x.m.tn, .int .i64 x.m.id, .int .i64 x.m.of_, .int .u64 x.m.epoch, .int .u64 x.m.addr, .int .i64 x.m.err, .int .i64 x.m.cell.kind, .lst (nat_lit 1) (List.map byteA x.m.cell.data), .lst (nat_lit 3) (List.map encB x.m.cell.backs), .lst (nat_lit 1) (List.map intA x.m.streams), .lst (nat_lit 3) (List.map encB x.m.backs), .int .i64 x.m.br, .int .i64 x.m.bc, .int .i64 x.m.pr, .int .i64 x.m.pc, .int .u64 x.m.lay.epoch, .lst (nat_lit 2) (List.map encS x.m.lay.segs), .int .i64 x.m.lay.seq, .bool x.own]),
 _,
 (x.kind == (1 : Int)) = false,
 (x.kind == (2 : Int)) = false,
 (x.kind == (3 : Int)) = false,
 (x.kind == (4 : Int)) = false,
 _,
 _,
 _,
 (toldRE r != toldRE r) = false,
 (!overR r == overR r) = false,
 IntKind.i64.wrap ((↑k : Int) + (1 : Int)) = (↑(k + (1 : Nat)) : Int),
 _]) (by kernel_rfl) ⟨?z0, ?z1, ?z2, ?z3, ?z4, ?z5, h1, ?z6, ?z7, ?z8, ?z9, q7, q8, q9, ?z10, ?z11, ?z12, ih, trivial⟩
  case z0|z1|z2|z3|z4|z5|z6|z7|z8|z9|z10|z11|z12 => first | exact rfl | (simp [lawA, lawB, celT, celU, celV, celS, celR, celL, celC, setO, refO, rdO, rdS, rfO, rfS, ofR, encAct, hkd, hx, hw] <;> omega) | omega | (first | exact hk3 | exact hw | exact hm1 | exact hm2 | omega)
theorem q1B (o : OfR) (xs : List ActD) (k : Nat) (x : ActD) (r : RdD) (s : SetD) (at_ : Int) (r2 : RdD) (s2 : SetD) (at2 : Int) (hc : r2.cell.ok) (hx : xs[k]? = some x) (hk : k < 60) (h1 : ACalls Tryz.prog 10 [encM x.m] [] (.bool true) []) (hkd : x.kind = 1) (e : Int) (qa : ACalls Tryz.prog 32 [.ptr 0 0] (rdS r s) (.int .i64 e) (rdS r2 s2)) (qb : ACalls Tryz.prog 33 [.ptr 0 0] (rfS r s at_) (.int .i64 e) (rfS r2 s2 at2)) (S3 : X.St)
    (ih : ALoop Tryz.prog 0 Tryz.f5.ntmps (loopB Tryz.f5 0) ⟨[(10, .int .i64 (k + 1 : Nat)), (8, .ptr 5 0), (6, .ptr 1 0), (2, .ptr 0 0), (1, .lst 25 (xs.map encAct))], lawB o r2 s2 at2⟩ (.exit 0) S3) :
    ALoop Tryz.prog 0 Tryz.f5.ntmps (loopB Tryz.f5 0) ⟨[(10, .int .i64 k), (8, .ptr 5 0), (6, .ptr 1 0), (2, .ptr 0 0), (1, .lst 25 (xs.map encAct))], lawB o r s at_⟩ (.exit 0) S3 := by
  have hk2 : k < xs.length := (List.getElem?_eq_some_iff.1 hx).1
  have hk3 : (xs.map encAct)[k]? = some (encAct x) := by rw [List.getElem?_map, hx]; rfl
  have hw : IntKind.i64.wrap ((k : Int) + 1) = ((k + 1 : Nat) : Int) := wrap64 (by omega)
  have q7 := roverS r2 s2 hc
  have q8 := ftoldS r2 s2 at2
  have q9 := same7_ac (toldRC r2) (toldRC r2) (toldRC_ok hc) (toldRC_ok hc)
  rw [sameC_refl] at q9
  refine aloop mixed [0, 1, 2, 4, 5, 6, 7, 8, 9, 10, 11, 12, 13, 14, 15, 16, 17, 18, 19, 20, 21, 22, 27, 63, 81, 92, 94, 95, 102, 115, 122, 133, 170] 1000 ([.go, .n xs.length, .t, .t, .ix k, .el (encAct x), .call [] false true (.bool true) [], .t, .call [1, 2, 3, 4] false false (.int .i64 e) (rdS r2 s2), .call [5, 6, 7, 8] false false (.int .i64 e) (rfS r2 s2 at2), .t, .call [1, 11, 3, 13] false false (.tup [encC (toldRC r2), .int .i64 (toldRE r2), .bool (overR r2)]) (rdS r2 s2), .call [5, 15, 7, 17] false false (.tup [encC (toldRC r2), .int .i64 (toldRE r2), .bool (overR r2)]) (rfS r2 s2 at2), .call [] false true (.bool true) [], .f, .f, .n ((k + 1 : Nat) : Int), .lp [10, 8, 6, 2, 1] [0, 1, 19, 3, 21, 5, 24, 7, 26] (.exit 0) S3]) (ob := [((List.map encAct xs).length : Int) = (xs.length : Int),
 decide ((↑k : Int) < (xs.length : Int)) = true,
 decide ((↑k : Int) < (60 : Int)) = true,
 k < List.length (List.map encAct xs),
 (↑k : Int) = (↑k : Int),
 (List.map encAct xs)[k]? = some (.agg [.int .i64 x.kind, .int .i64 x.n, .int .i64 x.m.kind, .int .i64 x.m.fr, .int .i64 x.m.fn, .int .i64 x.m.tr, .int .i64 x.m.tn, .int .i64 x.m.id, .int .i64 x.m.of_, .int .u64 x.m.epoch, .int .u64 x.m.addr, .int .i64 x.m.err, .int .i64 x.m.cell.kind, .lst (nat_lit 1) (List.map byteA x.m.cell.data), .lst (nat_lit 3) (List.map encB x.m.cell.backs), .lst (nat_lit 1) (List.map intA x.m.streams), .lst (nat_lit 3) (List.map encB x.m.backs), .int .i64 x.m.br, .int .i64 x.m.bc, .int .i64 x.m.pr, .int .i64 x.m.pc, .int .u64 x.m.lay.epoch, .lst (nat_lit 2) (List.map encS x.m.lay.segs), .int .i64 x.m.lay.seq, .bool x.own]),
 _,
 (x.kind == (1 : Int)) = true,
 _,
 _,
 (e == e) = true,
 _,
 _,
 _,
 (toldRE r2 != toldRE r2) = false,
 (!overR r2 == overR r2) = false,
 IntKind.i64.wrap ((↑k : Int) + (1 : Int)) = (↑(k + (1 : Nat)) : Int),
 _]) (by kernel_rfl) ⟨?z0, ?z1, ?z2, ?z3, ?z4, ?z5, h1, ?z6, qa, qb, ?z7, q7, q8, q9, ?z8, ?z9, ?z10, ih, trivial⟩
  case z0|z1|z2|z3|z4|z5|z6|z7|z8|z9|z10 => first | exact rfl | (simp [lawA, lawB, celT, celU, celV, celS, celR, celL, celC, setO, refO, rdO, rdS, rfO, rfS, ofR, encAct, hkd, hx, hw] <;> omega) | omega | (first | exact hk3 | exact hw | exact hm1 | exact hm2 | omega)
theorem q2B (o : OfR) (xs : List ActD) (k : Nat) (x : ActD) (r : RdD) (s : SetD) (at_ : Int) (r2 : RdD) (s2 : SetD) (at2 : Int) (hc : r2.cell.ok) (hx : xs[k]? = some x) (hk : k < 60) (h1 : ACalls Tryz.prog 10 [encM x.m] [] (.bool true) []) (hkd : x.kind = 2) (b : Bool) (qm : ACalls Tryz.prog 34 [encAct x, .agg (ofR o), .ptr 0 0] (rfS r s at_) (encM (msgB o x r s at_)) (rfS r s at_)) (qa : ACalls Tryz.prog 35 [.ptr 0 0, encM (msgB o x r s at_)] (rdS r s) (.bool b) (rdS r2 s2)) (qb : ACalls Tryz.prog 36 [.ptr 0 0, encM (msgB o x r s at_)] (rfS r s at_) (.bool b) (rfS r2 s2 at2)) (S3 : X.St)
    (ih : ALoop Tryz.prog 0 Tryz.f5.ntmps (loopB Tryz.f5 0) ⟨[(10, .int .i64 (k + 1 : Nat)), (8, .ptr 5 0), (6, .ptr 1 0), (2, .ptr 0 0), (1, .lst 25 (xs.map encAct))], lawB o r2 s2 at2⟩ (.exit 0) S3) :
    ALoop Tryz.prog 0 Tryz.f5.ntmps (loopB Tryz.f5 0) ⟨[(10, .int .i64 k), (8, .ptr 5 0), (6, .ptr 1 0), (2, .ptr 0 0), (1, .lst 25 (xs.map encAct))], lawB o r s at_⟩ (.exit 0) S3 := by
  have hk2 : k < xs.length := (List.getElem?_eq_some_iff.1 hx).1
  have hk3 : (xs.map encAct)[k]? = some (encAct x) := by rw [List.getElem?_map, hx]; rfl
  have hw : IntKind.i64.wrap ((k : Int) + 1) = ((k + 1 : Nat) : Int) := wrap64 (by omega)
  have q7 := roverS r2 s2 hc
  have q8 := ftoldS r2 s2 at2
  have q9 := same7_ac (toldRC r2) (toldRC r2) (toldRC_ok hc) (toldRC_ok hc)
  rw [sameC_refl] at q9
  refine aloop mixed [0, 1, 2, 4, 5, 6, 7, 8, 9, 10, 11, 12, 13, 14, 15, 16, 17, 18, 19, 20, 21, 22, 27, 63, 81, 92, 94, 95, 102, 115, 122, 133, 170] 1000 ([.go, .n xs.length, .t, .t, .ix k, .el (encAct x), .call [] false true (.bool true) [], .f, .t, .call [5, 6, 7, 8] false false (encM (msgB o x r s at_)) (rfS r s at_), .call [1, 2, 3, 4] false false (.bool b) (rdS r2 s2), .call [5, 11, 7, 13] false false (.bool b) (rfS r2 s2 at2), .t, .call [1, 16, 3, 18] false false (.tup [encC (toldRC r2), .int .i64 (toldRE r2), .bool (overR r2)]) (rdS r2 s2), .call [5, 20, 7, 22] false false (.tup [encC (toldRC r2), .int .i64 (toldRE r2), .bool (overR r2)]) (rfS r2 s2 at2), .call [] false true (.bool true) [], .f, .f, .n ((k + 1 : Nat) : Int), .lp [10, 8, 6, 2, 1] [0, 1, 24, 3, 26, 5, 29, 7, 31] (.exit 0) S3]) (ob := [((List.map encAct xs).length : Int) = (xs.length : Int),
 decide ((↑k : Int) < (xs.length : Int)) = true,
 decide ((↑k : Int) < (60 : Int)) = true,
 k < List.length (List.map encAct xs),
 (↑k : Int) = (↑k : Int),
 (List.map encAct xs)[k]? = some (.agg [.int .i64 x.kind, .int .i64 x.n, .int .i64 x.m.kind, .int .i64 x.m.fr, .int .i64 x.m.fn, .int .i64 x.m.tr, .int .i64 x.m.tn, .int .i64 x.m.id, .int .i64 x.m.of_, .int .u64 x.m.epoch, .int .u64 x.m.addr, .int .i64 x.m.err, .int .i64 x.m.cell.kind, .lst (nat_lit 1) (List.map byteA x.m.cell.data), .lst (nat_lit 3) (List.map encB x.m.cell.backs), .lst (nat_lit 1) (List.map intA x.m.streams), .lst (nat_lit 3) (List.map encB x.m.backs), .int .i64 x.m.br, .int .i64 x.m.bc, .int .i64 x.m.pr, .int .i64 x.m.pc, .int .u64 x.m.lay.epoch, .lst (nat_lit 2) (List.map encS x.m.lay.segs), .int .i64 x.m.lay.seq, .bool x.own]),
 _,
 (x.kind == (1 : Int)) = false,
 (x.kind == (2 : Int)) = true,
 _,
 _,
 _,
 (b == b) = true,
 _,
 _,
 _,
 (toldRE r2 != toldRE r2) = false,
 (!overR r2 == overR r2) = false,
 IntKind.i64.wrap ((↑k : Int) + (1 : Int)) = (↑(k + (1 : Nat)) : Int),
 _]) (by kernel_rfl) ⟨?z0, ?z1, ?z2, ?z3, ?z4, ?z5, h1, ?z6, ?z7, qm, qa, qb, ?z8, q7, q8, q9, ?z9, ?z10, ?z11, ih, trivial⟩
  case z0|z1|z2|z3|z4|z5|z6|z7|z8|z9|z10|z11 => first | exact rfl | (simp [lawA, lawB, celT, celU, celV, celS, celR, celL, celC, setO, refO, rdO, rdS, rfO, rfS, ofR, encAct, hkd, hx, hw] <;> omega) | omega | (first | exact hk3 | exact hw | exact hm1 | exact hm2 | omega)
theorem q3B (o : OfR) (xs : List ActD) (k : Nat) (x : ActD) (r : RdD) (s : SetD) (at_ : Int) (r2 : RdD) (s2 : SetD) (at2 : Int) (hc : r2.cell.ok) (hx : xs[k]? = some x) (hk : k < 60) (h1 : ACalls Tryz.prog 10 [encM x.m] [] (.bool true) []) (hkd : x.kind = 3) (j : Nat) (hj : (j : Int) = min (max x.n 0) 9) (qa : ALoop Tryz.prog 0 Tryz.f5.ntmps (loopB Tryz.f5 1) ⟨[(15, .int .i64 j), (13, .bool true), (10, .int .i64 k), (8, .ptr 5 0), (6, .ptr 1 0), (2, .ptr 0 0), (1, .lst 25 (xs.map encAct))], lawB o r s at_⟩ (.exit 3) ⟨[(13, .bool true), (10, .int .i64 k), (8, .ptr 5 0), (6, .ptr 1 0), (2, .ptr 0 0), (1, .lst 25 (xs.map encAct))], lawB o r2 s2 at2⟩) (S3 : X.St)
    (ih : ALoop Tryz.prog 0 Tryz.f5.ntmps (loopB Tryz.f5 0) ⟨[(10, .int .i64 (k + 1 : Nat)), (8, .ptr 5 0), (6, .ptr 1 0), (2, .ptr 0 0), (1, .lst 25 (xs.map encAct))], lawB o r2 s2 at2⟩ (.exit 0) S3) :
    ALoop Tryz.prog 0 Tryz.f5.ntmps (loopB Tryz.f5 0) ⟨[(10, .int .i64 k), (8, .ptr 5 0), (6, .ptr 1 0), (2, .ptr 0 0), (1, .lst 25 (xs.map encAct))], lawB o r s at_⟩ (.exit 0) S3 := by
  have hk2 : k < xs.length := (List.getElem?_eq_some_iff.1 hx).1
  have hk3 : (xs.map encAct)[k]? = some (encAct x) := by rw [List.getElem?_map, hx]; rfl
  have hw : IntKind.i64.wrap ((k : Int) + 1) = ((k + 1 : Nat) : Int) := wrap64 (by omega)
  have hm1 : Go.Proofs.YtidgcfgkcidkiaaGreat.L.mx x.n 0 = max x.n 0 := Go.Proofs.YtidgcfgkcidkiaaGreat.L.mx_max x.n 0
  have hm2 : Go.Proofs.YtidgcfgkcidkiaaGreat.L.mn (max x.n 0) 9 = (j : Int) := by rw [Go.Proofs.YtidgcfgkcidkiaaGreat.L.mn_min]; exact hj.symm
  have q7 := roverS r2 s2 hc
  have q8 := ftoldS r2 s2 at2
  have q9 := same7_ac (toldRC r2) (toldRC r2) (toldRC_ok hc) (toldRC_ok hc)
  rw [sameC_refl] at q9
  refine aloop mixed [0, 1, 2, 4, 5, 6, 7, 8, 9, 10, 11, 12, 13, 14, 15, 16, 17, 18, 19, 20, 21, 22, 27, 63, 81, 92, 94, 95, 102, 115, 122, 133, 170] 1000 ([.go, .n xs.length, .t, .t, .ix k, .el (encAct x), .call [] false true (.bool true) [], .f, .f, .t, .n (max x.n 0), .n (j : Int), .lp [15, 13, 10, 8, 6, 2, 1] [0, 1, 2, 3, 4, 5, 6, 7, 8] (.exit 3) ⟨[(13, .bool true), (10, .int .i64 k), (8, .ptr 5 0), (6, .ptr 1 0), (2, .ptr 0 0), (1, .lst 25 (xs.map encAct))], lawB o r2 s2 at2⟩, .call [1, 2, 3, 4] false false (.tup [encC (toldRC r2), .int .i64 (toldRE r2), .bool (overR r2)]) (rdS r2 s2), .call [5, 6, 7, 8] false false (.tup [encC (toldRC r2), .int .i64 (toldRE r2), .bool (overR r2)]) (rfS r2 s2 at2), .call [] false true (.bool true) [], .f, .f, .n ((k + 1 : Nat) : Int), .lp [10, 8, 6, 2, 1] [0, 1, 10, 3, 12, 5, 15, 7, 17] (.exit 0) S3]) (ob := [((List.map encAct xs).length : Int) = (xs.length : Int),
 decide ((↑k : Int) < (xs.length : Int)) = true,
 decide ((↑k : Int) < (60 : Int)) = true,
 k < List.length (List.map encAct xs),
 (↑k : Int) = (↑k : Int),
 (List.map encAct xs)[k]? = some (.agg [.int .i64 x.kind, .int .i64 x.n, .int .i64 x.m.kind, .int .i64 x.m.fr, .int .i64 x.m.fn, .int .i64 x.m.tr, .int .i64 x.m.tn, .int .i64 x.m.id, .int .i64 x.m.of_, .int .u64 x.m.epoch, .int .u64 x.m.addr, .int .i64 x.m.err, .int .i64 x.m.cell.kind, .lst (nat_lit 1) (List.map byteA x.m.cell.data), .lst (nat_lit 3) (List.map encB x.m.cell.backs), .lst (nat_lit 1) (List.map intA x.m.streams), .lst (nat_lit 3) (List.map encB x.m.backs), .int .i64 x.m.br, .int .i64 x.m.bc, .int .i64 x.m.pr, .int .i64 x.m.pc, .int .u64 x.m.lay.epoch, .lst (nat_lit 2) (List.map encS x.m.lay.segs), .int .i64 x.m.lay.seq, .bool x.own]),
 _,
 (x.kind == (1 : Int)) = false,
 (x.kind == (2 : Int)) = false,
 (x.kind == (3 : Int)) = true,
 mx x.n (0 : Int) = max x.n (0 : Int),
 mn (max x.n (0 : Int)) (9 : Int) = (↑j : Int),
 _,
 _,
 _,
 _,
 (toldRE r2 != toldRE r2) = false,
 (!overR r2 == overR r2) = false,
 IntKind.i64.wrap ((↑k : Int) + (1 : Int)) = (↑(k + (1 : Nat)) : Int),
 _]) (by kernel_rfl) ⟨?z0, ?z1, ?z2, ?z3, ?z4, ?z5, h1, ?z6, ?z7, ?z8, ?z9, ?z10, qa, q7, q8, q9, ?z11, ?z12, ?z13, ih, trivial⟩
  case z0|z1|z2|z3|z4|z5|z6|z7|z8|z9|z10|z11|z12|z13 => first | exact rfl | (simp [lawA, lawB, celT, celU, celV, celS, celR, celL, celC, setO, refO, rdO, rdS, rfO, rfS, ofR, encAct, hkd, hx, hw] <;> omega) | omega | (first | exact hk3 | exact hw | exact hm1 | exact hm2 | omega)
theorem q4B (o : OfR) (xs : List ActD) (k : Nat) (x : ActD) (r : RdD) (s : SetD) (at_ : Int) (r2 : RdD) (s2 : SetD) (at2 : Int) (hc : r2.cell.ok) (hx : xs[k]? = some x) (hk : k < 60) (h1 : ACalls Tryz.prog 10 [encM x.m] [] (.bool true) []) (hkd : x.kind = 4) (qa : ACalls Tryz.prog 39 [.ptr 0 0] (rdS r s) (.row 4 22 (r.out ++ s.out).length) (rdS r2 s2 ++ [.row 50 22 (r.out ++ s.out)])) (qb : ACalls Tryz.prog 40 [.ptr 0 0] (rfS r s at_) (.row 4 22 (r.out ++ s.out).length) (rfS r2 s2 at2 ++ [.row 50 22 (r.out ++ s.out)])) (qc : ACalls Tryz.prog 18 [.lst 22 (r.out ++ s.out), .lst 22 (r.out ++ s.out)] [] (.bool true) []) (S3 : X.St)
    (ih : ALoop Tryz.prog 0 Tryz.f5.ntmps (loopB Tryz.f5 0) ⟨[(10, .int .i64 (k + 1 : Nat)), (8, .ptr 5 0), (6, .ptr 1 0), (2, .ptr 0 0), (1, .lst 25 (xs.map encAct))], lawB o r2 s2 at2⟩ (.exit 0) S3) :
    ALoop Tryz.prog 0 Tryz.f5.ntmps (loopB Tryz.f5 0) ⟨[(10, .int .i64 k), (8, .ptr 5 0), (6, .ptr 1 0), (2, .ptr 0 0), (1, .lst 25 (xs.map encAct))], lawB o r s at_⟩ (.exit 0) S3 := by
  have hk2 : k < xs.length := (List.getElem?_eq_some_iff.1 hx).1
  have hk3 : (xs.map encAct)[k]? = some (encAct x) := by rw [List.getElem?_map, hx]; rfl
  have hw : IntKind.i64.wrap ((k : Int) + 1) = ((k + 1 : Nat) : Int) := wrap64 (by omega)
  have q7 := roverS r2 s2 hc
  have q8 := ftoldS r2 s2 at2
  have q9 := same7_ac (toldRC r2) (toldRC r2) (toldRC_ok hc) (toldRC_ok hc)
  rw [sameC_refl] at q9
  refine aloop mixed [0, 1, 2, 4, 5, 6, 7, 8, 9, 10, 11, 12, 13, 14, 15, 16, 17, 18, 19, 20, 21, 22, 27, 63, 81, 92, 94, 95, 102, 115, 122, 133, 170] 1000 ([.go, .n xs.length, .t, .t, .ix k, .el (encAct x), .call [] false true (.bool true) [], .f, .f, .f, .t, .call [1, 2, 3, 4] false false (.row 4 22 (r.out ++ s.out).length) (rdS r2 s2 ++ [.row 50 22 (r.out ++ s.out)]), .call [5, 6, 7, 8] false false (.row 4 22 (r.out ++ s.out).length) (rfS r2 s2 at2 ++ [.row 50 22 (r.out ++ s.out)]), .call [] false true (.bool true) [], .call [1, 11, 3, 13] false false (.tup [encC (toldRC r2), .int .i64 (toldRE r2), .bool (overR r2)]) (rdS r2 s2), .call [5, 16, 7, 18] false false (.tup [encC (toldRC r2), .int .i64 (toldRE r2), .bool (overR r2)]) (rfS r2 s2 at2), .call [] false true (.bool true) [], .f, .f, .n ((k + 1 : Nat) : Int), .lp [10, 8, 6, 2, 1] [0, 1, 21, 3, 23, 5, 26, 7, 28] (.exit 0) S3]) (ob := [((List.map encAct xs).length : Int) = (xs.length : Int),
 decide ((↑k : Int) < (xs.length : Int)) = true,
 decide ((↑k : Int) < (60 : Int)) = true,
 k < List.length (List.map encAct xs),
 (↑k : Int) = (↑k : Int),
 (List.map encAct xs)[k]? = some (.agg [.int .i64 x.kind, .int .i64 x.n, .int .i64 x.m.kind, .int .i64 x.m.fr, .int .i64 x.m.fn, .int .i64 x.m.tr, .int .i64 x.m.tn, .int .i64 x.m.id, .int .i64 x.m.of_, .int .u64 x.m.epoch, .int .u64 x.m.addr, .int .i64 x.m.err, .int .i64 x.m.cell.kind, .lst (nat_lit 1) (List.map byteA x.m.cell.data), .lst (nat_lit 3) (List.map encB x.m.cell.backs), .lst (nat_lit 1) (List.map intA x.m.streams), .lst (nat_lit 3) (List.map encB x.m.backs), .int .i64 x.m.br, .int .i64 x.m.bc, .int .i64 x.m.pr, .int .i64 x.m.pc, .int .u64 x.m.lay.epoch, .lst (nat_lit 2) (List.map encS x.m.lay.segs), .int .i64 x.m.lay.seq, .bool x.own]),
 _,
 (x.kind == (1 : Int)) = false,
 (x.kind == (2 : Int)) = false,
 (x.kind == (3 : Int)) = false,
 (x.kind == (4 : Int)) = true,
 _,
 _,
 _,
 _,
 _,
 _,
 (toldRE r2 != toldRE r2) = false,
 (!overR r2 == overR r2) = false,
 IntKind.i64.wrap ((↑k : Int) + (1 : Int)) = (↑(k + (1 : Nat)) : Int),
 _]) (by kernel_rfl) ⟨?z0, ?z1, ?z2, ?z3, ?z4, ?z5, h1, ?z6, ?z7, ?z8, ?z9, qa, qb, qc, q7, q8, q9, ?z10, ?z11, ?z12, ih, trivial⟩
  case z0|z1|z2|z3|z4|z5|z6|z7|z8|z9|z10|z11|z12 => first | exact rfl | (simp [lawA, lawB, celT, celU, celV, celS, celR, celL, celC, setO, refO, rdO, rdS, rfO, rfS, ofR, encAct, hkd, hx, hw] <;> omega) | omega | (first | exact hk3 | exact hw | exact hm1 | exact hm2 | omega)
theorem qnB (o : OfR) (xs : List ActD) (k : Nat) (x : ActD) (r : RdD) (s : SetD) (at_ : Int) (hc : r.cell.ok) (hx : xs[k]? = some x) (hk : k < 60) (h1 : ACalls Tryz.prog 10 [encM x.m] [] (.bool false) []) (S3 : X.St)
    (ih : ALoop Tryz.prog 0 Tryz.f5.ntmps (loopB Tryz.f5 0) ⟨[(10, .int .i64 (k + 1 : Nat)), (8, .ptr 5 0), (6, .ptr 1 0), (2, .ptr 0 0), (1, .lst 25 (xs.map encAct))], lawB o r s at_⟩ (.exit 0) S3) :
    ALoop Tryz.prog 0 Tryz.f5.ntmps (loopB Tryz.f5 0) ⟨[(10, .int .i64 k), (8, .ptr 5 0), (6, .ptr 1 0), (2, .ptr 0 0), (1, .lst 25 (xs.map encAct))], lawB o r s at_⟩ (.exit 0) S3 := by
  have hk2 : k < xs.length := (List.getElem?_eq_some_iff.1 hx).1
  have hk3 : (xs.map encAct)[k]? = some (encAct x) := by rw [List.getElem?_map, hx]; rfl
  have hw : IntKind.i64.wrap ((k : Int) + 1) = ((k + 1 : Nat) : Int) := wrap64 (by omega)
  refine aloop mixed [0, 1, 2, 4, 5, 6, 7, 8, 9, 10, 11, 12, 13, 14, 15, 16, 17, 18, 19, 20, 21, 22, 27, 63, 81, 92, 94, 95, 102, 115, 122, 133, 170] 1000 ([.go, .n xs.length, .t, .t, .ix k, .el (encAct x), .call [] false true (.bool false) [], .n ((k + 1 : Nat) : Int), .lp [10, 8, 6, 2, 1] [0, 1, 2, 3, 4, 5, 6, 7, 8] (.exit 0) S3]) (ob := [((List.map encAct xs).length : Int) = (xs.length : Int),
 decide ((↑k : Int) < (xs.length : Int)) = true,
 decide ((↑k : Int) < (60 : Int)) = true,
 k < List.length (List.map encAct xs),
 (↑k : Int) = (↑k : Int),
 (List.map encAct xs)[k]? = some (.agg [.int .i64 x.kind, .int .i64 x.n, .int .i64 x.m.kind, .int .i64 x.m.fr, .int .i64 x.m.fn, .int .i64 x.m.tr, .int .i64 x.m.tn, .int .i64 x.m.id, .int .i64 x.m.of_, .int .u64 x.m.epoch, .int .u64 x.m.addr, .int .i64 x.m.err, .int .i64 x.m.cell.kind, .lst (nat_lit 1) (List.map byteA x.m.cell.data), .lst (nat_lit 3) (List.map encB x.m.cell.backs), .lst (nat_lit 1) (List.map intA x.m.streams), .lst (nat_lit 3) (List.map encB x.m.backs), .int .i64 x.m.br, .int .i64 x.m.bc, .int .i64 x.m.pr, .int .i64 x.m.pc, .int .u64 x.m.lay.epoch, .lst (nat_lit 2) (List.map encS x.m.lay.segs), .int .i64 x.m.lay.seq, .bool x.own]),
 _,
 IntKind.i64.wrap ((↑k : Int) + (1 : Int)) = (↑(k + (1 : Nat)) : Int),
 _]) (by kernel_rfl) ⟨?z0, ?z1, ?z2, ?z3, ?z4, ?z5, h1, ?z6, ih, trivial⟩
  case z0|z1|z2|z3|z4|z5|z6 => first | exact rfl | (simp [lawA, lawB, celT, celU, celV, celS, celR, celL, celC, setO, refO, rdO, rdS, rfO, rfS, ofR, encAct, hx, hw] <;> omega) | omega | (first | exact hk3 | exact hw | exact hm1 | exact hm2 | omega)
theorem qendB (o : OfR) (xs : List ActD) (k : Nat) (r : RdD) (s : SetD) (at_ : Int) (h : xs.length ≤ k ∨ 60 ≤ k) : ALoop Tryz.prog 0 Tryz.f5.ntmps (loopB Tryz.f5 0) ⟨[(10, .int .i64 k), (8, .ptr 5 0), (6, .ptr 1 0), (2, .ptr 0 0), (1, .lst 25 (xs.map encAct))], lawB o r s at_⟩ (.exit 0) ⟨[(8, .ptr 4 0), (6, .ptr 0 0)], ended17B r s at_⟩ := by
  by_cases h1 : xs.length ≤ k
  · refine aloopK mixed [0, 1, 2, 4, 5, 6, 7, 8, 9, 10, 11, 12, 13, 14, 15, 16, 17, 18, 19, 20, 21, 22, 27, 63, 81, 92, 94, 95, 102, 115, 122, 133, 170] 1000 ([.go, .n xs.length, .f]) [8, 6] [1, 2, 3, 4, 5, 6, 7, 8] (ob := [((List.map encAct xs).length : Int) = (xs.length : Int),
 decide ((↑k : Int) < (xs.length : Int)) = false]) (by kernel_rfl) rfl ⟨?z0, ?z1, trivial⟩
    case z0|z1 => first | exact rfl | (simp [lawA, lawB, celT, celU, celV, celS, celR, celL, celC, setO, refO, rdO, rdS, rfO, rfS, ofR, encAct, ended17B] <;> omega) | omega
  · have h2 : 60 ≤ k := by omega
    refine aloopK mixed [0, 1, 2, 4, 5, 6, 7, 8, 9, 10, 11, 12, 13, 14, 15, 16, 17, 18, 19, 20, 21, 22, 27, 63, 81, 92, 94, 95, 102, 115, 122, 133, 170] 1000 ([.go, .n xs.length, .t, .f]) [8, 6] [1, 2, 3, 4, 5, 6, 7, 8] (ob := [((List.map encAct xs).length : Int) = (xs.length : Int),
 decide ((↑k : Int) < (xs.length : Int)) = true,
 decide ((↑k : Int) < (60 : Int)) = false]) (by kernel_rfl) rfl ⟨?z2, ?z3, ?z4, trivial⟩
    case z2|z3|z4 => first | exact rfl | (simp [lawA, lawB, celT, celU, celV, celS, celR, celL, celC, setO, refO, rdO, rdS, rfO, rfS, ofR, encAct, ended17B] <;> omega) | omega
theorem tick1B (o : OfR) (xs : List ActD) (k : Nat) (n : Nat) (r : RdD) (s : SetD) (at_ : Int) (r2 : RdD) (s2 : SetD) (at2 : Int) (S3 : X.St) (hn : n ≤ 9) (q1 : ACalls Tryz.prog 37 [.ptr 0 0] (rdS r s) (.int .i64 0) (rdS r2 s2)) (q2 : ACalls Tryz.prog 38 [.ptr 0 0] (rfS r s at_) (.int .i64 0) (rfS r2 s2 at2))
    (ih : ALoop Tryz.prog 0 Tryz.f5.ntmps (loopB Tryz.f5 1) ⟨[(15, .int .i64 n), (13, .bool true), (10, .int .i64 k), (8, .ptr 5 0), (6, .ptr 1 0), (2, .ptr 0 0), (1, .lst 25 (xs.map encAct))], lawB o r2 s2 at2⟩ (.exit 3) S3) :
    ALoop Tryz.prog 0 Tryz.f5.ntmps (loopB Tryz.f5 1) ⟨[(15, .int .i64 ((n + 1 : Nat) : Int)), (13, .bool true), (10, .int .i64 k), (8, .ptr 5 0), (6, .ptr 1 0), (2, .ptr 0 0), (1, .lst 25 (xs.map encAct))], lawB o r s at_⟩ (.exit 3) S3 := by
  have hw : IntKind.i64.wrap (((n + 1 : Nat) : Int) - 1) = (n : Int) := wrap_pred (by omega)
  refine aloop mixed [0, 1, 2, 4, 5, 6, 7, 8, 9, 10, 11, 12, 13, 14, 15, 16, 17, 18, 19, 20, 21, 22, 27, 63, 81, 92, 94, 95, 102, 115, 122, 133, 170] 1000 ([.go, .t, .call [1, 2, 3, 4] false false (.int .i64 0) (rdS r2 s2), .call [5, 6, 7, 8] false false (.int .i64 0) (rfS r2 s2 at2), .t, .n (n : Int), .lp [15, 13, 10, 8, 6, 2, 1] [0, 1, 10, 3, 12, 5, 14, 7, 16] (.exit 3) S3]) (ob := [decide ((↑(n + (1 : Nat)) : Int) > (0 : Int)) = true,
 _,
 _,
 ((0 : Int) == (0 : Int)) = true,
 IntKind.i64.wrap ((↑(n + (1 : Nat)) : Int) - (1 : Int)) = (↑n : Int),
 _]) (by kernel_rfl) ⟨?z0, q1, q2, ?z1, ?z2, ih, trivial⟩
  case z0|z1|z2 => first | exact rfl | (simp [lawA, lawB, celT, celU, celV, celS, celR, celL, celC, setO, refO, rdO, rdS, rfO, rfS, ofR, encAct] <;> omega) | omega | (first | exact hw | omega)
theorem tick0B (o : OfR) (xs : List ActD) (k : Nat) (r : RdD) (s : SetD) (at_ : Int) : ALoop Tryz.prog 0 Tryz.f5.ntmps (loopB Tryz.f5 1) ⟨[(15, .int .i64 0), (13, .bool true), (10, .int .i64 k), (8, .ptr 5 0), (6, .ptr 1 0), (2, .ptr 0 0), (1, .lst 25 (xs.map encAct))], lawB o r s at_⟩ (.exit 3) ⟨[(13, .bool true), (10, .int .i64 k), (8, .ptr 5 0), (6, .ptr 1 0), (2, .ptr 0 0), (1, .lst 25 (xs.map encAct))], lawB o r s at_⟩ := by
  refine aloopK mixed [0, 1, 2, 4, 5, 6, 7, 8, 9, 10, 11, 12, 13, 14, 15, 16, 17, 18, 19, 20, 21, 22, 27, 63, 81, 92, 94, 95, 102, 115, 122, 133, 170] 1000 ([.go, .f]) [13, 10, 8, 6, 2, 1] [0, 1, 2, 3, 4, 5, 6, 7, 8] (ob := [decide ((0 : Int) > (0 : Int)) = false]) (by kernel_rfl) rfl ⟨(by first | exact rfl | (simp [lawA, lawB, celT, celU, celV, celS, celR, celL, celC, setO, refO, rdO, rdS, rfO, rfS, ofR, encAct]; done) | (simp [lawA, lawB, celT, celU, celV, celS, celR, celL, celC, setO, refO, rdO, rdS, rfO, rfS, ofR, encAct]; omega) | omega), trivial⟩
end Go.Proofs.YtidgcfgkcidkiaaGreat.Ch
namespace Go.Proofs.YtidgcfgkcidkiaaGreat.Ch
open Go Go.RowKit Go.Proofs.YtidgcfgkcidkiaaGreat.L Go.Proofs.YtidgcfgkcidkiaaGreat.X
set_option linter.unusedVariables false
set_option linter.unusedSimpArgs false
structure RdD.inv (r : RdD) (B : Nat) : Prop where
  fit : r.fit
  seg : ∀ s ∈ r.lay.segs, s.chains.length ≤ 1000000000
  cell : r.cell.ok
  out : r.out.length ≤ B
  msgs : Msgs r.out
theorem RdD.inv.mono {r : RdD} {B C : Nat} (h : r.inv B) (hBC : B ≤ C) : r.inv C := ⟨h.fit, h.seg, h.cell, Nat.le_trans h.out hBC, h.msgs⟩
structure InvA (r : RdD) (B : Nat) : Prop where
  i : r.inv B
  t0 : 0 ≤ r.ticks
  t1 : r.ticks ≤ 6
  t2 : r.at_ = 1 → r.ticks < 6
  k0 : 0 ≤ r.asked
  k1 : r.asked ≤ 5
  s0 : r.at_ = 0 → r.asked = 0
  at_ : r.at_ = 0 ∨ r.at_ = 1 ∨ r.at_ = 3
structure InvB (r : RdD) (s : SetD) (at_ : Int) (B : Nat) : Prop where
  i : r.inv B
  at23 : r.at_ = 2 ∨ r.at_ = 3
  sv : Inv s B
  av : At s at_
  st : s.started = true
theorem InvA.mono {r : RdD} {B C : Nat} (h : InvA r B) (hBC : B ≤ C) : InvA r C := ⟨h.i.mono hBC, h.t0, h.t1, h.t2, h.k0, h.k1, h.s0, h.at_⟩
theorem InvB.mono {r : RdD} {s : SetD} {at_ : Int} {B C : Nat} (h : InvB r s at_ B) (hBC : B ≤ C) : InvB r s at_ C := ⟨h.i.mono hBC, h.at23, h.sv.mono hBC, h.av, h.st⟩
theorem InvA.ok {r : RdD} {B : Nat} (h : InvA r B) (hB : B ≤ 900) : r.ok := ⟨h.i.cell, Nat.le_trans h.i.out hB, h.t0, h.t1, h.k0, h.k1⟩
theorem msgs_add {xs : List AV} (h : Msgs xs) (r : RdD) : Msgs (xs ++ [rdM r]) := h.app fun x hx => .inr ⟨r, by simpa using hx⟩
theorem inv_ask {r : RdD} {B : Nat} (h : r.inv B) (a t k : Int) : (askR { r with at_ := a, ticks := t, asked := k }).inv (B + 1) :=
  ⟨⟨⟨h.fit.ask.cl0, h.fit.ask.cl1, h.fit.ask.id0, h.fit.ask.id1, h.fit.ask.lay, h.fit.ask.at_⟩, h.fit.lay, h.fit.a0⟩, h.seg, h.cell, by show (r.out ++ [_]).length ≤ B + 1; rw [List.length_append]; exact Nat.add_le_add_right h.out 1, msgs_add h.msgs _⟩
theorem inv_end {r : RdD} {B : Nat} (h : r.inv B) {c : CellD} (hc : c.ok) (e t : Int) : (endR { r with ticks := t } c e).inv B :=
  ⟨⟨⟨h.fit.ask.cl0, h.fit.ask.cl1, h.fit.ask.id0, h.fit.ask.id1, h.fit.ask.lay, h.fit.ask.at_⟩, h.fit.lay, h.fit.a0⟩, h.seg, hc, h.out, h.msgs⟩
theorem InvA.start {r : RdD} {B : Nat} (h : InvA r B) (h0 : r.at_ = 0) : InvA (startR r) (B + 1) :=
  ⟨inv_ask h.i 1 r.ticks r.asked, Int.le_refl 0, by show (0 : Int) ≤ 6; decide, fun _ => by show (0 : Int) < 6; decide, by show 0 ≤ r.asked + 1; have := h.k0; omega, by show r.asked + 1 ≤ 5; rw [h.s0 h0]; decide, fun hq => (by cases hq), .inr (.inl rfl)⟩
theorem InvA.end_ {r : RdD} {B : Nat} (h : InvA r B) {c : CellD} (hc : c.ok) (e : Int) : InvA (endR r c e) B :=
  ⟨inv_end h.i hc e r.ticks, h.t0, h.t1, fun hq => (by cases hq), h.k0, h.k1, fun hq => (by cases hq), .inr (.inr rfl)⟩
theorem InvA.heard {r : RdD} {B : Nat} (h : InvA r B) {m : MsgD} (hm : m.ok) : InvA (heardR r m) B := by
  unfold heardR
  split
  · exact h.end_ cell0_ok _
  · split
    · exact h.end_ cell0_ok _
    · exact h.end_ hm.cell _
theorem InvA.tick {r : RdD} {B : Nat} (h : InvA r B) : InvA (tickR r) (B + 1) := by
  have t0 := h.t0
  have k0 := h.k0
  unfold tickR
  split
  · exact h.mono (Nat.le_succ B)
  · rename_i h1
    have h1 : r.at_ = 1 := Classical.not_not.1 h1
    have t2 := h.t2 h1
    split
    · rename_i h2
      exact ⟨⟨⟨⟨h.i.fit.ask.cl0, h.i.fit.ask.cl1, h.i.fit.ask.id0, h.i.fit.ask.id1, h.i.fit.ask.lay, h.i.fit.ask.at_⟩, h.i.fit.lay, h.i.fit.a0⟩, h.i.seg, h.i.cell, Nat.le_succ_of_le h.i.out, h.i.msgs⟩, by show 0 ≤ r.ticks + 1; omega, by show r.ticks + 1 ≤ 6; omega, fun _ => h2, h.k0, h.k1, h.s0, h.at_⟩
    · split
      · exact ⟨(inv_end h.i cell0_ok 162 (r.ticks + 1)).mono (Nat.le_succ B), by show 0 ≤ r.ticks + 1; omega, by show r.ticks + 1 ≤ 6; omega, fun hq => (by cases hq), h.k0, h.k1, fun hq => (by cases hq), .inr (.inr rfl)⟩
      · rename_i h3
        exact ⟨inv_ask h.i r.at_ (r.ticks + 1) r.asked, Int.le_refl 0, by show (0 : Int) ≤ 6; decide, fun _ => by show (0 : Int) < 6; decide, by show 0 ≤ r.asked + 1; omega, by show r.asked + 1 ≤ 5; omega, fun hq => (by rw [show (askR { r with ticks := r.ticks + 1 }).at_ = r.at_ from rfl, h1] at hq; cases hq), .inr (.inl h1)⟩
theorem InvA.empt {r : RdD} {B : Nat} (h : InvA r B) : InvA (emptR r) B :=
  ⟨⟨⟨⟨h.i.fit.ask.cl0, h.i.fit.ask.cl1, h.i.fit.ask.id0, h.i.fit.ask.id1, h.i.fit.ask.lay, h.i.fit.ask.at_⟩, h.i.fit.lay, h.i.fit.a0⟩, h.i.seg, h.i.cell, Nat.zero_le _, fun x hx => (by cases hx)⟩, h.t0, h.t1, h.t2, h.k0, h.k1, h.s0, h.at_⟩
theorem InvA.settle {r : RdD} {B : Nat} (h : InvA r B) (hB : B + 1 ≤ 900) {u : List Int} (hU : Units u) (v : Int) : InvB (settleR r) (setlS r u v) 0 (B + 1) := by
  have hp := hU.pos
  have hm := hU.most
  have hi : Inv (fresh r.client r.id r.lay r.a cellJ u) B := ⟨⟨⟨fun n hn => (by cases hn), by simp [fresh, cellJ], by simp [fresh, cellJ]⟩, hm, .inl hp, Nat.zero_le _, Int.le_refl 0, .inl (by show (0 : Int) < 6; omega), Int.le_refl 0, (by show (0 : Int) ≤ 5; omega)⟩, Nat.zero_le _, fun x hx => (by cases hx), fun _ => ⟨rfl, rfl, rfl⟩⟩
  exact ⟨⟨⟨⟨h.i.fit.ask.cl0, h.i.fit.ask.cl1, h.i.fit.ask.id0, h.i.fit.ask.id1, h.i.fit.ask.lay, h.i.fit.ask.at_⟩, h.i.fit.lay, h.i.fit.a0⟩, h.i.seg, h.i.cell, Nat.le_succ_of_le h.i.out, h.i.msgs⟩, .inl rfl, hi.start hB rfl v, At.start hi rfl v, rfl⟩
theorem InvB.settled {r : RdD} {s s' : SetD} {at_ at2 : Int} {B : Nat} (h : InvB r s at_ B) (h2 : r.at_ = 2) (hs : Inv s' (B + 1)) (ha : At s' at2) (hst : s'.started = true) : InvB (settledR r s') s' at2 (B + 1) := by
  unfold settledR
  split
  · exact ⟨(inv_end h.i hs.ok.cell s'.e r.ticks).mono (Nat.le_succ B), .inr rfl, hs, ha, hst⟩
  · exact ⟨h.i.mono (Nat.le_succ B), .inl h2, hs, ha, hst⟩
def tickZ (r : RdD) (s : SetD) : RdD × SetD := if r.at_ = 2 then (settledR r (tickS s (unitAt s)), tickS s (unitAt s)) else (r, s)
theorem InvB.tick {r : RdD} {s : SetD} {at_ : Int} {B : Nat} (h : InvB r s at_ B) (hB : B + 1 ≤ 900) : InvB (tickZ r s).1 (tickZ r s).2 at_ (B + 1) := by
  unfold tickZ
  split
  · rename_i h2
    have hi := h.sv.tick hB (unitAt s)
    exact h.settled h2 hi.1 (h.av.tick h.sv hB) (by rw [hi.2.1]; exact h.st)
  · exact h.mono (Nat.le_succ B)
theorem InvB.empt {r : RdD} {s : SetD} {at_ : Int} {B : Nat} (h : InvB r s at_ B) : InvB (emptR r) (emptied s) at_ B :=
  ⟨⟨⟨⟨h.i.fit.ask.cl0, h.i.fit.ask.cl1, h.i.fit.ask.id0, h.i.fit.ask.id1, h.i.fit.ask.lay, h.i.fit.ask.at_⟩, h.i.fit.lay, h.i.fit.a0⟩, h.i.seg, h.i.cell, Nat.zero_le _, fun x hx => (by cases hx)⟩, h.at23, h.sv.emptied, ⟨h.av.no, h.av.yes, h.av.eq⟩, h.st⟩
def ticksA : RdD → Nat → RdD
  | r, 0 => r
  | r, n + 1 => ticksA (tickR r) n
theorem ticksA_inv : ∀ (n : Nat) {r : RdD} {B : Nat}, InvA r B → InvA (ticksA r n) (B + n)
  | 0, r, B, h => h
  | n + 1, r, B, h => by
    have := ticksA_inv n h.tick
    rw [show B + 1 + n = B + (n + 1) by omega] at this
    exact this
theorem tick_loopA (o : OfR) (xs : List ActD) (k : Nat) : ∀ (n : Nat) (r : RdD) (B : Nat), n ≤ 9 → InvA r B → B + n ≤ 900 →
    ALoop Tryz.prog 0 Tryz.f5.ntmps (loopB Tryz.f5 1) ⟨[(15, .int .i64 n), (13, .bool true), (10, .int .i64 k), (8, .ptr 3 0), (6, .ptr 1 0), (2, .ptr 0 0), (1, .lst 25 (xs.map encAct))], lawA o r⟩ (.exit 3) ⟨[(13, .bool true), (10, .int .i64 k), (8, .ptr 3 0), (6, .ptr 1 0), (2, .ptr 0 0), (1, .lst 25 (xs.map encAct))], lawA o (ticksA r n)⟩
  | 0, r, B, hn, h, hb => tick0A o xs k r
  | n + 1, r, B, hn, h, hb => by
    have h2 : ¬ r.at_ = 2 := by rcases h.at_ with h | h | h <;> omega
    exact tick1A o xs k n r (tickR r) _ (by omega) (rtick r (h.ok (by omega)) h2) (ftick r (h.ok (by omega)) h2) (tick_loopA o xs k n (tickR r) (B + 1) (by omega) h.tick (by omega))
def ticksB : RdD → SetD → Nat → RdD × SetD
  | r, s, 0 => (r, s)
  | r, s, n + 1 => ticksB (tickZ r s).1 (tickZ r s).2 n
theorem ticksB_inv : ∀ (n : Nat) {r : RdD} {s : SetD} {at_ : Int} {B : Nat}, InvB r s at_ B → B + n ≤ 900 → InvB (ticksB r s n).1 (ticksB r s n).2 at_ (B + n)
  | 0, r, s, at_, B, h, _ => h
  | n + 1, r, s, at_, B, h, hb => by
    have := ticksB_inv n (h.tick (by omega)) (by omega)
    rw [show B + 1 + n = B + (n + 1) by omega] at this
    exact this
theorem tickZ_own {r : RdD} {s : SetD} {at_ : Int} {B : Nat} (h : InvB r s at_ B) (hB : B + 1 ≤ 900) : ACalls Tryz.prog 37 [.ptr 0 0] (rdS r s) (.int .i64 0) (rdS (tickZ r s).1 (tickZ r s).2) := by
  unfold tickZ
  by_cases h2 : r.at_ = 2
  · rw [if_pos h2]
    exact rtickS r s _ h2 (h.sv.tick hB (unitAt s)).1.ok (tickE s h.sv.ok (unitAt_of h.sv.ok))
  · rw [if_neg h2]
    exact rtickS_no r s h2 (by rcases h.at23 with h | h <;> omega)
theorem tickZ_ref {r : RdD} {s : SetD} {at_ : Int} {B : Nat} (h : InvB r s at_ B) : ACalls Tryz.prog 38 [.ptr 0 0] (rfS r s at_) (.int .i64 0) (rfS (tickZ r s).1 (tickZ r s).2 at_) := by
  unfold tickZ
  by_cases h2 : r.at_ = 2
  · rw [if_pos h2]
    exact ftickS r s _ at_ at_ h2 (rTick s at_ h.sv.ok h.av (unitAt_of h.sv.ok))
  · rw [if_neg h2]
    exact ftickS_no r s at_ h2 (by rcases h.at23 with h | h <;> omega)
theorem tick_loopB (o : OfR) (xs : List ActD) (k : Nat) : ∀ (n : Nat) (r : RdD) (s : SetD) (at_ : Int) (B : Nat), n ≤ 9 → InvB r s at_ B → B + n ≤ 900 →
    ALoop Tryz.prog 0 Tryz.f5.ntmps (loopB Tryz.f5 1) ⟨[(15, .int .i64 n), (13, .bool true), (10, .int .i64 k), (8, .ptr 5 0), (6, .ptr 1 0), (2, .ptr 0 0), (1, .lst 25 (xs.map encAct))], lawB o r s at_⟩ (.exit 3) ⟨[(13, .bool true), (10, .int .i64 k), (8, .ptr 5 0), (6, .ptr 1 0), (2, .ptr 0 0), (1, .lst 25 (xs.map encAct))], lawB o (ticksB r s n).1 (ticksB r s n).2 at_⟩
  | 0, r, s, at_, B, hn, h, hb => tick0B o xs k r s at_
  | n + 1, r, s, at_, B, hn, h, hb =>
    tick1B o xs k n r s at_ (tickZ r s).1 (tickZ r s).2 at_ _ (by omega) (tickZ_own h (by omega)) (tickZ_ref h) (tick_loopB o xs k n (tickZ r s).1 (tickZ r s).2 at_ (B + 1) (by omega) (h.tick (by omega)) (by omega))
inductive LawZ where
  | A (r : RdD)
  | B (r : RdD) (s : SetD) (at_ : Int)
def LawZ.st (o : OfR) (xs : List ActD) (k : Nat) : LawZ → X.St
  | .A r => ⟨[(10, .int .i64 k), (8, .ptr 3 0), (6, .ptr 1 0), (2, .ptr 0 0), (1, .lst 25 (xs.map encAct))], lawA o r⟩
  | .B r s at_ => ⟨[(10, .int .i64 k), (8, .ptr 5 0), (6, .ptr 1 0), (2, .ptr 0 0), (1, .lst 25 (xs.map encAct))], lawB o r s at_⟩
def LawZ.ex : LawZ → X.St
  | .A r => ⟨[(8, .ptr 2 0), (6, .ptr 0 0)], ended17A r⟩
  | .B r s at_ => ⟨[(8, .ptr 4 0), (6, .ptr 0 0)], ended17B r s at_⟩
def LawZ.inv : LawZ → Nat → Prop
  | .A r, n => InvA r n
  | .B r s at_, n => InvB r s at_ n
theorem lawZ_mono {z : LawZ} {n m : Nat} (h : z.inv n) (hnm : n ≤ m) : z.inv m := by
  cases z with
  | A r => exact InvA.mono h hnm
  | B r s at_ => exact InvB.mono h hnm
theorem loop17 (o : OfR) (xs : List ActD) (hxs : ∀ x ∈ xs, x.m.ok ∧ ∀ s ∈ x.m.lay.segs, s.chains.length ≤ 1000000000) : ∀ (n k : Nat) (z : LawZ), xs.length = k + n → k ≤ 60 → z.inv (10 * k) →
    ∃ z3 : LawZ, z3.inv 610 ∧ ALoop Tryz.prog 0 Tryz.f5.ntmps (loopB Tryz.f5 0) (z.st o xs k) (.exit 0) z3.ex
  | 0, k, z, hn, hk, h => by
    refine ⟨z, lawZ_mono h (by omega), ?_⟩
    cases z with
    | A r => exact qendA o xs k r (.inl (by omega))
    | B r s at_ => exact qendB o xs k r s at_ (.inl (by omega))
  | n + 1, k, z, hn, hk, h => by
    by_cases hk60 : 60 ≤ k
    · refine ⟨z, lawZ_mono h (by omega), ?_⟩
      cases z with
      | A r => exact qendA o xs k r (.inr hk60)
      | B r s at_ => exact qendB o xs k r s at_ (.inr hk60)
    · obtain ⟨x, hx⟩ := get_of (l := xs) (k := k) (by omega)
      obtain ⟨hm, hl⟩ := hxs x (List.mem_of_getElem? hx)
      have hk6 : k < 60 := by omega
      have next : ∀ z2 : LawZ, z2.inv (10 * (k + 1)) → ∃ z3 : LawZ, z3.inv 610 ∧ ALoop Tryz.prog 0 Tryz.f5.ntmps (loopB Tryz.f5 0) (z2.st o xs (k + 1)) (.exit 0) z3.ex := fun z2 h2 => loop17 o xs hxs n (k + 1) z2 (by omega) (by omega) h2
      obtain ⟨b, h1⟩ := fits10_ac x.m
      cases z with
      | A r =>
        have h : InvA r (10 * k) := h
        have hc := h.i.cell
        have hat2 : ¬ r.at_ = 2 := by rcases h.at_ with h | h | h <;> omega
        cases b with
        | false =>
          obtain ⟨z3, i3, ih⟩ := next (.A r) (h.mono (by omega))
          exact ⟨z3, i3, qnA o xs k x r hc hx hk6 h1 _ ih⟩
        | true =>
          by_cases c1 : x.kind = 1
          · by_cases h0 : r.at_ = 0
            · have h2 := h.start h0
              obtain ⟨z3, i3, ih⟩ := next (.A (startR r)) (h2.mono (by omega))
              have ho := h.i.out
              exact ⟨z3, i3, q1A o xs k x r (startR r) h2.i.cell hx hk6 h1 c1 0 (rstart r h0 (by omega) h.k0 (by have := h.k1; omega)) (fstart r h0 (by omega) h.k0 (by have := h.k1; omega)) _ ih⟩
            · obtain ⟨z3, i3, ih⟩ := next (.A r) (h.mono (by omega))
              exact ⟨z3, i3, q1A o xs k x r r hc hx hk6 h1 c1 131 (rstart_no r h0) (fstart_no r (by rcases h.at_ with h | h | h <;> omega)) _ ih⟩
          · by_cases c2 : x.kind = 2
            · have hmo : (msgA o x r).ok := msgA_ok hm
              have hml : ∀ y ∈ (msgA o x r).lay.segs, y.chains.length ≤ 1000000000 := by rw [msgA_lay]; exact hl
              have qm := msgA_ac o x r hat2
              generalize hmg : msgA o x r = m at hmo hml qm
              cases hb : mineB r m with
              | false =>
                obtain ⟨z3, i3, ih⟩ := next (.A r) (h.mono (by omega))
                have := q2A o xs k x r r hc hx hk6 h1 c2 false
                rw [hmg] at this
                exact ⟨z3, i3, this qm (rhear_no r m hmo hat2 hb) (fhear_no r m hmo hml hat2 hb) _ ih⟩
              | true =>
                by_cases h82 : m.err = 82 ∧ r.fill = true
                · obtain ⟨u, hu, hU, _⟩ := chain_yes r.lay r.a h.i.fit.lay.1 h.i.fit.lay.2 h.i.fit.ask.lay h.i.fit.a0 h.i.fit.ask.at_
                  obtain ⟨v, hv⟩ := get_of (l := u) (k := 0) (by have := hU.pos; omega)
                  have h2 := h.settle (by omega) hU v
                  obtain ⟨z3, i3, ih⟩ := next (.B (settleR r) (setlS r u v) 0) (h2.mono (by omega))
                  have := q2AB o xs k x r (settleR r) (setlS r u v) 0 h2.i.cell hx hk6 h1 c2 true
                  rw [hmg] at this
                  exact ⟨z3, i3, this qm (rhear_settle r m hmo hat2 hb h82.1 h82.2 h.i.fit hu hv) (fhear_settle r m hmo hml hb h82.1 h82.2 h.i.fit h.i.seg hu hv) _ ih⟩
                · have h2 := h.heard hmo
                  obtain ⟨z3, i3, ih⟩ := next (.A (heardR r m)) (h2.mono (by omega))
                  have := q2A o xs k x r (heardR r m) h2.i.cell hx hk6 h1 c2 true
                  rw [hmg] at this
                  by_cases he : m.err = 0
                  · exact ⟨z3, i3, this qm (rhear_cell r m hmo hat2 hb he) (fhear_cell r m hmo hml hb he) _ ih⟩
                  · exact ⟨z3, i3, this qm (rhear_err r m hmo hat2 hb h82 he) (fhear_err r m hmo hml hb h82 he) _ ih⟩
            · by_cases c3 : x.kind = 3
              · obtain ⟨j, hj⟩ : ∃ j : Nat, (j : Int) = min (max x.n 0) 9 := ⟨(min (max x.n 0) 9).toNat, by omega⟩
                have h2 := ticksA_inv j h
                obtain ⟨z3, i3, ih⟩ := next (.A (ticksA r j)) (h2.mono (by omega))
                exact ⟨z3, i3, q3A o xs k x r (ticksA r j) h2.i.cell hx hk6 h1 c3 j hj (tick_loopA o xs k j r (10 * k) (by omega) h (by omega)) _ ih⟩
              · by_cases c4 : x.kind = 4
                · have h2 := h.empt
                  obtain ⟨z3, i3, ih⟩ := next (.A (emptR r)) (h2.mono (by omega))
                  have ho := h.i.out
                  exact ⟨z3, i3, q4A o xs k x r (emptR r) h2.i.cell hx hk6 h1 c4 (rout r (by omega)) (fout r (by omega)) (all2_ac r.out h.i.msgs (by omega)) _ ih⟩
                · obtain ⟨z3, i3, ih⟩ := next (.A r) (h.mono (by omega))
                  exact ⟨z3, i3, q0A o xs k x r hc hx hk6 h1 ⟨c1, c2, c3, c4⟩ _ ih⟩
      | B r s at_ =>
        have h : InvB r s at_ (10 * k) := h
        have hc := h.i.cell
        cases b with
        | false =>
          obtain ⟨z3, i3, ih⟩ := next (.B r s at_) (h.mono (by omega))
          exact ⟨z3, i3, qnB o xs k x r s at_ hc hx hk6 h1 _ ih⟩
        | true =>
          by_cases c1 : x.kind = 1
          · obtain ⟨z3, i3, ih⟩ := next (.B r s at_) (h.mono (by omega))
            exact ⟨z3, i3, q1B o xs k x r s at_ r s at_ hc hx hk6 h1 c1 131 (rstart_noS r s (by rcases h.at23 with h | h <;> omega)) (fstart_noS r s at_ (by rcases h.at23 with h | h <;> omega)) _ ih⟩
          · by_cases c2 : x.kind = 2
            · have hmo : (msgB o x r s at_).ok := msgB_ok hm
              have hml : ∀ y ∈ (msgB o x r s at_).lay.segs, y.chains.length ≤ 1000000000 := by rw [msgB_lay]; exact hl
              have qm := msgB_ac o x r s at_ (h.av.yes h.st)
              generalize hmg : msgB o x r s at_ = m at hmo hml qm
              by_cases h2 : r.at_ = 2
              · have hi : Inv (if hearB s m (unitAt s) = true then stepS s m else s) (10 * k + 1) ∧ (if hearB s m (unitAt s) = true then stepS s m else s).started = true := by
                  split
                  · rename_i hh
                    have H := hearB_yes hh
                    have := h.sv.step (by omega) H.st H.ov hmo
                    exact ⟨this.1, this.2.1⟩
                  · exact ⟨h.sv.mono (by omega), h.st⟩
                have qa := hearE s m (unitAt s) h.sv.ok hmo (unitAt_of h.sv.ok)
                have qb := rHear s m (unitAt s) at_ h.av h.sv.ok hmo hml (unitAt_of h.sv.ok)
                have ha := At.hear h.av h.sv (by omega) hmo (v := unitAt s)
                generalize (if hearB s m (unitAt s) = true then stepS s m else s) = s2 at hi qa qb ha
                generalize atR s m (unitAt s) at_ = at2 at qb ha
                have h3 := h.settled h2 hi.1 ha hi.2
                obtain ⟨z3, i3, ih⟩ := next (.B (settledR r s2) s2 at2) (h3.mono (by omega))
                have := q2B o xs k x r s at_ (settledR r s2) s2 at2 h3.i.cell hx hk6 h1 c2 (hearB s m (unitAt s))
                rw [hmg] at this
                exact ⟨z3, i3, this qm (rhearS r s s2 m _ h2 hi.1.ok qa) (fhearS r s s2 at_ at2 m _ h2 qb) _ ih⟩
              · have h3 : ¬ r.at_ = 1 := by rcases h.at23 with h | h <;> omega
                obtain ⟨z3, i3, ih⟩ := next (.B r s at_) (h.mono (by omega))
                have := q2B o xs k x r s at_ r s at_ hc hx hk6 h1 c2 false
                rw [hmg] at this
                exact ⟨z3, i3, this qm (rhearS_no r s m h2 h3) (fhear_noS r s at_ m hmo hml h2 h3) _ ih⟩
            · by_cases c3 : x.kind = 3
              · obtain ⟨j, hj⟩ : ∃ j : Nat, (j : Int) = min (max x.n 0) 9 := ⟨(min (max x.n 0) 9).toNat, by omega⟩
                have h2 := ticksB_inv j h (by omega)
                obtain ⟨z3, i3, ih⟩ := next (.B (ticksB r s j).1 (ticksB r s j).2 at_) (h2.mono (by omega))
                exact ⟨z3, i3, q3B o xs k x r s at_ (ticksB r s j).1 (ticksB r s j).2 at_ h2.i.cell hx hk6 h1 c3 j hj (tick_loopB o xs k j r s at_ (10 * k) (by omega) h (by omega)) _ ih⟩
              · by_cases c4 : x.kind = 4
                · have h2 := h.empt
                  obtain ⟨z3, i3, ih⟩ := next (.B (emptR r) (emptied s) at_) (h2.mono (by omega))
                  have ho := h.i.out
                  have hs := h.sv.out
                  exact ⟨z3, i3, q4B o xs k x r s at_ (emptR r) (emptied s) at_ h2.i.cell hx hk6 h1 c4 (routS r s (by omega) (by omega)) (foutS r s at_ (by omega) (by omega)) (all2_ac (r.out ++ s.out) (h.i.msgs.app (Msgs.of h.sv.wrs)) (by rw [List.length_append]; omega)) _ ih⟩
                · obtain ⟨z3, i3, ih⟩ := next (.B r s at_) (h.mono (by omega))
                  exact ⟨z3, i3, q0B o xs k x r s at_ hc hx hk6 h1 ⟨c1, c2, c3, c4⟩ _ ih⟩
end Go.Proofs.YtidgcfgkcidkiaaGreat.Ch
namespace Go.Proofs.YtidgcfgkcidkiaaGreat.Ch
open Go Go.RowKit Go.Proofs.YtidgcfgkcidkiaaGreat.L Go.Proofs.YtidgcfgkcidkiaaGreat.X
set_option linter.unusedVariables false
set_option linter.unusedSimpArgs false
def r0A : RdD := readyR 1 9 lA 5 true [4, 6]
theorem okA : lA.ok := ⟨by simp [lA, SegD.ok, catL], by simp [lA]⟩
theorem asksA : AsksR 1 9 lA 5 := ⟨by omega, by omega, by omega, by omega, rightA, by omega⟩
theorem chA : chainL lA 5 = some [4, 6] := by decide
theorem newR0 : ACalls Tryz.prog 30 [.int .i64 1, .int .i64 9, encL lA, .int .u64 5, .bool true] [] (.tup [.ptr 0 0, .int .i64 0]) (rdO r0A) := by
  obtain ⟨u, hu, _, hc⟩ := rnew_yes 1 9 lA 5 true okA (by omega) asksA
  rw [chA] at hu
  injection hu with hu
  subst hu
  exact hc
def r0B : RdD := { r0A with at_ := 1 }
def r1A : RdD := startR r0A
def r2A : RdD := emptR r1A
def s3A : SetD := setlS r2A [4, 6] 4
def mQ : MsgD := ⟨14, 1, 6, 4, 1, 9, 2, 0, 5, 82, ⟨0, [], []⟩, [], [], 0, 0, 0, 0, ⟨0, [], 0⟩⟩
theorem okQ : mQ.ok := ⟨⟨by simp [mQ, Bytes], by simp [mQ], by simp [mQ]⟩, by simp [mQ], by simp [mQ], ⟨by simp [mQ], by simp [mQ]⟩⟩
theorem mineQ : mineB r2A mQ = true := by decide
theorem fitA : r2A.fit := ⟨asksA, okA, by show (0 : Int) ≤ 5; omega⟩
theorem hearQ : ACalls Tryz.prog 35 [.ptr 0 0, encM mQ] (rdO r2A) (.bool true) (rdS (settleR r2A) s3A) :=
  rhear_settle r2A mQ okQ (by decide) mineQ rfl rfl fitA chA rfl
def mQA : AV := .agg [.int .i64 14, .int .i64 1, .int .i64 6, .int .i64 4, .int .i64 1, .int .i64 9, .int .i64 2, .int .u64 0, .int .u64 5, .int .i64 82, .int .i64 0, .nils, .nils, .nils, .nils, .int .i64 0, .int .i64 0, .int .i64 0, .int .i64 0, .int .u64 0, .nils, .int .i64 0]
theorem hearQA : ACalls Tryz.prog 35 [.ptr 0 0, mQA] (rdO r2A) (.bool true) (rdS (settleR r2A) s3A) := by
  refine ACalls.weak hearQ fun K ds h => ?_
  obtain ⟨c0, cs, rfl, h0, h1⟩ := h.cons_inv
  obtain ⟨c1, cs, rfl, h2, h3⟩ := h1.cons_inv
  refine .cons h0 (.cons (WeakL.agg ?_ h2) h3)
  repeat' first | exact .nil | exact WeakA.same _ | exact WeakA.nil _ (by decide) | refine WeakL.cons ?_ ?_
theorem liveR : ACalls Tryz.prog 29 [] [] (.bool true) [] := by
  have q1 := rstart r0A rfl (by decide) (by decide) (by decide)
  have q2 := rout r1A (by decide)
  have q3 := routS (settleR r2A) s3A (by decide) (by decide)
  refine acallsK mixed Tryz.func29 rfl [0, 1, 2, 3, 4, 5, 6, 7, 23] 1000 ([.fo 9 [0], .fo 11 [1], .call [] false false (.tup [.ptr 0 0, .int .i64 0]) (rdO r0A), .f, .call [4, 5] false false (.int .i64 0) (rdO r1A), .call [4, 7] false false (.row 2 22 1) (rdO r2A ++ [.row 50 22 [rdM r0B]]), .call [4, 9] false false (.bool true) (rdS (settleR r2A) s3A), .call [4, 12, 13, 14] false false (.row 4 22 1) (rdS (emptR (settleR r2A)) (emptied s3A) ++ [.row 50 22 [wrM s3A 4]]), .t, .n 1, .t, .ix 0, .el (rdM r0B), .t, .ix 0, .el (rdM r0B), .t, .n 1, .t, .ix 0, .el (wrM s3A 4), .t, .ix 0, .el (wrM s3A 4), .t]) [] [] (ob := [_,
 ((0 : Int) != (0 : Int)) = false,
 _,
 _,
 _,
 _,
 ((0 : Int) == (0 : Int)) = true,
 (↑(nat_lit 1) : Int) = (1 : Int),
 ((1 : Int) == (1 : Int)) = true,
 nat_lit 0 < nat_lit 1,
 (0 : Int) = (↑(nat_lit 0) : Int),
 [AV.agg [AV.int IntKind.i64 (2 : Int), AV.int IntKind.i64 (4 : Int), AV.int IntKind.i64 (RdD.client r0B), AV.int IntKind.i64 (1 : Int), AV.int IntKind.i64 (RdD.last r0B), AV.int IntKind.i64 (RdD.id r0B), AV.int IntKind.i64 (0 : Int), AV.int IntKind.u64 (LayD.epoch (RdD.lay r0B)), AV.int IntKind.u64 (RdD.a r0B), AV.int IntKind.i64 (0 : Int), AV.int IntKind.i64 (0 : Int), AV.nils, AV.nils, AV.nils, AV.nils, AV.int IntKind.i64 (0 : Int), AV.int IntKind.i64 (0 : Int), AV.int IntKind.i64 (0 : Int), AV.int IntKind.i64 (0 : Int), AV.int IntKind.u64 (0 : Int), AV.nils, AV.int IntKind.i64 (0 : Int)]][nat_lit 0]? = some (AV.agg [AV.int IntKind.i64 (2 : Int), AV.int IntKind.i64 (4 : Int), AV.int IntKind.i64 (RdD.client r0B), AV.int IntKind.i64 (1 : Int), AV.int IntKind.i64 (RdD.last r0B), AV.int IntKind.i64 (RdD.id r0B), AV.int IntKind.i64 (0 : Int), AV.int IntKind.u64 (LayD.epoch (RdD.lay r0B)), AV.int IntKind.u64 (RdD.a r0B), AV.int IntKind.i64 (0 : Int), AV.int IntKind.i64 (0 : Int), AV.nils, AV.nils, AV.nils, AV.nils, AV.int IntKind.i64 (0 : Int), AV.int IntKind.i64 (0 : Int), AV.int IntKind.i64 (0 : Int), AV.int IntKind.i64 (0 : Int), AV.int IntKind.u64 (0 : Int), AV.nils, AV.int IntKind.i64 (0 : Int)]),
 (RdD.last r0B == (6 : Int)) = true,
 nat_lit 0 < nat_lit 1,
 (0 : Int) = (↑(nat_lit 0) : Int),
 [AV.agg [AV.int IntKind.i64 (2 : Int), AV.int IntKind.i64 (4 : Int), AV.int IntKind.i64 (RdD.client r0B), AV.int IntKind.i64 (1 : Int), AV.int IntKind.i64 (RdD.last r0B), AV.int IntKind.i64 (RdD.id r0B), AV.int IntKind.i64 (0 : Int), AV.int IntKind.u64 (LayD.epoch (RdD.lay r0B)), AV.int IntKind.u64 (RdD.a r0B), AV.int IntKind.i64 (0 : Int), AV.int IntKind.i64 (0 : Int), AV.nils, AV.nils, AV.nils, AV.nils, AV.int IntKind.i64 (0 : Int), AV.int IntKind.i64 (0 : Int), AV.int IntKind.i64 (0 : Int), AV.int IntKind.i64 (0 : Int), AV.int IntKind.u64 (0 : Int), AV.nils, AV.int IntKind.i64 (0 : Int)]][nat_lit 0]? = some (AV.agg [AV.int IntKind.i64 (2 : Int), AV.int IntKind.i64 (4 : Int), AV.int IntKind.i64 (RdD.client r0B), AV.int IntKind.i64 (1 : Int), AV.int IntKind.i64 (RdD.last r0B), AV.int IntKind.i64 (RdD.id r0B), AV.int IntKind.i64 (0 : Int), AV.int IntKind.u64 (LayD.epoch (RdD.lay r0B)), AV.int IntKind.u64 (RdD.a r0B), AV.int IntKind.i64 (0 : Int), AV.int IntKind.i64 (0 : Int), AV.nils, AV.nils, AV.nils, AV.nils, AV.int IntKind.i64 (0 : Int), AV.int IntKind.i64 (0 : Int), AV.int IntKind.i64 (0 : Int), AV.int IntKind.i64 (0 : Int), AV.int IntKind.u64 (0 : Int), AV.nils, AV.int IntKind.i64 (0 : Int)]),
 ((2 : Int) == (2 : Int)) = true,
 (↑(nat_lit 1) : Int) = (1 : Int),
 ((1 : Int) == (1 : Int)) = true,
 nat_lit 0 < nat_lit 1,
 (0 : Int) = (↑(nat_lit 0) : Int),
 [AV.agg [AV.int IntKind.i64 (1 : Int), AV.int IntKind.i64 (4 : Int), AV.int IntKind.i64 (SetD.client s3A), AV.int IntKind.i64 (1 : Int), AV.int IntKind.i64 (4 : Int), AV.int IntKind.i64 (SetD.id s3A), AV.int IntKind.i64 (0 : Int), AV.int IntKind.u64 (SetD.epoch s3A), AV.int IntKind.u64 (SetD.a s3A), AV.int IntKind.i64 (0 : Int), AV.int IntKind.i64 (CellD.kind (SetD.cell s3A)), AV.lst (nat_lit 1) [], AV.lst (nat_lit 3) [], AV.nils, AV.nils, AV.int IntKind.i64 (0 : Int), AV.int IntKind.i64 (0 : Int), AV.int IntKind.i64 (0 : Int), AV.int IntKind.i64 (0 : Int), AV.int IntKind.u64 (0 : Int), AV.nils, AV.int IntKind.i64 (0 : Int)]][nat_lit 0]? = some (AV.agg [AV.int IntKind.i64 (1 : Int), AV.int IntKind.i64 (4 : Int), AV.int IntKind.i64 (SetD.client s3A), AV.int IntKind.i64 (1 : Int), AV.int IntKind.i64 (4 : Int), AV.int IntKind.i64 (SetD.id s3A), AV.int IntKind.i64 (0 : Int), AV.int IntKind.u64 (SetD.epoch s3A), AV.int IntKind.u64 (SetD.a s3A), AV.int IntKind.i64 (0 : Int), AV.int IntKind.i64 (CellD.kind (SetD.cell s3A)), AV.lst (nat_lit 1) [], AV.lst (nat_lit 3) [], AV.nils, AV.nils, AV.int IntKind.i64 (0 : Int), AV.int IntKind.i64 (0 : Int), AV.int IntKind.i64 (0 : Int), AV.int IntKind.i64 (0 : Int), AV.int IntKind.u64 (0 : Int), AV.nils, AV.int IntKind.i64 (0 : Int)]),
 ((4 : Int) == (4 : Int)) = true,
 nat_lit 0 < nat_lit 1,
 (0 : Int) = (↑(nat_lit 0) : Int),
 [AV.agg [AV.int IntKind.i64 (1 : Int), AV.int IntKind.i64 (4 : Int), AV.int IntKind.i64 (SetD.client s3A), AV.int IntKind.i64 (1 : Int), AV.int IntKind.i64 (4 : Int), AV.int IntKind.i64 (SetD.id s3A), AV.int IntKind.i64 (0 : Int), AV.int IntKind.u64 (SetD.epoch s3A), AV.int IntKind.u64 (SetD.a s3A), AV.int IntKind.i64 (0 : Int), AV.int IntKind.i64 (CellD.kind (SetD.cell s3A)), AV.lst (nat_lit 1) [], AV.lst (nat_lit 3) [], AV.nils, AV.nils, AV.int IntKind.i64 (0 : Int), AV.int IntKind.i64 (0 : Int), AV.int IntKind.i64 (0 : Int), AV.int IntKind.i64 (0 : Int), AV.int IntKind.u64 (0 : Int), AV.nils, AV.int IntKind.i64 (0 : Int)]][nat_lit 0]? = some (AV.agg [AV.int IntKind.i64 (1 : Int), AV.int IntKind.i64 (4 : Int), AV.int IntKind.i64 (SetD.client s3A), AV.int IntKind.i64 (1 : Int), AV.int IntKind.i64 (4 : Int), AV.int IntKind.i64 (SetD.id s3A), AV.int IntKind.i64 (0 : Int), AV.int IntKind.u64 (SetD.epoch s3A), AV.int IntKind.u64 (SetD.a s3A), AV.int IntKind.i64 (0 : Int), AV.int IntKind.i64 (CellD.kind (SetD.cell s3A)), AV.lst (nat_lit 1) [], AV.lst (nat_lit 3) [], AV.nils, AV.nils, AV.int IntKind.i64 (0 : Int), AV.int IntKind.i64 (0 : Int), AV.int IntKind.i64 (0 : Int), AV.int IntKind.i64 (0 : Int), AV.int IntKind.u64 (0 : Int), AV.nils, AV.int IntKind.i64 (0 : Int)]),
 ((1 : Int) == (1 : Int)) = true]) (by kernel_rfl) ⟨rfl, rfl⟩ ⟨newR0, ?z0, q1, q2, hearQA, q3, ?z1, ?z2, ?z3, ?z4, ?z5, ?z6, ?z7, ?z8, ?z9, ?z10, ?z11, ?z12, ?z13, ?z14, ?z15, ?z16, ?z17, ?z18, ?z19, ?z20, ?z21, trivial⟩
  case z0|z1|z2|z3|z4|z5|z6|z7|z8|z9|z10|z11|z12|z13|z14|z15|z16|z17|z18|z19|z20|z21 => first | exact rfl | (simp [] <;> omega) | omega
theorem plays17_1 (o : OfR) (xs : List ActD) (h1 : ACalls Tryz.prog 28 [encL o.2.2.1] [] (.bool false) []) : ACalls Tryz.prog 5 [.agg (ofR o), .lst 25 (xs.map encAct)] [] (.bool true) [] := by
  refine acallsK mixed Tryz.func5 rfl [0, 1, 2, 4, 5, 6, 7, 8, 9, 10, 11, 12, 13, 14, 15, 16, 17, 18, 19, 20, 21, 22, 27, 63, 81, 92, 94, 95, 102, 115, 122, 133, 170] 1000 ([.call [] false true (.bool false) [], .call [] false true (.bool true) []]) [] [] (ob := [_,
 _]) (by kernel_rfl) ⟨rfl, rfl⟩ ⟨h1, liveR, trivial⟩
theorem plays17_2 (o : OfR) (xs : List ActD) (h1 : ACalls Tryz.prog 28 [encL o.2.2.1] [] (.bool true) [])
    (h2 : ACalls Tryz.prog 30 [.int .i64 o.1, .int .i64 o.2.1, encL o.2.2.1, .int .u64 o.2.2.2.1, .bool o.2.2.2.2] [] (.tup [.nilp, .int .i64 1]) [])
    (h3 : ACalls Tryz.prog 31 [.int .i64 o.1, .int .i64 o.2.1, encL o.2.2.1, .int .u64 o.2.2.2.1, .bool o.2.2.2.2] [] (.tup [.nilp, .int .i64 1]) []) : ACalls Tryz.prog 5 [.agg (ofR o), .lst 25 (xs.map encAct)] [] (.bool true) [] := by
  refine acallsK mixed Tryz.func5 rfl [0, 1, 2, 4, 5, 6, 7, 8, 9, 10, 11, 12, 13, 14, 15, 16, 17, 18, 19, 20, 21, 22, 27, 63, 81, 92, 94, 95, 102, 115, 122, 133, 170] 1000 ([.call [] false true (.bool true) [], .k, .call [] false true (.tup [.nilp, .int .i64 1]) [], .k, .call [] false true (.tup [.nilp, .int .i64 1]) [], .f, .t, .call [] false true (.bool true) [], .t]) [] [] (ob := [_,
 _,
 _,
 ((1 : Int) != (1 : Int)) = false,
 ((1 : Int) != (0 : Int)) = true,
 _,
 ((1 : Int) == (1 : Int)) = true]) (by kernel_rfl) ⟨rfl, rfl⟩ ⟨h1, h2, h3, ?z0, ?z1, liveR, ?z2, trivial⟩
  case z0|z1|z2 => first | exact rfl | (simp [ofR] <;> omega) | omega
theorem plays17_A (o : OfR) (xs : List ActD) (u : List Int) (r : RdD) (hr : r = readyR o.1 o.2.1 o.2.2.1 o.2.2.2.1 o.2.2.2.2 u) (h1 : ACalls Tryz.prog 28 [encL o.2.2.1] [] (.bool true) [])
    (h2 : ACalls Tryz.prog 30 [.int .i64 o.1, .int .i64 o.2.1, encL o.2.2.1, .int .u64 o.2.2.2.1, .bool o.2.2.2.2] [] (.tup [.ptr 0 0, .int .i64 0]) (rdO r))
    (h3 : ACalls Tryz.prog 31 [.int .i64 o.1, .int .i64 o.2.1, encL o.2.2.1, .int .u64 o.2.2.2.1, .bool o.2.2.2.2] [] (.tup [.ptr 0 0, .int .i64 0]) (rfO r))
    (r3 : RdD) (i3 : InvA r3 610) (hlp : ALoop Tryz.prog 0 Tryz.f5.ntmps (loopB Tryz.f5 0) ⟨[(10, .int .i64 (0 : Nat)), (8, .ptr 3 0), (6, .ptr 1 0), (2, .ptr 0 0), (1, .lst 25 (xs.map encAct))], lawA o r⟩ (.exit 0) ⟨[(8, .ptr 2 0), (6, .ptr 0 0)], ended17A r3⟩) : ACalls Tryz.prog 5 [.agg (ofR o), .lst 25 (xs.map encAct)] [] (.bool true) [] := by
  have ho := i3.i.out
  have q1 := rout r3 (by omega)
  have q2 := fout r3 (by omega)
  have q3 := all2_ac r3.out i3.i.msgs (by omega)
  refine acallsK mixed Tryz.func5 rfl [0, 1, 2, 4, 5, 6, 7, 8, 9, 10, 11, 12, 13, 14, 15, 16, 17, 18, 19, 20, 21, 22, 27, 63, 81, 92, 94, 95, 102, 115, 122, 133, 170] 1000 ([.call [] false true (.bool true) [], .k, .call [] false false (.tup [.ptr 0 0, .int .i64 0]) (rdO r), .k, .call [] false false (.tup [.ptr 0 0, .int .i64 0]) (rfO r), .f, .f, .lp [10, 8, 6, 2, 1] [0, 1, 2, 3, 4] (.exit 0) ⟨[(8, .ptr 2 0), (6, .ptr 0 0)], ended17A r3⟩, .call [] false true (.bool true) [], .call [0, 1] false false (.row 2 22 r3.out.length) (rdO (emptR r3) ++ [.row 50 22 r3.out]), .call [2, 3] false false (.row 2 22 r3.out.length) (rfO (emptR r3) ++ [.row 50 22 r3.out]), .call [] false true (.bool true) []]) [] [] (ob := [_,
 _,
 _,
 ((0 : Int) != (0 : Int)) = false,
 ((0 : Int) != (0 : Int)) = false,
 _,
 _,
 _,
 _,
 _]) (by kernel_rfl) ⟨rfl, rfl⟩ ⟨h1, h2, h3, ?z0, ?z1, hlp, liveR, q1, q2, q3, trivial⟩
  case z0|z1 => first | exact rfl | (simp [ofR, ended17A, celT, celU, celV] <;> omega) | omega
theorem plays17_B (o : OfR) (xs : List ActD) (u : List Int) (r : RdD) (hr : r = readyR o.1 o.2.1 o.2.2.1 o.2.2.2.1 o.2.2.2.2 u) (h1 : ACalls Tryz.prog 28 [encL o.2.2.1] [] (.bool true) [])
    (h2 : ACalls Tryz.prog 30 [.int .i64 o.1, .int .i64 o.2.1, encL o.2.2.1, .int .u64 o.2.2.2.1, .bool o.2.2.2.2] [] (.tup [.ptr 0 0, .int .i64 0]) (rdO r))
    (h3 : ACalls Tryz.prog 31 [.int .i64 o.1, .int .i64 o.2.1, encL o.2.2.1, .int .u64 o.2.2.2.1, .bool o.2.2.2.2] [] (.tup [.ptr 0 0, .int .i64 0]) (rfO r))
    (r3 : RdD) (s3 : SetD) (a3 : Int) (i3 : InvB r3 s3 a3 610) (hlp : ALoop Tryz.prog 0 Tryz.f5.ntmps (loopB Tryz.f5 0) ⟨[(10, .int .i64 (0 : Nat)), (8, .ptr 3 0), (6, .ptr 1 0), (2, .ptr 0 0), (1, .lst 25 (xs.map encAct))], lawA o r⟩ (.exit 0) ⟨[(8, .ptr 4 0), (6, .ptr 0 0)], ended17B r3 s3 a3⟩) : ACalls Tryz.prog 5 [.agg (ofR o), .lst 25 (xs.map encAct)] [] (.bool true) [] := by
  have ho := i3.i.out
  have hs := i3.sv.out
  have q1 := routS r3 s3 (by omega) (by omega)
  have q2 := foutS r3 s3 a3 (by omega) (by omega)
  have q3 := all2_ac (r3.out ++ s3.out) (i3.i.msgs.app (Msgs.of i3.sv.wrs)) (by rw [List.length_append]; omega)
  refine acallsK mixed Tryz.func5 rfl [0, 1, 2, 4, 5, 6, 7, 8, 9, 10, 11, 12, 13, 14, 15, 16, 17, 18, 19, 20, 21, 22, 27, 63, 81, 92, 94, 95, 102, 115, 122, 133, 170] 1000 ([.call [] false true (.bool true) [], .k, .call [] false false (.tup [.ptr 0 0, .int .i64 0]) (rdO r), .k, .call [] false false (.tup [.ptr 0 0, .int .i64 0]) (rfO r), .f, .f, .lp [10, 8, 6, 2, 1] [0, 1, 2, 3, 4] (.exit 0) ⟨[(8, .ptr 4 0), (6, .ptr 0 0)], ended17B r3 s3 a3⟩, .call [] false true (.bool true) [], .call [0, 1, 2, 3] false false (.row 4 22 (r3.out ++ s3.out).length) (rdS (emptR r3) (emptied s3) ++ [.row 50 22 (r3.out ++ s3.out)]), .call [4, 5, 6, 7] false false (.row 4 22 (r3.out ++ s3.out).length) (rfS (emptR r3) (emptied s3) a3 ++ [.row 50 22 (r3.out ++ s3.out)]), .call [] false true (.bool true) []]) [] [] (ob := [_,
 _,
 _,
 ((0 : Int) != (0 : Int)) = false,
 ((0 : Int) != (0 : Int)) = false,
 _,
 _,
 _,
 _,
 _]) (by kernel_rfl) ⟨rfl, rfl⟩ ⟨h1, h2, h3, ?z0, ?z1, hlp, liveR, q1, q2, q3, trivial⟩
  case z0|z1 => first | exact rfl | (simp [ofR, ended17B, celT, celU, celV, celS, celR] <;> omega) | omega
end Go.Proofs.YtidgcfgkcidkiaaGreat.Ch
namespace Go.Proofs.YtidgcfgkcidkiaaGreat.Ch
open Go Go.RowKit Go.Proofs.YtidgcfgkcidkiaaGreat.L Go.Proofs.YtidgcfgkcidkiaaGreat.X
set_option linter.unusedVariables false
set_option linter.unusedSimpArgs false
def OfRO : Rep OfR := pair (num .i64) (pair (num .i64) (pair LayO (pair (num .u64) boolR)))
def encOfR (o : OfR) : AV := .agg (ofR o)
theorem reads_ofR : Reads OfRO encOfR := reads_of (reads_pair (reads_num .i64) (reads_pair (reads_num .i64) (reads_pair reads_lay (reads_pair (reads_num .u64) reads_bool)))) fun _ => rfl
def wtOR (o : OfR) : Nat := wtY o.2.2.1
theorem opens_ofR : OpensB Tryz.prog OfRO 68 wtOR := by
  have := opensB_struct (R := OfRO) Tryz.underlying68 (by kernel_rfl)
    (FieldsB.cons (OpensB.num Tryz.underlying3) rfl (by kernel_rfl) (FieldsB.cons (OpensB.num Tryz.underlying3) rfl (by kernel_rfl) (FieldsB.cons opens_lay rfl (by kernel_rfl) (FieldsB.cons (OpensB.num Tryz.underlying22) rfl (by kernel_rfl) (FieldsB.one (OpensB.bool Tryz.underlying4) rfl (by kernel_rfl))))))
  exact OpensB.iso (f := id) this id (fun _ => rfl) (fun x => by simp only [wtOR, id]; omega)
theorem opens_act17 : OpensB Tryz.prog ActO 77 wtA :=
  OpensB.iso (opensB_struct Tryz.underlying77 (by kernel_rfl)
    (FieldsB.cons (OpensB.num Tryz.underlying3) rfl (by kernel_rfl) (FieldsB.cons (OpensB.num Tryz.underlying3) rfl (by kernel_rfl) (FieldsB.cons opens_msg rfl (by kernel_rfl) (FieldsB.one (OpensB.bool Tryz.underlying4) rfl (by kernel_rfl))))))
    (fun x => ⟨x.1, x.2.1, x.2.2.1, x.2.2.2⟩) (fun _ => rfl) (fun x => by simp only [wtA]; omega)
theorem opens_acts17 : OpensB Tryz.prog (slice ActO) 69 (wtL wtA) := opensB_slice Tryz.underlying69 (by kernel_rfl) (by decide) opens_act17
theorem plays17_ac {A : Nat → Prop} {w : World} {cs : List Value} (o : OfR) (h : OfRO.K A w cs o) (hb : wtOR o ≤ 1048576) (xs : List ActD) {v : Value} (hx : SliceK ActO A w v xs) (hbx : wtL wtA xs ≤ 1048576) :
    ACalls Tryz.prog 5 [encOfR o, .lst 25 (xs.map encAct)] [] (.bool true) [] := by
  obtain ⟨cl, id, l, a, f⟩ := o
  obtain ⟨x1, x2, _, _, x3, x4, _, _, x5, x6, _, hl, x7, x8, _, ⟨_, ha⟩, _⟩ := h
  unfold wtOR at hb
  simp only at hb
  obtain ⟨hlo, hlc⟩ := lay_read (l := l) hl (by omega)
  have ha0 := ha.u64.1
  have hxs : ∀ x ∈ xs, x.m.ok ∧ ∀ s ∈ x.m.lay.segs, s.chains.length ≤ 1000000000 := by
    intro x hm
    obtain ⟨cs, _, _, _, _, _, _, _, _, _, _, _, hmm, _⟩ := slice_all hx x hm
    have h2 := wtL_mem (wt := wtA) hm
    have h3 : wtA x = wtM x.m := rfl
    exact msg_read (m := x.m) hmm (by omega)
  obtain ⟨b1, h1⟩ := fits09_ac l
  show ACalls _ _ [.agg (ofR (cl, id, l, a, f)), .lst 25 (xs.map encAct)] [] (.bool true) []
  cases b1 with
  | false => exact plays17_1 (cl, id, l, a, f) xs h1
  | true =>
    by_cases hA : AsksR cl id l a
    · obtain ⟨u, hu, hU, h2⟩ := rnew_yes cl id l a f hlo ha0 hA
      have h3 := fnew_yes cl id l a f u (fun s hs => ⟨hlc s hs, (hlo.1 s hs).2⟩) hlo.2 ha0 hA hu hU
      have hi : InvA (readyR cl id l a f u) (10 * 0) := ⟨⟨⟨hA, hlo, ha0⟩, hlc, cell0_ok, Nat.zero_le _, fun x hx => (by cases hx)⟩, Int.le_refl 0, by show (0 : Int) ≤ 6; decide, fun hq => (by cases hq), Int.le_refl 0, by show (0 : Int) ≤ 5; decide, fun _ => rfl, .inl rfl⟩
      obtain ⟨z3, i3, hlp⟩ := loop17 (cl, id, l, a, f) xs hxs xs.length 0 (.A (readyR cl id l a f u)) (by omega) (by omega) hi
      cases z3 with
      | A r3 => exact plays17_A (cl, id, l, a, f) xs u _ rfl h1 h2 h3 r3 i3 hlp
      | B r3 s3 a3 => exact plays17_B (cl, id, l, a, f) xs u _ rfl h1 h2 h3 r3 s3 a3 i3 hlp
    · exact plays17_2 (cl, id, l, a, f) xs h1 (rnew_no cl id l a f hlo ha0 hA) (fnew_no cl id l a f hlc hlo.2 hA)
end Go.Proofs.YtidgcfgkcidkiaaGreat.Ch
namespace Go.Proofs.YtidgcfgkcidkiaaGreat.ReaderPlays
open Go Go.RowKit Go.ChangeShapes Go.WideShapes Go.ChangeAt Go.Proofs.YtidgcfgkcidkiaaGreat.L Go.Proofs.YtidgcfgkcidkiaaGreat.X Go.Proofs.YtidgcfgkcidkiaaGreat.Ch
set_option linter.unusedVariables false
set_option linter.unusedSimpArgs false
theorem own : ownKnob Tryz.prog.godebug = none := by kernel_rfl
theorem laidOut : laidOutB Tryz.prog = true := by kernel_rfl
set_option maxRecDepth 100000 in
theorem lifted (os : Os) (started : os.Started) (H : Type) (enc : TypeId × Value → H) (F : Stop.Interp) :
    ReturnsInHanded {} Tryz.checked os 5 .any ((Rows.OpenSpec.upto Rows.readerPlaysSpec).pre6 enc Tryz.prog Tryz.f5 Rows.readerPlaysUptoRow.domain false) (((Rows.OpenSpec.upto Rows.readerPlaysSpec).at F).post enc Tryz.prog Tryz.f5 false true false false) := by
  refine returnsInHanded_of_cond (C := Tryz.checked) (s := Rows.OpenSpec.upto Rows.readerPlaysSpec) (k := Rows.uptoSmall) rfl own started (by kernel_rfl) Tryz.func5
    (OpenSpec.witness (enc := enc) (C := Tryz.checked) (s := Rows.OpenSpec.upto Rows.readerPlaysSpec) (k := Rows.uptoSmall) rfl false
      ⟨#[], #[.agg #[.int .i64 0, .int .i64 0, .int .u64 0, .slice none 0 0, .int .i64 0, .int .u64 0, .bool false], .slice none 0 0], []⟩ 8 (by kernel_rfl) (by kernel_rfl) (by kernel_rfl)
      (x := ([.agg [.lit (.int .i64 0), .lit (.int .i64 0), .agg [.lit (.int .u64 0), .nil, .lit (.int .i64 0)], .lit (.int .u64 0), .lit (.bool false)], .nil], [], [])) (by kernel_rfl) rfl (by kernel_rfl)) ?_
  intro W base args ds gs before hval0 hW0 _ hk _
  have hW : DataW.Whole enc Tryz.prog Tryz.f5.params.toList Rows.readerPlaysSpec.vars false W args.toList ds gs before := hW0
  have hA := hW
  obtain ⟨p, q, hA, hV, _, _, _⟩ := hA
  have hval : ∀ (j : Nat) t v, Tryz.f5.params[j]? = some t → args[j]? = some v → Value.okWide Tryz.prog W .any base t v := hval0
  rw [Tryz.params5] at hA hval
  obtain ⟨v0, v1, d0, d1, p0, p1, hargs, rfl, rfl, h0, h1⟩ := trodAll_two hA
  subst hargs
  obtain ⟨cs0, o, rfl, ho, hwo⟩ := agg_arg opens_ofR (by decide) h0
  obtain ⟨xs, hx, hwx⟩ := slice_argB opens_acts17 Tryz.underlying69 (hval 1 _ _ rfl rfl) h1
  have hb : Rows.uptoBulkAll ([d0, d1] ++ gs) ≤ 1048576 := of_decide_eq_true hk
  simp only [List.cons_append, List.nil_append, Rows.uptoBulkAll] at hb
  have hac := plays17_ac o ho (by omega) xs hx (by omega)
  refine (law_calls hac (.cons (reads_agg reads_ofR ho rfl) (.cons (acts_lst hx) .nil))).mono ?_
  rintro e W' ⟨rfl, hk'⟩
  exact law_post 4 Tryz.underlying4 rfl rfl laidOut (by kernel_rfl) hW (fun h => by subst h; rfl) hk'

theorem readerPlays_holds : Rows.ReaderPlaysUptoSaid :=
  OpenClaim.holds_of_cond 5 Tryz.f5 rfl rfl rfl rfl rfl rfl rfl ⟨rfl, rfl, rfl, rfl, rfl⟩ rfl rfl rfl rfl rfl (by kernel_rfl) Tryz.func5 (by kernel_rfl)
    (of_decide_eq_true (by kernel_rfl)) (by unfold Func.isWrapper; first | (rw [if_pos (by decide +kernel)]; kernel_rfl) | (rw [if_neg (by decide +kernel)]; exact ⟨rfl, rfl⟩))
    (fun os started H enc _ F => lifted os started H enc F)
end Go.Proofs.YtidgcfgkcidkiaaGreat.ReaderPlays
