/- Texts of one proof, laid together: Dq, Dr, Ds, Du, Dv, ChPlays. -/
import Derived.Test.YtidgcfgkcidkiaaGreatQ07
import Derived.Test.YtidgcfgkcidkiaaGreatRows
import Derived.JoinedCond
namespace Go.Proofs.YtidgcfgkcidkiaaGreat.Ch
open Go Go.RowKit Go.Proofs.YtidgcfgkcidkiaaGreat.L Go.Proofs.YtidgcfgkcidkiaaGreat.X
set_option linter.unusedVariables false
set_option linter.unusedSimpArgs false
def nb (b : Bool) : Int := if b then 0 else 1
def newB (cl id : Int) (l : LayD) (a : Int) (c : CellD) : Bool := if cl < 0 then false else if 4 ≤ cl then false else if id < 0 then false else if 1048576 ≤ id then false else if rightL l = false then false else if 1048576 ≤ a then false else if rightC c = false then false else true
theorem newB_e0 (cl id : Int) (l : LayD) (a : Int) (c : CellD) (hs : ∀ s ∈ l.segs, s.chains.length ≤ 1000000000) (hb : l.segs.length ≤ 1000000000000) (hk : c.backs.length ≤ 1000000000000) (hno : newB cl id l a c = false) (h1 : cl < 0) : ACalls Tryz.prog 9 [.int .i64 cl, .int .i64 id, encL l, .int .u64 a, encC c] [] (.tup [.nilp, .int .i64 (nb (newB cl id l a c))]) [] := by
  have q1 := right9_ac l hs hb
  have q2 := rightR7 c hk
  rw [show newB cl id l a c = false by unfold newB; rw [if_pos h1]]
  refine acallsK mixed Tryz.func9 rfl [0, 1, 2, 3, 4, 7, 9, 10, 11, 12, 13, 43] 1000 ([.call [] false true (.bool (rightL l)) [], .call [] false true (.bool (rightC c)) [], .t]) [] [] (v1 := .tup [.nilp, .int .i64 1]) (objs1 := []) (ob := [ACalls Tryz.prog 46 [(encL l)] [] (.bool (rightL l)) [],
 ACalls Tryz.prog 47 [(encC c)] [] (.bool (rightC c)) [],
 decide (cl < (0 : Int)) = true]) (by kernel_rfl) (by first | exact rfl | exact ⟨rfl, rfl⟩ | (simp [encL, celL, encC, celC, nb, h1]; done) | (omega)) ⟨?q13_1, ?q13_2, (by first | exact rfl | (simp [encL, celL, encC, celC, nb, h1]; done) | (simp [encL, celL, encC, celC, nb, h1]; omega) | omega | (omega)), trivial⟩
  · exact q1
  · exact q2
theorem newB_e1 (cl id : Int) (l : LayD) (a : Int) (c : CellD) (hs : ∀ s ∈ l.segs, s.chains.length ≤ 1000000000) (hb : l.segs.length ≤ 1000000000000) (hk : c.backs.length ≤ 1000000000000) (hno : newB cl id l a c = false) (h1 : ¬ (cl < 0)) (h2 : 4 ≤ cl) : ACalls Tryz.prog 9 [.int .i64 cl, .int .i64 id, encL l, .int .u64 a, encC c] [] (.tup [.nilp, .int .i64 (nb (newB cl id l a c))]) [] := by
  have q1 := right9_ac l hs hb
  have q2 := rightR7 c hk
  rw [show newB cl id l a c = false by unfold newB; rw [if_neg h1, if_pos h2]]
  refine acallsK mixed Tryz.func9 rfl [0, 1, 2, 3, 4, 7, 9, 10, 11, 12, 13, 43] 1000 ([.call [] false true (.bool (rightL l)) [], .call [] false true (.bool (rightC c)) [], .f, .t]) [] [] (v1 := .tup [.nilp, .int .i64 1]) (objs1 := []) (ob := [ACalls Tryz.prog 46 [(encL l)] [] (.bool (rightL l)) [],
 ACalls Tryz.prog 47 [(encC c)] [] (.bool (rightC c)) [],
 decide (cl < (0 : Int)) = false,
 decide (cl ≥ (4 : Int)) = true]) (by kernel_rfl) (by first | exact rfl | exact ⟨rfl, rfl⟩ | (simp [encL, celL, encC, celC, nb, h1, h2]; done) | (omega)) ⟨?q20_1, ?q20_2, ?z0, ?z1, trivial⟩
  case z0|z1 => first | exact rfl | (simp [encL, celL, encC, celC, nb, h1, h2] <;> omega) | omega | (omega)
  · exact q1
  · exact q2
theorem newB_e2 (cl id : Int) (l : LayD) (a : Int) (c : CellD) (hs : ∀ s ∈ l.segs, s.chains.length ≤ 1000000000) (hb : l.segs.length ≤ 1000000000000) (hk : c.backs.length ≤ 1000000000000) (hno : newB cl id l a c = false) (h1 : ¬ (cl < 0)) (h2 : ¬ (4 ≤ cl)) (h3 : id < 0) : ACalls Tryz.prog 9 [.int .i64 cl, .int .i64 id, encL l, .int .u64 a, encC c] [] (.tup [.nilp, .int .i64 (nb (newB cl id l a c))]) [] := by
  have q1 := right9_ac l hs hb
  have q2 := rightR7 c hk
  rw [show newB cl id l a c = false by unfold newB; rw [if_neg h1, if_neg h2, if_pos h3]]
  refine acallsK mixed Tryz.func9 rfl [0, 1, 2, 3, 4, 7, 9, 10, 11, 12, 13, 43] 1000 ([.call [] false true (.bool (rightL l)) [], .call [] false true (.bool (rightC c)) [], .f, .f, .t]) [] [] (v1 := .tup [.nilp, .int .i64 1]) (objs1 := []) (ob := [ACalls Tryz.prog 46 [(encL l)] [] (.bool (rightL l)) [],
 ACalls Tryz.prog 47 [(encC c)] [] (.bool (rightC c)) [],
 decide (cl < (0 : Int)) = false,
 decide (cl ≥ (4 : Int)) = false,
 decide (id < (0 : Int)) = true]) (by kernel_rfl) (by first | exact rfl | exact ⟨rfl, rfl⟩ | (simp [encL, celL, encC, celC, nb, h1, h2, h3]; done) | (omega)) ⟨?q27_1, ?q27_2, ?z0, ?z1, ?z2, trivial⟩
  case z0|z1|z2 => first | exact rfl | (simp [encL, celL, encC, celC, nb, h1, h2, h3] <;> omega) | omega | (omega)
  · exact q1
  · exact q2
theorem newB_e3 (cl id : Int) (l : LayD) (a : Int) (c : CellD) (hs : ∀ s ∈ l.segs, s.chains.length ≤ 1000000000) (hb : l.segs.length ≤ 1000000000000) (hk : c.backs.length ≤ 1000000000000) (hno : newB cl id l a c = false) (h1 : ¬ (cl < 0)) (h2 : ¬ (4 ≤ cl)) (h3 : ¬ (id < 0)) (h4 : 1048576 ≤ id) : ACalls Tryz.prog 9 [.int .i64 cl, .int .i64 id, encL l, .int .u64 a, encC c] [] (.tup [.nilp, .int .i64 (nb (newB cl id l a c))]) [] := by
  have q1 := right9_ac l hs hb
  have q2 := rightR7 c hk
  rw [show newB cl id l a c = false by unfold newB; rw [if_neg h1, if_neg h2, if_neg h3, if_pos h4]]
  refine acallsK mixed Tryz.func9 rfl [0, 1, 2, 3, 4, 7, 9, 10, 11, 12, 13, 43] 1000 ([.call [] false true (.bool (rightL l)) [], .call [] false true (.bool (rightC c)) [], .f, .f, .f, .t]) [] [] (v1 := .tup [.nilp, .int .i64 1]) (objs1 := []) (ob := [ACalls Tryz.prog 46 [(encL l)] [] (.bool (rightL l)) [],
 ACalls Tryz.prog 47 [(encC c)] [] (.bool (rightC c)) [],
 decide (cl < (0 : Int)) = false,
 decide (cl ≥ (4 : Int)) = false,
 decide (id < (0 : Int)) = false,
 decide (id ≥ (1048576 : Int)) = true]) (by kernel_rfl) (by first | exact rfl | exact ⟨rfl, rfl⟩ | (simp [encL, celL, encC, celC, nb, h1, h2, h3, h4]; done) | (omega)) ⟨?q34_1, ?q34_2, ?z0, ?z1, ?z2, ?z3, trivial⟩
  case z0|z1|z2|z3 => first | exact rfl | (simp [encL, celL, encC, celC, nb, h1, h2, h3, h4] <;> omega) | omega | (omega)
  · exact q1
  · exact q2
theorem newB_e4 (cl id : Int) (l : LayD) (a : Int) (c : CellD) (hs : ∀ s ∈ l.segs, s.chains.length ≤ 1000000000) (hb : l.segs.length ≤ 1000000000000) (hk : c.backs.length ≤ 1000000000000) (hno : newB cl id l a c = false) (h1 : ¬ (cl < 0)) (h2 : ¬ (4 ≤ cl)) (h3 : ¬ (id < 0)) (h4 : ¬ (1048576 ≤ id)) (h5 : rightL l = false) : ACalls Tryz.prog 9 [.int .i64 cl, .int .i64 id, encL l, .int .u64 a, encC c] [] (.tup [.nilp, .int .i64 (nb (newB cl id l a c))]) [] := by
  have q1 := right9_ac l hs hb
  have q2 := rightR7 c hk
  rw [h5] at q1
  rw [show newB cl id l a c = false by unfold newB; rw [if_neg h1, if_neg h2, if_neg h3, if_neg h4, if_pos h5]]
  refine acallsK mixed Tryz.func9 rfl [0, 1, 2, 3, 4, 7, 9, 10, 11, 12, 13, 43] 1000 ([.call [] false true (.bool false) [], .call [] false true (.bool (rightC c)) [], .f, .f, .f, .f]) [] [] (v1 := .tup [.nilp, .int .i64 1]) (objs1 := []) (ob := [ACalls Tryz.prog 46 [(encL l)] [] (.bool false) [],
 ACalls Tryz.prog 47 [(encC c)] [] (.bool (rightC c)) [],
 decide (cl < (0 : Int)) = false,
 decide (cl ≥ (4 : Int)) = false,
 decide (id < (0 : Int)) = false,
 decide (id ≥ (1048576 : Int)) = false]) (by kernel_rfl) (by first | exact rfl | exact ⟨rfl, rfl⟩ | (simp [encL, celL, encC, celC, nb, h1, h2, h3, h4, h5]; done) | (omega)) ⟨?q42_1, ?q42_2, ?z0, ?z1, ?z2, ?z3, trivial⟩
  case z0|z1|z2|z3 => first | exact rfl | (simp [encL, celL, encC, celC, nb, h1, h2, h3, h4, h5] <;> omega) | omega | (omega)
  · exact q1
  · exact q2
theorem newB_e5 (cl id : Int) (l : LayD) (a : Int) (c : CellD) (hs : ∀ s ∈ l.segs, s.chains.length ≤ 1000000000) (hb : l.segs.length ≤ 1000000000000) (hk : c.backs.length ≤ 1000000000000) (hno : newB cl id l a c = false) (h1 : ¬ (cl < 0)) (h2 : ¬ (4 ≤ cl)) (h3 : ¬ (id < 0)) (h4 : ¬ (1048576 ≤ id)) (h5 : rightL l = true) (h6 : 1048576 ≤ a) : ACalls Tryz.prog 9 [.int .i64 cl, .int .i64 id, encL l, .int .u64 a, encC c] [] (.tup [.nilp, .int .i64 (nb (newB cl id l a c))]) [] := by
  have q1 := right9_ac l hs hb
  have q2 := rightR7 c hk
  rw [h5] at q1
  rw [show newB cl id l a c = false by unfold newB; rw [if_neg h1, if_neg h2, if_neg h3, if_neg h4, if_neg (by rw [h5]; decide), if_pos h6]]
  refine acallsK mixed Tryz.func9 rfl [0, 1, 2, 3, 4, 7, 9, 10, 11, 12, 13, 43] 1000 ([.call [] false true (.bool true) [], .call [] false true (.bool (rightC c)) [], .f, .f, .f, .f, .t]) [] [] (v1 := .tup [.nilp, .int .i64 1]) (objs1 := []) (ob := [ACalls Tryz.prog 46 [(encL l)] [] (.bool true) [],
 ACalls Tryz.prog 47 [(encC c)] [] (.bool (rightC c)) [],
 decide (cl < (0 : Int)) = false,
 decide (cl ≥ (4 : Int)) = false,
 decide (id < (0 : Int)) = false,
 decide (id ≥ (1048576 : Int)) = false,
 decide (a ≥ (1048576 : Int)) = true]) (by kernel_rfl) (by first | exact rfl | exact ⟨rfl, rfl⟩ | (simp [encL, celL, encC, celC, nb, h1, h2, h3, h4, h5, h6]; done) | (omega)) ⟨?q50_1, ?q50_2, ?z0, ?z1, ?z2, ?z3, ?z4, trivial⟩
  case z0|z1|z2|z3|z4 => first | exact rfl | (simp [encL, celL, encC, celC, nb, h1, h2, h3, h4, h5, h6] <;> omega) | omega | (omega)
  · exact q1
  · exact q2
theorem newB_e6 (cl id : Int) (l : LayD) (a : Int) (c : CellD) (hs : ∀ s ∈ l.segs, s.chains.length ≤ 1000000000) (hb : l.segs.length ≤ 1000000000000) (hk : c.backs.length ≤ 1000000000000) (hno : newB cl id l a c = false) (h1 : ¬ (cl < 0)) (h2 : ¬ (4 ≤ cl)) (h3 : ¬ (id < 0)) (h4 : ¬ (1048576 ≤ id)) (h5 : rightL l = true) (h6 : ¬ (1048576 ≤ a)) (h7 : rightC c = false) : ACalls Tryz.prog 9 [.int .i64 cl, .int .i64 id, encL l, .int .u64 a, encC c] [] (.tup [.nilp, .int .i64 (nb (newB cl id l a c))]) [] := by
  have q1 := right9_ac l hs hb
  have q2 := rightR7 c hk
  rw [h5] at q1
  rw [h7] at q2
  rw [show newB cl id l a c = false by unfold newB; rw [if_neg h1, if_neg h2, if_neg h3, if_neg h4, if_neg (by rw [h5]; decide), if_neg h6, if_pos h7]]
  refine acallsK mixed Tryz.func9 rfl [0, 1, 2, 3, 4, 7, 9, 10, 11, 12, 13, 43] 1000 ([.call [] false true (.bool true) [], .call [] false true (.bool false) [], .f, .f, .f, .f, .f]) [] [] (v1 := .tup [.nilp, .int .i64 1]) (objs1 := []) (ob := [ACalls Tryz.prog 46 [(encL l)] [] (.bool true) [],
 ACalls Tryz.prog 47 [(encC c)] [] (.bool false) [],
 decide (cl < (0 : Int)) = false,
 decide (cl ≥ (4 : Int)) = false,
 decide (id < (0 : Int)) = false,
 decide (id ≥ (1048576 : Int)) = false,
 decide (a ≥ (1048576 : Int)) = false]) (by kernel_rfl) (by first | exact rfl | exact ⟨rfl, rfl⟩ | (simp [encL, celL, encC, celC, nb, h1, h2, h3, h4, h5, h6, h7]; done) | (omega)) ⟨?q59_1, ?q59_2, ?z0, ?z1, ?z2, ?z3, ?z4, trivial⟩
  case z0|z1|z2|z3|z4 => first | exact rfl | (simp [encL, celL, encC, celC, nb, h1, h2, h3, h4, h5, h6, h7] <;> omega) | omega | (omega)
  · exact q1
  · exact q2
theorem newB_ac (cl id : Int) (l : LayD) (a : Int) (c : CellD) (hs : ∀ s ∈ l.segs, s.chains.length ≤ 1000000000) (hb : l.segs.length ≤ 1000000000000) (hk : c.backs.length ≤ 1000000000000) (hno : newB cl id l a c = false) : ACalls Tryz.prog 9 [.int .i64 cl, .int .i64 id, encL l, .int .u64 a, encC c] [] (.tup [.nilp, .int .i64 (nb (newB cl id l a c))]) [] := by
  by_cases h1 : cl < 0
  · exact newB_e0 cl id l a c hs hb hk hno h1
  by_cases h2 : 4 ≤ cl
  · exact newB_e1 cl id l a c hs hb hk hno h1 h2
  by_cases h3 : id < 0
  · exact newB_e2 cl id l a c hs hb hk hno h1 h2 h3
  by_cases h4 : 1048576 ≤ id
  · exact newB_e3 cl id l a c hs hb hk hno h1 h2 h3 h4
  cases h5 : rightL l with
  | false => exact newB_e4 cl id l a c hs hb hk hno h1 h2 h3 h4 h5
  | true =>
    by_cases h6 : 1048576 ≤ a
    · exact newB_e5 cl id l a c hs hb hk hno h1 h2 h3 h4 h5 h6
    cases h7 : rightC c with
    | false => exact newB_e6 cl id l a c hs hb hk hno h1 h2 h3 h4 h5 h6 h7
    | true =>
      exact absurd hno (by rw [show newB cl id l a c = true by unfold newB; rw [if_neg h1, if_neg h2, if_neg h3, if_neg h4, if_neg (by rw [h5]; decide), if_neg h6, if_neg (by rw [h7]; decide)]]; decide)
theorem newB_asks {cl id : Int} {l : LayD} {a : Int} {c : CellD} : newB cl id l a c = true ↔ Asks cl id l a c := by
  have e : ∀ (c : Prop) [Decidable c] (x : Bool), (if c then false else x) = (!decide c && x) := by
    intro c _ x
    by_cases hc : c <;> simp [hc]
  constructor
  · intro h
    simp [newB, e] at h
    obtain ⟨h1, h2, h3, h4, h5, h6, h7⟩ := h
    exact ⟨h1, h2, h3, h4, h5, h6, h7⟩
  · intro h
    obtain ⟨h1, h2, h3, h4, h5, h6, h7⟩ := h
    simp [newB, e]
    exact ⟨h1, h2, h3, h4, h5, h6, h7⟩
theorem rNew_no (cl id : Int) (l : LayD) (a : Int) (c : CellD) (hs : ∀ s ∈ l.segs, s.chains.length ≤ 1000000000) (hb : l.segs.length ≤ 1000000000000) (hk : c.backs.length ≤ 1000000000000) (hno : ¬ Asks cl id l a c) :
    ACalls Tryz.prog 9 [.int .i64 cl, .int .i64 id, encL l, .int .u64 a, encC c] [] (.tup [.nilp, .int .i64 1]) [] := by
  have hn : newB cl id l a c = false := by
    cases h : newB cl id l a c with
    | false => rfl
    | true => exact absurd (newB_asks.1 h) hno
  have := newB_ac cl id l a c hs hb hk hn
  rw [hn] at this
  exact this
theorem rNew_yes (cl id : Int) (l : LayD) (a : Int) (c : CellD) (u : List Int) (hs : ∀ s ∈ l.segs, s.chains.length ≤ 1000000000 ∧ 0 ≤ s.at_) (hb : l.segs.length ≤ 1000000000000) (hk : c.backs.length ≤ 1000000000000) (ha : 0 ≤ a) (h : Asks cl id l a c) (hu : chainL l a = some u) :
    ACalls Tryz.prog 9 [.int .i64 cl, .int .i64 id, encL l, .int .u64 a, encC c] [] (.tup [.ptr 0 0, .int .i64 0]) (refO (fresh cl id l a c u) (-1)) := by
  have q1 := right9_ac l (fun s h => (hs s h).1) hb
  have q2 := rightR7 c hk
  rw [h.lay] at q1
  rw [h.cell] at q2
  have q3 := chain9_ac l a u hs h.lay ha h.at_ hu
  have g1 := h.cl0
  have g2 := h.cl1
  have g3 := h.id0
  have g4 := h.id1
  have g5 := h.at_
  refine acallsK mixed Tryz.func9 rfl [0, 1, 2, 3, 4, 7, 9, 10, 11, 12, 13, 43] 1000 ([.call [] false true (.bool true) [], .call [] false true (.bool true) [], .f, .f, .f, .f, .f, .call [] false false (encU u) [], .mkc 2 13 50 22]) [] [2, 3] (v1 := .tup [.ptr 0 0, .int .i64 0]) (objs1 := [.vars 88 [.int .i64 cl, .int .i64 id, .int .u64 l.epoch, .int .u64 a, .int .i64 c.kind, .lst 1 (List.map byteA c.data), .lst 3 (List.map encB c.backs), .lst 1 (List.map intA u), .int .i64 (-1), .bool false, .int .i64 0, .int .i64 0, .int .i64 0, .row 1 22 0], .row 50 22 []]) (ob := [ACalls Tryz.prog 46 [(encL l)] [] (.bool true) [],
 ACalls Tryz.prog 47 [(encC c)] [] (.bool true) [],
 decide (cl < (0 : Int)) = false,
 decide (cl ≥ (4 : Int)) = false,
 decide (id < (0 : Int)) = false,
 decide (id ≥ (1048576 : Int)) = false,
 decide (a ≥ (1048576 : Int)) = false,
 ACalls Tryz.prog 48 [(encL l), .int .u64 a] [] (.lst 1 (List.map intA u)) []]) (by kernel_rfl) (by first | exact rfl | exact ⟨rfl, rfl⟩ | (simp [refO, celR, encL, celL, encC, celC, encU, fresh, g1, g2, g3, g4, g5]; done) | (omega)) ⟨?q114_1, ?q114_2, ?z0, ?z1, ?z2, ?z3, ?z4, ?q114_3, trivial⟩
  case z0|z1|z2|z3|z4 => first | exact rfl | (simp [refO, celR, encL, celL, encC, celC, encU, fresh, g1, g2, g3, g4, g5] <;> omega) | omega | (omega)
  · exact q1
  · exact q2
  · exact q3
theorem idx_lt {l : List Int} {k : Nat} {v : Int} (h : l[k]? = some v) : k < (l.map intA).length := by rw [List.length_map]; exact (List.getElem?_eq_some_iff.1 h).1
theorem idx_at {l : List Int} {k : Nat} {v : Int} (h : l[k]? = some v) : (l.map intA)[k]? = some (.int .i64 v) := by rw [List.getElem?_map, h]; rfl
theorem hearR_e0 (s : SetD) (m : MsgD) (v : Int) (at_ : Int) (ha : At s at_) (hm : m.ok) (hl : ∀ s ∈ m.lay.segs, s.chains.length ≤ 1000000000) (hv : s.over = false → s.chain[s.at_]? = some v) (hno : hearB s m v = false) (h1 : s.started = false) : ACalls Tryz.prog 15 [.ptr 0 0, encM m] (refO s at_) (.bool (hearB s m v)) (refO s at_) := by
  have q := rightR10 m hm hl
  have e1 := ha.no
  have e2 := ha.yes
  rw [show hearB s m v = false by unfold hearB; rw [if_pos h1]]
  refine acallsK mixed Tryz.func15 rfl [0, 1, 3, 4, 5, 6, 7, 8, 79, 103, 117, 118, 120, 134] 1000 ([.call [] false true (.bool (rightM m)) [], .t]) [] [0, 1] (v1 := .bool false) (objs1 := [.vars 88 (celR s at_ ++ [.row 1 22 (List.length s.out)]), .row 50 22 s.out]) (ob := [ACalls Tryz.prog 57 [(encM m)] [] (.bool (rightM m)) [],
 decide (at_ < (0 : Int)) = true]) (by kernel_rfl) (by first | exact rfl | exact ⟨rfl, rfl⟩ | (simp [refO, celR, encM, celM, celC, celL, intA, h1]; done) | (first | omega | exact decide_eq_true (by have := e1 h1; omega) | exact decide_eq_false (by have := e2 (bt_of h1); omega) | exact ha.eq (bt_of h1) (bf_of h2) | exact idx_lt (hv (bf_of h2)) | exact idx_at (hv (bf_of h2)) | exact two_yes (by assumption) | exact two_no (by assumption))) ⟨?q125_1, (by first | exact rfl | (simp [refO, celR, encM, celM, celC, celL, intA, h1]; done) | (simp [refO, celR, encM, celM, celC, celL, intA, h1]; omega) | omega | (first | omega | exact decide_eq_true (by have := e1 h1; omega) | exact decide_eq_false (by have := e2 (bt_of h1); omega) | exact ha.eq (bt_of h1) (bf_of h2) | exact idx_lt (hv (bf_of h2)) | exact idx_at (hv (bf_of h2)) | exact two_yes (by assumption) | exact two_no (by assumption))), trivial⟩
  · exact q
theorem hearR_e1 (s : SetD) (m : MsgD) (v : Int) (at_ : Int) (ha : At s at_) (hm : m.ok) (hl : ∀ s ∈ m.lay.segs, s.chains.length ≤ 1000000000) (hv : s.over = false → s.chain[s.at_]? = some v) (hno : hearB s m v = false) (h1 : ¬ (s.started = false)) (h2 : s.over = true) : ACalls Tryz.prog 15 [.ptr 0 0, encM m] (refO s at_) (.bool (hearB s m v)) (refO s at_) := by
  have q := rightR10 m hm hl
  have e1 := ha.no
  have e2 := ha.yes
  rw [show hearB s m v = false by unfold hearB; rw [if_neg h1, if_pos h2]]
  refine acallsK mixed Tryz.func15 rfl [0, 1, 3, 4, 5, 6, 7, 8, 79, 103, 117, 118, 120, 134] 1000 ([.call [] false true (.bool (rightM m)) [], .f, .t]) [] [0, 1] (v1 := .bool false) (objs1 := [.vars 88 (celR s at_ ++ [.row 1 22 (List.length s.out)]), .row 50 22 s.out]) (ob := [ACalls Tryz.prog 57 [(encM m)] [] (.bool (rightM m)) [],
 decide (at_ < (0 : Int)) = false,
 s.over = true]) (by kernel_rfl) (by first | exact rfl | exact ⟨rfl, rfl⟩ | (simp [refO, celR, encM, celM, celC, celL, intA, h1, h2]; done) | (first | omega | exact decide_eq_true (by have := e1 h1; omega) | exact decide_eq_false (by have := e2 (bt_of h1); omega) | exact ha.eq (bt_of h1) (bf_of h2) | exact idx_lt (hv (bf_of h2)) | exact idx_at (hv (bf_of h2)) | exact two_yes (by assumption) | exact two_no (by assumption))) ⟨?q132_1, ?z0, ?z1, trivial⟩
  case z0|z1 => first | exact rfl | (simp [refO, celR, encM, celM, celC, celL, intA, h1, h2] <;> omega) | omega | (first | omega | exact decide_eq_true (by have := e1 h1; omega) | exact decide_eq_false (by have := e2 (bt_of h1); omega) | exact ha.eq (bt_of h1) (bf_of h2) | exact idx_lt (hv (bf_of h2)) | exact idx_at (hv (bf_of h2)) | exact two_yes (by assumption) | exact two_no (by assumption))
  · exact q
theorem hearR_e2 (s : SetD) (m : MsgD) (v : Int) (at_ : Int) (ha : At s at_) (hm : m.ok) (hl : ∀ s ∈ m.lay.segs, s.chains.length ≤ 1000000000) (hv : s.over = false → s.chain[s.at_]? = some v) (hno : hearB s m v = false) (h1 : ¬ (s.started = false)) (h2 : ¬ (s.over = true)) (h3 : rightM m = false) : ACalls Tryz.prog 15 [.ptr 0 0, encM m] (refO s at_) (.bool (hearB s m v)) (refO s at_) := by
  have q := rightR10 m hm hl
  have e1 := ha.no
  have e2 := ha.yes
  rw [h3] at q
  rw [show hearB s m v = false by unfold hearB; rw [if_neg h1, if_neg h2, if_pos h3]]
  refine acallsK mixed Tryz.func15 rfl [0, 1, 3, 4, 5, 6, 7, 8, 79, 103, 117, 118, 120, 134] 1000 ([.call [] false true (.bool false) [], .f, .f]) [] [0, 1] (v1 := .bool false) (objs1 := [.vars 88 (celR s at_ ++ [.row 1 22 (List.length s.out)]), .row 50 22 s.out]) (ob := [ACalls Tryz.prog 57 [(encM m)] [] (.bool false) [],
 decide (at_ < (0 : Int)) = false,
 s.over = false]) (by kernel_rfl) (by first | exact rfl | exact ⟨rfl, rfl⟩ | (simp [refO, celR, encM, celM, celC, celL, intA, bf_of h2, h3]; done) | (first | omega | exact decide_eq_true (by have := e1 h1; omega) | exact decide_eq_false (by have := e2 (bt_of h1); omega) | exact ha.eq (bt_of h1) (bf_of h2) | exact idx_lt (hv (bf_of h2)) | exact idx_at (hv (bf_of h2)) | exact two_yes (by assumption) | exact two_no (by assumption))) ⟨?q140_1, ?z0, ?z1, trivial⟩
  case z0|z1 => first | exact rfl | (simp [refO, celR, encM, celM, celC, celL, intA, bf_of h2, h3] <;> omega) | omega | (first | omega | exact decide_eq_true (by have := e1 h1; omega) | exact decide_eq_false (by have := e2 (bt_of h1); omega) | exact ha.eq (bt_of h1) (bf_of h2) | exact idx_lt (hv (bf_of h2)) | exact idx_at (hv (bf_of h2)) | exact two_yes (by assumption) | exact two_no (by assumption))
  · exact q
theorem hearR_e3 (s : SetD) (m : MsgD) (v : Int) (at_ : Int) (ha : At s at_) (hm : m.ok) (hl : ∀ s ∈ m.lay.segs, s.chains.length ≤ 1000000000) (hv : s.over = false → s.chain[s.at_]? = some v) (hno : hearB s m v = false) (h1 : ¬ (s.started = false)) (h2 : ¬ (s.over = true)) (h3 : rightM m = true) (h4 : ¬ m.kind = 14) : ACalls Tryz.prog 15 [.ptr 0 0, encM m] (refO s at_) (.bool (hearB s m v)) (refO s at_) := by
  have q := rightR10 m hm hl
  have e1 := ha.no
  have e2 := ha.yes
  rw [h3] at q
  rw [show hearB s m v = false by unfold hearB; rw [if_neg h1, if_neg h2, if_neg (by rw [h3]; decide), if_pos h4]]
  refine acallsK mixed Tryz.func15 rfl [0, 1, 3, 4, 5, 6, 7, 8, 79, 103, 117, 118, 120, 134] 1000 ([.call [] false true (.bool true) [], .f, .f, .t]) [] [0, 1] (v1 := .bool false) (objs1 := [.vars 88 (celR s at_ ++ [.row 1 22 (List.length s.out)]), .row 50 22 s.out]) (ob := [ACalls Tryz.prog 57 [(encM m)] [] (.bool true) [],
 decide (at_ < (0 : Int)) = false,
 s.over = false,
 (m.kind != (14 : Int)) = true]) (by kernel_rfl) (by first | exact rfl | exact ⟨rfl, rfl⟩ | (simp [refO, celR, encM, celM, celC, celL, intA, bf_of h2, h3, h4]; done) | (first | omega | exact decide_eq_true (by have := e1 h1; omega) | exact decide_eq_false (by have := e2 (bt_of h1); omega) | exact ha.eq (bt_of h1) (bf_of h2) | exact idx_lt (hv (bf_of h2)) | exact idx_at (hv (bf_of h2)) | exact two_yes (by assumption) | exact two_no (by assumption))) ⟨?q148_1, ?z0, ?z1, ?z2, trivial⟩
  case z0|z1|z2 => first | exact rfl | (simp [refO, celR, encM, celM, celC, celL, intA, bf_of h2, h3, h4] <;> omega) | omega | (first | omega | exact decide_eq_true (by have := e1 h1; omega) | exact decide_eq_false (by have := e2 (bt_of h1); omega) | exact ha.eq (bt_of h1) (bf_of h2) | exact idx_lt (hv (bf_of h2)) | exact idx_at (hv (bf_of h2)) | exact two_yes (by assumption) | exact two_no (by assumption))
  · exact q
theorem hearR_e4 (s : SetD) (m : MsgD) (v : Int) (at_ : Int) (ha : At s at_) (hm : m.ok) (hl : ∀ s ∈ m.lay.segs, s.chains.length ≤ 1000000000) (hv : s.over = false → s.chain[s.at_]? = some v) (hno : hearB s m v = false) (h1 : ¬ (s.started = false)) (h2 : ¬ (s.over = true)) (h3 : rightM m = true) (h4 : ¬ (¬ m.kind = 14)) (h5 : ¬ m.of_ = 1) : ACalls Tryz.prog 15 [.ptr 0 0, encM m] (refO s at_) (.bool (hearB s m v)) (refO s at_) := by
  have q := rightR10 m hm hl
  have e1 := ha.no
  have e2 := ha.yes
  rw [h3] at q
  rw [show hearB s m v = false by unfold hearB; rw [if_neg h1, if_neg h2, if_neg (by rw [h3]; decide), if_neg h4, if_pos h5]]
  refine acallsK mixed Tryz.func15 rfl [0, 1, 3, 4, 5, 6, 7, 8, 79, 103, 117, 118, 120, 134] 1000 ([.call [] false true (.bool true) [], .f, .f, .f, .t]) [] [0, 1] (v1 := .bool false) (objs1 := [.vars 88 (celR s at_ ++ [.row 1 22 (List.length s.out)]), .row 50 22 s.out]) (ob := [ACalls Tryz.prog 57 [(encM m)] [] (.bool true) [],
 decide (at_ < (0 : Int)) = false,
 s.over = false,
 (m.kind != (14 : Int)) = false,
 (m.of_ != (1 : Int)) = true]) (by kernel_rfl) (by first | exact rfl | exact ⟨rfl, rfl⟩ | (simp [refO, celR, encM, celM, celC, celL, intA, bf_of h2, h3, h4, h5]; done) | (first | omega | exact decide_eq_true (by have := e1 h1; omega) | exact decide_eq_false (by have := e2 (bt_of h1); omega) | exact ha.eq (bt_of h1) (bf_of h2) | exact idx_lt (hv (bf_of h2)) | exact idx_at (hv (bf_of h2)) | exact two_yes (by assumption) | exact two_no (by assumption))) ⟨?q156_1, ?z0, ?z1, ?z2, ?z3, trivial⟩
  case z0|z1|z2|z3 => first | exact rfl | (simp [refO, celR, encM, celM, celC, celL, intA, bf_of h2, h3, h4, h5] <;> omega) | omega | (first | omega | exact decide_eq_true (by have := e1 h1; omega) | exact decide_eq_false (by have := e2 (bt_of h1); omega) | exact ha.eq (bt_of h1) (bf_of h2) | exact idx_lt (hv (bf_of h2)) | exact idx_at (hv (bf_of h2)) | exact two_yes (by assumption) | exact two_no (by assumption))
  · exact q
theorem hearR_e5 (s : SetD) (m : MsgD) (v : Int) (at_ : Int) (ha : At s at_) (hm : m.ok) (hl : ∀ s ∈ m.lay.segs, s.chains.length ≤ 1000000000) (hv : s.over = false → s.chain[s.at_]? = some v) (hno : hearB s m v = false) (h1 : ¬ (s.started = false)) (h2 : ¬ (s.over = true)) (h3 : rightM m = true) (h4 : ¬ (¬ m.kind = 14)) (h5 : ¬ (¬ m.of_ = 1)) (h6 : ¬ m.id = s.id) : ACalls Tryz.prog 15 [.ptr 0 0, encM m] (refO s at_) (.bool (hearB s m v)) (refO s at_) := by
  have q := rightR10 m hm hl
  have e1 := ha.no
  have e2 := ha.yes
  rw [h3] at q
  rw [show hearB s m v = false by unfold hearB; rw [if_neg h1, if_neg h2, if_neg (by rw [h3]; decide), if_neg h4, if_neg h5, if_pos h6]]
  refine acallsK mixed Tryz.func15 rfl [0, 1, 3, 4, 5, 6, 7, 8, 79, 103, 117, 118, 120, 134] 1000 ([.call [] false true (.bool true) [], .f, .f, .f, .f, .t]) [] [0, 1] (v1 := .bool false) (objs1 := [.vars 88 (celR s at_ ++ [.row 1 22 (List.length s.out)]), .row 50 22 s.out]) (ob := [ACalls Tryz.prog 57 [(encM m)] [] (.bool true) [],
 decide (at_ < (0 : Int)) = false,
 s.over = false,
 (m.kind != (14 : Int)) = false,
 (m.of_ != (1 : Int)) = false,
 (m.id != s.id) = true]) (by kernel_rfl) (by first | exact rfl | exact ⟨rfl, rfl⟩ | (simp [refO, celR, encM, celM, celC, celL, intA, bf_of h2, h3, h4, h5, h6]; done) | (first | omega | exact decide_eq_true (by have := e1 h1; omega) | exact decide_eq_false (by have := e2 (bt_of h1); omega) | exact ha.eq (bt_of h1) (bf_of h2) | exact idx_lt (hv (bf_of h2)) | exact idx_at (hv (bf_of h2)) | exact two_yes (by assumption) | exact two_no (by assumption))) ⟨?q164_1, ?z0, ?z1, ?z2, ?z3, ?z4, trivial⟩
  case z0|z1|z2|z3|z4 => first | exact rfl | (simp [refO, celR, encM, celM, celC, celL, intA, bf_of h2, h3, h4, h5, h6] <;> omega) | omega | (first | omega | exact decide_eq_true (by have := e1 h1; omega) | exact decide_eq_false (by have := e2 (bt_of h1); omega) | exact ha.eq (bt_of h1) (bf_of h2) | exact idx_lt (hv (bf_of h2)) | exact idx_at (hv (bf_of h2)) | exact two_yes (by assumption) | exact two_no (by assumption))
  · exact q
theorem hearR_e6 (s : SetD) (m : MsgD) (v : Int) (at_ : Int) (ha : At s at_) (hm : m.ok) (hl : ∀ s ∈ m.lay.segs, s.chains.length ≤ 1000000000) (hv : s.over = false → s.chain[s.at_]? = some v) (hno : hearB s m v = false) (h1 : ¬ (s.started = false)) (h2 : ¬ (s.over = true)) (h3 : rightM m = true) (h4 : ¬ (¬ m.kind = 14)) (h5 : ¬ (¬ m.of_ = 1)) (h6 : ¬ (¬ m.id = s.id)) (h7 : ¬ m.addr = s.a) : ACalls Tryz.prog 15 [.ptr 0 0, encM m] (refO s at_) (.bool (hearB s m v)) (refO s at_) := by
  have q := rightR10 m hm hl
  have e1 := ha.no
  have e2 := ha.yes
  rw [h3] at q
  rw [show hearB s m v = false by unfold hearB; rw [if_neg h1, if_neg h2, if_neg (by rw [h3]; decide), if_neg h4, if_neg h5, if_neg h6, if_pos h7]]
  refine acallsK mixed Tryz.func15 rfl [0, 1, 3, 4, 5, 6, 7, 8, 79, 103, 117, 118, 120, 134] 1000 ([.call [] false true (.bool true) [], .f, .f, .f, .f, .f, .t]) [] [0, 1] (v1 := .bool false) (objs1 := [.vars 88 (celR s at_ ++ [.row 1 22 (List.length s.out)]), .row 50 22 s.out]) (ob := [ACalls Tryz.prog 57 [(encM m)] [] (.bool true) [],
 decide (at_ < (0 : Int)) = false,
 s.over = false,
 (m.kind != (14 : Int)) = false,
 (m.of_ != (1 : Int)) = false,
 (m.id != s.id) = false,
 (m.addr != s.a) = true]) (by kernel_rfl) (by first | exact rfl | exact ⟨rfl, rfl⟩ | (simp [refO, celR, encM, celM, celC, celL, intA, bf_of h2, h3, h4, h5, h6, h7]; done) | (first | omega | exact decide_eq_true (by have := e1 h1; omega) | exact decide_eq_false (by have := e2 (bt_of h1); omega) | exact ha.eq (bt_of h1) (bf_of h2) | exact idx_lt (hv (bf_of h2)) | exact idx_at (hv (bf_of h2)) | exact two_yes (by assumption) | exact two_no (by assumption))) ⟨?q172_1, ?z0, ?z1, ?z2, ?z3, ?z4, ?z5, trivial⟩
  case z0|z1|z2|z3|z4|z5 => first | exact rfl | (simp [refO, celR, encM, celM, celC, celL, intA, bf_of h2, h3, h4, h5, h6, h7] <;> omega) | omega | (first | omega | exact decide_eq_true (by have := e1 h1; omega) | exact decide_eq_false (by have := e2 (bt_of h1); omega) | exact ha.eq (bt_of h1) (bf_of h2) | exact idx_lt (hv (bf_of h2)) | exact idx_at (hv (bf_of h2)) | exact two_yes (by assumption) | exact two_no (by assumption))
  · exact q
theorem hearR_e7 (s : SetD) (m : MsgD) (v : Int) (at_ : Int) (ha : At s at_) (hm : m.ok) (hl : ∀ s ∈ m.lay.segs, s.chains.length ≤ 1000000000) (hv : s.over = false → s.chain[s.at_]? = some v) (hno : hearB s m v = false) (h1 : ¬ (s.started = false)) (h2 : ¬ (s.over = true)) (h3 : rightM m = true) (h4 : ¬ (¬ m.kind = 14)) (h5 : ¬ (¬ m.of_ = 1)) (h6 : ¬ (¬ m.id = s.id)) (h7 : ¬ (¬ m.addr = s.a)) (h8 : ¬ (m.tr = 4 ∧ m.tn = s.client)) : ACalls Tryz.prog 15 [.ptr 0 0, encM m] (refO s at_) (.bool (hearB s m v)) (refO s at_) := by
  have q := rightR10 m hm hl
  have e1 := ha.no
  have e2 := ha.yes
  rw [h3] at q
  rw [show hearB s m v = false by unfold hearB; rw [if_neg h1, if_neg h2, if_neg (by rw [h3]; decide), if_neg h4, if_neg h5, if_neg h6, if_neg h7, if_pos h8]]
  refine acallsK mixed Tryz.func15 rfl [0, 1, 3, 4, 5, 6, 7, 8, 79, 103, 117, 118, 120, 134] 1000 ([.call [] false true (.bool true) [], .f, .f, .f, .f, .f, .f, .t]) [] [0, 1] (v1 := .bool false) (objs1 := [.vars 88 (celR s at_ ++ [.row 1 22 (List.length s.out)]), .row 50 22 s.out]) (ob := [ACalls Tryz.prog 57 [(encM m)] [] (.bool true) [],
 decide (at_ < (0 : Int)) = false,
 s.over = false,
 (m.kind != (14 : Int)) = false,
 (m.of_ != (1 : Int)) = false,
 (m.id != s.id) = false,
 (m.addr != s.a) = false,
 (!(m.tr == (4 : Int) && (m.tn == s.client && true))) = true]) (by kernel_rfl) (by first | exact rfl | exact ⟨rfl, rfl⟩ | (simp [refO, celR, encM, celM, celC, celL, intA, bf_of h2, h3, h4, h5, h6, h7, h8]; done) | (first | omega | exact decide_eq_true (by have := e1 h1; omega) | exact decide_eq_false (by have := e2 (bt_of h1); omega) | exact ha.eq (bt_of h1) (bf_of h2) | exact idx_lt (hv (bf_of h2)) | exact idx_at (hv (bf_of h2)) | exact two_yes (by assumption) | exact two_no (by assumption))) ⟨?q180_1, ?z0, ?z1, ?z2, ?z3, ?z4, ?z5, ?z6, trivial⟩
  case z0|z1|z2|z3|z4|z5|z6 => first | exact rfl | (simp [refO, celR, encM, celM, celC, celL, intA, bf_of h2, h3, h4, h5, h6, h7, h8] <;> omega) | omega | (first | omega | exact decide_eq_true (by have := e1 h1; omega) | exact decide_eq_false (by have := e2 (bt_of h1); omega) | exact ha.eq (bt_of h1) (bf_of h2) | exact idx_lt (hv (bf_of h2)) | exact idx_at (hv (bf_of h2)) | exact two_yes (by assumption) | exact two_no (by assumption))
  · exact q
theorem hearR_e8 (s : SetD) (m : MsgD) (v : Int) (at_ : Int) (ha : At s at_) (hm : m.ok) (hl : ∀ s ∈ m.lay.segs, s.chains.length ≤ 1000000000) (hv : s.over = false → s.chain[s.at_]? = some v) (hno : hearB s m v = false) (h1 : ¬ (s.started = false)) (h2 : ¬ (s.over = true)) (h3 : rightM m = true) (h4 : ¬ (¬ m.kind = 14)) (h5 : ¬ (¬ m.of_ = 1)) (h6 : ¬ (¬ m.id = s.id)) (h7 : ¬ (¬ m.addr = s.a)) (h8 : ¬ (¬ (m.tr = 4 ∧ m.tn = s.client))) (h9 : ¬ (m.fr = 1 ∧ m.fn = v)) : ACalls Tryz.prog 15 [.ptr 0 0, encM m] (refO s at_) (.bool (hearB s m v)) (refO s at_) := by
  have q := rightR10 m hm hl
  have e1 := ha.no
  have e2 := ha.yes
  rw [h3] at q
  rw [show hearB s m v = false by unfold hearB; rw [if_neg h1, if_neg h2, if_neg (by rw [h3]; decide), if_neg h4, if_neg h5, if_neg h6, if_neg h7, if_neg h8, if_pos h9]]
  refine acallsK mixed Tryz.func15 rfl [0, 1, 3, 4, 5, 6, 7, 8, 79, 103, 117, 118, 120, 134] 1000 ([.call [] false true (.bool true) [], .f, .f, .f, .f, .f, .f, .f, .ix s.at_, .el (intA v), .t]) [] [0, 1] (v1 := .bool false) (objs1 := [.vars 88 (celR s at_ ++ [.row 1 22 (List.length s.out)]), .row 50 22 s.out]) (ob := [ACalls Tryz.prog 57 [(encM m)] [] (.bool true) [],
 decide (at_ < (0 : Int)) = false,
 s.over = false,
 (m.kind != (14 : Int)) = false,
 (m.of_ != (1 : Int)) = false,
 (m.id != s.id) = false,
 (m.addr != s.a) = false,
 (!(m.tr == (4 : Int) && (m.tn == s.client && true))) = false,
 s.at_ < List.length (List.map intA s.chain),
 at_ = (↑s.at_ : Int),
 (List.map intA s.chain)[s.at_]? = some (.int .i64 v),
 (!(m.fr == (1 : Int) && (m.fn == v && true))) = true]) (by kernel_rfl) (by first | exact rfl | exact ⟨rfl, rfl⟩ | (simp [refO, celR, encM, celM, celC, celL, intA, bf_of h2, h3, h4, h5, h6, h7, h8, h9]; done) | (first | omega | exact decide_eq_true (by have := e1 h1; omega) | exact decide_eq_false (by have := e2 (bt_of h1); omega) | exact ha.eq (bt_of h1) (bf_of h2) | exact idx_lt (hv (bf_of h2)) | exact idx_at (hv (bf_of h2)) | exact two_yes (by assumption) | exact two_no (by assumption))) ⟨?q188_1, ?z0, ?z1, ?z2, ?z3, ?z4, ?z5, ?z6, ?z7, ?z8, ?z9, ?z10, trivial⟩
  case z0|z1|z2|z3|z4|z5|z6|z7|z8|z9|z10 => first | exact rfl | (simp [refO, celR, encM, celM, celC, celL, intA, bf_of h2, h3, h4, h5, h6, h7, h8, h9] <;> omega) | omega | (first | omega | exact decide_eq_true (by have := e1 h1; omega) | exact decide_eq_false (by have := e2 (bt_of h1); omega) | exact ha.eq (bt_of h1) (bf_of h2) | exact idx_lt (hv (bf_of h2)) | exact idx_at (hv (bf_of h2)) | exact two_yes (by assumption) | exact two_no (by assumption))
  · exact q
theorem hearR_ac (s : SetD) (m : MsgD) (v : Int) (at_ : Int) (ha : At s at_) (hm : m.ok) (hl : ∀ s ∈ m.lay.segs, s.chains.length ≤ 1000000000) (hv : s.over = false → s.chain[s.at_]? = some v) (hno : hearB s m v = false) : ACalls Tryz.prog 15 [.ptr 0 0, encM m] (refO s at_) (.bool (hearB s m v)) (refO s at_) := by
  by_cases h1 : s.started = false
  · exact hearR_e0 s m v at_ ha hm hl hv hno h1
  by_cases h2 : s.over = true
  · exact hearR_e1 s m v at_ ha hm hl hv hno h1 h2
  cases h3 : rightM m with
  | false => exact hearR_e2 s m v at_ ha hm hl hv hno h1 h2 h3
  | true =>
    by_cases h4 : ¬ m.kind = 14
    · exact hearR_e3 s m v at_ ha hm hl hv hno h1 h2 h3 h4
    by_cases h5 : ¬ m.of_ = 1
    · exact hearR_e4 s m v at_ ha hm hl hv hno h1 h2 h3 h4 h5
    by_cases h6 : ¬ m.id = s.id
    · exact hearR_e5 s m v at_ ha hm hl hv hno h1 h2 h3 h4 h5 h6
    by_cases h7 : ¬ m.addr = s.a
    · exact hearR_e6 s m v at_ ha hm hl hv hno h1 h2 h3 h4 h5 h6 h7
    by_cases h8 : ¬ (m.tr = 4 ∧ m.tn = s.client)
    · exact hearR_e7 s m v at_ ha hm hl hv hno h1 h2 h3 h4 h5 h6 h7 h8
    by_cases h9 : ¬ (m.fr = 1 ∧ m.fn = v)
    · exact hearR_e8 s m v at_ ha hm hl hv hno h1 h2 h3 h4 h5 h6 h7 h8 h9
    exact absurd hno (by rw [show hearB s m v = true by unfold hearB; rw [if_neg h1, if_neg h2, if_neg (by rw [h3]; decide), if_neg h4, if_neg h5, if_neg h6, if_neg h7, if_neg h8, if_neg h9]]; decide)
def atR (s : SetD) (m : MsgD) (v : Int) (at_ : Int) : Int := if hearB s m v = true then (if (stepS s m).over = true then s.at_ else s.at_ + 1) else at_
theorem hearY_a1 (s : SetD) (m : MsgD) (v : Int) (hs : s.ok) (hm : m.ok) (hl : ∀ s ∈ m.lay.segs, s.chains.length ≤ 1000000000) (hv : s.chain[s.at_]? = some v) (H : Heard s m v) (k1 : ¬ m.err = 81) (k2 : m.err = 0) (hz : s.at_ + 1 = s.chain.length) : ACalls Tryz.prog 15 [.ptr 0 0, encM m] (refO s s.at_) (.bool true) (refO (ended s 0) (s.at_)) := by
  have q := rightR10 m hm hl
  rw [H.rt] at q
  have q1 := rightR7 m.cell hm.cell.b
  have q2 := same7_ac m.cell s.cell hm.cell hs.cell
  have hc := hs.ch
  have ho := hs.out
  have hw1 : IntKind.i64.wrap ((s.at_ : Int) + 1) = ((s.at_ + 1 : Nat) : Int) := wrap64 (by omega)
  have q3 := rEnd s s.at_ 0
  refine acallsK mixed Tryz.func15 rfl [0, 1, 3, 4, 5, 6, 7, 8, 79, 103, 117, 118, 120, 134] 1000 ([.call [] false true (.bool true) [], .f, .f, .f, .f, .f, .f, .f, .ix s.at_, .el (intA v), .f, .call [] false true (.bool (rightC m.cell)) [], .call [] false true (.bool (sameC m.cell s.cell)) [], .f, .f, .f, .n ((s.at_ + 1 : Nat) : Int), .n s.chain.length, .t, .call [0, 1] false false (.tup []) (refO (ended s 0) s.at_)]) [] [0, 4] (v1 := .bool true) (objs1 := [.vars 88 (celR (ended s 0) (↑s.at_ : Int) ++ [.row 1 22 (List.length (ended s 0).out)]), .row 50 22 (ended s 0).out]) (ob := [ACalls Tryz.prog 57 [(encM m)] [] (.bool true) [],
 decide ((↑s.at_ : Int) < (0 : Int)) = false,
 s.over = false,
 (m.kind != (14 : Int)) = false,
 (m.of_ != (1 : Int)) = false,
 (m.id != s.id) = false,
 (m.addr != s.a) = false,
 (!(m.tr == (4 : Int) && (m.tn == s.client && true))) = false,
 s.at_ < List.length (List.map intA s.chain),
 (↑s.at_ : Int) = (↑s.at_ : Int),
 (List.map intA s.chain)[s.at_]? = some (.int .i64 v),
 (!(m.fr == (1 : Int) && (m.fn == v && true))) = false,
 ACalls Tryz.prog 47 [(encC m.cell)] [] (.bool (rightC m.cell)) [],
 ACalls Tryz.prog 23 [(encC m.cell), (encC s.cell)] [] (.bool (sameC m.cell s.cell)) [],
 (m.err == (81 : Int)) = false,
 (m.err == (81 : Int)) = false,
 (m.err != (0 : Int)) = false,
 IntKind.i64.wrap ((↑s.at_ : Int) + (1 : Int)) = (↑(s.at_ + (1 : Nat)) : Int),
 ((List.map intA s.chain).length : Int) = (s.chain.length : Int),
 ((↑(s.at_ + (1 : Nat)) : Int) == (s.chain.length : Int)) = true,
 ACalls Tryz.prog 58 [.ptr 0 0, .int .i64 0] [.vars 88 (celR s (↑s.at_ : Int) ++ [.row 1 22 (List.length s.out)]), .row 50 22 s.out] (.tup []) [.vars 88 (celR (ended s 0) (↑s.at_ : Int) ++ [.row 1 22 (List.length (ended s 0).out)]), .row 50 22 (ended s 0).out]]) (by kernel_rfl) (by first | exact rfl | exact ⟨rfl, rfl⟩ | (simp [refO, celR, encM, celM, celC, celL, intA, H.ov, H.kd, H.of1, H.id, H.ad, H.to1, H.to2, H.fr1, H.fr2, k1, k2, hz]; done) | (first | omega | exact idx_lt hv | exact idx_at hv | exact two_no (fun h => h ⟨by first | exact H.to1 | exact H.fr1, by first | exact H.to2 | exact H.fr2⟩) | exact hw1)) ⟨?q221_1, ?z0, ?z1, ?z2, ?z3, ?z4, ?z5, ?z6, ?z7, ?z8, ?z9, ?z10, ?q221_2, ?q221_3, ?z11, ?z12, ?z13, ?z14, ?z15, ?z16, ?q221_4, trivial⟩
  case z0|z1|z2|z3|z4|z5|z6|z7|z8|z9|z10|z11|z12|z13|z14|z15|z16 => first | exact rfl | (simp [refO, celR, encM, celM, celC, celL, intA, H.ov, H.kd, H.of1, H.id, H.ad, H.to1, H.to2, H.fr1, H.fr2, k1, k2, hz] <;> omega) | omega | (first | omega | exact idx_lt hv | exact idx_at hv | exact two_no (fun h => h ⟨by first | exact H.to1 | exact H.fr1, by first | exact H.to2 | exact H.fr2⟩) | exact hw1)
  · exact q
  · exact q1
  · exact q2
  · exact q3
theorem hearY_a2 (s : SetD) (m : MsgD) (v : Int) (hs : s.ok) (hm : m.ok) (hl : ∀ s ∈ m.lay.segs, s.chains.length ≤ 1000000000) (hv : s.chain[s.at_]? = some v) (H : Heard s m v) (k1 : ¬ m.err = 81) (k2 : m.err = 0) {v2 : Int} (hv2 : s.chain[s.at_ + 1]? = some v2) : ACalls Tryz.prog 15 [.ptr 0 0, encM m] (refO s s.at_) (.bool true) (refO (nextS s v2) (((s.at_ + 1 : Nat) : Int))) := by
  have q := rightR10 m hm hl
  rw [H.rt] at q
  have q1 := rightR7 m.cell hm.cell.b
  have q2 := same7_ac m.cell s.cell hm.cell hs.cell
  have hc := hs.ch
  have ho := hs.out
  have hz : s.at_ + 1 < s.chain.length := (List.getElem?_eq_some_iff.1 hv2).1
  have hw1 : IntKind.i64.wrap ((s.at_ : Int) + 1) = ((s.at_ + 1 : Nat) : Int) := wrap64 (by omega)
  have q3 := rWrite { s with at_ := s.at_ + 1, writes := 0 } (s.at_ + 1) hv2 (by show s.out.length ≤ _; omega) (by show (0 : Int) ≤ 0; omega) (by show (0 : Int) ≤ 1000; omega)
  refine acallsK mixed Tryz.func15 rfl [0, 1, 3, 4, 5, 6, 7, 8, 79, 103, 117, 118, 120, 134] 1000 ([.call [] false true (.bool true) [], .f, .f, .f, .f, .f, .f, .f, .ix s.at_, .el (intA v), .f, .call [] false true (.bool (rightC m.cell)) [], .call [] false true (.bool (sameC m.cell s.cell)) [], .f, .f, .f, .n ((s.at_ + 1 : Nat) : Int), .n s.chain.length, .f, .n ((s.at_ + 1 : Nat) : Int), .call [0, 1] false false (.tup []) (refO (nextS s v2) ((s.at_ + 1 : Nat) : Int))]) [] [0, 4] (v1 := .bool true) (objs1 := [.vars 88 [.int .i64 (nextS s v2).client, .int .i64 (nextS s v2).id, .int .u64 (nextS s v2).epoch, .int .u64 (nextS s v2).a, .int .i64 (nextS s v2).cell.kind, .lst 1 (List.map byteA (nextS s v2).cell.data), .lst 3 (List.map encB (nextS s v2).cell.backs), .lst 1 (List.map intA (nextS s v2).chain), .int .i64 (↑(s.at_ + 1) : Int), .bool (nextS s v2).over, .int .i64 (nextS s v2).e, .int .i64 (nextS s v2).ticks, .int .i64 (nextS s v2).writes, .row 1 22 (List.length (nextS s v2).out)], .row 50 22 (nextS s v2).out]) (ob := [ACalls Tryz.prog 57 [(encM m)] [] (.bool true) [],
 decide ((↑s.at_ : Int) < (0 : Int)) = false,
 s.over = false,
 (m.kind != (14 : Int)) = false,
 (m.of_ != (1 : Int)) = false,
 (m.id != s.id) = false,
 (m.addr != s.a) = false,
 (!(m.tr == (4 : Int) && (m.tn == s.client && true))) = false,
 s.at_ < List.length (List.map intA s.chain),
 (↑s.at_ : Int) = (↑s.at_ : Int),
 (List.map intA s.chain)[s.at_]? = some (.int .i64 v),
 (!(m.fr == (1 : Int) && (m.fn == v && true))) = false,
 ACalls Tryz.prog 47 [(encC m.cell)] [] (.bool (rightC m.cell)) [],
 ACalls Tryz.prog 23 [(encC m.cell), (encC s.cell)] [] (.bool (sameC m.cell s.cell)) [],
 (m.err == (81 : Int)) = false,
 (m.err == (81 : Int)) = false,
 (m.err != (0 : Int)) = false,
 IntKind.i64.wrap ((↑s.at_ : Int) + (1 : Int)) = (↑(s.at_ + (1 : Nat)) : Int),
 ((List.map intA s.chain).length : Int) = (s.chain.length : Int),
 ((↑(s.at_ + (1 : Nat)) : Int) == (s.chain.length : Int)) = false,
 IntKind.i64.wrap ((↑s.at_ : Int) + (1 : Int)) = (↑(s.at_ + (1 : Nat)) : Int),
 ACalls Tryz.prog 50 [.ptr 0 0] [.vars 88 [.int .i64 s.client, .int .i64 s.id, .int .u64 s.epoch, .int .u64 s.a, .int .i64 s.cell.kind, .lst 1 (List.map byteA s.cell.data), .lst 3 (List.map encB s.cell.backs), .lst 1 (List.map intA s.chain), .int .i64 (↑(s.at_ + 1) : Int), .bool s.over, .int .i64 s.e, .int .i64 s.ticks, .int .i64 0, .row 1 22 (List.length s.out)], .row 50 22 s.out] (.tup []) [.vars 88 [.int .i64 (nextS s v2).client, .int .i64 (nextS s v2).id, .int .u64 (nextS s v2).epoch, .int .u64 (nextS s v2).a, .int .i64 (nextS s v2).cell.kind, .lst 1 (List.map byteA (nextS s v2).cell.data), .lst 3 (List.map encB (nextS s v2).cell.backs), .lst 1 (List.map intA (nextS s v2).chain), .int .i64 (↑(s.at_ + 1) : Int), .bool (nextS s v2).over, .int .i64 (nextS s v2).e, .int .i64 (nextS s v2).ticks, .int .i64 (nextS s v2).writes, .row 1 22 (List.length (nextS s v2).out)], .row 50 22 (nextS s v2).out]]) (by kernel_rfl) (by first | exact rfl | exact ⟨rfl, rfl⟩ | (simp [refO, celR, nextS, wrote, encM, celM, celC, celL, intA, H.ov, H.kd, H.of1, H.id, H.ad, H.to1, H.to2, H.fr1, H.fr2, k1, k2]; done) | (first | omega | exact idx_lt hv | exact idx_at hv | exact two_no (fun h => h ⟨by first | exact H.to1 | exact H.fr1, by first | exact H.to2 | exact H.fr2⟩) | exact hw1)) ⟨?q236_1, ?z0, ?z1, ?z2, ?z3, ?z4, ?z5, ?z6, ?z7, ?z8, ?z9, ?z10, ?q236_2, ?q236_3, ?z11, ?z12, ?z13, ?z14, ?z15, ?z16, ?z17, ?q236_4, trivial⟩
  case z0|z1|z2|z3|z4|z5|z6|z7|z8|z9|z10|z11|z12|z13|z14|z15|z16|z17 => first | exact rfl | (simp [refO, celR, nextS, wrote, encM, celM, celC, celL, intA, H.ov, H.kd, H.of1, H.id, H.ad, H.to1, H.to2, H.fr1, H.fr2, k1, k2] <;> omega) | omega | (first | omega | exact idx_lt hv | exact idx_at hv | exact two_no (fun h => h ⟨by first | exact H.to1 | exact H.fr1, by first | exact H.to2 | exact H.fr2⟩) | exact hw1)
  · exact q
  · exact q1
  · exact q2
  · exact q3
theorem hearY_b (s : SetD) (m : MsgD) (v : Int) (hs : s.ok) (hm : m.ok) (hl : ∀ s ∈ m.lay.segs, s.chains.length ≤ 1000000000) (hv : s.chain[s.at_]? = some v) (H : Heard s m v) (k1 : ¬ m.err = 81) (k2 : ¬ m.err = 0) : ACalls Tryz.prog 15 [.ptr 0 0, encM m] (refO s s.at_) (.bool true) (refO (ended s m.err) (s.at_)) := by
  have q := rightR10 m hm hl
  rw [H.rt] at q
  have q1 := rightR7 m.cell hm.cell.b
  have q2 := same7_ac m.cell s.cell hm.cell hs.cell
  have hc := hs.ch
  have ho := hs.out
  have q3 := rEnd s s.at_ m.err
  refine acallsK mixed Tryz.func15 rfl [0, 1, 3, 4, 5, 6, 7, 8, 79, 103, 117, 118, 120, 134] 1000 ([.call [] false true (.bool true) [], .f, .f, .f, .f, .f, .f, .f, .ix s.at_, .el (intA v), .f, .call [] false true (.bool (rightC m.cell)) [], .call [] false true (.bool (sameC m.cell s.cell)) [], .f, .f, .t, .call [0, 1] false false (.tup []) (refO (ended s m.err) s.at_)]) [] [0, 4] (v1 := .bool true) (objs1 := [.vars 88 (celR (ended s m.err) (↑s.at_ : Int) ++ [.row 1 22 (List.length (ended s m.err).out)]), .row 50 22 (ended s m.err).out]) (ob := [ACalls Tryz.prog 57 [(encM m)] [] (.bool true) [],
 decide ((↑s.at_ : Int) < (0 : Int)) = false,
 s.over = false,
 (m.kind != (14 : Int)) = false,
 (m.of_ != (1 : Int)) = false,
 (m.id != s.id) = false,
 (m.addr != s.a) = false,
 (!(m.tr == (4 : Int) && (m.tn == s.client && true))) = false,
 s.at_ < List.length (List.map intA s.chain),
 (↑s.at_ : Int) = (↑s.at_ : Int),
 (List.map intA s.chain)[s.at_]? = some (.int .i64 v),
 (!(m.fr == (1 : Int) && (m.fn == v && true))) = false,
 ACalls Tryz.prog 47 [(encC m.cell)] [] (.bool (rightC m.cell)) [],
 ACalls Tryz.prog 23 [(encC m.cell), (encC s.cell)] [] (.bool (sameC m.cell s.cell)) [],
 (m.err == (81 : Int)) = false,
 (m.err == (81 : Int)) = false,
 (m.err != (0 : Int)) = true,
 ACalls Tryz.prog 58 [.ptr 0 0, .int .i64 m.err] [.vars 88 (celR s (↑s.at_ : Int) ++ [.row 1 22 (List.length s.out)]), .row 50 22 s.out] (.tup []) [.vars 88 (celR (ended s m.err) (↑s.at_ : Int) ++ [.row 1 22 (List.length (ended s m.err).out)]), .row 50 22 (ended s m.err).out]]) (by kernel_rfl) (by first | exact rfl | exact ⟨rfl, rfl⟩ | (simp [refO, celR, encM, celM, celC, celL, intA, H.ov, H.kd, H.of1, H.id, H.ad, H.to1, H.to2, H.fr1, H.fr2, k1, k2]; done) | (first | omega | exact idx_lt hv | exact idx_at hv | exact two_no (fun h => h ⟨by first | exact H.to1 | exact H.fr1, by first | exact H.to2 | exact H.fr2⟩) | exact hw1)) ⟨?q249_1, ?z0, ?z1, ?z2, ?z3, ?z4, ?z5, ?z6, ?z7, ?z8, ?z9, ?z10, ?q249_2, ?q249_3, ?z11, ?z12, ?z13, ?q249_4, trivial⟩
  case z0|z1|z2|z3|z4|z5|z6|z7|z8|z9|z10|z11|z12|z13 => first | exact rfl | (simp [refO, celR, encM, celM, celC, celL, intA, H.ov, H.kd, H.of1, H.id, H.ad, H.to1, H.to2, H.fr1, H.fr2, k1, k2] <;> omega) | omega | (first | omega | exact idx_lt hv | exact idx_at hv | exact two_no (fun h => h ⟨by first | exact H.to1 | exact H.fr1, by first | exact H.to2 | exact H.fr2⟩) | exact hw1)
  · exact q
  · exact q1
  · exact q2
  · exact q3
theorem hearY_c (s : SetD) (m : MsgD) (v : Int) (hs : s.ok) (hm : m.ok) (hl : ∀ s ∈ m.lay.segs, s.chains.length ≤ 1000000000) (hv : s.chain[s.at_]? = some v) (H : Heard s m v) (k1 : m.err = 81) (k2 : 0 < s.at_) (k3 : sameC m.cell s.cell = false) : ACalls Tryz.prog 15 [.ptr 0 0, encM m] (refO s s.at_) (.bool true) (refO (ended s 191) (s.at_)) := by
  have q := rightR10 m hm hl
  rw [H.rt] at q
  have q1 := rightR7 m.cell hm.cell.b
  have q2 := same7_ac m.cell s.cell hm.cell hs.cell
  have hc := hs.ch
  have ho := hs.out
  rw [k3] at q2
  have q3 := rEnd s s.at_ 191
  refine acallsK mixed Tryz.func15 rfl [0, 1, 3, 4, 5, 6, 7, 8, 79, 103, 117, 118, 120, 134] 1000 ([.call [] false true (.bool true) [], .f, .f, .f, .f, .f, .f, .f, .ix s.at_, .el (intA v), .f, .call [] false true (.bool (rightC m.cell)) [], .call [] false true (.bool false) [], .t, .f, .t, .t, .t, .call [0, 1] false false (.tup []) (refO (ended s 191) s.at_)]) [] [0, 4] (v1 := .bool true) (objs1 := [.vars 88 [.int .i64 (ended s 191).client, .int .i64 (ended s 191).id, .int .u64 (ended s 191).epoch, .int .u64 (ended s 191).a, .int .i64 (ended s 191).cell.kind, .lst 1 [], .lst 3 [], .lst 1 (List.map intA (ended s 191).chain), .int .i64 (↑s.at_ : Int), .bool (ended s 191).over, .int .i64 (ended s 191).e, .int .i64 (ended s 191).ticks, .int .i64 (ended s 191).writes, .row 1 22 (List.length (ended s 191).out)], .row 50 22 (ended s 191).out]) (ob := [ACalls Tryz.prog 57 [(encM m)] [] (.bool true) [],
 decide ((↑s.at_ : Int) < (0 : Int)) = false,
 s.over = false,
 (m.kind != (14 : Int)) = false,
 (m.of_ != (1 : Int)) = false,
 (m.id != s.id) = false,
 (m.addr != s.a) = false,
 (!(m.tr == (4 : Int) && (m.tn == s.client && true))) = false,
 s.at_ < List.length (List.map intA s.chain),
 (↑s.at_ : Int) = (↑s.at_ : Int),
 (List.map intA s.chain)[s.at_]? = some (.int .i64 v),
 (!(m.fr == (1 : Int) && (m.fn == v && true))) = false,
 ACalls Tryz.prog 47 [(encC m.cell)] [] (.bool (rightC m.cell)) [],
 ACalls Tryz.prog 23 [(encC m.cell), (encC s.cell)] [] (.bool false) [],
 (m.err == (81 : Int)) = true,
 ((↑s.at_ : Int) == (0 : Int)) = false,
 (m.err == (81 : Int)) = true,
 decide ((↑s.at_ : Int) > (0 : Int)) = true,
 ((191 : Int) != (0 : Int)) = true,
 ACalls Tryz.prog 58 [.ptr 0 0, .int .i64 191] [.vars 88 (celR s (↑s.at_ : Int) ++ [.row 1 22 (List.length s.out)]), .row 50 22 s.out] (.tup []) [.vars 88 [.int .i64 (ended s 191).client, .int .i64 (ended s 191).id, .int .u64 (ended s 191).epoch, .int .u64 (ended s 191).a, .int .i64 (ended s 191).cell.kind, .lst 1 [], .lst 3 [], .lst 1 (List.map intA (ended s 191).chain), .int .i64 (↑s.at_ : Int), .bool (ended s 191).over, .int .i64 (ended s 191).e, .int .i64 (ended s 191).ticks, .int .i64 (ended s 191).writes, .row 1 22 (List.length (ended s 191).out)], .row 50 22 (ended s 191).out]]) (by kernel_rfl) (by first | exact rfl | exact ⟨rfl, rfl⟩ | (simp [refO, celR, encM, celM, celC, celL, intA, H.ov, H.kd, H.of1, H.id, H.ad, H.to1, H.to2, H.fr1, H.fr2, k1, k2]; done) | (first | omega | exact idx_lt hv | exact idx_at hv | exact two_no (fun h => h ⟨by first | exact H.to1 | exact H.fr1, by first | exact H.to2 | exact H.fr2⟩) | exact hw1)) ⟨?q263_1, ?z0, ?z1, ?z2, ?z3, ?z4, ?z5, ?z6, ?z7, ?z8, ?z9, ?z10, ?q263_2, ?q263_3, ?z11, ?z12, ?z13, ?z14, ?z15, ?q263_4, trivial⟩
  case z0|z1|z2|z3|z4|z5|z6|z7|z8|z9|z10|z11|z12|z13|z14|z15 => first | exact rfl | (simp [refO, celR, encM, celM, celC, celL, intA, H.ov, H.kd, H.of1, H.id, H.ad, H.to1, H.to2, H.fr1, H.fr2, k1, k2] <;> omega) | omega | (first | omega | exact idx_lt hv | exact idx_at hv | exact two_no (fun h => h ⟨by first | exact H.to1 | exact H.fr1, by first | exact H.to2 | exact H.fr2⟩) | exact hw1)
  · exact q
  · exact q1
  · exact q2
  · exact q3
theorem hearY_d1 (s : SetD) (m : MsgD) (v : Int) (hs : s.ok) (hm : m.ok) (hl : ∀ s ∈ m.lay.segs, s.chains.length ≤ 1000000000) (hv : s.chain[s.at_]? = some v) (H : Heard s m v) (k1 : m.err = 81) (k2 : 0 < s.at_) (k3 : sameC m.cell s.cell = true) (hz : s.at_ + 1 = s.chain.length) : ACalls Tryz.prog 15 [.ptr 0 0, encM m] (refO s s.at_) (.bool true) (refO (ended s 0) (s.at_)) := by
  have q := rightR10 m hm hl
  rw [H.rt] at q
  have q1 := rightR7 m.cell hm.cell.b
  have q2 := same7_ac m.cell s.cell hm.cell hs.cell
  have hc := hs.ch
  have ho := hs.out
  rw [k3] at q2
  have hw1 : IntKind.i64.wrap ((s.at_ : Int) + 1) = ((s.at_ + 1 : Nat) : Int) := wrap64 (by omega)
  have q3 := rEnd s s.at_ 0
  refine acallsK mixed Tryz.func15 rfl [0, 1, 3, 4, 5, 6, 7, 8, 79, 103, 117, 118, 120, 134] 1000 ([.call [] false true (.bool true) [], .f, .f, .f, .f, .f, .f, .f, .ix s.at_, .el (intA v), .f, .call [] false true (.bool (rightC m.cell)) [], .call [] false true (.bool true) [], .t, .f, .t, .t, .f, .n ((s.at_ + 1 : Nat) : Int), .n s.chain.length, .t, .call [0, 1] false false (.tup []) (refO (ended s 0) s.at_)]) [] [0, 4] (v1 := .bool true) (objs1 := [.vars 88 (celR (ended s 0) (↑s.at_ : Int) ++ [.row 1 22 (List.length (ended s 0).out)]), .row 50 22 (ended s 0).out]) (ob := [ACalls Tryz.prog 57 [(encM m)] [] (.bool true) [],
 decide ((↑s.at_ : Int) < (0 : Int)) = false,
 s.over = false,
 (m.kind != (14 : Int)) = false,
 (m.of_ != (1 : Int)) = false,
 (m.id != s.id) = false,
 (m.addr != s.a) = false,
 (!(m.tr == (4 : Int) && (m.tn == s.client && true))) = false,
 s.at_ < List.length (List.map intA s.chain),
 (↑s.at_ : Int) = (↑s.at_ : Int),
 (List.map intA s.chain)[s.at_]? = some (.int .i64 v),
 (!(m.fr == (1 : Int) && (m.fn == v && true))) = false,
 ACalls Tryz.prog 47 [(encC m.cell)] [] (.bool (rightC m.cell)) [],
 ACalls Tryz.prog 23 [(encC m.cell), (encC s.cell)] [] (.bool true) [],
 (m.err == (81 : Int)) = true,
 ((↑s.at_ : Int) == (0 : Int)) = false,
 (m.err == (81 : Int)) = true,
 decide ((↑s.at_ : Int) > (0 : Int)) = true,
 ((0 : Int) != (0 : Int)) = false,
 IntKind.i64.wrap ((↑s.at_ : Int) + (1 : Int)) = (↑(s.at_ + (1 : Nat)) : Int),
 ((List.map intA s.chain).length : Int) = (s.chain.length : Int),
 ((↑(s.at_ + (1 : Nat)) : Int) == (s.chain.length : Int)) = true,
 ACalls Tryz.prog 58 [.ptr 0 0, .int .i64 0] [.vars 88 (celR s (↑s.at_ : Int) ++ [.row 1 22 (List.length s.out)]), .row 50 22 s.out] (.tup []) [.vars 88 (celR (ended s 0) (↑s.at_ : Int) ++ [.row 1 22 (List.length (ended s 0).out)]), .row 50 22 (ended s 0).out]]) (by kernel_rfl) (by first | exact rfl | exact ⟨rfl, rfl⟩ | (simp [refO, celR, encM, celM, celC, celL, intA, H.ov, H.kd, H.of1, H.id, H.ad, H.to1, H.to2, H.fr1, H.fr2, k1, k2, hz]; done) | (first | omega | exact idx_lt hv | exact idx_at hv | exact two_no (fun h => h ⟨by first | exact H.to1 | exact H.fr1, by first | exact H.to2 | exact H.fr2⟩) | exact hw1)) ⟨?q278_1, ?z0, ?z1, ?z2, ?z3, ?z4, ?z5, ?z6, ?z7, ?z8, ?z9, ?z10, ?q278_2, ?q278_3, ?z11, ?z12, ?z13, ?z14, ?z15, ?z16, ?z17, ?z18, ?q278_4, trivial⟩
  case z0|z1|z2|z3|z4|z5|z6|z7|z8|z9|z10|z11|z12|z13|z14|z15|z16|z17|z18 => first | exact rfl | (simp [refO, celR, encM, celM, celC, celL, intA, H.ov, H.kd, H.of1, H.id, H.ad, H.to1, H.to2, H.fr1, H.fr2, k1, k2, hz] <;> omega) | omega | (first | omega | exact idx_lt hv | exact idx_at hv | exact two_no (fun h => h ⟨by first | exact H.to1 | exact H.fr1, by first | exact H.to2 | exact H.fr2⟩) | exact hw1)
  · exact q
  · exact q1
  · exact q2
  · exact q3
theorem hearY_d2 (s : SetD) (m : MsgD) (v : Int) (hs : s.ok) (hm : m.ok) (hl : ∀ s ∈ m.lay.segs, s.chains.length ≤ 1000000000) (hv : s.chain[s.at_]? = some v) (H : Heard s m v) (k1 : m.err = 81) (k2 : 0 < s.at_) (k3 : sameC m.cell s.cell = true) {v2 : Int} (hv2 : s.chain[s.at_ + 1]? = some v2) : ACalls Tryz.prog 15 [.ptr 0 0, encM m] (refO s s.at_) (.bool true) (refO (nextS s v2) (((s.at_ + 1 : Nat) : Int))) := by
  have q := rightR10 m hm hl
  rw [H.rt] at q
  have q1 := rightR7 m.cell hm.cell.b
  have q2 := same7_ac m.cell s.cell hm.cell hs.cell
  have hc := hs.ch
  have ho := hs.out
  rw [k3] at q2
  have hz : s.at_ + 1 < s.chain.length := (List.getElem?_eq_some_iff.1 hv2).1
  have hw1 : IntKind.i64.wrap ((s.at_ : Int) + 1) = ((s.at_ + 1 : Nat) : Int) := wrap64 (by omega)
  have q3 := rWrite { s with at_ := s.at_ + 1, writes := 0 } (s.at_ + 1) hv2 (by show s.out.length ≤ _; omega) (by show (0 : Int) ≤ 0; omega) (by show (0 : Int) ≤ 1000; omega)
  refine acallsK mixed Tryz.func15 rfl [0, 1, 3, 4, 5, 6, 7, 8, 79, 103, 117, 118, 120, 134] 1000 ([.call [] false true (.bool true) [], .f, .f, .f, .f, .f, .f, .f, .ix s.at_, .el (intA v), .f, .call [] false true (.bool (rightC m.cell)) [], .call [] false true (.bool true) [], .t, .f, .t, .t, .f, .n ((s.at_ + 1 : Nat) : Int), .n s.chain.length, .f, .n ((s.at_ + 1 : Nat) : Int), .call [0, 1] false false (.tup []) (refO (nextS s v2) ((s.at_ + 1 : Nat) : Int))]) [] [0, 4] (v1 := .bool true) (objs1 := [.vars 88 [.int .i64 (nextS s v2).client, .int .i64 (nextS s v2).id, .int .u64 (nextS s v2).epoch, .int .u64 (nextS s v2).a, .int .i64 (nextS s v2).cell.kind, .lst 1 (List.map byteA (nextS s v2).cell.data), .lst 3 (List.map encB (nextS s v2).cell.backs), .lst 1 (List.map intA (nextS s v2).chain), .int .i64 (↑(s.at_ + 1) : Int), .bool (nextS s v2).over, .int .i64 (nextS s v2).e, .int .i64 (nextS s v2).ticks, .int .i64 (nextS s v2).writes, .row 1 22 (List.length (nextS s v2).out)], .row 50 22 (nextS s v2).out]) (ob := [ACalls Tryz.prog 57 [(encM m)] [] (.bool true) [],
 decide ((↑s.at_ : Int) < (0 : Int)) = false,
 s.over = false,
 (m.kind != (14 : Int)) = false,
 (m.of_ != (1 : Int)) = false,
 (m.id != s.id) = false,
 (m.addr != s.a) = false,
 (!(m.tr == (4 : Int) && (m.tn == s.client && true))) = false,
 s.at_ < List.length (List.map intA s.chain),
 (↑s.at_ : Int) = (↑s.at_ : Int),
 (List.map intA s.chain)[s.at_]? = some (.int .i64 v),
 (!(m.fr == (1 : Int) && (m.fn == v && true))) = false,
 ACalls Tryz.prog 47 [(encC m.cell)] [] (.bool (rightC m.cell)) [],
 ACalls Tryz.prog 23 [(encC m.cell), (encC s.cell)] [] (.bool true) [],
 (m.err == (81 : Int)) = true,
 ((↑s.at_ : Int) == (0 : Int)) = false,
 (m.err == (81 : Int)) = true,
 decide ((↑s.at_ : Int) > (0 : Int)) = true,
 ((0 : Int) != (0 : Int)) = false,
 IntKind.i64.wrap ((↑s.at_ : Int) + (1 : Int)) = (↑(s.at_ + (1 : Nat)) : Int),
 ((List.map intA s.chain).length : Int) = (s.chain.length : Int),
 ((↑(s.at_ + (1 : Nat)) : Int) == (s.chain.length : Int)) = false,
 IntKind.i64.wrap ((↑s.at_ : Int) + (1 : Int)) = (↑(s.at_ + (1 : Nat)) : Int),
 ACalls Tryz.prog 50 [.ptr 0 0] [.vars 88 [.int .i64 s.client, .int .i64 s.id, .int .u64 s.epoch, .int .u64 s.a, .int .i64 s.cell.kind, .lst 1 (List.map byteA s.cell.data), .lst 3 (List.map encB s.cell.backs), .lst 1 (List.map intA s.chain), .int .i64 (↑(s.at_ + 1) : Int), .bool s.over, .int .i64 s.e, .int .i64 s.ticks, .int .i64 0, .row 1 22 (List.length s.out)], .row 50 22 s.out] (.tup []) [.vars 88 [.int .i64 (nextS s v2).client, .int .i64 (nextS s v2).id, .int .u64 (nextS s v2).epoch, .int .u64 (nextS s v2).a, .int .i64 (nextS s v2).cell.kind, .lst 1 (List.map byteA (nextS s v2).cell.data), .lst 3 (List.map encB (nextS s v2).cell.backs), .lst 1 (List.map intA (nextS s v2).chain), .int .i64 (↑(s.at_ + 1) : Int), .bool (nextS s v2).over, .int .i64 (nextS s v2).e, .int .i64 (nextS s v2).ticks, .int .i64 (nextS s v2).writes, .row 1 22 (List.length (nextS s v2).out)], .row 50 22 (nextS s v2).out]]) (by kernel_rfl) (by first | exact rfl | exact ⟨rfl, rfl⟩ | (simp [refO, celR, nextS, wrote, encM, celM, celC, celL, intA, H.ov, H.kd, H.of1, H.id, H.ad, H.to1, H.to2, H.fr1, H.fr2, k1, k2]; done) | (first | omega | exact idx_lt hv | exact idx_at hv | exact two_no (fun h => h ⟨by first | exact H.to1 | exact H.fr1, by first | exact H.to2 | exact H.fr2⟩) | exact hw1)) ⟨?q294_1, ?z0, ?z1, ?z2, ?z3, ?z4, ?z5, ?z6, ?z7, ?z8, ?z9, ?z10, ?q294_2, ?q294_3, ?z11, ?z12, ?z13, ?z14, ?z15, ?z16, ?z17, ?z18, ?z19, ?q294_4, trivial⟩
  case z0|z1|z2|z3|z4|z5|z6|z7|z8|z9|z10|z11|z12|z13|z14|z15|z16|z17|z18|z19 => first | exact rfl | (simp [refO, celR, nextS, wrote, encM, celM, celC, celL, intA, H.ov, H.kd, H.of1, H.id, H.ad, H.to1, H.to2, H.fr1, H.fr2, k1, k2] <;> omega) | omega | (first | omega | exact idx_lt hv | exact idx_at hv | exact two_no (fun h => h ⟨by first | exact H.to1 | exact H.fr1, by first | exact H.to2 | exact H.fr2⟩) | exact hw1)
  · exact q
  · exact q1
  · exact q2
  · exact q3
theorem hearY_e1 (s : SetD) (m : MsgD) (v : Int) (hs : s.ok) (hm : m.ok) (hl : ∀ s ∈ m.lay.segs, s.chains.length ≤ 1000000000) (hv : s.chain[s.at_]? = some v) (H : Heard s m v) (k1 : m.err = 81) (k2 : ¬ 0 < s.at_) (k3 : rightC m.cell = true) (hz : s.at_ + 1 = s.chain.length) : ACalls Tryz.prog 15 [.ptr 0 0, encM m] (refO s s.at_) (.bool true) (refO (ended { s with cell := m.cell } 0) (s.at_)) := by
  have q := rightR10 m hm hl
  rw [H.rt] at q
  have q1 := rightR7 m.cell hm.cell.b
  have q2 := same7_ac m.cell s.cell hm.cell hs.cell
  have hc := hs.ch
  have ho := hs.out
  rw [k3] at q1
  have hw1 : IntKind.i64.wrap ((s.at_ : Int) + 1) = ((s.at_ + 1 : Nat) : Int) := wrap64 (by omega)
  have q3 := rEnd { s with cell := m.cell } s.at_ 0
  refine acallsK mixed Tryz.func15 rfl [0, 1, 3, 4, 5, 6, 7, 8, 79, 103, 117, 118, 120, 134] 1000 ([.call [] false true (.bool true) [], .f, .f, .f, .f, .f, .f, .f, .ix s.at_, .el (intA v), .f, .call [] false true (.bool true) [], .call [] false true (.bool (sameC m.cell s.cell)) [], .t, .t, .f, .f, .n ((s.at_ + 1 : Nat) : Int), .n s.chain.length, .t, .call [0, 1] false false (.tup []) (refO (ended { s with cell := m.cell } 0) s.at_)]) [] [0, 4] (v1 := .bool true) (objs1 := [.vars 88 (celR (ended { client := s.client, id := s.id, epoch := s.epoch, a := s.a, cell := m.cell, chain := s.chain, at_ := s.at_, started := s.started, over := s.over, e := s.e, ticks := s.ticks, writes := s.writes, out := s.out } 0) (↑s.at_ : Int) ++ [.row 1 22 (List.length (ended { client := s.client, id := s.id, epoch := s.epoch, a := s.a, cell := m.cell, chain := s.chain, at_ := s.at_, started := s.started, over := s.over, e := s.e, ticks := s.ticks, writes := s.writes, out := s.out } 0).out)]), .row 50 22 (ended { client := s.client, id := s.id, epoch := s.epoch, a := s.a, cell := m.cell, chain := s.chain, at_ := s.at_, started := s.started, over := s.over, e := s.e, ticks := s.ticks, writes := s.writes, out := s.out } 0).out]) (ob := [ACalls Tryz.prog 57 [(encM m)] [] (.bool true) [],
 decide ((↑s.at_ : Int) < (0 : Int)) = false,
 s.over = false,
 (m.kind != (14 : Int)) = false,
 (m.of_ != (1 : Int)) = false,
 (m.id != s.id) = false,
 (m.addr != s.a) = false,
 (!(m.tr == (4 : Int) && (m.tn == s.client && true))) = false,
 s.at_ < List.length (List.map intA s.chain),
 (↑s.at_ : Int) = (↑s.at_ : Int),
 (List.map intA s.chain)[s.at_]? = some (.int .i64 v),
 (!(m.fr == (1 : Int) && (m.fn == v && true))) = false,
 ACalls Tryz.prog 47 [(encC m.cell)] [] (.bool true) [],
 ACalls Tryz.prog 23 [(encC m.cell), (encC s.cell)] [] (.bool (sameC m.cell s.cell)) [],
 (m.err == (81 : Int)) = true,
 ((↑s.at_ : Int) == (0 : Int)) = true,
 ((0 : Int) == (81 : Int)) = false,
 ((0 : Int) != (0 : Int)) = false,
 IntKind.i64.wrap ((↑s.at_ : Int) + (1 : Int)) = (↑(s.at_ + (1 : Nat)) : Int),
 ((List.map intA s.chain).length : Int) = (s.chain.length : Int),
 ((↑(s.at_ + (1 : Nat)) : Int) == (s.chain.length : Int)) = true,
 ACalls Tryz.prog 58 [.ptr 0 0, .int .i64 0] [.vars 88 [.int .i64 s.client, .int .i64 s.id, .int .u64 s.epoch, .int .u64 s.a, .int .i64 m.cell.kind, .lst 1 (List.map byteA m.cell.data), .lst 3 (List.map encB m.cell.backs), .lst 1 (List.map intA s.chain), .int .i64 (↑s.at_ : Int), .bool s.over, .int .i64 s.e, .int .i64 s.ticks, .int .i64 s.writes, .row 1 22 (List.length s.out)], .row 50 22 s.out] (.tup []) [.vars 88 (celR (ended { client := s.client, id := s.id, epoch := s.epoch, a := s.a, cell := m.cell, chain := s.chain, at_ := s.at_, started := s.started, over := s.over, e := s.e, ticks := s.ticks, writes := s.writes, out := s.out } 0) (↑s.at_ : Int) ++ [.row 1 22 (List.length (ended { client := s.client, id := s.id, epoch := s.epoch, a := s.a, cell := m.cell, chain := s.chain, at_ := s.at_, started := s.started, over := s.over, e := s.e, ticks := s.ticks, writes := s.writes, out := s.out } 0).out)]), .row 50 22 (ended { client := s.client, id := s.id, epoch := s.epoch, a := s.a, cell := m.cell, chain := s.chain, at_ := s.at_, started := s.started, over := s.over, e := s.e, ticks := s.ticks, writes := s.writes, out := s.out } 0).out]]) (by kernel_rfl) (by first | exact rfl | exact ⟨rfl, rfl⟩ | (simp [refO, celR, encM, celM, celC, celL, intA, H.ov, H.kd, H.of1, H.id, H.ad, H.to1, H.to2, H.fr1, H.fr2, k1, k2, hz]; done) | (first | omega | exact idx_lt hv | exact idx_at hv | exact two_no (fun h => h ⟨by first | exact H.to1 | exact H.fr1, by first | exact H.to2 | exact H.fr2⟩) | exact hw1)) ⟨?q309_1, ?z0, ?z1, ?z2, ?z3, ?z4, ?z5, ?z6, ?z7, ?z8, ?z9, ?z10, ?q309_2, ?q309_3, ?z11, ?z12, ?z13, ?z14, ?z15, ?z16, ?z17, ?q309_4, trivial⟩
  case z0|z1|z2|z3|z4|z5|z6|z7|z8|z9|z10|z11|z12|z13|z14|z15|z16|z17 => first | exact rfl | (simp [refO, celR, encM, celM, celC, celL, intA, H.ov, H.kd, H.of1, H.id, H.ad, H.to1, H.to2, H.fr1, H.fr2, k1, k2, hz] <;> omega) | omega | (first | omega | exact idx_lt hv | exact idx_at hv | exact two_no (fun h => h ⟨by first | exact H.to1 | exact H.fr1, by first | exact H.to2 | exact H.fr2⟩) | exact hw1)
  · exact q
  · exact q1
  · exact q2
  · exact q3
theorem hearY_e2 (s : SetD) (m : MsgD) (v : Int) (hs : s.ok) (hm : m.ok) (hl : ∀ s ∈ m.lay.segs, s.chains.length ≤ 1000000000) (hv : s.chain[s.at_]? = some v) (H : Heard s m v) (k1 : m.err = 81) (k2 : ¬ 0 < s.at_) (k3 : rightC m.cell = true) {v2 : Int} (hv2 : s.chain[s.at_ + 1]? = some v2) : ACalls Tryz.prog 15 [.ptr 0 0, encM m] (refO s s.at_) (.bool true) (refO (nextS { s with cell := m.cell } v2) (((s.at_ + 1 : Nat) : Int))) := by
  have q := rightR10 m hm hl
  rw [H.rt] at q
  have q1 := rightR7 m.cell hm.cell.b
  have q2 := same7_ac m.cell s.cell hm.cell hs.cell
  have hc := hs.ch
  have ho := hs.out
  rw [k3] at q1
  have hz : s.at_ + 1 < s.chain.length := (List.getElem?_eq_some_iff.1 hv2).1
  have hw1 : IntKind.i64.wrap ((s.at_ : Int) + 1) = ((s.at_ + 1 : Nat) : Int) := wrap64 (by omega)
  have q3 := rWrite { s with cell := m.cell, at_ := s.at_ + 1, writes := 0 } (s.at_ + 1) hv2 (by show s.out.length ≤ _; omega) (by show (0 : Int) ≤ 0; omega) (by show (0 : Int) ≤ 1000; omega)
  refine acallsK mixed Tryz.func15 rfl [0, 1, 3, 4, 5, 6, 7, 8, 79, 103, 117, 118, 120, 134] 1000 ([.call [] false true (.bool true) [], .f, .f, .f, .f, .f, .f, .f, .ix s.at_, .el (intA v), .f, .call [] false true (.bool true) [], .call [] false true (.bool (sameC m.cell s.cell)) [], .t, .t, .f, .f, .n ((s.at_ + 1 : Nat) : Int), .n s.chain.length, .f, .n ((s.at_ + 1 : Nat) : Int), .call [0, 1] false false (.tup []) (refO (nextS { s with cell := m.cell } v2) ((s.at_ + 1 : Nat) : Int))]) [] [0, 4] (v1 := .bool true) (objs1 := [.vars 88 [.int .i64 (nextS { client := s.client, id := s.id, epoch := s.epoch, a := s.a, cell := m.cell, chain := s.chain, at_ := s.at_, started := s.started, over := s.over, e := s.e, ticks := s.ticks, writes := s.writes, out := s.out } v2).client, .int .i64 (nextS { client := s.client, id := s.id, epoch := s.epoch, a := s.a, cell := m.cell, chain := s.chain, at_ := s.at_, started := s.started, over := s.over, e := s.e, ticks := s.ticks, writes := s.writes, out := s.out } v2).id, .int .u64 (nextS { client := s.client, id := s.id, epoch := s.epoch, a := s.a, cell := m.cell, chain := s.chain, at_ := s.at_, started := s.started, over := s.over, e := s.e, ticks := s.ticks, writes := s.writes, out := s.out } v2).epoch, .int .u64 (nextS { client := s.client, id := s.id, epoch := s.epoch, a := s.a, cell := m.cell, chain := s.chain, at_ := s.at_, started := s.started, over := s.over, e := s.e, ticks := s.ticks, writes := s.writes, out := s.out } v2).a, .int .i64 (nextS { client := s.client, id := s.id, epoch := s.epoch, a := s.a, cell := m.cell, chain := s.chain, at_ := s.at_, started := s.started, over := s.over, e := s.e, ticks := s.ticks, writes := s.writes, out := s.out } v2).cell.kind, .lst 1 (List.map byteA (nextS { client := s.client, id := s.id, epoch := s.epoch, a := s.a, cell := m.cell, chain := s.chain, at_ := s.at_, started := s.started, over := s.over, e := s.e, ticks := s.ticks, writes := s.writes, out := s.out } v2).cell.data), .lst 3 (List.map encB (nextS { client := s.client, id := s.id, epoch := s.epoch, a := s.a, cell := m.cell, chain := s.chain, at_ := s.at_, started := s.started, over := s.over, e := s.e, ticks := s.ticks, writes := s.writes, out := s.out } v2).cell.backs), .lst 1 (List.map intA (nextS { client := s.client, id := s.id, epoch := s.epoch, a := s.a, cell := m.cell, chain := s.chain, at_ := s.at_, started := s.started, over := s.over, e := s.e, ticks := s.ticks, writes := s.writes, out := s.out } v2).chain), .int .i64 (↑(s.at_ + 1) : Int), .bool (nextS { client := s.client, id := s.id, epoch := s.epoch, a := s.a, cell := m.cell, chain := s.chain, at_ := s.at_, started := s.started, over := s.over, e := s.e, ticks := s.ticks, writes := s.writes, out := s.out } v2).over, .int .i64 (nextS { client := s.client, id := s.id, epoch := s.epoch, a := s.a, cell := m.cell, chain := s.chain, at_ := s.at_, started := s.started, over := s.over, e := s.e, ticks := s.ticks, writes := s.writes, out := s.out } v2).e, .int .i64 (nextS { client := s.client, id := s.id, epoch := s.epoch, a := s.a, cell := m.cell, chain := s.chain, at_ := s.at_, started := s.started, over := s.over, e := s.e, ticks := s.ticks, writes := s.writes, out := s.out } v2).ticks, .int .i64 (nextS { client := s.client, id := s.id, epoch := s.epoch, a := s.a, cell := m.cell, chain := s.chain, at_ := s.at_, started := s.started, over := s.over, e := s.e, ticks := s.ticks, writes := s.writes, out := s.out } v2).writes, .row 1 22 (List.length (nextS { client := s.client, id := s.id, epoch := s.epoch, a := s.a, cell := m.cell, chain := s.chain, at_ := s.at_, started := s.started, over := s.over, e := s.e, ticks := s.ticks, writes := s.writes, out := s.out } v2).out)], .row 50 22 (nextS { client := s.client, id := s.id, epoch := s.epoch, a := s.a, cell := m.cell, chain := s.chain, at_ := s.at_, started := s.started, over := s.over, e := s.e, ticks := s.ticks, writes := s.writes, out := s.out } v2).out]) (ob := [ACalls Tryz.prog 57 [(encM m)] [] (.bool true) [],
 decide ((↑s.at_ : Int) < (0 : Int)) = false,
 s.over = false,
 (m.kind != (14 : Int)) = false,
 (m.of_ != (1 : Int)) = false,
 (m.id != s.id) = false,
 (m.addr != s.a) = false,
 (!(m.tr == (4 : Int) && (m.tn == s.client && true))) = false,
 s.at_ < List.length (List.map intA s.chain),
 (↑s.at_ : Int) = (↑s.at_ : Int),
 (List.map intA s.chain)[s.at_]? = some (.int .i64 v),
 (!(m.fr == (1 : Int) && (m.fn == v && true))) = false,
 ACalls Tryz.prog 47 [(encC m.cell)] [] (.bool true) [],
 ACalls Tryz.prog 23 [(encC m.cell), (encC s.cell)] [] (.bool (sameC m.cell s.cell)) [],
 (m.err == (81 : Int)) = true,
 ((↑s.at_ : Int) == (0 : Int)) = true,
 ((0 : Int) == (81 : Int)) = false,
 ((0 : Int) != (0 : Int)) = false,
 IntKind.i64.wrap ((↑s.at_ : Int) + (1 : Int)) = (↑(s.at_ + (1 : Nat)) : Int),
 ((List.map intA s.chain).length : Int) = (s.chain.length : Int),
 ((↑(s.at_ + (1 : Nat)) : Int) == (s.chain.length : Int)) = false,
 IntKind.i64.wrap ((↑s.at_ : Int) + (1 : Int)) = (↑(s.at_ + (1 : Nat)) : Int),
 ACalls Tryz.prog 50 [.ptr 0 0] [.vars 88 [.int .i64 s.client, .int .i64 s.id, .int .u64 s.epoch, .int .u64 s.a, .int .i64 m.cell.kind, .lst 1 (List.map byteA m.cell.data), .lst 3 (List.map encB m.cell.backs), .lst 1 (List.map intA s.chain), .int .i64 (↑(s.at_ + 1) : Int), .bool s.over, .int .i64 s.e, .int .i64 s.ticks, .int .i64 0, .row 1 22 (List.length s.out)], .row 50 22 s.out] (.tup []) [.vars 88 [.int .i64 (nextS { client := s.client, id := s.id, epoch := s.epoch, a := s.a, cell := m.cell, chain := s.chain, at_ := s.at_, started := s.started, over := s.over, e := s.e, ticks := s.ticks, writes := s.writes, out := s.out } v2).client, .int .i64 (nextS { client := s.client, id := s.id, epoch := s.epoch, a := s.a, cell := m.cell, chain := s.chain, at_ := s.at_, started := s.started, over := s.over, e := s.e, ticks := s.ticks, writes := s.writes, out := s.out } v2).id, .int .u64 (nextS { client := s.client, id := s.id, epoch := s.epoch, a := s.a, cell := m.cell, chain := s.chain, at_ := s.at_, started := s.started, over := s.over, e := s.e, ticks := s.ticks, writes := s.writes, out := s.out } v2).epoch, .int .u64 (nextS { client := s.client, id := s.id, epoch := s.epoch, a := s.a, cell := m.cell, chain := s.chain, at_ := s.at_, started := s.started, over := s.over, e := s.e, ticks := s.ticks, writes := s.writes, out := s.out } v2).a, .int .i64 (nextS { client := s.client, id := s.id, epoch := s.epoch, a := s.a, cell := m.cell, chain := s.chain, at_ := s.at_, started := s.started, over := s.over, e := s.e, ticks := s.ticks, writes := s.writes, out := s.out } v2).cell.kind, .lst 1 (List.map byteA (nextS { client := s.client, id := s.id, epoch := s.epoch, a := s.a, cell := m.cell, chain := s.chain, at_ := s.at_, started := s.started, over := s.over, e := s.e, ticks := s.ticks, writes := s.writes, out := s.out } v2).cell.data), .lst 3 (List.map encB (nextS { client := s.client, id := s.id, epoch := s.epoch, a := s.a, cell := m.cell, chain := s.chain, at_ := s.at_, started := s.started, over := s.over, e := s.e, ticks := s.ticks, writes := s.writes, out := s.out } v2).cell.backs), .lst 1 (List.map intA (nextS { client := s.client, id := s.id, epoch := s.epoch, a := s.a, cell := m.cell, chain := s.chain, at_ := s.at_, started := s.started, over := s.over, e := s.e, ticks := s.ticks, writes := s.writes, out := s.out } v2).chain), .int .i64 (↑(s.at_ + 1) : Int), .bool (nextS { client := s.client, id := s.id, epoch := s.epoch, a := s.a, cell := m.cell, chain := s.chain, at_ := s.at_, started := s.started, over := s.over, e := s.e, ticks := s.ticks, writes := s.writes, out := s.out } v2).over, .int .i64 (nextS { client := s.client, id := s.id, epoch := s.epoch, a := s.a, cell := m.cell, chain := s.chain, at_ := s.at_, started := s.started, over := s.over, e := s.e, ticks := s.ticks, writes := s.writes, out := s.out } v2).e, .int .i64 (nextS { client := s.client, id := s.id, epoch := s.epoch, a := s.a, cell := m.cell, chain := s.chain, at_ := s.at_, started := s.started, over := s.over, e := s.e, ticks := s.ticks, writes := s.writes, out := s.out } v2).ticks, .int .i64 (nextS { client := s.client, id := s.id, epoch := s.epoch, a := s.a, cell := m.cell, chain := s.chain, at_ := s.at_, started := s.started, over := s.over, e := s.e, ticks := s.ticks, writes := s.writes, out := s.out } v2).writes, .row 1 22 (List.length (nextS { client := s.client, id := s.id, epoch := s.epoch, a := s.a, cell := m.cell, chain := s.chain, at_ := s.at_, started := s.started, over := s.over, e := s.e, ticks := s.ticks, writes := s.writes, out := s.out } v2).out)], .row 50 22 (nextS { client := s.client, id := s.id, epoch := s.epoch, a := s.a, cell := m.cell, chain := s.chain, at_ := s.at_, started := s.started, over := s.over, e := s.e, ticks := s.ticks, writes := s.writes, out := s.out } v2).out]]) (by kernel_rfl) (by first | exact rfl | exact ⟨rfl, rfl⟩ | (simp [refO, celR, nextS, wrote, encM, celM, celC, celL, intA, H.ov, H.kd, H.of1, H.id, H.ad, H.to1, H.to2, H.fr1, H.fr2, k1, k2]; done) | (first | omega | exact idx_lt hv | exact idx_at hv | exact two_no (fun h => h ⟨by first | exact H.to1 | exact H.fr1, by first | exact H.to2 | exact H.fr2⟩) | exact hw1)) ⟨?q325_1, ?z0, ?z1, ?z2, ?z3, ?z4, ?z5, ?z6, ?z7, ?z8, ?z9, ?z10, ?q325_2, ?q325_3, ?z11, ?z12, ?z13, ?z14, ?z15, ?z16, ?z17, ?z18, ?q325_4, trivial⟩
  case z0|z1|z2|z3|z4|z5|z6|z7|z8|z9|z10|z11|z12|z13|z14|z15|z16|z17|z18 => first | exact rfl | (simp [refO, celR, nextS, wrote, encM, celM, celC, celL, intA, H.ov, H.kd, H.of1, H.id, H.ad, H.to1, H.to2, H.fr1, H.fr2, k1, k2] <;> omega) | omega | (first | omega | exact idx_lt hv | exact idx_at hv | exact two_no (fun h => h ⟨by first | exact H.to1 | exact H.fr1, by first | exact H.to2 | exact H.fr2⟩) | exact hw1)
  · exact q
  · exact q1
  · exact q2
  · exact q3
theorem hearY_f (s : SetD) (m : MsgD) (v : Int) (hs : s.ok) (hm : m.ok) (hl : ∀ s ∈ m.lay.segs, s.chains.length ≤ 1000000000) (hv : s.chain[s.at_]? = some v) (H : Heard s m v) (k1 : m.err = 81) (k2 : ¬ 0 < s.at_) (k3 : rightC m.cell = false) : ACalls Tryz.prog 15 [.ptr 0 0, encM m] (refO s s.at_) (.bool true) (refO (ended s 81) (s.at_)) := by
  have q := rightR10 m hm hl
  rw [H.rt] at q
  have q1 := rightR7 m.cell hm.cell.b
  have q2 := same7_ac m.cell s.cell hm.cell hs.cell
  have hc := hs.ch
  have ho := hs.out
  rw [k3] at q1
  have q3 := rEnd s s.at_ 81
  rw [show (81 : Int) = m.err from k1.symm] at q3 ⊢
  refine acallsK mixed Tryz.func15 rfl [0, 1, 3, 4, 5, 6, 7, 8, 79, 103, 117, 118, 120, 134] 1000 ([.call [] false true (.bool true) [], .f, .f, .f, .f, .f, .f, .f, .ix s.at_, .el (intA v), .f, .call [] false true (.bool false) [], .call [] false true (.bool (sameC m.cell s.cell)) [], .t, .t, .t, .f, .t, .call [0, 1] false false (.tup []) (refO (ended s m.err) s.at_)]) [] [0, 4] (v1 := .bool true) (objs1 := [.vars 88 (celR (ended s m.err) (↑s.at_ : Int) ++ [.row 1 22 (List.length (ended s m.err).out)]), .row 50 22 (ended s m.err).out]) (ob := [ACalls Tryz.prog 57 [(encM m)] [] (.bool true) [],
 decide ((↑s.at_ : Int) < (0 : Int)) = false,
 s.over = false,
 (m.kind != (14 : Int)) = false,
 (m.of_ != (1 : Int)) = false,
 (m.id != s.id) = false,
 (m.addr != s.a) = false,
 (!(m.tr == (4 : Int) && (m.tn == s.client && true))) = false,
 s.at_ < List.length (List.map intA s.chain),
 (↑s.at_ : Int) = (↑s.at_ : Int),
 (List.map intA s.chain)[s.at_]? = some (.int .i64 v),
 (!(m.fr == (1 : Int) && (m.fn == v && true))) = false,
 ACalls Tryz.prog 47 [(encC m.cell)] [] (.bool false) [],
 ACalls Tryz.prog 23 [(encC m.cell), (encC s.cell)] [] (.bool (sameC m.cell s.cell)) [],
 (m.err == (81 : Int)) = true,
 ((↑s.at_ : Int) == (0 : Int)) = true,
 (m.err == (81 : Int)) = true,
 decide ((↑s.at_ : Int) > (0 : Int)) = false,
 (m.err != (0 : Int)) = true,
 ACalls Tryz.prog 58 [.ptr 0 0, .int .i64 m.err] [.vars 88 (celR s (↑s.at_ : Int) ++ [.row 1 22 (List.length s.out)]), .row 50 22 s.out] (.tup []) [.vars 88 (celR (ended s m.err) (↑s.at_ : Int) ++ [.row 1 22 (List.length (ended s m.err).out)]), .row 50 22 (ended s m.err).out]]) (by kernel_rfl) (by first | exact rfl | exact ⟨rfl, rfl⟩ | (simp [refO, celR, encM, celM, celC, celL, intA, H.ov, H.kd, H.of1, H.id, H.ad, H.to1, H.to2, H.fr1, H.fr2, k1, k2]; done) | (first | omega | exact idx_lt hv | exact idx_at hv | exact two_no (fun h => h ⟨by first | exact H.to1 | exact H.fr1, by first | exact H.to2 | exact H.fr2⟩) | exact hw1)) ⟨?q340_1, ?z0, ?z1, ?z2, ?z3, ?z4, ?z5, ?z6, ?z7, ?z8, ?z9, ?z10, ?q340_2, ?q340_3, ?z11, ?z12, ?z13, ?z14, ?z15, ?q340_4, trivial⟩
  case z0|z1|z2|z3|z4|z5|z6|z7|z8|z9|z10|z11|z12|z13|z14|z15 => first | exact rfl | (simp [refO, celR, encM, celM, celC, celL, intA, H.ov, H.kd, H.of1, H.id, H.ad, H.to1, H.to2, H.fr1, H.fr2, k1, k2] <;> omega) | omega | (first | omega | exact idx_lt hv | exact idx_at hv | exact two_no (fun h => h ⟨by first | exact H.to1 | exact H.fr1, by first | exact H.to2 | exact H.fr2⟩) | exact hw1)
  · exact q
  · exact q1
  · exact q2
  · exact q3
end Go.Proofs.YtidgcfgkcidkiaaGreat.Ch
namespace Go.Proofs.YtidgcfgkcidkiaaGreat.Ch
open Go Go.RowKit Go.Proofs.YtidgcfgkcidkiaaGreat.L Go.Proofs.YtidgcfgkcidkiaaGreat.X
set_option linter.unusedVariables false
set_option linter.unusedSimpArgs false
theorem rHear (s : SetD) (m : MsgD) (v : Int) (at_ : Int) (ha : At s at_) (hs : s.ok) (hm : m.ok) (hl : ∀ s ∈ m.lay.segs, s.chains.length ≤ 1000000000) (hv : s.over = false → s.chain[s.at_]? = some v) :
    ACalls Tryz.prog 15 [.ptr 0 0, encM m] (refO s at_) (.bool (hearB s m v)) (refO (if hearB s m v = true then stepS s m else s) (atR s m v at_)) := by
  unfold atR
  cases hh : hearB s m v with
  | false =>
    rw [if_neg (by decide), if_neg (by decide)]
    have := hearR_ac s m v at_ ha hm hl hv hh
    rw [hh] at this
    exact this
  | true =>
    rw [if_pos rfl, if_pos rfl]
    have H := hearB_yes hh
    have hv := hv H.ov
    have he := ha.eq H.st H.ov
    subst he
    have hlt : s.at_ < s.chain.length := (List.getElem?_eq_some_iff.1 hv).1
    have key : ∀ (x : SetD), x.chain = s.chain → x.at_ = s.at_ → x.over = false → 
        (s.at_ + 1 = s.chain.length → ACalls Tryz.prog 15 [.ptr 0 0, encM m] (refO s s.at_) (.bool true) (refO (ended x 0) s.at_)) →
        (∀ v2, s.chain[s.at_ + 1]? = some v2 → ACalls Tryz.prog 15 [.ptr 0 0, encM m] (refO s s.at_) (.bool true) (refO (nextS x v2) ((s.at_ + 1 : Nat) : Int))) →
        ACalls Tryz.prog 15 [.ptr 0 0, encM m] (refO s s.at_) (.bool true) (refO (goS x) (if (goS x).over = true then s.at_ else s.at_ + 1)) := by
      intro x hc hat hov h1 h2
      unfold goS
      by_cases hz : x.at_ + 1 = x.chain.length
      · rw [if_pos hz]
        have e : (ended { x with at_ := x.at_ + 1 } 0).over = true := rfl
        rw [if_pos e]
        exact h1 (by rw [← hc, ← hat]; exact hz)
      · rw [if_neg hz]
        have hz2 : ¬ s.at_ + 1 = s.chain.length := by rw [← hc, ← hat]; exact hz
        have hlt2 : s.at_ + 1 < s.chain.length := by omega
        have hg : x.chain[x.at_ + 1]? = some s.chain[s.at_ + 1] := by rw [hc, hat]; exact List.getElem?_eq_getElem hlt2
        rw [hg]
        have ho : (nextS x ((some s.chain[s.at_ + 1]).getD 0)).over = false := hov
        rw [if_neg (by rw [ho]; decide)]
        exact h2 _ (List.getElem?_eq_getElem hlt2)
    have eo : ∀ e, (ended s e).over = true := fun _ => rfl
    unfold stepS
    by_cases k1 : m.err = 81
    · rw [if_pos k1]
      by_cases k2 : 0 < s.at_
      · rw [if_pos k2]
        cases k3 : sameC m.cell s.cell with
        | false =>
          rw [if_neg (by decide), if_pos (eo _)]
          exact hearY_c s m v hs hm hl hv H k1 k2 k3
        | true =>
          rw [if_pos rfl]
          exact key s rfl rfl H.ov (fun hz => hearY_d1 s m v hs hm hl hv H k1 k2 k3 hz) fun v2 h2 => hearY_d2 s m v hs hm hl hv H k1 k2 k3 h2
      · rw [if_neg k2]
        cases k3 : rightC m.cell with
        | false =>
          rw [if_neg (by decide), if_pos (eo _)]
          exact hearY_f s m v hs hm hl hv H k1 k2 k3
        | true =>
          rw [if_pos rfl]
          exact key { s with cell := m.cell } rfl rfl H.ov (fun hz => hearY_e1 s m v hs hm hl hv H k1 k2 k3 hz) fun v2 h2 => hearY_e2 s m v hs hm hl hv H k1 k2 k3 h2
    · rw [if_neg k1]
      by_cases k2 : m.err = 0
      · rw [if_pos k2]
        exact key s rfl rfl H.ov (fun hz => hearY_a1 s m v hs hm hl hv H k1 k2 hz) fun v2 h2 => hearY_a2 s m v hs hm hl hv H k1 k2 h2
      · rw [if_neg k2, if_pos (eo _)]
        exact hearY_b s m v hs hm hl hv H k1 k2

/-- What stays true of a settler: B: how many messages there may be. -/
structure Inv (s : SetD) (B : Nat) : Prop where
  ok : s.ok
  out : s.out.length ≤ B
  wrs : Wrs s.out
  new : s.started = false → s.at_ = 0 ∧ s.writes = 0 ∧ s.over = false
theorem Wrs.add {xs : List AV} (h : Wrs xs) {s : SetD} {u : Int} (hs : s.cell.ok) : Wrs (xs ++ [wrM s u]) := by
  intro x hx
  rcases List.mem_append.1 hx with hx | hx
  · exact h x hx
  · simp at hx; subst hx; exact ⟨s, u, rfl, hs⟩
theorem Inv.ended {s : SetD} {B : Nat} (h : Inv s B) (hs : s.started = true) (e : Int) (k : Nat) (t : Int) (ht : 0 ≤ t) : Inv (ended { s with at_ := k, ticks := t } e) B := by
  have o := h.ok
  refine ⟨⟨?_, o.ch, .inr rfl, o.out, ht, .inr rfl, o.w0, o.w1⟩, h.out, h.wrs, fun hq => ?_⟩
  · show (if e = 0 then s.cell else ⟨0, [], []⟩ : CellD).ok
    split
    · exact o.cell
    · exact cell0_ok
  · have : s.started = false := hq
    rw [hs] at this; cases this
theorem Inv.wrote {s : SetD} {B : Nat} (h : Inv s B) (hB : B + 1 ≤ 900) (hs : s.started = true) (u : Int) (k : Nat) (w : Int) (hk : k < s.chain.length) (w0 : 0 ≤ w) (w1 : w ≤ 4) : Inv (wrote { s with at_ := k, writes := w } u) (B + 1) := by
  have o := h.ok
  have ho := h.out
  refine ⟨⟨o.cell, o.ch, .inl hk, ?_, (by show (0 : Int) ≤ 0; omega), .inl (by show (0 : Int) < 6; omega), (by show 0 ≤ w + 1; omega), (by show w + 1 ≤ 5; omega)⟩, ?_, ?_, fun hq => ?_⟩
  · show (s.out ++ [wrM _ u]).length ≤ 900
    rw [List.length_append, List.length_cons, List.length_nil]; omega
  · show (s.out ++ [wrM _ u]).length ≤ B + 1
    rw [List.length_append, List.length_cons, List.length_nil]; omega
  · exact h.wrs.add o.cell
  · have : s.started = false := hq
    rw [hs] at this; cases this
theorem Inv.cell {s : SetD} {B : Nat} (h : Inv s B) {c : CellD} (hc : c.ok) : Inv { s with cell := c } B :=
  ⟨⟨hc, h.ok.ch, h.ok.at_, h.ok.out, h.ok.t0, h.ok.t1, h.ok.w0, h.ok.w1⟩, h.out, h.wrs, h.new⟩
theorem Inv.mono {s : SetD} {B C : Nat} (h : Inv s B) (hBC : B ≤ C) : Inv s C := ⟨h.ok, Nat.le_trans h.out hBC, h.wrs, h.new⟩
theorem Inv.go {s : SetD} {B : Nat} (h : Inv s B) (hB : B + 1 ≤ 900) (hs : s.started = true) (ho : s.over = false) : Inv (goS s) (B + 1) ∧ (goS s).started = true ∧ ((goS s).over = false → (goS s).at_ = s.at_ + 1) := by
  have ha : s.at_ < s.chain.length := by rcases h.ok.at_ with h | h; exact h; rw [ho] at h; cases h
  unfold goS
  split
  · exact ⟨(h.ended hs 0 (s.at_ + 1) s.ticks h.ok.t0).mono (by omega), hs, fun hq => by cases hq⟩
  · exact ⟨h.wrote hB hs _ (s.at_ + 1) 0 (by omega) (by omega) (by omega), hs, fun _ => rfl⟩
theorem Inv.step {s : SetD} {B : Nat} (h : Inv s B) (hB : B + 1 ≤ 900) (hs : s.started = true) (ho : s.over = false) {m : MsgD} (hm : m.ok) : Inv (stepS s m) (B + 1) ∧ (stepS s m).started = true ∧ ((stepS s m).over = false → (stepS s m).at_ = s.at_ + 1) := by
  have he : ∀ e, Inv (Ch.ended s e) (B + 1) ∧ (Ch.ended s e).started = true ∧ ((Ch.ended s e).over = false → (Ch.ended s e).at_ = s.at_ + 1) := fun e => ⟨(h.ended hs e s.at_ s.ticks h.ok.t0).mono (by omega), hs, fun hq => by cases hq⟩
  unfold stepS
  split
  · split
    · split
      · exact h.go hB hs ho
      · exact he 191
    · split
      · exact (h.cell hm.cell).go hB hs ho
      · exact he 81
  · split
    · exact h.go hB hs ho
    · exact he m.err
theorem Inv.tick {s : SetD} {B : Nat} (h : Inv s B) (hB : B + 1 ≤ 900) (v : Int) : Inv (tickS s v) (B + 1) ∧ (tickS s v).started = s.started ∧ ((tickS s v).over = false → (tickS s v).at_ = s.at_ ∧ s.over = false) := by
  unfold tickS
  split
  · exact ⟨h.mono (by omega), rfl, fun hq => ⟨rfl, hq⟩⟩
  · rename_i hn
    have hs : s.started = true := by
      cases hx : s.started with
      | true => rfl
      | false => exact absurd (.inl hx) hn
    have ho : s.over = false := by
      cases hx : s.over with
      | false => rfl
      | true => exact absurd (.inr hx) hn
    have t0 := h.ok.t0
    split
    · rename_i ht
      exact ⟨⟨⟨h.ok.cell, h.ok.ch, h.ok.at_, h.ok.out, (by show 0 ≤ s.ticks + 1; omega), .inl ht, h.ok.w0, h.ok.w1⟩, Nat.le_succ_of_le h.out, h.wrs, h.new⟩, rfl, fun _ => ⟨rfl, ho⟩⟩
    · split
      · exact ⟨(h.ended hs 162 s.at_ (s.ticks + 1) (by omega)).mono (by omega), rfl, fun hq => by cases hq⟩
      · rename_i hw
        have ha : s.at_ < s.chain.length := by rcases h.ok.at_ with h | h; exact h; rw [ho] at h; cases h
        exact ⟨h.wrote hB hs v s.at_ s.writes ha h.ok.w0 (by omega), rfl, fun _ => ⟨rfl, ho⟩⟩
theorem Inv.start {s : SetD} {B : Nat} (h : Inv s B) (hB : B + 1 ≤ 900) (hs : s.started = false) (u : Int) : Inv (startS s u) (B + 1) := by
  obtain ⟨h1, h2, h3⟩ := h.new hs
  have ha : s.at_ < s.chain.length := by rcases h.ok.at_ with h | h; exact h; rw [h3] at h; cases h
  have h' : Inv { s with started := true } B := ⟨⟨h.ok.cell, h.ok.ch, h.ok.at_, h.ok.out, h.ok.t0, h.ok.t1, h.ok.w0, h.ok.w1⟩, h.out, h.wrs, fun hq => by cases hq⟩
  have := h'.wrote hB rfl u s.at_ s.writes ha h.ok.w0 (by omega)
  exact this
theorem Inv.emptied {s : SetD} {B : Nat} (h : Inv s B) : Inv (emptied s) B :=
  ⟨⟨h.ok.cell, h.ok.ch, h.ok.at_, Nat.zero_le _, h.ok.t0, h.ok.t1, h.ok.w0, h.ok.w1⟩, Nat.zero_le _, fun x hx => (by cases hx), h.new⟩
def unitAt (s : SetD) : Int := (s.chain[s.at_]?).getD 0
theorem unitAt_of {s : SetD} (h : s.ok) (ho : s.over = false) : s.chain[s.at_]? = some (unitAt s) := by
  have ha : s.at_ < s.chain.length := by rcases h.at_ with h | h; exact h; rw [ho] at h; cases h
  unfold unitAt
  rw [List.getElem?_eq_getElem ha]; rfl
theorem At.hear {s : SetD} {at_ : Int} (ha : At s at_) {m : MsgD} {v : Int} {B : Nat} (h : Inv s B) (hB : B + 1 ≤ 900) (hm : m.ok) : At (if hearB s m v = true then stepS s m else s) (atR s m v at_) := by
  unfold atR
  by_cases hh : hearB s m v = true
  · rw [if_pos hh, if_pos hh]
    have H := hearB_yes hh
    obtain ⟨_, h1, h2⟩ := h.step hB H.st H.ov hm
    refine ⟨fun hq => (by rw [h1] at hq; cases hq), fun _ => ?_, fun _ ho => ?_⟩
    · split <;> omega
    · rw [ho, if_neg (by decide), h2 ho]; omega
  · rw [if_neg hh, if_neg hh]; exact ha
theorem At.tick {s : SetD} {at_ : Int} (ha : At s at_) {v : Int} {B : Nat} (h : Inv s B) (hB : B + 1 ≤ 900) : At (tickS s v) at_ := by
  obtain ⟨_, h1, h2⟩ := h.tick hB v
  exact ⟨fun hq => ha.no (by rw [← h1]; exact hq), fun hq => ha.yes (by rw [← h1]; exact hq), fun hq ho => by rw [(h2 ho).1]; exact ha.eq (by rw [← h1]; exact hq) (h2 ho).2⟩
theorem At.start {s : SetD} {B : Nat} (h : Inv s B) (hs : s.started = false) (u : Int) : At (startS s u) 0 :=
  ⟨fun hq => (by cases hq), fun _ => Int.le_refl 0, fun _ _ => by rw [show (startS s u).at_ = s.at_ from rfl, (h.new hs).1]; rfl⟩
end Go.Proofs.YtidgcfgkcidkiaaGreat.Ch
namespace Go.Proofs.YtidgcfgkcidkiaaGreat.Ch
open Go Go.RowKit Go.Proofs.YtidgcfgkcidkiaaGreat.L Go.Proofs.YtidgcfgkcidkiaaGreat.X
set_option linter.unusedVariables false
set_option linter.unusedSimpArgs false
structure ActD where
  kind : Int
  n : Int
  m : MsgD
  own : Bool
def encAct (x : ActD) : AV := .agg ([.int .i64 x.kind, .int .i64 x.n] ++ celM x.m ++ [.bool x.own])
def OfQ := Int × Int × LayD × Int × CellD
def ofL (o : OfQ) : List AV := [.int .i64 o.1, .int .i64 o.2.1] ++ celL o.2.2.1 ++ [.int .u64 o.2.2.2.1] ++ celC o.2.2.2.2
def lawO (o : OfQ) (s : SetD) (at_ : Int) : List X.Obj := [.vars 32 (ofL o), .vars 86 (celS s ++ [.row 2 22 s.out.length]), .row 50 22 s.out, .vars 88 (celR s at_ ++ [.row 4 22 s.out.length]), .row 50 22 s.out]
def endO (s : SetD) (at_ : Int) : List X.Obj := [.vars 86 (celS s ++ [.row 1 22 s.out.length]), .row 50 22 s.out, .vars 88 (celR s at_ ++ [.row 3 22 s.out.length]), .row 50 22 s.out]
def msgOf (o : OfQ) (x : ActD) (s : SetD) (at_ : Int) : MsgD :=
  if x.own = true ∧ 0 ≤ at_ ∧ at_ < s.chain.length then { x.m with kind := 14, of_ := 1, fr := 1, fn := (s.chain[at_.toNat]?).getD 0, tr := 4, tn := o.1, id := o.2.1, addr := o.2.2.2.1 } else x.m
theorem msgOf_ok {o : OfQ} {x : ActD} {s : SetD} {at_ : Int} (h : x.m.ok) : (msgOf o x s at_).ok := by
  unfold msgOf
  split
  · exact ⟨h.cell, h.st, h.b, h.lay⟩
  · exact h
theorem msgOf_lay {o : OfQ} {x : ActD} {s : SetD} {at_ : Int} : (msgOf o x s at_).lay = x.m.lay := by
  unfold msgOf; split <;> rfl
theorem msg_ac (o : OfQ) (x : ActD) (s : SetD) (at_ : Int) : ACalls Tryz.prog 13 [encAct x, .agg (ofL o), .ptr 0 0] (refO s at_) (encM (msgOf o x s at_)) (refO s at_) := by
  unfold msgOf
  by_cases h1 : x.own = true
  · by_cases h2 : 0 ≤ at_
    · by_cases h3 : at_ < s.chain.length
      · rw [if_pos ⟨h1, h2, h3⟩]
        obtain ⟨k, rfl⟩ : ∃ k : Nat, at_ = k := ⟨at_.toNat, by omega⟩
        have hk : k < s.chain.length := by omega
        obtain ⟨u, hu⟩ := get_of hk
        rw [show ((k : Int)).toNat = k by omega, hu]
        have g1 := idx_lt hu
        have g2 := idx_at hu
        refine acallsK mixed Tryz.func13 rfl [0, 1, 2, 3, 4, 6, 7, 30] 1000 ([.t, .t, .n s.chain.length, .t, .ix k, .el (intA u)]) [] [0, 1] (v1 := .agg [.int .i64 14, .int .i64 1, .int .i64 u, .int .i64 4, .int .i64 o.1, .int .i64 o.2.1, .int .i64 1, .int .u64 x.m.epoch, .int .u64 o.2.2.2.1, .int .i64 x.m.err, .int .i64 x.m.cell.kind, .lst 1 (List.map byteA x.m.cell.data), .lst 3 (List.map encB x.m.cell.backs), .lst 1 (List.map intA x.m.streams), .lst 3 (List.map encB x.m.backs), .int .i64 x.m.br, .int .i64 x.m.bc, .int .i64 x.m.pr, .int .i64 x.m.pc, .int .u64 x.m.lay.epoch, .lst 2 (List.map encS x.m.lay.segs), .int .i64 x.m.lay.seq]) (objs1 := [.vars 88 (celR s (↑k : Int) ++ [.row 1 22 (List.length s.out)]), .row 50 22 s.out]) (ob := [x.own = true,
 decide ((↑k : Int) ≥ (0 : Int)) = true,
 ((List.map intA s.chain).length : Int) = (s.chain.length : Int),
 decide ((↑k : Int) < (s.chain.length : Int)) = true,
 k < List.length (List.map intA s.chain),
 (↑k : Int) = (↑k : Int),
 (List.map intA s.chain)[k]? = some (.int .i64 u)]) (by kernel_rfl) (by first | exact rfl | exact ⟨rfl, rfl⟩ | (simp [refO, celR, encAct, celM, celC, celL, ofL, encM, h1, h2, h3, intA]; done) | (first | exact g1 | exact g2 | omega)) ⟨?z0, ?z1, ?z2, ?z3, ?z4, ?z5, ?z6, trivial⟩
        case z0|z1|z2|z3|z4|z5|z6 => first | exact rfl | (simp [refO, celR, encAct, celM, celC, celL, ofL, encM, h1, h2, h3, intA] <;> omega) | omega | (first | exact g1 | exact g2 | omega)
      · rw [if_neg fun h => h3 h.2.2]
        refine acallsK mixed Tryz.func13 rfl [0, 1, 2, 3, 4, 6, 7, 30] 1000 ([.t, .t, .n s.chain.length, .f]) [] [0, 1] (v1 := (encM x.m)) (objs1 := [.vars 88 (celR s at_ ++ [.row 1 22 (List.length s.out)]), .row 50 22 s.out]) (ob := [x.own = true,
 decide (at_ ≥ (0 : Int)) = true,
 ((List.map intA s.chain).length : Int) = (s.chain.length : Int),
 decide (at_ < (s.chain.length : Int)) = false]) (by kernel_rfl) (by first | exact rfl | exact ⟨rfl, rfl⟩ | (simp [refO, celR, encAct, celM, celC, celL, ofL, encM, h1, h2, h3]; done) | (omega)) ⟨?z7, ?z8, ?z9, ?z10, trivial⟩
        case z7|z8|z9|z10 => first | exact rfl | (simp [refO, celR, encAct, celM, celC, celL, ofL, encM, h1, h2, h3] <;> omega) | omega | (omega)
    · rw [if_neg fun h => h2 h.2.1]
      refine acallsK mixed Tryz.func13 rfl [0, 1, 2, 3, 4, 6, 7, 30] 1000 ([.t, .f]) [] [0, 1] (v1 := (encM x.m)) (objs1 := [.vars 88 (celR s at_ ++ [.row 1 22 (List.length s.out)]), .row 50 22 s.out]) (ob := [x.own = true,
 decide (at_ ≥ (0 : Int)) = false]) (by kernel_rfl) (by first | exact rfl | exact ⟨rfl, rfl⟩ | (simp [refO, celR, encAct, celM, celC, celL, ofL, encM, h1, h2]; done) | (omega)) ⟨?z11, ?z12, trivial⟩
      case z11|z12 => first | exact rfl | (simp [refO, celR, encAct, celM, celC, celL, ofL, encM, h1, h2] <;> omega) | omega | (omega)
  · rw [if_neg fun h => h1 h.1]
    refine acallsK mixed Tryz.func13 rfl [0, 1, 2, 3, 4, 6, 7, 30] 1000 ([.f]) [] [0, 1] (v1 := (encM x.m)) (objs1 := [.vars 88 (celR s at_ ++ [.row 1 22 (List.length s.out)]), .row 50 22 s.out]) (ob := [x.own = false]) (by kernel_rfl) (by first | exact rfl | exact ⟨rfl, rfl⟩ | (simp [refO, celR, encAct, celM, celC, celL, ofL, encM, h1]; done)) ⟨(by first | exact rfl | (simp [refO, celR, encAct, celM, celC, celL, ofL, encM, h1]; done) | (simp [refO, celR, encAct, celM, celC, celL, ofL, encM, h1]; omega) | omega), trivial⟩
def ticksS : SetD → Nat → SetD
  | s, 0 => s
  | s, n + 1 => ticksS (tickS s (unitAt s)) n
theorem ticks_inv : ∀ (n : Nat) {s : SetD} {at_ : Int} {B : Nat}, Inv s B → At s at_ → B + n ≤ 900 → Inv (ticksS s n) (B + n) ∧ At (ticksS s n) at_
  | 0, s, at_, B, h, ha, hb => ⟨h, ha⟩
  | n + 1, s, at_, B, h, ha, hb => by
    have h1 := (h.tick (by omega) (unitAt s)).1
    have h2 := ha.tick h (by omega) (v := unitAt s)
    have h3 := ticks_inv n h1 h2 (by omega)
    rw [show B + 1 + n = B + (n + 1) by omega] at h3
    exact h3
theorem toldC_ok {s : SetD} (h : s.ok) : (toldC s).ok := by
  unfold toldC; split
  · exact h.cell
  · exact cell0_ok
theorem tick_loop (o : OfQ) (xs : List ActD) (k : Nat) (at_ : Int) : ∀ (n : Nat) (s : SetD) (B : Nat), n ≤ 9 → Inv s B → At s at_ → B + n ≤ 900 →
    ALoop Tryz.prog 0 Tryz.f3.ntmps (loopB Tryz.f3 1) ⟨[(15, .int .i64 n), (13, .bool true), (10, .int .i64 k), (8, .ptr 3 0), (6, .ptr 1 0), (2, .ptr 0 0), (1, .lst 25 (xs.map encAct))], lawO o s at_⟩ (.exit 3) ⟨[(13, .bool true), (10, .int .i64 k), (8, .ptr 3 0), (6, .ptr 1 0), (2, .ptr 0 0), (1, .lst 25 (xs.map encAct))], lawO o (ticksS s n) at_⟩
  | 0, s, B, hn, h, ha, hb => by
    show ALoop Tryz.prog 0 Tryz.f3.ntmps (loopB Tryz.f3 1) ⟨[(15, .int .i64 0), (13, .bool true), (10, .int .i64 k), (8, .ptr 3 0), (6, .ptr 1 0), (2, .ptr 0 0), (1, .lst 25 (xs.map encAct))], lawO o s at_⟩ (.exit 3) ⟨[(13, .bool true), (10, .int .i64 k), (8, .ptr 3 0), (6, .ptr 1 0), (2, .ptr 0 0), (1, .lst 25 (xs.map encAct))], lawO o s at_⟩
    refine aloopK mixed [0, 1, 2, 4, 5, 6, 7, 8, 9, 10, 11, 12, 13, 14, 15, 16, 17, 18, 19, 20, 21, 22, 26, 62, 80, 91, 93, 94, 101, 114, 121, 132, 169] 1000 ([.go, .f]) [13, 10, 8, 6, 2, 1] [0, 1, 2, 3, 4] (S1 := { env := [(13, .bool true), (10, .int .i64 (↑k : Int)), (8, .ptr 3 0), (6, .ptr 1 0), (2, .ptr 0 0), (1, .lst 25 (List.map encAct xs))], objs := [.vars 32 [.int .i64 o.1, .int .i64 o.2.1, .int .u64 o.2.2.1.epoch, .lst 2 (List.map encS o.2.2.1.segs), .int .i64 o.2.2.1.seq, .int .u64 o.2.2.2.1, .int .i64 o.2.2.2.2.kind, .lst 1 (List.map byteA o.2.2.2.2.data), .lst 3 (List.map encB o.2.2.2.2.backs)], .vars 86 (celS s ++ [.row 2 22 (List.length s.out)]), .row 50 22 s.out, .vars 88 (celR s at_ ++ [.row 4 22 (List.length s.out)]), .row 50 22 s.out] }) (ob := [decide ((0 : Int) > (0 : Int)) = false]) (by kernel_rfl) (by first | exact rfl | exact ⟨rfl, rfl⟩ | (simp [lawO, celS, celR, setO, refO, ofL]; done)) ⟨(by first | exact rfl | (simp [lawO, celS, celR, setO, refO, ofL]; done) | (simp [lawO, celS, celR, setO, refO, ofL]; omega) | omega), trivial⟩
  | n + 1, s, B, hn, h, ha, hb => by
    have h1 := (h.tick (by omega) (unitAt s)).1
    have h2 := ha.tick h (by omega) (v := unitAt s)
    have ih := tick_loop o xs k at_ n (tickS s (unitAt s)) (B + 1) (by omega) h1 h2 (by omega)
    have q1 := tickE s h.ok (unitAt_of h.ok)
    have q2 := rTick s at_ h.ok ha (unitAt_of h.ok)
    have hw : IntKind.i64.wrap (((n + 1 : Nat) : Int) - 1) = (n : Int) := wrap_pred (by omega)
    refine aloopK mixed [0, 1, 2, 4, 5, 6, 7, 8, 9, 10, 11, 12, 13, 14, 15, 16, 17, 18, 19, 20, 21, 22, 26, 62, 80, 91, 93, 94, 101, 114, 121, 132, 169] 1000 ([.go, .t, .call [1, 2] false false (.int .i64 0) (setO (tickS s (unitAt s))), .call [3, 4] false false (.int .i64 0) (refO (tickS s (unitAt s)) at_), .t, .n (n : Int), .lp [15, 13, 10, 8, 6, 2, 1] [0, 1, 6, 3, 8] (.exit 3) ⟨[(13, .bool true), (10, .int .i64 k), (8, .ptr 3 0), (6, .ptr 1 0), (2, .ptr 0 0), (1, .lst 25 (xs.map encAct))], lawO o (ticksS s (n + 1)) at_⟩]) [13, 10, 8, 6, 2, 1] [0, 1, 2, 3, 4] (S1 := { env := [(13, .bool true), (10, .int .i64 (↑k : Int)), (8, .ptr 3 0), (6, .ptr 1 0), (2, .ptr 0 0), (1, .lst 25 (List.map encAct xs))], objs := [.vars 32 [.int .i64 o.1, .int .i64 o.2.1, .int .u64 o.2.2.1.epoch, .lst 2 (List.map encS o.2.2.1.segs), .int .i64 o.2.2.1.seq, .int .u64 o.2.2.2.1, .int .i64 o.2.2.2.2.kind, .lst 1 (List.map byteA o.2.2.2.2.data), .lst 3 (List.map encB o.2.2.2.2.backs)], .vars 86 [.int .i64 (SetD.client (ticksS s (n + 1))), .int .i64 (SetD.id (ticksS s (n + 1))), .int .u64 (SetD.epoch (ticksS s (n + 1))), .int .u64 (SetD.a (ticksS s (n + 1))), .int .i64 (CellD.kind (SetD.cell (ticksS s (n + 1)))), .lst 1 (List.map byteA (CellD.data (SetD.cell (ticksS s (n + 1))))), .lst 3 (List.map encB (CellD.backs (SetD.cell (ticksS s (n + 1))))), .lst 1 (List.map intA (SetD.chain (ticksS s (n + 1)))), .int .i64 (↑(SetD.at_ (ticksS s (n + 1))) : Int), .bool (SetD.started (ticksS s (n + 1))), .bool (SetD.over (ticksS s (n + 1))), .int .i64 (SetD.e (ticksS s (n + 1))), .int .i64 (SetD.ticks (ticksS s (n + 1))), .int .i64 (SetD.writes (ticksS s (n + 1))), .row 2 22 (List.length (SetD.out (ticksS s (n + 1))))], .row 50 22 (SetD.out (ticksS s (n + 1))), .vars 88 [.int .i64 (SetD.client (ticksS s (n + 1))), .int .i64 (SetD.id (ticksS s (n + 1))), .int .u64 (SetD.epoch (ticksS s (n + 1))), .int .u64 (SetD.a (ticksS s (n + 1))), .int .i64 (CellD.kind (SetD.cell (ticksS s (n + 1)))), .lst 1 (List.map byteA (CellD.data (SetD.cell (ticksS s (n + 1))))), .lst 3 (List.map encB (CellD.backs (SetD.cell (ticksS s (n + 1))))), .lst 1 (List.map intA (SetD.chain (ticksS s (n + 1)))), .int .i64 at_, .bool (SetD.over (ticksS s (n + 1))), .int .i64 (SetD.e (ticksS s (n + 1))), .int .i64 (SetD.ticks (ticksS s (n + 1))), .int .i64 (SetD.writes (ticksS s (n + 1))), .row 4 22 (List.length (SetD.out (ticksS s (n + 1))))], .row 50 22 (SetD.out (ticksS s (n + 1)))] }) (ob := [decide ((↑(n + (1 : Nat)) : Int) > (0 : Int)) = true,
 ACalls Tryz.prog 16 [.ptr 0 0] [.vars 86 (celS s ++ [.row 1 22 (List.length s.out)]), .row 50 22 s.out] (.int .i64 0) [.vars 86 [.int .i64 (SetD.client (tickS s (unitAt s))), .int .i64 (SetD.id (tickS s (unitAt s))), .int .u64 (SetD.epoch (tickS s (unitAt s))), .int .u64 (SetD.a (tickS s (unitAt s))), .int .i64 (CellD.kind (SetD.cell (tickS s (unitAt s)))), .lst 1 (List.map byteA (CellD.data (SetD.cell (tickS s (unitAt s))))), .lst 3 (List.map encB (CellD.backs (SetD.cell (tickS s (unitAt s))))), .lst 1 (List.map intA (SetD.chain (tickS s (unitAt s)))), .int .i64 (↑(SetD.at_ (tickS s (unitAt s))) : Int), .bool (SetD.started (tickS s (unitAt s))), .bool (SetD.over (tickS s (unitAt s))), .int .i64 (SetD.e (tickS s (unitAt s))), .int .i64 (SetD.ticks (tickS s (unitAt s))), .int .i64 (SetD.writes (tickS s (unitAt s))), .row 1 22 (List.length (SetD.out (tickS s (unitAt s))))], .row 50 22 (SetD.out (tickS s (unitAt s)))],
 ACalls Tryz.prog 17 [.ptr 0 0] [.vars 88 (celR s at_ ++ [.row 1 22 (List.length s.out)]), .row 50 22 s.out] (.int .i64 0) [.vars 88 [.int .i64 (SetD.client (tickS s (unitAt s))), .int .i64 (SetD.id (tickS s (unitAt s))), .int .u64 (SetD.epoch (tickS s (unitAt s))), .int .u64 (SetD.a (tickS s (unitAt s))), .int .i64 (CellD.kind (SetD.cell (tickS s (unitAt s)))), .lst 1 (List.map byteA (CellD.data (SetD.cell (tickS s (unitAt s))))), .lst 3 (List.map encB (CellD.backs (SetD.cell (tickS s (unitAt s))))), .lst 1 (List.map intA (SetD.chain (tickS s (unitAt s)))), .int .i64 at_, .bool (SetD.over (tickS s (unitAt s))), .int .i64 (SetD.e (tickS s (unitAt s))), .int .i64 (SetD.ticks (tickS s (unitAt s))), .int .i64 (SetD.writes (tickS s (unitAt s))), .row 1 22 (List.length (SetD.out (tickS s (unitAt s))))], .row 50 22 (SetD.out (tickS s (unitAt s)))],
 ((0 : Int) == (0 : Int)) = true,
 IntKind.i64.wrap ((↑(n + (1 : Nat)) : Int) - (1 : Int)) = (↑n : Int),
 ALoop Tryz.prog 0 178 (loopB Tryz.f3 1) { env := [(15, .int .i64 (↑n : Int)), (13, .bool true), (10, .int .i64 (↑k : Int)), (8, .ptr 3 0), (6, .ptr 1 0), (2, .ptr 0 0), (1, .lst 25 (List.map encAct xs))], objs := [.vars 32 [.int .i64 o.1, .int .i64 o.2.1, .int .u64 o.2.2.1.epoch, .lst 2 (List.map encS o.2.2.1.segs), .int .i64 o.2.2.1.seq, .int .u64 o.2.2.2.1, .int .i64 o.2.2.2.2.kind, .lst 1 (List.map byteA o.2.2.2.2.data), .lst 3 (List.map encB o.2.2.2.2.backs)], .vars 86 [.int .i64 (SetD.client (tickS s (unitAt s))), .int .i64 (SetD.id (tickS s (unitAt s))), .int .u64 (SetD.epoch (tickS s (unitAt s))), .int .u64 (SetD.a (tickS s (unitAt s))), .int .i64 (CellD.kind (SetD.cell (tickS s (unitAt s)))), .lst 1 (List.map byteA (CellD.data (SetD.cell (tickS s (unitAt s))))), .lst 3 (List.map encB (CellD.backs (SetD.cell (tickS s (unitAt s))))), .lst 1 (List.map intA (SetD.chain (tickS s (unitAt s)))), .int .i64 (↑(SetD.at_ (tickS s (unitAt s))) : Int), .bool (SetD.started (tickS s (unitAt s))), .bool (SetD.over (tickS s (unitAt s))), .int .i64 (SetD.e (tickS s (unitAt s))), .int .i64 (SetD.ticks (tickS s (unitAt s))), .int .i64 (SetD.writes (tickS s (unitAt s))), .row 2 22 (List.length (SetD.out (tickS s (unitAt s))))], .row 50 22 (SetD.out (tickS s (unitAt s))), .vars 88 [.int .i64 (SetD.client (tickS s (unitAt s))), .int .i64 (SetD.id (tickS s (unitAt s))), .int .u64 (SetD.epoch (tickS s (unitAt s))), .int .u64 (SetD.a (tickS s (unitAt s))), .int .i64 (CellD.kind (SetD.cell (tickS s (unitAt s)))), .lst 1 (List.map byteA (CellD.data (SetD.cell (tickS s (unitAt s))))), .lst 3 (List.map encB (CellD.backs (SetD.cell (tickS s (unitAt s))))), .lst 1 (List.map intA (SetD.chain (tickS s (unitAt s)))), .int .i64 at_, .bool (SetD.over (tickS s (unitAt s))), .int .i64 (SetD.e (tickS s (unitAt s))), .int .i64 (SetD.ticks (tickS s (unitAt s))), .int .i64 (SetD.writes (tickS s (unitAt s))), .row 4 22 (List.length (SetD.out (tickS s (unitAt s))))], .row 50 22 (SetD.out (tickS s (unitAt s)))] } (Ex.exit 3) { env := [(13, .bool true), (10, .int .i64 (↑k : Int)), (8, .ptr 3 0), (6, .ptr 1 0), (2, .ptr 0 0), (1, .lst 25 (List.map encAct xs))], objs := [.vars 32 [.int .i64 o.1, .int .i64 o.2.1, .int .u64 o.2.2.1.epoch, .lst 2 (List.map encS o.2.2.1.segs), .int .i64 o.2.2.1.seq, .int .u64 o.2.2.2.1, .int .i64 o.2.2.2.2.kind, .lst 1 (List.map byteA o.2.2.2.2.data), .lst 3 (List.map encB o.2.2.2.2.backs)], .vars 86 [.int .i64 (SetD.client (ticksS s (n + 1))), .int .i64 (SetD.id (ticksS s (n + 1))), .int .u64 (SetD.epoch (ticksS s (n + 1))), .int .u64 (SetD.a (ticksS s (n + 1))), .int .i64 (CellD.kind (SetD.cell (ticksS s (n + 1)))), .lst 1 (List.map byteA (CellD.data (SetD.cell (ticksS s (n + 1))))), .lst 3 (List.map encB (CellD.backs (SetD.cell (ticksS s (n + 1))))), .lst 1 (List.map intA (SetD.chain (ticksS s (n + 1)))), .int .i64 (↑(SetD.at_ (ticksS s (n + 1))) : Int), .bool (SetD.started (ticksS s (n + 1))), .bool (SetD.over (ticksS s (n + 1))), .int .i64 (SetD.e (ticksS s (n + 1))), .int .i64 (SetD.ticks (ticksS s (n + 1))), .int .i64 (SetD.writes (ticksS s (n + 1))), .row 2 22 (List.length (SetD.out (ticksS s (n + 1))))], .row 50 22 (SetD.out (ticksS s (n + 1))), .vars 88 [.int .i64 (SetD.client (ticksS s (n + 1))), .int .i64 (SetD.id (ticksS s (n + 1))), .int .u64 (SetD.epoch (ticksS s (n + 1))), .int .u64 (SetD.a (ticksS s (n + 1))), .int .i64 (CellD.kind (SetD.cell (ticksS s (n + 1)))), .lst 1 (List.map byteA (CellD.data (SetD.cell (ticksS s (n + 1))))), .lst 3 (List.map encB (CellD.backs (SetD.cell (ticksS s (n + 1))))), .lst 1 (List.map intA (SetD.chain (ticksS s (n + 1)))), .int .i64 at_, .bool (SetD.over (ticksS s (n + 1))), .int .i64 (SetD.e (ticksS s (n + 1))), .int .i64 (SetD.ticks (ticksS s (n + 1))), .int .i64 (SetD.writes (ticksS s (n + 1))), .row 4 22 (List.length (SetD.out (ticksS s (n + 1))))], .row 50 22 (SetD.out (ticksS s (n + 1)))] }]) (by kernel_rfl) (by first | exact rfl | exact ⟨rfl, rfl⟩ | (simp [lawO, celS, celR, setO, refO, ofL]; done) | (first | exact hw | omega)) ⟨?z0, ?q72_1, ?q72_2, ?z1, ?z2, ?q72_3, trivial⟩
    case z0|z1|z2 => first | exact rfl | (simp [lawO, celS, celR, setO, refO, ofL] <;> omega) | omega | (first | exact hw | omega)
    · exact q1
    · exact q2
    · exact ih
theorem round_0 (o : OfQ) (xs : List ActD) (k : Nat) (x : ActD) (s : SetD) (at_ : Int) (B : Nat) (h : Inv s B) (ha : At s at_) (hB : B + 9 ≤ 900) (hm : x.m.ok) (hl : ∀ s ∈ x.m.lay.segs, s.chains.length ≤ 1000000000) (hx : xs[k]? = some x) (hk : k < 60) (h1 : ACalls Tryz.prog 10 [encM x.m] [] (.bool true) []) (hkd : ¬ x.kind = 1 ∧ ¬ x.kind = 2 ∧ ¬ x.kind = 3 ∧ ¬ x.kind = 4) (s3 : SetD) (a3 : Int)
    (ih : ALoop Tryz.prog 0 Tryz.f3.ntmps (loopB Tryz.f3 0) ⟨[(10, .int .i64 (k + 1 : Nat)), (8, .ptr 3 0), (6, .ptr 1 0), (2, .ptr 0 0), (1, .lst 25 (xs.map encAct))], lawO o (s) (at_)⟩ (.exit 0) ⟨[(8, .ptr 2 0), (6, .ptr 0 0)], endO s3 a3⟩) :
    ALoop Tryz.prog 0 Tryz.f3.ntmps (loopB Tryz.f3 0) ⟨[(10, .int .i64 k), (8, .ptr 3 0), (6, .ptr 1 0), (2, .ptr 0 0), (1, .lst 25 (xs.map encAct))], lawO o s at_⟩ (.exit 0) ⟨[(8, .ptr 2 0), (6, .ptr 0 0)], endO s3 a3⟩ := by
  have hk2 : k < xs.length := (List.getElem?_eq_some_iff.1 hx).1
  have hk3 : (xs.map encAct)[k]? = some (encAct x) := by rw [List.getElem?_map, hx]; rfl
  have hw : IntKind.i64.wrap ((k : Int) + 1) = ((k + 1 : Nat) : Int) := wrap64 (by omega)
  have hi := h
  have q7 := overE (s) hi.ok
  have q8 := rTold (s) (at_)
  have q9 := same7_ac (toldC (s)) (toldC (s)) (toldC_ok hi.ok) (toldC_ok hi.ok)
  rw [sameC_refl] at q9
  refine aloopK mixed [0, 1, 2, 4, 5, 6, 7, 8, 9, 10, 11, 12, 13, 14, 15, 16, 17, 18, 19, 20, 21, 22, 26, 62, 80, 91, 93, 94, 101, 114, 121, 132, 169] 1000 ([.go, .n xs.length, .t, .t, .ix k, .el (encAct x), .call [] false true (.bool true) [], .f, .f, .f, .f, .call [1, 2] false false (.tup [encC (toldC (s)), .int .i64 (toldE (s)), .bool (s).over]) (setO (s)), .call [3, 4] false false (.tup [encC (toldC (s)), .int .i64 (toldE (s)), .bool (s).over]) (refO (s) (at_)), .call [] false true (.bool true) [], .f, .f, .n ((k + 1 : Nat) : Int), .lp [10, 8, 6, 2, 1] [0, 1, 7, 3, 10] (.exit 0) ⟨[(8, .ptr 2 0), (6, .ptr 0 0)], endO s3 a3⟩]) [8, 6] [0, 1, 2, 3] (S1 := { env := [(8, .ptr 2 0), (6, .ptr 0 0)], objs := [.vars 86 (celS s3 ++ [.row 1 22 (List.length s3.out)]), .row 50 22 s3.out, .vars 88 (celR s3 a3 ++ [.row 3 22 (List.length s3.out)]), .row 50 22 s3.out] }) (ob := [((List.map encAct xs).length : Int) = (xs.length : Int),
 decide ((↑k : Int) < (xs.length : Int)) = true,
 decide ((↑k : Int) < (60 : Int)) = true,
 k < List.length (List.map encAct xs),
 (↑k : Int) = (↑k : Int),
 (List.map encAct xs)[k]? = some (.agg [.int .i64 x.kind, .int .i64 x.n, .int .i64 x.m.kind, .int .i64 x.m.fr, .int .i64 x.m.fn, .int .i64 x.m.tr, .int .i64 x.m.tn, .int .i64 x.m.id, .int .i64 x.m.of_, .int .u64 x.m.epoch, .int .u64 x.m.addr, .int .i64 x.m.err, .int .i64 x.m.cell.kind, .lst (nat_lit 1) (List.map byteA x.m.cell.data), .lst (nat_lit 3) (List.map encB x.m.cell.backs), .lst (nat_lit 1) (List.map intA x.m.streams), .lst (nat_lit 3) (List.map encB x.m.backs), .int .i64 x.m.br, .int .i64 x.m.bc, .int .i64 x.m.pr, .int .i64 x.m.pc, .int .u64 x.m.lay.epoch, .lst (nat_lit 2) (List.map encS x.m.lay.segs), .int .i64 x.m.lay.seq, .bool x.own]),
 ACalls Tryz.prog 10 [(encM x.m)] [] (.bool true) [],
 (x.kind == (1 : Int)) = false,
 (x.kind == (2 : Int)) = false,
 (x.kind == (3 : Int)) = false,
 (x.kind == (4 : Int)) = false,
 ACalls Tryz.prog 21 [.ptr 0 0] [.vars 86 (celS s ++ [.row 1 22 (List.length s.out)]), .row 50 22 s.out] (.tup [(encC (toldC s)), .int .i64 (toldE s), .bool s.over]) [.vars 86 (celS s ++ [.row 1 22 (List.length s.out)]), .row 50 22 s.out],
 ACalls Tryz.prog 22 [.ptr 0 0] [.vars 88 (celR s at_ ++ [.row 1 22 (List.length s.out)]), .row 50 22 s.out] (.tup [(encC (toldC s)), .int .i64 (toldE s), .bool s.over]) [.vars 88 (celR s at_ ++ [.row 1 22 (List.length s.out)]), .row 50 22 s.out],
 ACalls Tryz.prog 23 [(encC (toldC s)), (encC (toldC s))] [] (.bool true) [],
 (toldE s != toldE s) = false,
 (!s.over == s.over) = false,
 IntKind.i64.wrap ((↑k : Int) + (1 : Int)) = (↑(k + (1 : Nat)) : Int),
 ALoop Tryz.prog 0 178 (loopB Tryz.f3 0) { env := [(10, .int .i64 (↑(k + 1) : Int)), (8, .ptr 3 0), (6, .ptr 1 0), (2, .ptr 0 0), (1, .lst 25 (List.map encAct xs))], objs := [.vars 32 [.int .i64 o.1, .int .i64 o.2.1, .int .u64 o.2.2.1.epoch, .lst 2 (List.map encS o.2.2.1.segs), .int .i64 o.2.2.1.seq, .int .u64 o.2.2.2.1, .int .i64 o.2.2.2.2.kind, .lst 1 (List.map byteA o.2.2.2.2.data), .lst 3 (List.map encB o.2.2.2.2.backs)], .vars 86 (celS s ++ [.row 2 22 (List.length s.out)]), .row 50 22 s.out, .vars 88 (celR s at_ ++ [.row 4 22 (List.length s.out)]), .row 50 22 s.out] } (Ex.exit 0) { env := [(8, .ptr 2 0), (6, .ptr 0 0)], objs := [.vars 86 (celS s3 ++ [.row 1 22 (List.length s3.out)]), .row 50 22 s3.out, .vars 88 (celR s3 a3 ++ [.row 3 22 (List.length s3.out)]), .row 50 22 s3.out] }]) (by kernel_rfl) (by first | exact rfl | exact ⟨rfl, rfl⟩ | (simp [lawO, celS, celR, setO, refO, ofL, endO, hkd, encAct, hx, hw]; done) | (first | exact hk3 | exact hw | exact hm1 | exact hm2 | omega)) ⟨?z0, ?z1, ?z2, ?z3, ?z4, ?z5, ?q87_1, ?z6, ?z7, ?z8, ?z9, ?q87_2, ?q87_3, ?q87_4, ?z10, ?z11, ?z12, ?q87_5, trivial⟩
  case z0|z1|z2|z3|z4|z5|z6|z7|z8|z9|z10|z11|z12 => first | exact rfl | (simp [lawO, celS, celR, setO, refO, ofL, endO, hkd, encAct, hx, hw] <;> omega) | omega | (first | exact hk3 | exact hw | exact hm1 | exact hm2 | omega)
  · exact h1
  · exact q7
  · exact q8
  · exact q9
  · exact ih
theorem round_1a (o : OfQ) (xs : List ActD) (k : Nat) (x : ActD) (s : SetD) (at_ : Int) (B : Nat) (h : Inv s B) (ha : At s at_) (hB : B + 9 ≤ 900) (hm : x.m.ok) (hl : ∀ s ∈ x.m.lay.segs, s.chains.length ≤ 1000000000) (hx : xs[k]? = some x) (hk : k < 60) (h1 : ACalls Tryz.prog 10 [encM x.m] [] (.bool true) []) (hkd : x.kind = 1) (hs : s.started = true) (s3 : SetD) (a3 : Int)
    (ih : ALoop Tryz.prog 0 Tryz.f3.ntmps (loopB Tryz.f3 0) ⟨[(10, .int .i64 (k + 1 : Nat)), (8, .ptr 3 0), (6, .ptr 1 0), (2, .ptr 0 0), (1, .lst 25 (xs.map encAct))], lawO o (s) (at_)⟩ (.exit 0) ⟨[(8, .ptr 2 0), (6, .ptr 0 0)], endO s3 a3⟩) :
    ALoop Tryz.prog 0 Tryz.f3.ntmps (loopB Tryz.f3 0) ⟨[(10, .int .i64 k), (8, .ptr 3 0), (6, .ptr 1 0), (2, .ptr 0 0), (1, .lst 25 (xs.map encAct))], lawO o s at_⟩ (.exit 0) ⟨[(8, .ptr 2 0), (6, .ptr 0 0)], endO s3 a3⟩ := by
  have hk2 : k < xs.length := (List.getElem?_eq_some_iff.1 hx).1
  have hk3 : (xs.map encAct)[k]? = some (encAct x) := by rw [List.getElem?_map, hx]; rfl
  have hw : IntKind.i64.wrap ((k : Int) + 1) = ((k + 1 : Nat) : Int) := wrap64 (by omega)
  have hi := h
  have q7 := overE (s) hi.ok
  have q8 := rTold (s) (at_)
  have q9 := same7_ac (toldC (s)) (toldC (s)) (toldC_ok hi.ok) (toldC_ok hi.ok)
  rw [sameC_refl] at q9
  refine aloopK mixed [0, 1, 2, 4, 5, 6, 7, 8, 9, 10, 11, 12, 13, 14, 15, 16, 17, 18, 19, 20, 21, 22, 26, 62, 80, 91, 93, 94, 101, 114, 121, 132, 169] 1000 ([.go, .n xs.length, .t, .t, .ix k, .el (encAct x), .call [] false true (.bool true) [], .t, .call [1, 2] false false (.int .i64 131) (setO s), .call [3, 4] false false (.int .i64 131) (refO s at_), .t, .call [1, 7] false false (.tup [encC (toldC (s)), .int .i64 (toldE (s)), .bool (s).over]) (setO (s)), .call [3, 9] false false (.tup [encC (toldC (s)), .int .i64 (toldE (s)), .bool (s).over]) (refO (s) (at_)), .call [] false true (.bool true) [], .f, .f, .n ((k + 1 : Nat) : Int), .lp [10, 8, 6, 2, 1] [0, 1, 11, 3, 14] (.exit 0) ⟨[(8, .ptr 2 0), (6, .ptr 0 0)], endO s3 a3⟩]) [8, 6] [0, 1, 2, 3] (S1 := { env := [(8, .ptr 2 0), (6, .ptr 0 0)], objs := [.vars 86 (celS s3 ++ [.row 1 22 (List.length s3.out)]), .row 50 22 s3.out, .vars 88 (celR s3 a3 ++ [.row 3 22 (List.length s3.out)]), .row 50 22 s3.out] }) (ob := [((List.map encAct xs).length : Int) = (xs.length : Int),
 decide ((↑k : Int) < (xs.length : Int)) = true,
 decide ((↑k : Int) < (60 : Int)) = true,
 k < List.length (List.map encAct xs),
 (↑k : Int) = (↑k : Int),
 (List.map encAct xs)[k]? = some (.agg [.int .i64 x.kind, .int .i64 x.n, .int .i64 x.m.kind, .int .i64 x.m.fr, .int .i64 x.m.fn, .int .i64 x.m.tr, .int .i64 x.m.tn, .int .i64 x.m.id, .int .i64 x.m.of_, .int .u64 x.m.epoch, .int .u64 x.m.addr, .int .i64 x.m.err, .int .i64 x.m.cell.kind, .lst (nat_lit 1) (List.map byteA x.m.cell.data), .lst (nat_lit 3) (List.map encB x.m.cell.backs), .lst (nat_lit 1) (List.map intA x.m.streams), .lst (nat_lit 3) (List.map encB x.m.backs), .int .i64 x.m.br, .int .i64 x.m.bc, .int .i64 x.m.pr, .int .i64 x.m.pc, .int .u64 x.m.lay.epoch, .lst (nat_lit 2) (List.map encS x.m.lay.segs), .int .i64 x.m.lay.seq, .bool x.own]),
 ACalls Tryz.prog 10 [(encM x.m)] [] (.bool true) [],
 (x.kind == (1 : Int)) = true,
 ACalls Tryz.prog 11 [.ptr 0 0] [.vars 86 (celS s ++ [.row 1 22 (List.length s.out)]), .row 50 22 s.out] (.int .i64 131) [.vars 86 (celS s ++ [.row 1 22 (List.length s.out)]), .row 50 22 s.out],
 ACalls Tryz.prog 12 [.ptr 0 0] [.vars 88 (celR s at_ ++ [.row 1 22 (List.length s.out)]), .row 50 22 s.out] (.int .i64 131) [.vars 88 (celR s at_ ++ [.row 1 22 (List.length s.out)]), .row 50 22 s.out],
 ((131 : Int) == (131 : Int)) = true,
 ACalls Tryz.prog 21 [.ptr 0 0] [.vars 86 (celS s ++ [.row 1 22 (List.length s.out)]), .row 50 22 s.out] (.tup [(encC (toldC s)), .int .i64 (toldE s), .bool s.over]) [.vars 86 (celS s ++ [.row 1 22 (List.length s.out)]), .row 50 22 s.out],
 ACalls Tryz.prog 22 [.ptr 0 0] [.vars 88 (celR s at_ ++ [.row 1 22 (List.length s.out)]), .row 50 22 s.out] (.tup [(encC (toldC s)), .int .i64 (toldE s), .bool s.over]) [.vars 88 (celR s at_ ++ [.row 1 22 (List.length s.out)]), .row 50 22 s.out],
 ACalls Tryz.prog 23 [(encC (toldC s)), (encC (toldC s))] [] (.bool true) [],
 (toldE s != toldE s) = false,
 (!s.over == s.over) = false,
 IntKind.i64.wrap ((↑k : Int) + (1 : Int)) = (↑(k + (1 : Nat)) : Int),
 ALoop Tryz.prog 0 178 (loopB Tryz.f3 0) { env := [(10, .int .i64 (↑(k + 1) : Int)), (8, .ptr 3 0), (6, .ptr 1 0), (2, .ptr 0 0), (1, .lst 25 (List.map encAct xs))], objs := [.vars 32 [.int .i64 o.1, .int .i64 o.2.1, .int .u64 o.2.2.1.epoch, .lst 2 (List.map encS o.2.2.1.segs), .int .i64 o.2.2.1.seq, .int .u64 o.2.2.2.1, .int .i64 o.2.2.2.2.kind, .lst 1 (List.map byteA o.2.2.2.2.data), .lst 3 (List.map encB o.2.2.2.2.backs)], .vars 86 (celS s ++ [.row 2 22 (List.length s.out)]), .row 50 22 s.out, .vars 88 (celR s at_ ++ [.row 4 22 (List.length s.out)]), .row 50 22 s.out] } (Ex.exit 0) { env := [(8, .ptr 2 0), (6, .ptr 0 0)], objs := [.vars 86 (celS s3 ++ [.row 1 22 (List.length s3.out)]), .row 50 22 s3.out, .vars 88 (celR s3 a3 ++ [.row 3 22 (List.length s3.out)]), .row 50 22 s3.out] }]) (by kernel_rfl) (by first | exact rfl | exact ⟨rfl, rfl⟩ | (simp [lawO, celS, celR, setO, refO, ofL, endO, hkd, encAct, hx, hw]; done) | (first | exact hk3 | exact hw | exact hm1 | exact hm2 | omega)) ⟨?z0, ?z1, ?z2, ?z3, ?z4, ?z5, ?q104_1, ?z6, ?q104_2, ?q104_3, ?z7, ?q104_4, ?q104_5, ?q104_6, ?z8, ?z9, ?z10, ?q104_7, trivial⟩
  case z0|z1|z2|z3|z4|z5|z6|z7|z8|z9|z10 => first | exact rfl | (simp [lawO, celS, celR, setO, refO, ofL, endO, hkd, encAct, hx, hw] <;> omega) | omega | (first | exact hk3 | exact hw | exact hm1 | exact hm2 | omega)
  · exact h1
  · exact (start_no s hs)
  · exact (rStart_no s at_ (ha.yes hs))
  · exact q7
  · exact q8
  · exact q9
  · exact ih
theorem round_1b (o : OfQ) (xs : List ActD) (k : Nat) (x : ActD) (s : SetD) (at_ : Int) (B : Nat) (h : Inv s B) (ha : At s at_) (hB : B + 9 ≤ 900) (hm : x.m.ok) (hl : ∀ s ∈ x.m.lay.segs, s.chains.length ≤ 1000000000) (hx : xs[k]? = some x) (hk : k < 60) (h1 : ACalls Tryz.prog 10 [encM x.m] [] (.bool true) []) (hkd : x.kind = 1) (hs : s.started = false) (s3 : SetD) (a3 : Int)
    (ih : ALoop Tryz.prog 0 Tryz.f3.ntmps (loopB Tryz.f3 0) ⟨[(10, .int .i64 (k + 1 : Nat)), (8, .ptr 3 0), (6, .ptr 1 0), (2, .ptr 0 0), (1, .lst 25 (xs.map encAct))], lawO o (startS s (unitAt s)) (0)⟩ (.exit 0) ⟨[(8, .ptr 2 0), (6, .ptr 0 0)], endO s3 a3⟩) :
    ALoop Tryz.prog 0 Tryz.f3.ntmps (loopB Tryz.f3 0) ⟨[(10, .int .i64 k), (8, .ptr 3 0), (6, .ptr 1 0), (2, .ptr 0 0), (1, .lst 25 (xs.map encAct))], lawO o s at_⟩ (.exit 0) ⟨[(8, .ptr 2 0), (6, .ptr 0 0)], endO s3 a3⟩ := by
  have hk2 : k < xs.length := (List.getElem?_eq_some_iff.1 hx).1
  have hk3 : (xs.map encAct)[k]? = some (encAct x) := by rw [List.getElem?_map, hx]; rfl
  have hw : IntKind.i64.wrap ((k : Int) + 1) = ((k + 1 : Nat) : Int) := wrap64 (by omega)
  have hi := h.start (by omega) hs (unitAt s)
  obtain ⟨n1, n2, n3⟩ := h.new hs
  have hu := unitAt_of h.ok n3
  have ho := h.out
  have hd := h.ok.cell.d
  have hb := h.ok.cell.b
  have qa := start_ac s hs hu (by omega) (by omega) (by omega) (by omega) (by omega)
  have qb := rStart s hs n1 hu (by omega) (by omega) (by omega)
  have h0 := ha.no hs
  subst h0
  have q7 := overE (startS s (unitAt s)) hi.ok
  have q8 := rTold (startS s (unitAt s)) (0)
  have q9 := same7_ac (toldC (startS s (unitAt s))) (toldC (startS s (unitAt s))) (toldC_ok hi.ok) (toldC_ok hi.ok)
  rw [sameC_refl] at q9
  refine aloopK mixed [0, 1, 2, 4, 5, 6, 7, 8, 9, 10, 11, 12, 13, 14, 15, 16, 17, 18, 19, 20, 21, 22, 26, 62, 80, 91, 93, 94, 101, 114, 121, 132, 169] 1000 ([.go, .n xs.length, .t, .t, .ix k, .el (encAct x), .call [] false true (.bool true) [], .t, .call [1, 2] false false (.int .i64 0) (setO (startS s (unitAt s))), .call [3, 4] false false (.int .i64 0) (refO (startS s (unitAt s)) 0), .t, .call [1, 7] false false (.tup [encC (toldC (startS s (unitAt s))), .int .i64 (toldE (startS s (unitAt s))), .bool (startS s (unitAt s)).over]) (setO (startS s (unitAt s))), .call [3, 9] false false (.tup [encC (toldC (startS s (unitAt s))), .int .i64 (toldE (startS s (unitAt s))), .bool (startS s (unitAt s)).over]) (refO (startS s (unitAt s)) (0)), .call [] false true (.bool true) [], .f, .f, .n ((k + 1 : Nat) : Int), .lp [10, 8, 6, 2, 1] [0, 1, 11, 3, 14] (.exit 0) ⟨[(8, .ptr 2 0), (6, .ptr 0 0)], endO s3 a3⟩]) [8, 6] [0, 1, 2, 3] (S1 := { env := [(8, .ptr 2 0), (6, .ptr 0 0)], objs := [.vars 86 (celS s3 ++ [.row 1 22 (List.length s3.out)]), .row 50 22 s3.out, .vars 88 (celR s3 a3 ++ [.row 3 22 (List.length s3.out)]), .row 50 22 s3.out] }) (ob := [((List.map encAct xs).length : Int) = (xs.length : Int),
 decide ((↑k : Int) < (xs.length : Int)) = true,
 decide ((↑k : Int) < (60 : Int)) = true,
 k < List.length (List.map encAct xs),
 (↑k : Int) = (↑k : Int),
 (List.map encAct xs)[k]? = some (.agg [.int .i64 x.kind, .int .i64 x.n, .int .i64 x.m.kind, .int .i64 x.m.fr, .int .i64 x.m.fn, .int .i64 x.m.tr, .int .i64 x.m.tn, .int .i64 x.m.id, .int .i64 x.m.of_, .int .u64 x.m.epoch, .int .u64 x.m.addr, .int .i64 x.m.err, .int .i64 x.m.cell.kind, .lst (nat_lit 1) (List.map byteA x.m.cell.data), .lst (nat_lit 3) (List.map encB x.m.cell.backs), .lst (nat_lit 1) (List.map intA x.m.streams), .lst (nat_lit 3) (List.map encB x.m.backs), .int .i64 x.m.br, .int .i64 x.m.bc, .int .i64 x.m.pr, .int .i64 x.m.pc, .int .u64 x.m.lay.epoch, .lst (nat_lit 2) (List.map encS x.m.lay.segs), .int .i64 x.m.lay.seq, .bool x.own]),
 ACalls Tryz.prog 10 [(encM x.m)] [] (.bool true) [],
 (x.kind == (1 : Int)) = true,
 ACalls Tryz.prog 11 [.ptr 0 0] [.vars 86 (celS s ++ [.row 1 22 (List.length s.out)]), .row 50 22 s.out] (.int .i64 0) [.vars 86 [.int .i64 (SetD.client (startS s (unitAt s))), .int .i64 (SetD.id (startS s (unitAt s))), .int .u64 (SetD.epoch (startS s (unitAt s))), .int .u64 (SetD.a (startS s (unitAt s))), .int .i64 (CellD.kind (SetD.cell (startS s (unitAt s)))), .lst 1 (List.map byteA (CellD.data (SetD.cell (startS s (unitAt s))))), .lst 3 (List.map encB (CellD.backs (SetD.cell (startS s (unitAt s))))), .lst 1 (List.map intA (SetD.chain (startS s (unitAt s)))), .int .i64 (↑(SetD.at_ (startS s (unitAt s))) : Int), .bool (SetD.started (startS s (unitAt s))), .bool (SetD.over (startS s (unitAt s))), .int .i64 (SetD.e (startS s (unitAt s))), .int .i64 (SetD.ticks (startS s (unitAt s))), .int .i64 (SetD.writes (startS s (unitAt s))), .row 1 22 (List.length (SetD.out (startS s (unitAt s))))], .row 50 22 (SetD.out (startS s (unitAt s)))],
 ACalls Tryz.prog 12 [.ptr 0 0] [.vars 88 (celR s (-1) ++ [.row 1 22 (List.length s.out)]), .row 50 22 s.out] (.int .i64 0) [.vars 88 [.int .i64 (SetD.client (startS s (unitAt s))), .int .i64 (SetD.id (startS s (unitAt s))), .int .u64 (SetD.epoch (startS s (unitAt s))), .int .u64 (SetD.a (startS s (unitAt s))), .int .i64 (CellD.kind (SetD.cell (startS s (unitAt s)))), .lst 1 (List.map byteA (CellD.data (SetD.cell (startS s (unitAt s))))), .lst 3 (List.map encB (CellD.backs (SetD.cell (startS s (unitAt s))))), .lst 1 (List.map intA (SetD.chain (startS s (unitAt s)))), .int .i64 0, .bool (SetD.over (startS s (unitAt s))), .int .i64 (SetD.e (startS s (unitAt s))), .int .i64 (SetD.ticks (startS s (unitAt s))), .int .i64 (SetD.writes (startS s (unitAt s))), .row 1 22 (List.length (SetD.out (startS s (unitAt s))))], .row 50 22 (SetD.out (startS s (unitAt s)))],
 ((0 : Int) == (0 : Int)) = true,
 ACalls Tryz.prog 21 [.ptr 0 0] [.vars 86 [.int .i64 (SetD.client (startS s (unitAt s))), .int .i64 (SetD.id (startS s (unitAt s))), .int .u64 (SetD.epoch (startS s (unitAt s))), .int .u64 (SetD.a (startS s (unitAt s))), .int .i64 (CellD.kind (SetD.cell (startS s (unitAt s)))), .lst 1 (List.map byteA (CellD.data (SetD.cell (startS s (unitAt s))))), .lst 3 (List.map encB (CellD.backs (SetD.cell (startS s (unitAt s))))), .lst 1 (List.map intA (SetD.chain (startS s (unitAt s)))), .int .i64 (↑(SetD.at_ (startS s (unitAt s))) : Int), .bool (SetD.started (startS s (unitAt s))), .bool (SetD.over (startS s (unitAt s))), .int .i64 (SetD.e (startS s (unitAt s))), .int .i64 (SetD.ticks (startS s (unitAt s))), .int .i64 (SetD.writes (startS s (unitAt s))), .row 1 22 (List.length (SetD.out (startS s (unitAt s))))], .row 50 22 (SetD.out (startS s (unitAt s)))] (.tup [.agg [.int .i64 (CellD.kind (toldC (startS s (unitAt s)))), .lst 1 (List.map byteA (CellD.data (toldC (startS s (unitAt s))))), .lst 3 (List.map encB (CellD.backs (toldC (startS s (unitAt s)))))], .int .i64 (toldE (startS s (unitAt s))), .bool (SetD.over (startS s (unitAt s)))]) [.vars 86 [.int .i64 (SetD.client (startS s (unitAt s))), .int .i64 (SetD.id (startS s (unitAt s))), .int .u64 (SetD.epoch (startS s (unitAt s))), .int .u64 (SetD.a (startS s (unitAt s))), .int .i64 (CellD.kind (SetD.cell (startS s (unitAt s)))), .lst 1 (List.map byteA (CellD.data (SetD.cell (startS s (unitAt s))))), .lst 3 (List.map encB (CellD.backs (SetD.cell (startS s (unitAt s))))), .lst 1 (List.map intA (SetD.chain (startS s (unitAt s)))), .int .i64 (↑(SetD.at_ (startS s (unitAt s))) : Int), .bool (SetD.started (startS s (unitAt s))), .bool (SetD.over (startS s (unitAt s))), .int .i64 (SetD.e (startS s (unitAt s))), .int .i64 (SetD.ticks (startS s (unitAt s))), .int .i64 (SetD.writes (startS s (unitAt s))), .row 1 22 (List.length (SetD.out (startS s (unitAt s))))], .row 50 22 (SetD.out (startS s (unitAt s)))],
 ACalls Tryz.prog 22 [.ptr 0 0] [.vars 88 [.int .i64 (SetD.client (startS s (unitAt s))), .int .i64 (SetD.id (startS s (unitAt s))), .int .u64 (SetD.epoch (startS s (unitAt s))), .int .u64 (SetD.a (startS s (unitAt s))), .int .i64 (CellD.kind (SetD.cell (startS s (unitAt s)))), .lst 1 (List.map byteA (CellD.data (SetD.cell (startS s (unitAt s))))), .lst 3 (List.map encB (CellD.backs (SetD.cell (startS s (unitAt s))))), .lst 1 (List.map intA (SetD.chain (startS s (unitAt s)))), .int .i64 0, .bool (SetD.over (startS s (unitAt s))), .int .i64 (SetD.e (startS s (unitAt s))), .int .i64 (SetD.ticks (startS s (unitAt s))), .int .i64 (SetD.writes (startS s (unitAt s))), .row 1 22 (List.length (SetD.out (startS s (unitAt s))))], .row 50 22 (SetD.out (startS s (unitAt s)))] (.tup [.agg [.int .i64 (CellD.kind (toldC (startS s (unitAt s)))), .lst 1 (List.map byteA (CellD.data (toldC (startS s (unitAt s))))), .lst 3 (List.map encB (CellD.backs (toldC (startS s (unitAt s)))))], .int .i64 (toldE (startS s (unitAt s))), .bool (SetD.over (startS s (unitAt s)))]) [.vars 88 [.int .i64 (SetD.client (startS s (unitAt s))), .int .i64 (SetD.id (startS s (unitAt s))), .int .u64 (SetD.epoch (startS s (unitAt s))), .int .u64 (SetD.a (startS s (unitAt s))), .int .i64 (CellD.kind (SetD.cell (startS s (unitAt s)))), .lst 1 (List.map byteA (CellD.data (SetD.cell (startS s (unitAt s))))), .lst 3 (List.map encB (CellD.backs (SetD.cell (startS s (unitAt s))))), .lst 1 (List.map intA (SetD.chain (startS s (unitAt s)))), .int .i64 0, .bool (SetD.over (startS s (unitAt s))), .int .i64 (SetD.e (startS s (unitAt s))), .int .i64 (SetD.ticks (startS s (unitAt s))), .int .i64 (SetD.writes (startS s (unitAt s))), .row 1 22 (List.length (SetD.out (startS s (unitAt s))))], .row 50 22 (SetD.out (startS s (unitAt s)))],
 ACalls Tryz.prog 23 [.agg [.int .i64 (CellD.kind (toldC (startS s (unitAt s)))), .lst 1 (List.map byteA (CellD.data (toldC (startS s (unitAt s))))), .lst 3 (List.map encB (CellD.backs (toldC (startS s (unitAt s)))))], .agg [.int .i64 (CellD.kind (toldC (startS s (unitAt s)))), .lst 1 (List.map byteA (CellD.data (toldC (startS s (unitAt s))))), .lst 3 (List.map encB (CellD.backs (toldC (startS s (unitAt s)))))]] [] (.bool true) [],
 (toldE (startS s (unitAt s)) != toldE (startS s (unitAt s))) = false,
 (!SetD.over (startS s (unitAt s)) == SetD.over (startS s (unitAt s))) = false,
 IntKind.i64.wrap ((↑k : Int) + (1 : Int)) = (↑(k + (1 : Nat)) : Int),
 ALoop Tryz.prog 0 178 (loopB Tryz.f3 0) { env := [(10, .int .i64 (↑(k + 1) : Int)), (8, .ptr 3 0), (6, .ptr 1 0), (2, .ptr 0 0), (1, .lst 25 (List.map encAct xs))], objs := [.vars 32 [.int .i64 o.1, .int .i64 o.2.1, .int .u64 o.2.2.1.epoch, .lst 2 (List.map encS o.2.2.1.segs), .int .i64 o.2.2.1.seq, .int .u64 o.2.2.2.1, .int .i64 o.2.2.2.2.kind, .lst 1 (List.map byteA o.2.2.2.2.data), .lst 3 (List.map encB o.2.2.2.2.backs)], .vars 86 [.int .i64 (SetD.client (startS s (unitAt s))), .int .i64 (SetD.id (startS s (unitAt s))), .int .u64 (SetD.epoch (startS s (unitAt s))), .int .u64 (SetD.a (startS s (unitAt s))), .int .i64 (CellD.kind (SetD.cell (startS s (unitAt s)))), .lst 1 (List.map byteA (CellD.data (SetD.cell (startS s (unitAt s))))), .lst 3 (List.map encB (CellD.backs (SetD.cell (startS s (unitAt s))))), .lst 1 (List.map intA (SetD.chain (startS s (unitAt s)))), .int .i64 (↑(SetD.at_ (startS s (unitAt s))) : Int), .bool (SetD.started (startS s (unitAt s))), .bool (SetD.over (startS s (unitAt s))), .int .i64 (SetD.e (startS s (unitAt s))), .int .i64 (SetD.ticks (startS s (unitAt s))), .int .i64 (SetD.writes (startS s (unitAt s))), .row 2 22 (List.length (SetD.out (startS s (unitAt s))))], .row 50 22 (SetD.out (startS s (unitAt s))), .vars 88 [.int .i64 (SetD.client (startS s (unitAt s))), .int .i64 (SetD.id (startS s (unitAt s))), .int .u64 (SetD.epoch (startS s (unitAt s))), .int .u64 (SetD.a (startS s (unitAt s))), .int .i64 (CellD.kind (SetD.cell (startS s (unitAt s)))), .lst 1 (List.map byteA (CellD.data (SetD.cell (startS s (unitAt s))))), .lst 3 (List.map encB (CellD.backs (SetD.cell (startS s (unitAt s))))), .lst 1 (List.map intA (SetD.chain (startS s (unitAt s)))), .int .i64 0, .bool (SetD.over (startS s (unitAt s))), .int .i64 (SetD.e (startS s (unitAt s))), .int .i64 (SetD.ticks (startS s (unitAt s))), .int .i64 (SetD.writes (startS s (unitAt s))), .row 4 22 (List.length (SetD.out (startS s (unitAt s))))], .row 50 22 (SetD.out (startS s (unitAt s)))] } (Ex.exit 0) { env := [(8, .ptr 2 0), (6, .ptr 0 0)], objs := [.vars 86 (celS s3 ++ [.row 1 22 (List.length s3.out)]), .row 50 22 s3.out, .vars 88 (celR s3 a3 ++ [.row 3 22 (List.length s3.out)]), .row 50 22 s3.out] }]) (by kernel_rfl) (by first | exact rfl | exact ⟨rfl, rfl⟩ | (simp [lawO, celS, celR, setO, refO, ofL, endO, hkd, encAct, hx, hw]; done) | (first | exact hk3 | exact hw | exact hm1 | exact hm2 | omega)) ⟨?z0, ?z1, ?z2, ?z3, ?z4, ?z5, ?q132_1, ?z6, ?q132_2, ?q132_3, ?z7, ?q132_4, ?q132_5, ?q132_6, ?z8, ?z9, ?z10, ?q132_7, trivial⟩
  case z0|z1|z2|z3|z4|z5|z6|z7|z8|z9|z10 => first | exact rfl | (simp [lawO, celS, celR, setO, refO, ofL, endO, hkd, encAct, hx, hw] <;> omega) | omega | (first | exact hk3 | exact hw | exact hm1 | exact hm2 | omega)
  · exact h1
  · exact qa
  · exact qb
  · exact q7
  · exact q8
  · exact q9
  · exact ih
theorem round_2 (o : OfQ) (xs : List ActD) (k : Nat) (x : ActD) (s : SetD) (at_ : Int) (B : Nat) (h : Inv s B) (ha : At s at_) (hB : B + 9 ≤ 900) (hm : x.m.ok) (hl : ∀ s ∈ x.m.lay.segs, s.chains.length ≤ 1000000000) (hx : xs[k]? = some x) (hk : k < 60) (h1 : ACalls Tryz.prog 10 [encM x.m] [] (.bool true) []) (hkd : x.kind = 2) (s3 : SetD) (a3 : Int)
    (ih : ALoop Tryz.prog 0 Tryz.f3.ntmps (loopB Tryz.f3 0) ⟨[(10, .int .i64 (k + 1 : Nat)), (8, .ptr 3 0), (6, .ptr 1 0), (2, .ptr 0 0), (1, .lst 25 (xs.map encAct))], lawO o (if hearB s (msgOf o x s at_) (unitAt s) = true then stepS s (msgOf o x s at_) else s) (atR s (msgOf o x s at_) (unitAt s) at_)⟩ (.exit 0) ⟨[(8, .ptr 2 0), (6, .ptr 0 0)], endO s3 a3⟩) :
    ALoop Tryz.prog 0 Tryz.f3.ntmps (loopB Tryz.f3 0) ⟨[(10, .int .i64 k), (8, .ptr 3 0), (6, .ptr 1 0), (2, .ptr 0 0), (1, .lst 25 (xs.map encAct))], lawO o s at_⟩ (.exit 0) ⟨[(8, .ptr 2 0), (6, .ptr 0 0)], endO s3 a3⟩ := by
  have hk2 : k < xs.length := (List.getElem?_eq_some_iff.1 hx).1
  have hk3 : (xs.map encAct)[k]? = some (encAct x) := by rw [List.getElem?_map, hx]; rfl
  have hw : IntKind.i64.wrap ((k : Int) + 1) = ((k + 1 : Nat) : Int) := wrap64 (by omega)
  have hmo : (msgOf o x s at_).ok := msgOf_ok hm
  have hml : ∀ y ∈ (msgOf o x s at_).lay.segs, y.chains.length ≤ 1000000000 := by rw [msgOf_lay]; exact hl
  have hi : Inv (if hearB s (msgOf o x s at_) (unitAt s) = true then stepS s (msgOf o x s at_) else s) (B + 1) := by
    split
    · rename_i hh
      have H := hearB_yes hh
      exact (h.step (by omega) H.st H.ov hmo).1
    · exact h.mono (by omega)
  have qa := msg_ac o x s at_
  have qb := hearE s (msgOf o x s at_) (unitAt s) h.ok hmo (unitAt_of h.ok)
  have qc := rHear s (msgOf o x s at_) (unitAt s) at_ ha h.ok hmo hml (unitAt_of h.ok)
  have q7 := overE (if hearB s (msgOf o x s at_) (unitAt s) = true then stepS s (msgOf o x s at_) else s) hi.ok
  have q8 := rTold (if hearB s (msgOf o x s at_) (unitAt s) = true then stepS s (msgOf o x s at_) else s) (atR s (msgOf o x s at_) (unitAt s) at_)
  have q9 := same7_ac (toldC (if hearB s (msgOf o x s at_) (unitAt s) = true then stepS s (msgOf o x s at_) else s)) (toldC (if hearB s (msgOf o x s at_) (unitAt s) = true then stepS s (msgOf o x s at_) else s)) (toldC_ok hi.ok) (toldC_ok hi.ok)
  rw [sameC_refl] at q9
  refine aloopK mixed [0, 1, 2, 4, 5, 6, 7, 8, 9, 10, 11, 12, 13, 14, 15, 16, 17, 18, 19, 20, 21, 22, 26, 62, 80, 91, 93, 94, 101, 114, 121, 132, 169] 1000 ([.go, .n xs.length, .t, .t, .ix k, .el (encAct x), .call [] false true (.bool true) [], .f, .t, .call [3, 4] false false (encM (msgOf o x s at_)) (refO s at_), .call [1, 2] false false (.bool (hearB s (msgOf o x s at_) (unitAt s))) (setO (if hearB s (msgOf o x s at_) (unitAt s) = true then stepS s (msgOf o x s at_) else s)), .call [3, 7] false false (.bool (hearB s (msgOf o x s at_) (unitAt s))) (refO (if hearB s (msgOf o x s at_) (unitAt s) = true then stepS s (msgOf o x s at_) else s) (atR s (msgOf o x s at_) (unitAt s) at_)), .t, .call [1, 10] false false (.tup [encC (toldC (if hearB s (msgOf o x s at_) (unitAt s) = true then stepS s (msgOf o x s at_) else s)), .int .i64 (toldE (if hearB s (msgOf o x s at_) (unitAt s) = true then stepS s (msgOf o x s at_) else s)), .bool (if hearB s (msgOf o x s at_) (unitAt s) = true then stepS s (msgOf o x s at_) else s).over]) (setO (if hearB s (msgOf o x s at_) (unitAt s) = true then stepS s (msgOf o x s at_) else s)), .call [3, 12] false false (.tup [encC (toldC (if hearB s (msgOf o x s at_) (unitAt s) = true then stepS s (msgOf o x s at_) else s)), .int .i64 (toldE (if hearB s (msgOf o x s at_) (unitAt s) = true then stepS s (msgOf o x s at_) else s)), .bool (if hearB s (msgOf o x s at_) (unitAt s) = true then stepS s (msgOf o x s at_) else s).over]) (refO (if hearB s (msgOf o x s at_) (unitAt s) = true then stepS s (msgOf o x s at_) else s) (atR s (msgOf o x s at_) (unitAt s) at_)), .call [] false true (.bool true) [], .f, .f, .n ((k + 1 : Nat) : Int), .lp [10, 8, 6, 2, 1] [0, 1, 14, 3, 17] (.exit 0) ⟨[(8, .ptr 2 0), (6, .ptr 0 0)], endO s3 a3⟩]) [8, 6] [0, 1, 2, 3] (S1 := { env := [(8, .ptr 2 0), (6, .ptr 0 0)], objs := [.vars 86 (celS s3 ++ [.row 1 22 (List.length s3.out)]), .row 50 22 s3.out, .vars 88 (celR s3 a3 ++ [.row 3 22 (List.length s3.out)]), .row 50 22 s3.out] }) (ob := [((List.map encAct xs).length : Int) = (xs.length : Int),
 decide ((↑k : Int) < (xs.length : Int)) = true,
 decide ((↑k : Int) < (60 : Int)) = true,
 k < List.length (List.map encAct xs),
 (↑k : Int) = (↑k : Int),
 (List.map encAct xs)[k]? = some (.agg [.int .i64 x.kind, .int .i64 x.n, .int .i64 x.m.kind, .int .i64 x.m.fr, .int .i64 x.m.fn, .int .i64 x.m.tr, .int .i64 x.m.tn, .int .i64 x.m.id, .int .i64 x.m.of_, .int .u64 x.m.epoch, .int .u64 x.m.addr, .int .i64 x.m.err, .int .i64 x.m.cell.kind, .lst (nat_lit 1) (List.map byteA x.m.cell.data), .lst (nat_lit 3) (List.map encB x.m.cell.backs), .lst (nat_lit 1) (List.map intA x.m.streams), .lst (nat_lit 3) (List.map encB x.m.backs), .int .i64 x.m.br, .int .i64 x.m.bc, .int .i64 x.m.pr, .int .i64 x.m.pc, .int .u64 x.m.lay.epoch, .lst (nat_lit 2) (List.map encS x.m.lay.segs), .int .i64 x.m.lay.seq, .bool x.own]),
 ACalls Tryz.prog 10 [(encM x.m)] [] (.bool true) [],
 (x.kind == (1 : Int)) = false,
 (x.kind == (2 : Int)) = true,
 ACalls Tryz.prog 13 [.agg [.int .i64 x.kind, .int .i64 x.n, .int .i64 x.m.kind, .int .i64 x.m.fr, .int .i64 x.m.fn, .int .i64 x.m.tr, .int .i64 x.m.tn, .int .i64 x.m.id, .int .i64 x.m.of_, .int .u64 x.m.epoch, .int .u64 x.m.addr, .int .i64 x.m.err, .int .i64 x.m.cell.kind, .lst 1 (List.map byteA x.m.cell.data), .lst 3 (List.map encB x.m.cell.backs), .lst 1 (List.map intA x.m.streams), .lst 3 (List.map encB x.m.backs), .int .i64 x.m.br, .int .i64 x.m.bc, .int .i64 x.m.pr, .int .i64 x.m.pc, .int .u64 x.m.lay.epoch, .lst 2 (List.map encS x.m.lay.segs), .int .i64 x.m.lay.seq, .bool x.own], .agg [.int .i64 o.1, .int .i64 o.2.1, .int .u64 o.2.2.1.epoch, .lst 2 (List.map encS o.2.2.1.segs), .int .i64 o.2.2.1.seq, .int .u64 o.2.2.2.1, .int .i64 o.2.2.2.2.kind, .lst 1 (List.map byteA o.2.2.2.2.data), .lst 3 (List.map encB o.2.2.2.2.backs)], .ptr 0 0] [.vars 88 (celR s at_ ++ [.row 1 22 (List.length s.out)]), .row 50 22 s.out] ((encM (msgOf o x s at_))) [.vars 88 (celR s at_ ++ [.row 1 22 (List.length s.out)]), .row 50 22 s.out],
 ACalls Tryz.prog 14 [.ptr 0 0, (encM (msgOf o x s at_))] [.vars 86 (celS s ++ [.row 1 22 (List.length s.out)]), .row 50 22 s.out] (.bool (hearB s (msgOf o x s at_) (unitAt s))) [.vars 86 [.int .i64 (SetD.client (if hearB s (msgOf o x s at_) (unitAt s) = true then stepS s (msgOf o x s at_) else s)), .int .i64 (SetD.id (if hearB s (msgOf o x s at_) (unitAt s) = true then stepS s (msgOf o x s at_) else s)), .int .u64 (SetD.epoch (if hearB s (msgOf o x s at_) (unitAt s) = true then stepS s (msgOf o x s at_) else s)), .int .u64 (SetD.a (if hearB s (msgOf o x s at_) (unitAt s) = true then stepS s (msgOf o x s at_) else s)), .int .i64 (CellD.kind (SetD.cell (if hearB s (msgOf o x s at_) (unitAt s) = true then stepS s (msgOf o x s at_) else s))), .lst 1 (List.map byteA (CellD.data (SetD.cell (if hearB s (msgOf o x s at_) (unitAt s) = true then stepS s (msgOf o x s at_) else s)))), .lst 3 (List.map encB (CellD.backs (SetD.cell (if hearB s (msgOf o x s at_) (unitAt s) = true then stepS s (msgOf o x s at_) else s)))), .lst 1 (List.map intA (SetD.chain (if hearB s (msgOf o x s at_) (unitAt s) = true then stepS s (msgOf o x s at_) else s))), .int .i64 (↑(SetD.at_ (if hearB s (msgOf o x s at_) (unitAt s) = true then stepS s (msgOf o x s at_) else s)) : Int), .bool (SetD.started (if hearB s (msgOf o x s at_) (unitAt s) = true then stepS s (msgOf o x s at_) else s)), .bool (SetD.over (if hearB s (msgOf o x s at_) (unitAt s) = true then stepS s (msgOf o x s at_) else s)), .int .i64 (SetD.e (if hearB s (msgOf o x s at_) (unitAt s) = true then stepS s (msgOf o x s at_) else s)), .int .i64 (SetD.ticks (if hearB s (msgOf o x s at_) (unitAt s) = true then stepS s (msgOf o x s at_) else s)), .int .i64 (SetD.writes (if hearB s (msgOf o x s at_) (unitAt s) = true then stepS s (msgOf o x s at_) else s)), .row 1 22 (List.length (SetD.out (if hearB s (msgOf o x s at_) (unitAt s) = true then stepS s (msgOf o x s at_) else s)))], .row 50 22 (SetD.out (if hearB s (msgOf o x s at_) (unitAt s) = true then stepS s (msgOf o x s at_) else s))],
 ACalls Tryz.prog 15 [.ptr 0 0, (encM (msgOf o x s at_))] [.vars 88 (celR s at_ ++ [.row 1 22 (List.length s.out)]), .row 50 22 s.out] (.bool (hearB s (msgOf o x s at_) (unitAt s))) [.vars 88 [.int .i64 (SetD.client (if hearB s (msgOf o x s at_) (unitAt s) = true then stepS s (msgOf o x s at_) else s)), .int .i64 (SetD.id (if hearB s (msgOf o x s at_) (unitAt s) = true then stepS s (msgOf o x s at_) else s)), .int .u64 (SetD.epoch (if hearB s (msgOf o x s at_) (unitAt s) = true then stepS s (msgOf o x s at_) else s)), .int .u64 (SetD.a (if hearB s (msgOf o x s at_) (unitAt s) = true then stepS s (msgOf o x s at_) else s)), .int .i64 (CellD.kind (SetD.cell (if hearB s (msgOf o x s at_) (unitAt s) = true then stepS s (msgOf o x s at_) else s))), .lst 1 (List.map byteA (CellD.data (SetD.cell (if hearB s (msgOf o x s at_) (unitAt s) = true then stepS s (msgOf o x s at_) else s)))), .lst 3 (List.map encB (CellD.backs (SetD.cell (if hearB s (msgOf o x s at_) (unitAt s) = true then stepS s (msgOf o x s at_) else s)))), .lst 1 (List.map intA (SetD.chain (if hearB s (msgOf o x s at_) (unitAt s) = true then stepS s (msgOf o x s at_) else s))), .int .i64 (atR s (msgOf o x s at_) (unitAt s) at_), .bool (SetD.over (if hearB s (msgOf o x s at_) (unitAt s) = true then stepS s (msgOf o x s at_) else s)), .int .i64 (SetD.e (if hearB s (msgOf o x s at_) (unitAt s) = true then stepS s (msgOf o x s at_) else s)), .int .i64 (SetD.ticks (if hearB s (msgOf o x s at_) (unitAt s) = true then stepS s (msgOf o x s at_) else s)), .int .i64 (SetD.writes (if hearB s (msgOf o x s at_) (unitAt s) = true then stepS s (msgOf o x s at_) else s)), .row 1 22 (List.length (SetD.out (if hearB s (msgOf o x s at_) (unitAt s) = true then stepS s (msgOf o x s at_) else s)))], .row 50 22 (SetD.out (if hearB s (msgOf o x s at_) (unitAt s) = true then stepS s (msgOf o x s at_) else s))],
 (hearB s (msgOf o x s at_) (unitAt s) == hearB s (msgOf o x s at_) (unitAt s)) = true,
 ACalls Tryz.prog 21 [.ptr 0 0] [.vars 86 [.int .i64 (SetD.client (if hearB s (msgOf o x s at_) (unitAt s) = true then stepS s (msgOf o x s at_) else s)), .int .i64 (SetD.id (if hearB s (msgOf o x s at_) (unitAt s) = true then stepS s (msgOf o x s at_) else s)), .int .u64 (SetD.epoch (if hearB s (msgOf o x s at_) (unitAt s) = true then stepS s (msgOf o x s at_) else s)), .int .u64 (SetD.a (if hearB s (msgOf o x s at_) (unitAt s) = true then stepS s (msgOf o x s at_) else s)), .int .i64 (CellD.kind (SetD.cell (if hearB s (msgOf o x s at_) (unitAt s) = true then stepS s (msgOf o x s at_) else s))), .lst 1 (List.map byteA (CellD.data (SetD.cell (if hearB s (msgOf o x s at_) (unitAt s) = true then stepS s (msgOf o x s at_) else s)))), .lst 3 (List.map encB (CellD.backs (SetD.cell (if hearB s (msgOf o x s at_) (unitAt s) = true then stepS s (msgOf o x s at_) else s)))), .lst 1 (List.map intA (SetD.chain (if hearB s (msgOf o x s at_) (unitAt s) = true then stepS s (msgOf o x s at_) else s))), .int .i64 (↑(SetD.at_ (if hearB s (msgOf o x s at_) (unitAt s) = true then stepS s (msgOf o x s at_) else s)) : Int), .bool (SetD.started (if hearB s (msgOf o x s at_) (unitAt s) = true then stepS s (msgOf o x s at_) else s)), .bool (SetD.over (if hearB s (msgOf o x s at_) (unitAt s) = true then stepS s (msgOf o x s at_) else s)), .int .i64 (SetD.e (if hearB s (msgOf o x s at_) (unitAt s) = true then stepS s (msgOf o x s at_) else s)), .int .i64 (SetD.ticks (if hearB s (msgOf o x s at_) (unitAt s) = true then stepS s (msgOf o x s at_) else s)), .int .i64 (SetD.writes (if hearB s (msgOf o x s at_) (unitAt s) = true then stepS s (msgOf o x s at_) else s)), .row 1 22 (List.length (SetD.out (if hearB s (msgOf o x s at_) (unitAt s) = true then stepS s (msgOf o x s at_) else s)))], .row 50 22 (SetD.out (if hearB s (msgOf o x s at_) (unitAt s) = true then stepS s (msgOf o x s at_) else s))] (.tup [.agg [.int .i64 (CellD.kind (toldC (if hearB s (msgOf o x s at_) (unitAt s) = true then stepS s (msgOf o x s at_) else s))), .lst 1 (List.map byteA (CellD.data (toldC (if hearB s (msgOf o x s at_) (unitAt s) = true then stepS s (msgOf o x s at_) else s)))), .lst 3 (List.map encB (CellD.backs (toldC (if hearB s (msgOf o x s at_) (unitAt s) = true then stepS s (msgOf o x s at_) else s))))], .int .i64 (toldE (if hearB s (msgOf o x s at_) (unitAt s) = true then stepS s (msgOf o x s at_) else s)), .bool (SetD.over (if hearB s (msgOf o x s at_) (unitAt s) = true then stepS s (msgOf o x s at_) else s))]) [.vars 86 [.int .i64 (SetD.client (if hearB s (msgOf o x s at_) (unitAt s) = true then stepS s (msgOf o x s at_) else s)), .int .i64 (SetD.id (if hearB s (msgOf o x s at_) (unitAt s) = true then stepS s (msgOf o x s at_) else s)), .int .u64 (SetD.epoch (if hearB s (msgOf o x s at_) (unitAt s) = true then stepS s (msgOf o x s at_) else s)), .int .u64 (SetD.a (if hearB s (msgOf o x s at_) (unitAt s) = true then stepS s (msgOf o x s at_) else s)), .int .i64 (CellD.kind (SetD.cell (if hearB s (msgOf o x s at_) (unitAt s) = true then stepS s (msgOf o x s at_) else s))), .lst 1 (List.map byteA (CellD.data (SetD.cell (if hearB s (msgOf o x s at_) (unitAt s) = true then stepS s (msgOf o x s at_) else s)))), .lst 3 (List.map encB (CellD.backs (SetD.cell (if hearB s (msgOf o x s at_) (unitAt s) = true then stepS s (msgOf o x s at_) else s)))), .lst 1 (List.map intA (SetD.chain (if hearB s (msgOf o x s at_) (unitAt s) = true then stepS s (msgOf o x s at_) else s))), .int .i64 (↑(SetD.at_ (if hearB s (msgOf o x s at_) (unitAt s) = true then stepS s (msgOf o x s at_) else s)) : Int), .bool (SetD.started (if hearB s (msgOf o x s at_) (unitAt s) = true then stepS s (msgOf o x s at_) else s)), .bool (SetD.over (if hearB s (msgOf o x s at_) (unitAt s) = true then stepS s (msgOf o x s at_) else s)), .int .i64 (SetD.e (if hearB s (msgOf o x s at_) (unitAt s) = true then stepS s (msgOf o x s at_) else s)), .int .i64 (SetD.ticks (if hearB s (msgOf o x s at_) (unitAt s) = true then stepS s (msgOf o x s at_) else s)), .int .i64 (SetD.writes (if hearB s (msgOf o x s at_) (unitAt s) = true then stepS s (msgOf o x s at_) else s)), .row 1 22 (List.length (SetD.out (if hearB s (msgOf o x s at_) (unitAt s) = true then stepS s (msgOf o x s at_) else s)))], .row 50 22 (SetD.out (if hearB s (msgOf o x s at_) (unitAt s) = true then stepS s (msgOf o x s at_) else s))],
 ACalls Tryz.prog 22 [.ptr 0 0] [.vars 88 [.int .i64 (SetD.client (if hearB s (msgOf o x s at_) (unitAt s) = true then stepS s (msgOf o x s at_) else s)), .int .i64 (SetD.id (if hearB s (msgOf o x s at_) (unitAt s) = true then stepS s (msgOf o x s at_) else s)), .int .u64 (SetD.epoch (if hearB s (msgOf o x s at_) (unitAt s) = true then stepS s (msgOf o x s at_) else s)), .int .u64 (SetD.a (if hearB s (msgOf o x s at_) (unitAt s) = true then stepS s (msgOf o x s at_) else s)), .int .i64 (CellD.kind (SetD.cell (if hearB s (msgOf o x s at_) (unitAt s) = true then stepS s (msgOf o x s at_) else s))), .lst 1 (List.map byteA (CellD.data (SetD.cell (if hearB s (msgOf o x s at_) (unitAt s) = true then stepS s (msgOf o x s at_) else s)))), .lst 3 (List.map encB (CellD.backs (SetD.cell (if hearB s (msgOf o x s at_) (unitAt s) = true then stepS s (msgOf o x s at_) else s)))), .lst 1 (List.map intA (SetD.chain (if hearB s (msgOf o x s at_) (unitAt s) = true then stepS s (msgOf o x s at_) else s))), .int .i64 (atR s (msgOf o x s at_) (unitAt s) at_), .bool (SetD.over (if hearB s (msgOf o x s at_) (unitAt s) = true then stepS s (msgOf o x s at_) else s)), .int .i64 (SetD.e (if hearB s (msgOf o x s at_) (unitAt s) = true then stepS s (msgOf o x s at_) else s)), .int .i64 (SetD.ticks (if hearB s (msgOf o x s at_) (unitAt s) = true then stepS s (msgOf o x s at_) else s)), .int .i64 (SetD.writes (if hearB s (msgOf o x s at_) (unitAt s) = true then stepS s (msgOf o x s at_) else s)), .row 1 22 (List.length (SetD.out (if hearB s (msgOf o x s at_) (unitAt s) = true then stepS s (msgOf o x s at_) else s)))], .row 50 22 (SetD.out (if hearB s (msgOf o x s at_) (unitAt s) = true then stepS s (msgOf o x s at_) else s))] (.tup [.agg [.int .i64 (CellD.kind (toldC (if hearB s (msgOf o x s at_) (unitAt s) = true then stepS s (msgOf o x s at_) else s))), .lst 1 (List.map byteA (CellD.data (toldC (if hearB s (msgOf o x s at_) (unitAt s) = true then stepS s (msgOf o x s at_) else s)))), .lst 3 (List.map encB (CellD.backs (toldC (if hearB s (msgOf o x s at_) (unitAt s) = true then stepS s (msgOf o x s at_) else s))))], .int .i64 (toldE (if hearB s (msgOf o x s at_) (unitAt s) = true then stepS s (msgOf o x s at_) else s)), .bool (SetD.over (if hearB s (msgOf o x s at_) (unitAt s) = true then stepS s (msgOf o x s at_) else s))]) [.vars 88 [.int .i64 (SetD.client (if hearB s (msgOf o x s at_) (unitAt s) = true then stepS s (msgOf o x s at_) else s)), .int .i64 (SetD.id (if hearB s (msgOf o x s at_) (unitAt s) = true then stepS s (msgOf o x s at_) else s)), .int .u64 (SetD.epoch (if hearB s (msgOf o x s at_) (unitAt s) = true then stepS s (msgOf o x s at_) else s)), .int .u64 (SetD.a (if hearB s (msgOf o x s at_) (unitAt s) = true then stepS s (msgOf o x s at_) else s)), .int .i64 (CellD.kind (SetD.cell (if hearB s (msgOf o x s at_) (unitAt s) = true then stepS s (msgOf o x s at_) else s))), .lst 1 (List.map byteA (CellD.data (SetD.cell (if hearB s (msgOf o x s at_) (unitAt s) = true then stepS s (msgOf o x s at_) else s)))), .lst 3 (List.map encB (CellD.backs (SetD.cell (if hearB s (msgOf o x s at_) (unitAt s) = true then stepS s (msgOf o x s at_) else s)))), .lst 1 (List.map intA (SetD.chain (if hearB s (msgOf o x s at_) (unitAt s) = true then stepS s (msgOf o x s at_) else s))), .int .i64 (atR s (msgOf o x s at_) (unitAt s) at_), .bool (SetD.over (if hearB s (msgOf o x s at_) (unitAt s) = true then stepS s (msgOf o x s at_) else s)), .int .i64 (SetD.e (if hearB s (msgOf o x s at_) (unitAt s) = true then stepS s (msgOf o x s at_) else s)), .int .i64 (SetD.ticks (if hearB s (msgOf o x s at_) (unitAt s) = true then stepS s (msgOf o x s at_) else s)), .int .i64 (SetD.writes (if hearB s (msgOf o x s at_) (unitAt s) = true then stepS s (msgOf o x s at_) else s)), .row 1 22 (List.length (SetD.out (if hearB s (msgOf o x s at_) (unitAt s) = true then stepS s (msgOf o x s at_) else s)))], .row 50 22 (SetD.out (if hearB s (msgOf o x s at_) (unitAt s) = true then stepS s (msgOf o x s at_) else s))],
 ACalls Tryz.prog 23 [.agg [.int .i64 (CellD.kind (toldC (if hearB s (msgOf o x s at_) (unitAt s) = true then stepS s (msgOf o x s at_) else s))), .lst 1 (List.map byteA (CellD.data (toldC (if hearB s (msgOf o x s at_) (unitAt s) = true then stepS s (msgOf o x s at_) else s)))), .lst 3 (List.map encB (CellD.backs (toldC (if hearB s (msgOf o x s at_) (unitAt s) = true then stepS s (msgOf o x s at_) else s))))], .agg [.int .i64 (CellD.kind (toldC (if hearB s (msgOf o x s at_) (unitAt s) = true then stepS s (msgOf o x s at_) else s))), .lst 1 (List.map byteA (CellD.data (toldC (if hearB s (msgOf o x s at_) (unitAt s) = true then stepS s (msgOf o x s at_) else s)))), .lst 3 (List.map encB (CellD.backs (toldC (if hearB s (msgOf o x s at_) (unitAt s) = true then stepS s (msgOf o x s at_) else s))))]] [] (.bool true) [],
 (toldE (if hearB s (msgOf o x s at_) (unitAt s) = true then stepS s (msgOf o x s at_) else s) != toldE (if hearB s (msgOf o x s at_) (unitAt s) = true then stepS s (msgOf o x s at_) else s)) = false,
 (!SetD.over (if hearB s (msgOf o x s at_) (unitAt s) = true then stepS s (msgOf o x s at_) else s) == SetD.over (if hearB s (msgOf o x s at_) (unitAt s) = true then stepS s (msgOf o x s at_) else s)) = false,
 IntKind.i64.wrap ((↑k : Int) + (1 : Int)) = (↑(k + (1 : Nat)) : Int),
 ALoop Tryz.prog 0 178 (loopB Tryz.f3 0) { env := [(10, .int .i64 (↑(k + 1) : Int)), (8, .ptr 3 0), (6, .ptr 1 0), (2, .ptr 0 0), (1, .lst 25 (List.map encAct xs))], objs := [.vars 32 [.int .i64 o.1, .int .i64 o.2.1, .int .u64 o.2.2.1.epoch, .lst 2 (List.map encS o.2.2.1.segs), .int .i64 o.2.2.1.seq, .int .u64 o.2.2.2.1, .int .i64 o.2.2.2.2.kind, .lst 1 (List.map byteA o.2.2.2.2.data), .lst 3 (List.map encB o.2.2.2.2.backs)], .vars 86 [.int .i64 (SetD.client (if hearB s (msgOf o x s at_) (unitAt s) = true then stepS s (msgOf o x s at_) else s)), .int .i64 (SetD.id (if hearB s (msgOf o x s at_) (unitAt s) = true then stepS s (msgOf o x s at_) else s)), .int .u64 (SetD.epoch (if hearB s (msgOf o x s at_) (unitAt s) = true then stepS s (msgOf o x s at_) else s)), .int .u64 (SetD.a (if hearB s (msgOf o x s at_) (unitAt s) = true then stepS s (msgOf o x s at_) else s)), .int .i64 (CellD.kind (SetD.cell (if hearB s (msgOf o x s at_) (unitAt s) = true then stepS s (msgOf o x s at_) else s))), .lst 1 (List.map byteA (CellD.data (SetD.cell (if hearB s (msgOf o x s at_) (unitAt s) = true then stepS s (msgOf o x s at_) else s)))), .lst 3 (List.map encB (CellD.backs (SetD.cell (if hearB s (msgOf o x s at_) (unitAt s) = true then stepS s (msgOf o x s at_) else s)))), .lst 1 (List.map intA (SetD.chain (if hearB s (msgOf o x s at_) (unitAt s) = true then stepS s (msgOf o x s at_) else s))), .int .i64 (↑(SetD.at_ (if hearB s (msgOf o x s at_) (unitAt s) = true then stepS s (msgOf o x s at_) else s)) : Int), .bool (SetD.started (if hearB s (msgOf o x s at_) (unitAt s) = true then stepS s (msgOf o x s at_) else s)), .bool (SetD.over (if hearB s (msgOf o x s at_) (unitAt s) = true then stepS s (msgOf o x s at_) else s)), .int .i64 (SetD.e (if hearB s (msgOf o x s at_) (unitAt s) = true then stepS s (msgOf o x s at_) else s)), .int .i64 (SetD.ticks (if hearB s (msgOf o x s at_) (unitAt s) = true then stepS s (msgOf o x s at_) else s)), .int .i64 (SetD.writes (if hearB s (msgOf o x s at_) (unitAt s) = true then stepS s (msgOf o x s at_) else s)), .row 2 22 (List.length (SetD.out (if hearB s (msgOf o x s at_) (unitAt s) = true then stepS s (msgOf o x s at_) else s)))], .row 50 22 (SetD.out (if hearB s (msgOf o x s at_) (unitAt s) = true then stepS s (msgOf o x s at_) else s)), .vars 88 [.int .i64 (SetD.client (if hearB s (msgOf o x s at_) (unitAt s) = true then stepS s (msgOf o x s at_) else s)), .int .i64 (SetD.id (if hearB s (msgOf o x s at_) (unitAt s) = true then stepS s (msgOf o x s at_) else s)), .int .u64 (SetD.epoch (if hearB s (msgOf o x s at_) (unitAt s) = true then stepS s (msgOf o x s at_) else s)), .int .u64 (SetD.a (if hearB s (msgOf o x s at_) (unitAt s) = true then stepS s (msgOf o x s at_) else s)), .int .i64 (CellD.kind (SetD.cell (if hearB s (msgOf o x s at_) (unitAt s) = true then stepS s (msgOf o x s at_) else s))), .lst 1 (List.map byteA (CellD.data (SetD.cell (if hearB s (msgOf o x s at_) (unitAt s) = true then stepS s (msgOf o x s at_) else s)))), .lst 3 (List.map encB (CellD.backs (SetD.cell (if hearB s (msgOf o x s at_) (unitAt s) = true then stepS s (msgOf o x s at_) else s)))), .lst 1 (List.map intA (SetD.chain (if hearB s (msgOf o x s at_) (unitAt s) = true then stepS s (msgOf o x s at_) else s))), .int .i64 (atR s (msgOf o x s at_) (unitAt s) at_), .bool (SetD.over (if hearB s (msgOf o x s at_) (unitAt s) = true then stepS s (msgOf o x s at_) else s)), .int .i64 (SetD.e (if hearB s (msgOf o x s at_) (unitAt s) = true then stepS s (msgOf o x s at_) else s)), .int .i64 (SetD.ticks (if hearB s (msgOf o x s at_) (unitAt s) = true then stepS s (msgOf o x s at_) else s)), .int .i64 (SetD.writes (if hearB s (msgOf o x s at_) (unitAt s) = true then stepS s (msgOf o x s at_) else s)), .row 4 22 (List.length (SetD.out (if hearB s (msgOf o x s at_) (unitAt s) = true then stepS s (msgOf o x s at_) else s)))], .row 50 22 (SetD.out (if hearB s (msgOf o x s at_) (unitAt s) = true then stepS s (msgOf o x s at_) else s))] } (Ex.exit 0) { env := [(8, .ptr 2 0), (6, .ptr 0 0)], objs := [.vars 86 (celS s3 ++ [.row 1 22 (List.length s3.out)]), .row 50 22 s3.out, .vars 88 (celR s3 a3 ++ [.row 3 22 (List.length s3.out)]), .row 50 22 s3.out] }]) (by kernel_rfl) (by first | exact rfl | exact ⟨rfl, rfl⟩ | (simp [lawO, celS, celR, setO, refO, ofL, endO, hkd, encAct, hx, hw]; done) | (first | exact hk3 | exact hw | exact hm1 | exact hm2 | omega)) ⟨?z0, ?z1, ?z2, ?z3, ?z4, ?z5, ?q161_1, ?z6, ?z7, ?q161_2, ?q161_3, ?q161_4, ?z8, ?q161_5, ?q161_6, ?q161_7, ?z9, ?z10, ?z11, ?q161_8, trivial⟩
  case z0|z1|z2|z3|z4|z5|z6|z7|z8|z9|z10|z11 => first | exact rfl | (simp [lawO, celS, celR, setO, refO, ofL, endO, hkd, encAct, hx, hw] <;> omega) | omega | (first | exact hk3 | exact hw | exact hm1 | exact hm2 | omega)
  · exact h1
  · exact qa
  · exact qb
  · exact qc
  · exact q7
  · exact q8
  · exact q9
  · exact ih
theorem round_3 (o : OfQ) (xs : List ActD) (k : Nat) (x : ActD) (s : SetD) (at_ : Int) (B : Nat) (h : Inv s B) (ha : At s at_) (hB : B + 9 ≤ 900) (hm : x.m.ok) (hl : ∀ s ∈ x.m.lay.segs, s.chains.length ≤ 1000000000) (hx : xs[k]? = some x) (hk : k < 60) (h1 : ACalls Tryz.prog 10 [encM x.m] [] (.bool true) []) (hkd : x.kind = 3) (j : Nat) (hj : (j : Int) = min (max x.n 0) 9) (s3 : SetD) (a3 : Int)
    (ih : ALoop Tryz.prog 0 Tryz.f3.ntmps (loopB Tryz.f3 0) ⟨[(10, .int .i64 (k + 1 : Nat)), (8, .ptr 3 0), (6, .ptr 1 0), (2, .ptr 0 0), (1, .lst 25 (xs.map encAct))], lawO o (ticksS s j) (at_)⟩ (.exit 0) ⟨[(8, .ptr 2 0), (6, .ptr 0 0)], endO s3 a3⟩) :
    ALoop Tryz.prog 0 Tryz.f3.ntmps (loopB Tryz.f3 0) ⟨[(10, .int .i64 k), (8, .ptr 3 0), (6, .ptr 1 0), (2, .ptr 0 0), (1, .lst 25 (xs.map encAct))], lawO o s at_⟩ (.exit 0) ⟨[(8, .ptr 2 0), (6, .ptr 0 0)], endO s3 a3⟩ := by
  have hk2 : k < xs.length := (List.getElem?_eq_some_iff.1 hx).1
  have hk3 : (xs.map encAct)[k]? = some (encAct x) := by rw [List.getElem?_map, hx]; rfl
  have hw : IntKind.i64.wrap ((k : Int) + 1) = ((k + 1 : Nat) : Int) := wrap64 (by omega)
  have hj9 : j ≤ 9 := by omega
  have hm1 : Go.Proofs.YtidgcfgkcidkiaaGreat.L.mx x.n 0 = max x.n 0 := Go.Proofs.YtidgcfgkcidkiaaGreat.L.mx_max x.n 0
  have hm2 : Go.Proofs.YtidgcfgkcidkiaaGreat.L.mn (max x.n 0) 9 = (j : Int) := by rw [Go.Proofs.YtidgcfgkcidkiaaGreat.L.mn_min]; exact hj.symm
  obtain ⟨hi, _⟩ := ticks_inv j h ha (by omega)
  have qa := tick_loop o xs k at_ j s B hj9 h ha (by omega)
  have q7 := overE (ticksS s j) hi.ok
  have q8 := rTold (ticksS s j) (at_)
  have q9 := same7_ac (toldC (ticksS s j)) (toldC (ticksS s j)) (toldC_ok hi.ok) (toldC_ok hi.ok)
  rw [sameC_refl] at q9
  refine aloopK mixed [0, 1, 2, 4, 5, 6, 7, 8, 9, 10, 11, 12, 13, 14, 15, 16, 17, 18, 19, 20, 21, 22, 26, 62, 80, 91, 93, 94, 101, 114, 121, 132, 169] 1000 ([.go, .n xs.length, .t, .t, .ix k, .el (encAct x), .call [] false true (.bool true) [], .f, .f, .t, .n (max x.n 0), .n (j : Int), .lp [15, 13, 10, 8, 6, 2, 1] [0, 1, 2, 3, 4] (.exit 3) ⟨[(13, .bool true), (10, .int .i64 k), (8, .ptr 3 0), (6, .ptr 1 0), (2, .ptr 0 0), (1, .lst 25 (xs.map encAct))], lawO o (ticksS s j) at_⟩, .call [1, 2] false false (.tup [encC (toldC (ticksS s j)), .int .i64 (toldE (ticksS s j)), .bool (ticksS s j).over]) (setO (ticksS s j)), .call [3, 4] false false (.tup [encC (toldC (ticksS s j)), .int .i64 (toldE (ticksS s j)), .bool (ticksS s j).over]) (refO (ticksS s j) (at_)), .call [] false true (.bool true) [], .f, .f, .n ((k + 1 : Nat) : Int), .lp [10, 8, 6, 2, 1] [0, 1, 6, 3, 9] (.exit 0) ⟨[(8, .ptr 2 0), (6, .ptr 0 0)], endO s3 a3⟩]) [8, 6] [0, 1, 2, 3] (S1 := { env := [(8, .ptr 2 0), (6, .ptr 0 0)], objs := [.vars 86 (celS s3 ++ [.row 1 22 (List.length s3.out)]), .row 50 22 s3.out, .vars 88 (celR s3 a3 ++ [.row 3 22 (List.length s3.out)]), .row 50 22 s3.out] }) (ob := [((List.map encAct xs).length : Int) = (xs.length : Int),
 decide ((↑k : Int) < (xs.length : Int)) = true,
 decide ((↑k : Int) < (60 : Int)) = true,
 k < List.length (List.map encAct xs),
 (↑k : Int) = (↑k : Int),
 (List.map encAct xs)[k]? = some (.agg [.int .i64 x.kind, .int .i64 x.n, .int .i64 x.m.kind, .int .i64 x.m.fr, .int .i64 x.m.fn, .int .i64 x.m.tr, .int .i64 x.m.tn, .int .i64 x.m.id, .int .i64 x.m.of_, .int .u64 x.m.epoch, .int .u64 x.m.addr, .int .i64 x.m.err, .int .i64 x.m.cell.kind, .lst (nat_lit 1) (List.map byteA x.m.cell.data), .lst (nat_lit 3) (List.map encB x.m.cell.backs), .lst (nat_lit 1) (List.map intA x.m.streams), .lst (nat_lit 3) (List.map encB x.m.backs), .int .i64 x.m.br, .int .i64 x.m.bc, .int .i64 x.m.pr, .int .i64 x.m.pc, .int .u64 x.m.lay.epoch, .lst (nat_lit 2) (List.map encS x.m.lay.segs), .int .i64 x.m.lay.seq, .bool x.own]),
 ACalls Tryz.prog 10 [(encM x.m)] [] (.bool true) [],
 (x.kind == (1 : Int)) = false,
 (x.kind == (2 : Int)) = false,
 (x.kind == (3 : Int)) = true,
 mx x.n (0 : Int) = max x.n (0 : Int),
 mn (max x.n (0 : Int)) (9 : Int) = (↑j : Int),
 ALoop Tryz.prog 0 178 (loopB Tryz.f3 1) { env := [(15, .int .i64 (↑j : Int)), (13, .bool true), (10, .int .i64 (↑k : Int)), (8, .ptr 3 0), (6, .ptr 1 0), (2, .ptr 0 0), (1, .lst 25 (List.map encAct xs))], objs := [.vars 32 [.int .i64 o.1, .int .i64 o.2.1, .int .u64 o.2.2.1.epoch, .lst 2 (List.map encS o.2.2.1.segs), .int .i64 o.2.2.1.seq, .int .u64 o.2.2.2.1, .int .i64 o.2.2.2.2.kind, .lst 1 (List.map byteA o.2.2.2.2.data), .lst 3 (List.map encB o.2.2.2.2.backs)], .vars 86 (celS s ++ [.row 2 22 (List.length s.out)]), .row 50 22 s.out, .vars 88 (celR s at_ ++ [.row 4 22 (List.length s.out)]), .row 50 22 s.out] } (Ex.exit 3) { env := [(13, .bool true), (10, .int .i64 (↑k : Int)), (8, .ptr 3 0), (6, .ptr 1 0), (2, .ptr 0 0), (1, .lst 25 (List.map encAct xs))], objs := [.vars 32 [.int .i64 o.1, .int .i64 o.2.1, .int .u64 o.2.2.1.epoch, .lst 2 (List.map encS o.2.2.1.segs), .int .i64 o.2.2.1.seq, .int .u64 o.2.2.2.1, .int .i64 o.2.2.2.2.kind, .lst 1 (List.map byteA o.2.2.2.2.data), .lst 3 (List.map encB o.2.2.2.2.backs)], .vars 86 (celS (ticksS s j) ++ [.row 2 22 (List.length (ticksS s j).out)]), .row 50 22 (ticksS s j).out, .vars 88 (celR (ticksS s j) at_ ++ [.row 4 22 (List.length (ticksS s j).out)]), .row 50 22 (ticksS s j).out] },
 ACalls Tryz.prog 21 [.ptr 0 0] [.vars 86 (celS (ticksS s j) ++ [.row 1 22 (List.length (ticksS s j).out)]), .row 50 22 (ticksS s j).out] (.tup [.agg [.int .i64 (CellD.kind (toldC (ticksS s j))), .lst 1 (List.map byteA (CellD.data (toldC (ticksS s j)))), .lst 3 (List.map encB (CellD.backs (toldC (ticksS s j))))], .int .i64 (toldE (ticksS s j)), .bool (ticksS s j).over]) [.vars 86 (celS (ticksS s j) ++ [.row 1 22 (List.length (ticksS s j).out)]), .row 50 22 (ticksS s j).out],
 ACalls Tryz.prog 22 [.ptr 0 0] [.vars 88 (celR (ticksS s j) at_ ++ [.row 1 22 (List.length (ticksS s j).out)]), .row 50 22 (ticksS s j).out] (.tup [.agg [.int .i64 (CellD.kind (toldC (ticksS s j))), .lst 1 (List.map byteA (CellD.data (toldC (ticksS s j)))), .lst 3 (List.map encB (CellD.backs (toldC (ticksS s j))))], .int .i64 (toldE (ticksS s j)), .bool (ticksS s j).over]) [.vars 88 (celR (ticksS s j) at_ ++ [.row 1 22 (List.length (ticksS s j).out)]), .row 50 22 (ticksS s j).out],
 ACalls Tryz.prog 23 [.agg [.int .i64 (CellD.kind (toldC (ticksS s j))), .lst 1 (List.map byteA (CellD.data (toldC (ticksS s j)))), .lst 3 (List.map encB (CellD.backs (toldC (ticksS s j))))], .agg [.int .i64 (CellD.kind (toldC (ticksS s j))), .lst 1 (List.map byteA (CellD.data (toldC (ticksS s j)))), .lst 3 (List.map encB (CellD.backs (toldC (ticksS s j))))]] [] (.bool true) [],
 (toldE (ticksS s j) != toldE (ticksS s j)) = false,
 (!(ticksS s j).over == (ticksS s j).over) = false,
 IntKind.i64.wrap ((↑k : Int) + (1 : Int)) = (↑(k + (1 : Nat)) : Int),
 ALoop Tryz.prog 0 178 (loopB Tryz.f3 0) { env := [(10, .int .i64 (↑(k + 1) : Int)), (8, .ptr 3 0), (6, .ptr 1 0), (2, .ptr 0 0), (1, .lst 25 (List.map encAct xs))], objs := [.vars 32 [.int .i64 o.1, .int .i64 o.2.1, .int .u64 o.2.2.1.epoch, .lst 2 (List.map encS o.2.2.1.segs), .int .i64 o.2.2.1.seq, .int .u64 o.2.2.2.1, .int .i64 o.2.2.2.2.kind, .lst 1 (List.map byteA o.2.2.2.2.data), .lst 3 (List.map encB o.2.2.2.2.backs)], .vars 86 (celS (ticksS s j) ++ [.row 2 22 (List.length (ticksS s j).out)]), .row 50 22 (ticksS s j).out, .vars 88 (celR (ticksS s j) at_ ++ [.row 4 22 (List.length (ticksS s j).out)]), .row 50 22 (ticksS s j).out] } (Ex.exit 0) { env := [(8, .ptr 2 0), (6, .ptr 0 0)], objs := [.vars 86 (celS s3 ++ [.row 1 22 (List.length s3.out)]), .row 50 22 s3.out, .vars 88 (celR s3 a3 ++ [.row 3 22 (List.length s3.out)]), .row 50 22 s3.out] }]) (by kernel_rfl) (by first | exact rfl | exact ⟨rfl, rfl⟩ | (simp [lawO, celS, celR, setO, refO, ofL, endO, hkd, encAct, hx, hw]; done) | (first | exact hk3 | exact hw | exact hm1 | exact hm2 | omega)) ⟨?z0, ?z1, ?z2, ?z3, ?z4, ?z5, ?q185_1, ?z6, ?z7, ?z8, ?z9, ?z10, ?q185_2, ?q185_3, ?q185_4, ?q185_5, ?z11, ?z12, ?z13, ?q185_6, trivial⟩
  case z0|z1|z2|z3|z4|z5|z6|z7|z8|z9|z10|z11|z12|z13 => first | exact rfl | (simp [lawO, celS, celR, setO, refO, ofL, endO, hkd, encAct, hx, hw] <;> omega) | omega | (first | exact hk3 | exact hw | exact hm1 | exact hm2 | omega)
  · exact h1
  · exact qa
  · exact q7
  · exact q8
  · exact q9
  · exact ih
theorem round_4 (o : OfQ) (xs : List ActD) (k : Nat) (x : ActD) (s : SetD) (at_ : Int) (B : Nat) (h : Inv s B) (ha : At s at_) (hB : B + 9 ≤ 900) (hm : x.m.ok) (hl : ∀ s ∈ x.m.lay.segs, s.chains.length ≤ 1000000000) (hx : xs[k]? = some x) (hk : k < 60) (h1 : ACalls Tryz.prog 10 [encM x.m] [] (.bool true) []) (hkd : x.kind = 4) (s3 : SetD) (a3 : Int)
    (ih : ALoop Tryz.prog 0 Tryz.f3.ntmps (loopB Tryz.f3 0) ⟨[(10, .int .i64 (k + 1 : Nat)), (8, .ptr 3 0), (6, .ptr 1 0), (2, .ptr 0 0), (1, .lst 25 (xs.map encAct))], lawO o (emptied s) (at_)⟩ (.exit 0) ⟨[(8, .ptr 2 0), (6, .ptr 0 0)], endO s3 a3⟩) :
    ALoop Tryz.prog 0 Tryz.f3.ntmps (loopB Tryz.f3 0) ⟨[(10, .int .i64 k), (8, .ptr 3 0), (6, .ptr 1 0), (2, .ptr 0 0), (1, .lst 25 (xs.map encAct))], lawO o s at_⟩ (.exit 0) ⟨[(8, .ptr 2 0), (6, .ptr 0 0)], endO s3 a3⟩ := by
  have hk2 : k < xs.length := (List.getElem?_eq_some_iff.1 hx).1
  have hk3 : (xs.map encAct)[k]? = some (encAct x) := by rw [List.getElem?_map, hx]; rfl
  have hw : IntKind.i64.wrap ((k : Int) + 1) = ((k + 1 : Nat) : Int) := wrap64 (by omega)
  have hi := h.emptied
  have ho := h.out
  have qa := out_ac s
  have qb := rOut s at_
  have qc := all_ac s.out h.wrs (by omega)
  have q7 := overE (emptied s) hi.ok
  have q8 := rTold (emptied s) (at_)
  have q9 := same7_ac (toldC (emptied s)) (toldC (emptied s)) (toldC_ok hi.ok) (toldC_ok hi.ok)
  rw [sameC_refl] at q9
  refine aloopK mixed [0, 1, 2, 4, 5, 6, 7, 8, 9, 10, 11, 12, 13, 14, 15, 16, 17, 18, 19, 20, 21, 22, 26, 62, 80, 91, 93, 94, 101, 114, 121, 132, 169] 1000 ([.go, .n xs.length, .t, .t, .ix k, .el (encAct x), .call [] false true (.bool true) [], .f, .f, .f, .t, .call [1, 2] false false (.row 2 22 s.out.length) (setO (emptied s) ++ [.row 50 22 s.out]), .call [3, 4] false false (.row 2 22 s.out.length) (refO (emptied s) at_ ++ [.row 50 22 s.out]), .call [] false true (.bool true) [], .call [1, 7] false false (.tup [encC (toldC (emptied s)), .int .i64 (toldE (emptied s)), .bool (emptied s).over]) (setO (emptied s)), .call [3, 10] false false (.tup [encC (toldC (emptied s)), .int .i64 (toldE (emptied s)), .bool (emptied s).over]) (refO (emptied s) (at_)), .call [] false true (.bool true) [], .f, .f, .n ((k + 1 : Nat) : Int), .lp [10, 8, 6, 2, 1] [0, 1, 13, 3, 16] (.exit 0) ⟨[(8, .ptr 2 0), (6, .ptr 0 0)], endO s3 a3⟩]) [8, 6] [0, 1, 2, 3] (S1 := { env := [(8, .ptr 2 0), (6, .ptr 0 0)], objs := [.vars 86 (celS s3 ++ [.row 1 22 (List.length s3.out)]), .row 50 22 s3.out, .vars 88 (celR s3 a3 ++ [.row 3 22 (List.length s3.out)]), .row 50 22 s3.out] }) (ob := [((List.map encAct xs).length : Int) = (xs.length : Int),
 decide ((↑k : Int) < (xs.length : Int)) = true,
 decide ((↑k : Int) < (60 : Int)) = true,
 k < List.length (List.map encAct xs),
 (↑k : Int) = (↑k : Int),
 (List.map encAct xs)[k]? = some (.agg [.int .i64 x.kind, .int .i64 x.n, .int .i64 x.m.kind, .int .i64 x.m.fr, .int .i64 x.m.fn, .int .i64 x.m.tr, .int .i64 x.m.tn, .int .i64 x.m.id, .int .i64 x.m.of_, .int .u64 x.m.epoch, .int .u64 x.m.addr, .int .i64 x.m.err, .int .i64 x.m.cell.kind, .lst (nat_lit 1) (List.map byteA x.m.cell.data), .lst (nat_lit 3) (List.map encB x.m.cell.backs), .lst (nat_lit 1) (List.map intA x.m.streams), .lst (nat_lit 3) (List.map encB x.m.backs), .int .i64 x.m.br, .int .i64 x.m.bc, .int .i64 x.m.pr, .int .i64 x.m.pc, .int .u64 x.m.lay.epoch, .lst (nat_lit 2) (List.map encS x.m.lay.segs), .int .i64 x.m.lay.seq, .bool x.own]),
 ACalls Tryz.prog 10 [(encM x.m)] [] (.bool true) [],
 (x.kind == (1 : Int)) = false,
 (x.kind == (2 : Int)) = false,
 (x.kind == (3 : Int)) = false,
 (x.kind == (4 : Int)) = true,
 ACalls Tryz.prog 19 [.ptr 0 0] [.vars 86 (celS s ++ [.row 1 22 (List.length s.out)]), .row 50 22 s.out] (.row 2 22 (List.length s.out)) [.vars 86 (celS (emptied s) ++ [.row 1 22 0]), .row 50 22 [], .row 50 22 s.out],
 ACalls Tryz.prog 20 [.ptr 0 0] [.vars 88 (celR s at_ ++ [.row 1 22 (List.length s.out)]), .row 50 22 s.out] (.row 2 22 (List.length s.out)) [.vars 88 (celR (emptied s) at_ ++ [.row 1 22 0]), .row 50 22 [], .row 50 22 s.out],
 ACalls Tryz.prog 18 [.lst 22 s.out, .lst 22 s.out] [] (.bool true) [],
 ACalls Tryz.prog 21 [.ptr 0 0] [.vars 86 (celS (emptied s) ++ [.row 1 22 0]), .row 50 22 []] (.tup [.agg [.int .i64 (CellD.kind (toldC (emptied s))), .lst 1 (List.map byteA (CellD.data (toldC (emptied s)))), .lst 3 (List.map encB (CellD.backs (toldC (emptied s))))], .int .i64 (toldE (emptied s)), .bool (emptied s).over]) [.vars 86 (celS (emptied s) ++ [.row 1 22 0]), .row 50 22 []],
 ACalls Tryz.prog 22 [.ptr 0 0] [.vars 88 (celR (emptied s) at_ ++ [.row 1 22 0]), .row 50 22 []] (.tup [.agg [.int .i64 (CellD.kind (toldC (emptied s))), .lst 1 (List.map byteA (CellD.data (toldC (emptied s)))), .lst 3 (List.map encB (CellD.backs (toldC (emptied s))))], .int .i64 (toldE (emptied s)), .bool (emptied s).over]) [.vars 88 (celR (emptied s) at_ ++ [.row 1 22 0]), .row 50 22 []],
 ACalls Tryz.prog 23 [.agg [.int .i64 (CellD.kind (toldC (emptied s))), .lst 1 (List.map byteA (CellD.data (toldC (emptied s)))), .lst 3 (List.map encB (CellD.backs (toldC (emptied s))))], .agg [.int .i64 (CellD.kind (toldC (emptied s))), .lst 1 (List.map byteA (CellD.data (toldC (emptied s)))), .lst 3 (List.map encB (CellD.backs (toldC (emptied s))))]] [] (.bool true) [],
 (toldE (emptied s) != toldE (emptied s)) = false,
 (!(emptied s).over == (emptied s).over) = false,
 IntKind.i64.wrap ((↑k : Int) + (1 : Int)) = (↑(k + (1 : Nat)) : Int),
 ALoop Tryz.prog 0 178 (loopB Tryz.f3 0) { env := [(10, .int .i64 (↑(k + 1) : Int)), (8, .ptr 3 0), (6, .ptr 1 0), (2, .ptr 0 0), (1, .lst 25 (List.map encAct xs))], objs := [.vars 32 [.int .i64 o.1, .int .i64 o.2.1, .int .u64 o.2.2.1.epoch, .lst 2 (List.map encS o.2.2.1.segs), .int .i64 o.2.2.1.seq, .int .u64 o.2.2.2.1, .int .i64 o.2.2.2.2.kind, .lst 1 (List.map byteA o.2.2.2.2.data), .lst 3 (List.map encB o.2.2.2.2.backs)], .vars 86 (celS (emptied s) ++ [.row 2 22 0]), .row 50 22 [], .vars 88 (celR (emptied s) at_ ++ [.row 4 22 0]), .row 50 22 []] } (Ex.exit 0) { env := [(8, .ptr 2 0), (6, .ptr 0 0)], objs := [.vars 86 (celS s3 ++ [.row 1 22 (List.length s3.out)]), .row 50 22 s3.out, .vars 88 (celR s3 a3 ++ [.row 3 22 (List.length s3.out)]), .row 50 22 s3.out] }]) (by kernel_rfl) (by first | exact rfl | exact ⟨rfl, rfl⟩ | (simp [lawO, celS, celR, setO, refO, ofL, endO, hkd, encAct, hx, hw]; done) | (first | exact hk3 | exact hw | exact hm1 | exact hm2 | omega)) ⟨?z0, ?z1, ?z2, ?z3, ?z4, ?z5, ?q207_1, ?z6, ?z7, ?z8, ?z9, ?q207_2, ?q207_3, ?q207_4, ?q207_5, ?q207_6, ?q207_7, ?z10, ?z11, ?z12, ?q207_8, trivial⟩
  case z0|z1|z2|z3|z4|z5|z6|z7|z8|z9|z10|z11|z12 => first | exact rfl | (simp [lawO, celS, celR, setO, refO, ofL, endO, hkd, encAct, hx, hw] <;> omega) | omega | (first | exact hk3 | exact hw | exact hm1 | exact hm2 | omega)
  · exact h1
  · exact qa
  · exact qb
  · exact qc
  · exact q7
  · exact q8
  · exact q9
  · exact ih
theorem round_n (o : OfQ) (xs : List ActD) (k : Nat) (x : ActD) (s : SetD) (at_ : Int) (hx : xs[k]? = some x) (hk : k < 60) (h1 : ACalls Tryz.prog 10 [encM x.m] [] (.bool false) []) (s3 : SetD) (a3 : Int)
    (ih : ALoop Tryz.prog 0 Tryz.f3.ntmps (loopB Tryz.f3 0) ⟨[(10, .int .i64 (k + 1 : Nat)), (8, .ptr 3 0), (6, .ptr 1 0), (2, .ptr 0 0), (1, .lst 25 (xs.map encAct))], lawO o s at_⟩ (.exit 0) ⟨[(8, .ptr 2 0), (6, .ptr 0 0)], endO s3 a3⟩) :
    ALoop Tryz.prog 0 Tryz.f3.ntmps (loopB Tryz.f3 0) ⟨[(10, .int .i64 k), (8, .ptr 3 0), (6, .ptr 1 0), (2, .ptr 0 0), (1, .lst 25 (xs.map encAct))], lawO o s at_⟩ (.exit 0) ⟨[(8, .ptr 2 0), (6, .ptr 0 0)], endO s3 a3⟩ := by
  have hk2 : k < xs.length := (List.getElem?_eq_some_iff.1 hx).1
  have hk3 : (xs.map encAct)[k]? = some (encAct x) := by rw [List.getElem?_map, hx]; rfl
  have hw : IntKind.i64.wrap ((k : Int) + 1) = ((k + 1 : Nat) : Int) := wrap64 (by omega)
  refine aloopK mixed [0, 1, 2, 4, 5, 6, 7, 8, 9, 10, 11, 12, 13, 14, 15, 16, 17, 18, 19, 20, 21, 22, 26, 62, 80, 91, 93, 94, 101, 114, 121, 132, 169] 1000 ([.go, .n xs.length, .t, .t, .ix k, .el (encAct x), .call [] false true (.bool false) [], .n ((k + 1 : Nat) : Int), .lp [10, 8, 6, 2, 1] [0, 1, 2, 3, 4] (.exit 0) ⟨[(8, .ptr 2 0), (6, .ptr 0 0)], endO s3 a3⟩]) [8, 6] [0, 1, 2, 3] (S1 := { env := [(8, .ptr 2 0), (6, .ptr 0 0)], objs := [.vars 86 (celS s3 ++ [.row 1 22 (List.length s3.out)]), .row 50 22 s3.out, .vars 88 (celR s3 a3 ++ [.row 3 22 (List.length s3.out)]), .row 50 22 s3.out] }) (ob := [((List.map encAct xs).length : Int) = (xs.length : Int),
 decide ((↑k : Int) < (xs.length : Int)) = true,
 decide ((↑k : Int) < (60 : Int)) = true,
 k < List.length (List.map encAct xs),
 (↑k : Int) = (↑k : Int),
 (List.map encAct xs)[k]? = some (.agg [.int .i64 x.kind, .int .i64 x.n, .int .i64 x.m.kind, .int .i64 x.m.fr, .int .i64 x.m.fn, .int .i64 x.m.tr, .int .i64 x.m.tn, .int .i64 x.m.id, .int .i64 x.m.of_, .int .u64 x.m.epoch, .int .u64 x.m.addr, .int .i64 x.m.err, .int .i64 x.m.cell.kind, .lst (nat_lit 1) (List.map byteA x.m.cell.data), .lst (nat_lit 3) (List.map encB x.m.cell.backs), .lst (nat_lit 1) (List.map intA x.m.streams), .lst (nat_lit 3) (List.map encB x.m.backs), .int .i64 x.m.br, .int .i64 x.m.bc, .int .i64 x.m.pr, .int .i64 x.m.pc, .int .u64 x.m.lay.epoch, .lst (nat_lit 2) (List.map encS x.m.lay.segs), .int .i64 x.m.lay.seq, .bool x.own]),
 ACalls Tryz.prog 10 [(encM x.m)] [] (.bool false) [],
 IntKind.i64.wrap ((↑k : Int) + (1 : Int)) = (↑(k + (1 : Nat)) : Int),
 ALoop Tryz.prog 0 178 (loopB Tryz.f3 0) { env := [(10, .int .i64 (↑(k + 1) : Int)), (8, .ptr 3 0), (6, .ptr 1 0), (2, .ptr 0 0), (1, .lst 25 (List.map encAct xs))], objs := [.vars 32 [.int .i64 o.1, .int .i64 o.2.1, .int .u64 o.2.2.1.epoch, .lst 2 (List.map encS o.2.2.1.segs), .int .i64 o.2.2.1.seq, .int .u64 o.2.2.2.1, .int .i64 o.2.2.2.2.kind, .lst 1 (List.map byteA o.2.2.2.2.data), .lst 3 (List.map encB o.2.2.2.2.backs)], .vars 86 (celS s ++ [.row 2 22 (List.length s.out)]), .row 50 22 s.out, .vars 88 (celR s at_ ++ [.row 4 22 (List.length s.out)]), .row 50 22 s.out] } (Ex.exit 0) { env := [(8, .ptr 2 0), (6, .ptr 0 0)], objs := [.vars 86 (celS s3 ++ [.row 1 22 (List.length s3.out)]), .row 50 22 s3.out, .vars 88 (celR s3 a3 ++ [.row 3 22 (List.length s3.out)]), .row 50 22 s3.out] }]) (by kernel_rfl) (by first | exact rfl | exact ⟨rfl, rfl⟩ | (simp [lawO, celS, celR, setO, refO, ofL, endO, encAct, hx, hw]; done) | (first | exact hk3 | exact hw | omega)) ⟨?z0, ?z1, ?z2, ?z3, ?z4, ?z5, ?q222_1, ?z6, ?q222_2, trivial⟩
  case z0|z1|z2|z3|z4|z5|z6 => first | exact rfl | (simp [lawO, celS, celR, setO, refO, ofL, endO, encAct, hx, hw] <;> omega) | omega | (first | exact hk3 | exact hw | omega)
  · exact h1
  · exact ih
theorem round_end (o : OfQ) (xs : List ActD) (k : Nat) (s : SetD) (at_ : Int) (h : xs.length ≤ k ∨ 60 ≤ k) : ALoop Tryz.prog 0 Tryz.f3.ntmps (loopB Tryz.f3 0) ⟨[(10, .int .i64 k), (8, .ptr 3 0), (6, .ptr 1 0), (2, .ptr 0 0), (1, .lst 25 (xs.map encAct))], lawO o s at_⟩ (.exit 0) ⟨[(8, .ptr 2 0), (6, .ptr 0 0)], endO s at_⟩ := by
  by_cases h1 : xs.length ≤ k
  · refine aloopK mixed [0, 1, 2, 4, 5, 6, 7, 8, 9, 10, 11, 12, 13, 14, 15, 16, 17, 18, 19, 20, 21, 22, 26, 62, 80, 91, 93, 94, 101, 114, 121, 132, 169] 1000 ([.go, .n xs.length, .f]) [8, 6] [1, 2, 3, 4] (S1 := { env := [(8, .ptr 2 0), (6, .ptr 0 0)], objs := [.vars 86 (celS s ++ [.row 1 22 (List.length s.out)]), .row 50 22 s.out, .vars 88 (celR s at_ ++ [.row 3 22 (List.length s.out)]), .row 50 22 s.out] }) (ob := [((List.map encAct xs).length : Int) = (xs.length : Int),
 decide ((↑k : Int) < (xs.length : Int)) = false]) (by kernel_rfl) (by first | exact rfl | exact ⟨rfl, rfl⟩ | (simp [lawO, celS, celR, setO, refO, ofL, endO]; done)) ⟨?z0, ?z1, trivial⟩
    case z0|z1 => first | exact rfl | (simp [lawO, celS, celR, setO, refO, ofL, endO] <;> omega) | omega
  · have h2 : 60 ≤ k := by omega
    refine aloopK mixed [0, 1, 2, 4, 5, 6, 7, 8, 9, 10, 11, 12, 13, 14, 15, 16, 17, 18, 19, 20, 21, 22, 26, 62, 80, 91, 93, 94, 101, 114, 121, 132, 169] 1000 ([.go, .n xs.length, .t, .f]) [8, 6] [1, 2, 3, 4] (S1 := { env := [(8, .ptr 2 0), (6, .ptr 0 0)], objs := [.vars 86 (celS s ++ [.row 1 22 (List.length s.out)]), .row 50 22 s.out, .vars 88 (celR s at_ ++ [.row 3 22 (List.length s.out)]), .row 50 22 s.out] }) (ob := [((List.map encAct xs).length : Int) = (xs.length : Int),
 decide ((↑k : Int) < (xs.length : Int)) = true,
 decide ((↑k : Int) < (60 : Int)) = false]) (by kernel_rfl) (by first | exact rfl | exact ⟨rfl, rfl⟩ | (simp [lawO, celS, celR, setO, refO, ofL, endO]; done)) ⟨?z2, ?z3, ?z4, trivial⟩
    case z2|z3|z4 => first | exact rfl | (simp [lawO, celS, celR, setO, refO, ofL, endO] <;> omega) | omega
end Go.Proofs.YtidgcfgkcidkiaaGreat.Ch
namespace Go.Proofs.YtidgcfgkcidkiaaGreat.Ch
open Go Go.RowKit Go.Proofs.YtidgcfgkcidkiaaGreat.L Go.Proofs.YtidgcfgkcidkiaaGreat.X
set_option linter.unusedVariables false
set_option linter.unusedSimpArgs false
theorem plays_loop (o : OfQ) (xs : List ActD) (hxs : ∀ x ∈ xs, x.m.ok ∧ ∀ s ∈ x.m.lay.segs, s.chains.length ≤ 1000000000) : ∀ (n k : Nat) (s : SetD) (at_ : Int), xs.length = k + n → k ≤ 60 → Inv s (10 * k) → At s at_ →
    ∃ s3 a3, Inv s3 610 ∧ ALoop Tryz.prog 0 Tryz.f3.ntmps (loopB Tryz.f3 0) ⟨[(10, .int .i64 k), (8, .ptr 3 0), (6, .ptr 1 0), (2, .ptr 0 0), (1, .lst 25 (xs.map encAct))], lawO o s at_⟩ (.exit 0) ⟨[(8, .ptr 2 0), (6, .ptr 0 0)], endO s3 a3⟩
  | 0, k, s, at_, hn, hk, h, ha => ⟨s, at_, h.mono (by omega), round_end o xs k s at_ (.inl (by omega))⟩
  | n + 1, k, s, at_, hn, hk, h, ha => by
    by_cases hk60 : 60 ≤ k
    · exact ⟨s, at_, h.mono (by omega), round_end o xs k s at_ (.inr hk60)⟩
    · obtain ⟨x, hx⟩ := get_of (l := xs) (k := k) (by omega)
      obtain ⟨hm, hl⟩ := hxs x (List.mem_of_getElem? hx)
      obtain ⟨b, h1⟩ := fits10_ac x.m
      cases b with
      | false =>
        obtain ⟨s3, a3, i3, ih⟩ := plays_loop o xs hxs n (k + 1) s at_ (by omega) (by omega) (h.mono (by omega)) ha
        exact ⟨s3, a3, i3, round_n o xs k x s at_ hx (by omega) h1 s3 a3 ih⟩
      | true =>
        by_cases c1 : x.kind = 1
        · cases hs : s.started with
          | true =>
            obtain ⟨s3, a3, i3, ih⟩ := plays_loop o xs hxs n (k + 1) s at_ (by omega) (by omega) (h.mono (by omega)) ha
            exact ⟨s3, a3, i3, round_1a o xs k x s at_ (10 * k) h ha (by omega) hm hl hx (by omega) h1 c1 hs s3 a3 ih⟩
          | false =>
            obtain ⟨s3, a3, i3, ih⟩ := plays_loop o xs hxs n (k + 1) (startS s (unitAt s)) 0 (by omega) (by omega) ((h.start (by omega) hs (unitAt s)).mono (by omega)) (At.start h hs _)
            exact ⟨s3, a3, i3, round_1b o xs k x s at_ (10 * k) h ha (by omega) hm hl hx (by omega) h1 c1 hs s3 a3 ih⟩
        · by_cases c2 : x.kind = 2
          · have hmo : (msgOf o x s at_).ok := msgOf_ok hm
            have hi : Inv (if hearB s (msgOf o x s at_) (unitAt s) = true then stepS s (msgOf o x s at_) else s) (10 * k + 1) := by
              split
              · rename_i hh
                have H := hearB_yes hh
                exact (h.step (by omega) H.st H.ov hmo).1
              · exact h.mono (by omega)
            obtain ⟨s3, a3, i3, ih⟩ := plays_loop o xs hxs n (k + 1) _ _ (by omega) (by omega) (hi.mono (by omega)) (At.hear ha h (by omega) hmo (v := unitAt s))
            exact ⟨s3, a3, i3, round_2 o xs k x s at_ (10 * k) h ha (by omega) hm hl hx (by omega) h1 c2 s3 a3 ih⟩
          · by_cases c3 : x.kind = 3
            · obtain ⟨j, hj⟩ : ∃ j : Nat, (j : Int) = min (max x.n 0) 9 := ⟨(min (max x.n 0) 9).toNat, by omega⟩
              obtain ⟨hi, hat⟩ := ticks_inv j h ha (by omega)
              obtain ⟨s3, a3, i3, ih⟩ := plays_loop o xs hxs n (k + 1) (ticksS s j) at_ (by omega) (by omega) (hi.mono (by omega)) hat
              exact ⟨s3, a3, i3, round_3 o xs k x s at_ (10 * k) h ha (by omega) hm hl hx (by omega) h1 c3 j hj s3 a3 ih⟩
            · by_cases c4 : x.kind = 4
              · obtain ⟨s3, a3, i3, ih⟩ := plays_loop o xs hxs n (k + 1) (emptied s) at_ (by omega) (by omega) (h.emptied.mono (by omega)) ⟨ha.no, ha.yes, ha.eq⟩
                exact ⟨s3, a3, i3, round_4 o xs k x s at_ (10 * k) h ha (by omega) hm hl hx (by omega) h1 c4 s3 a3 ih⟩
              · obtain ⟨s3, a3, i3, ih⟩ := plays_loop o xs hxs n (k + 1) s at_ (by omega) (by omega) (h.mono (by omega)) ha
                exact ⟨s3, a3, i3, round_0 o xs k x s at_ (10 * k) h ha (by omega) hm hl hx (by omega) h1 ⟨c1, c2, c3, c4⟩ s3 a3 ih⟩
theorem plays_1 (o : OfQ) (xs : List ActD) (h1 : ACalls Tryz.prog 6 [.agg (ofL o)] [] (.bool false) []) : ACalls Tryz.prog 3 [.agg (ofL o), .lst 25 (xs.map encAct)] [] (.bool true) [] := by
  refine acallsK mixed Tryz.func3 rfl [0, 1, 2, 4, 5, 6, 7, 8, 9, 10, 11, 12, 13, 14, 15, 16, 17, 18, 19, 20, 21, 22, 26, 62, 80, 91, 93, 94, 101, 114, 121, 132, 169] 1000 ([.call [] false true (.bool false) [], .call [] false true (.bool true) []]) [] [] (v1 := .bool true) (objs1 := []) (ob := [ACalls Tryz.prog 6 [.agg [.int .i64 o.1, .int .i64 o.2.1, .int .u64 o.2.2.1.epoch, .lst 2 (List.map encS o.2.2.1.segs), .int .i64 o.2.2.1.seq, .int .u64 o.2.2.2.1, .int .i64 o.2.2.2.2.kind, .lst 1 (List.map byteA o.2.2.2.2.data), .lst 3 (List.map encB o.2.2.2.2.backs)]] [] (.bool false) [],
 ACalls Tryz.prog 7 [] [] (.bool true) []]) (by kernel_rfl) (by first | exact rfl | exact ⟨rfl, rfl⟩ | (simp [ofL]; done)) ⟨?q50_1, ?q50_2, trivial⟩
  · exact h1
  · exact alive_ac
theorem plays_2 (o : OfQ) (xs : List ActD) (h1 : ACalls Tryz.prog 6 [.agg (ofL o)] [] (.bool true) [])
    (h2 : ACalls Tryz.prog 8 [.int .i64 o.1, .int .i64 o.2.1, encL o.2.2.1, .int .u64 o.2.2.2.1, encC o.2.2.2.2] [] (.tup [.nilp, .int .i64 1]) [])
    (h3 : ACalls Tryz.prog 9 [.int .i64 o.1, .int .i64 o.2.1, encL o.2.2.1, .int .u64 o.2.2.2.1, encC o.2.2.2.2] [] (.tup [.nilp, .int .i64 1]) []) : ACalls Tryz.prog 3 [.agg (ofL o), .lst 25 (xs.map encAct)] [] (.bool true) [] := by
  refine acallsK mixed Tryz.func3 rfl [0, 1, 2, 4, 5, 6, 7, 8, 9, 10, 11, 12, 13, 14, 15, 16, 17, 18, 19, 20, 21, 22, 26, 62, 80, 91, 93, 94, 101, 114, 121, 132, 169] 1000 ([.call [] false true (.bool true) [], .call [] false true (.tup [.nilp, .int .i64 1]) [], .call [] false true (.tup [.nilp, .int .i64 1]) [], .f, .t, .call [] false true (.bool true) [], .t]) [] [] (v1 := .bool true) (objs1 := []) (ob := [ACalls Tryz.prog 6 [.agg [.int .i64 o.1, .int .i64 o.2.1, .int .u64 o.2.2.1.epoch, .lst 2 (List.map encS o.2.2.1.segs), .int .i64 o.2.2.1.seq, .int .u64 o.2.2.2.1, .int .i64 o.2.2.2.2.kind, .lst 1 (List.map byteA o.2.2.2.2.data), .lst 3 (List.map encB o.2.2.2.2.backs)]] [] (.bool true) [],
 ACalls Tryz.prog 8 [.int .i64 o.1, .int .i64 o.2.1, (encL o.2.2.1), .int .u64 o.2.2.2.1, (encC o.2.2.2.2)] [] (.tup [.nilp, .int .i64 1]) [],
 ACalls Tryz.prog 9 [.int .i64 o.1, .int .i64 o.2.1, (encL o.2.2.1), .int .u64 o.2.2.2.1, (encC o.2.2.2.2)] [] (.tup [.nilp, .int .i64 1]) [],
 ((1 : Int) != (1 : Int)) = false,
 ((1 : Int) != (0 : Int)) = true,
 ACalls Tryz.prog 7 [] [] (.bool true) [],
 ((1 : Int) == (1 : Int)) = true]) (by kernel_rfl) (by first | exact rfl | exact ⟨rfl, rfl⟩ | (simp [ofL]; done)) ⟨?q56_1, ?q56_2, ?q56_3, ?z0, ?z1, ?q56_4, ?z2, trivial⟩
  case z0|z1|z2 => first | exact rfl | (simp [ofL] <;> omega) | omega
  · exact h1
  · exact h2
  · exact h3
  · exact alive_ac
theorem plays_3 (o : OfQ) (xs : List ActD) (u : List Int) (h1 : ACalls Tryz.prog 6 [.agg (ofL o)] [] (.bool true) [])
    (h2 : ACalls Tryz.prog 8 [.int .i64 o.1, .int .i64 o.2.1, encL o.2.2.1, .int .u64 o.2.2.2.1, encC o.2.2.2.2] [] (.tup [.ptr 0 0, .int .i64 0]) (setO (fresh o.1 o.2.1 o.2.2.1 o.2.2.2.1 o.2.2.2.2 u)))
    (h3 : ACalls Tryz.prog 9 [.int .i64 o.1, .int .i64 o.2.1, encL o.2.2.1, .int .u64 o.2.2.2.1, encC o.2.2.2.2] [] (.tup [.ptr 0 0, .int .i64 0]) (refO (fresh o.1 o.2.1 o.2.2.1 o.2.2.2.1 o.2.2.2.2 u) (-1)))
    (s3 : SetD) (a3 : Int) (i3 : Inv s3 610) (hlp : ALoop Tryz.prog 0 Tryz.f3.ntmps (loopB Tryz.f3 0) ⟨[(10, .int .i64 (0 : Nat)), (8, .ptr 3 0), (6, .ptr 1 0), (2, .ptr 0 0), (1, .lst 25 (xs.map encAct))], lawO o (fresh o.1 o.2.1 o.2.2.1 o.2.2.2.1 o.2.2.2.2 u) (-1)⟩ (.exit 0) ⟨[(8, .ptr 2 0), (6, .ptr 0 0)], endO s3 a3⟩) :
    ACalls Tryz.prog 3 [.agg (ofL o), .lst 25 (xs.map encAct)] [] (.bool true) [] := by
  have q1 := out_ac s3
  have q2 := rOut s3 a3
  have ho := i3.out
  have q3 := all_ac s3.out i3.wrs (by omega)
  refine acallsK mixed Tryz.func3 rfl [0, 1, 2, 4, 5, 6, 7, 8, 9, 10, 11, 12, 13, 14, 15, 16, 17, 18, 19, 20, 21, 22, 26, 62, 80, 91, 93, 94, 101, 114, 121, 132, 169] 1000 ([.call [] false true (.bool true) [], .call [] false false (.tup [.ptr 0 0, .int .i64 0]) (setO (fresh o.1 o.2.1 o.2.2.1 o.2.2.2.1 o.2.2.2.2 u)), .call [] false false (.tup [.ptr 0 0, .int .i64 0]) (refO (fresh o.1 o.2.1 o.2.2.1 o.2.2.2.1 o.2.2.2.2 u) (-1)), .f, .f, .lp [10, 8, 6, 2, 1] [0, 1, 2, 3, 4] (.exit 0) ⟨[(8, .ptr 2 0), (6, .ptr 0 0)], endO s3 a3⟩, .call [] false true (.bool true) [], .call [0, 1] false false (.row 2 22 s3.out.length) (setO (emptied s3) ++ [.row 50 22 s3.out]), .call [2, 3] false false (.row 2 22 s3.out.length) (refO (emptied s3) a3 ++ [.row 50 22 s3.out]), .call [] false true (.bool true) []]) [] [] (v1 := .bool true) (objs1 := []) (ob := [ACalls Tryz.prog 6 [.agg [.int .i64 o.1, .int .i64 o.2.1, .int .u64 o.2.2.1.epoch, .lst 2 (List.map encS o.2.2.1.segs), .int .i64 o.2.2.1.seq, .int .u64 o.2.2.2.1, .int .i64 o.2.2.2.2.kind, .lst 1 (List.map byteA o.2.2.2.2.data), .lst 3 (List.map encB o.2.2.2.2.backs)]] [] (.bool true) [],
 ACalls Tryz.prog 8 [.int .i64 o.1, .int .i64 o.2.1, (encL o.2.2.1), .int .u64 o.2.2.2.1, (encC o.2.2.2.2)] [] (.tup [.ptr 0 0, .int .i64 0]) [.vars 86 (celS (fresh o.1 o.2.1 o.2.2.1 o.2.2.2.1 o.2.2.2.2 u) ++ [.row 1 22 0]), .row 50 22 []],
 ACalls Tryz.prog 9 [.int .i64 o.1, .int .i64 o.2.1, (encL o.2.2.1), .int .u64 o.2.2.2.1, (encC o.2.2.2.2)] [] (.tup [.ptr 0 0, .int .i64 0]) [.vars 88 (celR (fresh o.1 o.2.1 o.2.2.1 o.2.2.2.1 o.2.2.2.2 u) (-1) ++ [.row 1 22 0]), .row 50 22 []],
 ((0 : Int) != (0 : Int)) = false,
 ((0 : Int) != (0 : Int)) = false,
 ALoop Tryz.prog 0 178 (loopB Tryz.f3 0) { env := [(10, .int .i64 0), (8, .ptr 3 0), (6, .ptr 1 0), (2, .ptr 0 0), (1, .lst 25 (List.map encAct xs))], objs := [.vars 32 [.int .i64 o.1, .int .i64 o.2.1, .int .u64 o.2.2.1.epoch, .lst 2 (List.map encS o.2.2.1.segs), .int .i64 o.2.2.1.seq, .int .u64 o.2.2.2.1, .int .i64 o.2.2.2.2.kind, .lst 1 (List.map byteA o.2.2.2.2.data), .lst 3 (List.map encB o.2.2.2.2.backs)], .vars 86 (celS (fresh o.1 o.2.1 o.2.2.1 o.2.2.2.1 o.2.2.2.2 u) ++ [.row 2 22 0]), .row 50 22 [], .vars 88 (celR (fresh o.1 o.2.1 o.2.2.1 o.2.2.2.1 o.2.2.2.2 u) (-1) ++ [.row 4 22 0]), .row 50 22 []] } (Ex.exit 0) { env := [(8, .ptr 2 0), (6, .ptr 0 0)], objs := [.vars 86 (celS s3 ++ [.row 1 22 (List.length s3.out)]), .row 50 22 s3.out, .vars 88 (celR s3 a3 ++ [.row 3 22 (List.length s3.out)]), .row 50 22 s3.out] },
 ACalls Tryz.prog 7 [] [] (.bool true) [],
 ACalls Tryz.prog 19 [.ptr 0 0] [.vars 86 (celS s3 ++ [.row 1 22 (List.length s3.out)]), .row 50 22 s3.out] (.row 2 22 (List.length s3.out)) [.vars 86 (celS (emptied s3) ++ [.row 1 22 0]), .row 50 22 [], .row 50 22 s3.out],
 ACalls Tryz.prog 20 [.ptr 0 0] [.vars 88 (celR s3 a3 ++ [.row 1 22 (List.length s3.out)]), .row 50 22 s3.out] (.row 2 22 (List.length s3.out)) [.vars 88 (celR (emptied s3) a3 ++ [.row 1 22 0]), .row 50 22 [], .row 50 22 s3.out],
 ACalls Tryz.prog 18 [.lst 22 s3.out, .lst 22 s3.out] [] (.bool true) []]) (by kernel_rfl) (by first | exact rfl | exact ⟨rfl, rfl⟩ | (simp [ofL, endO, celS, celR]; done)) ⟨?q70_1, ?q70_2, ?q70_3, ?z0, ?z1, ?q70_4, ?q70_5, ?q70_6, ?q70_7, ?q70_8, trivial⟩
  case z0|z1 => first | exact rfl | (simp [ofL, endO, celS, celR] <;> omega) | omega
  · exact h1
  · exact h2
  · exact h3
  · exact hlp
  · exact alive_ac
  · exact q1
  · exact q2
  · exact q3
end Go.Proofs.YtidgcfgkcidkiaaGreat.Ch
namespace Go.Proofs.YtidgcfgkcidkiaaGreat.Ch
open Go Go.RowKit Go.Proofs.YtidgcfgkcidkiaaGreat.L Go.Proofs.YtidgcfgkcidkiaaGreat.X
set_option linter.unusedVariables false
set_option linter.unusedSimpArgs false
def OfP := Int × Int × LayD × Int × CellD
def OfO : Rep OfP := pair (num .i64) (pair (num .i64) (pair LayO (pair (num .u64) CellO)))
def encOf (o : OfP) : AV := ofA o.1 o.2.1 o.2.2.1 o.2.2.2.1 o.2.2.2.2
theorem reads_of' : Reads OfO encOf := reads_of (reads_pair (reads_num .i64) (reads_pair (reads_num .i64) (reads_pair reads_lay (reads_pair (reads_num .u64) reads_cell)))) fun _ => rfl
def wtO (o : OfP) : Nat := wtY o.2.2.1 + wtC o.2.2.2.2
theorem opens_of : OpensB Tryz.prog OfO 32 wtO := by
  have := opensB_struct (R := OfO) Tryz.underlying32 (by kernel_rfl)
    (FieldsB.cons (OpensB.num Tryz.underlying3) rfl (by kernel_rfl) (FieldsB.cons (OpensB.num Tryz.underlying3) rfl (by kernel_rfl) (FieldsB.cons opens_lay rfl (by kernel_rfl) (FieldsB.cons (OpensB.num Tryz.underlying22) rfl (by kernel_rfl) (FieldsB.one opens_cell rfl (by kernel_rfl))))))
  exact OpensB.iso (f := id) this id (fun _ => rfl) (fun x => by simp only [wtO, id]; omega)
theorem slice_all {α : Type} {R : Rep α} {A : Nat → Prop} {w : World} {v : Value} {l : List α} (h : SliceK R A w v l) : ∀ x ∈ l, ∃ cs, R.K A w cs x := by
  obtain ⟨ad, c, rfl, h1, h2, h3⟩ := h
  intro x hx
  rcases h3 with rfl | ⟨b, pre, live, rest, T, fz, rfl, _, hb, hc⟩
  · cases hx
  · obtain ⟨i, hi⟩ := List.mem_iff_getElem?.1 hx
    obtain ⟨cs, k1, _⟩ := hc.get hi
    exact ⟨cs, k1⟩
theorem wt_catL (l : List (List Int)) : (catL l).length + l.length + 1 ≤ wtL (wtL fun _ => 1) l := by
  unfold catL wtL
  induction l with
  | nil => simp
  | cons x l ih =>
    have hx : (x.map fun _ => 1).sum = x.length := by
      clear ih
      induction x with
      | nil => rfl
      | cons y x ih => simp only [List.map_cons, List.sum_cons, ih, List.length_cons]; omega
    simp only [List.flatten_cons, List.length_append, List.map_cons, List.sum_cons, List.length_cons, hx]
    omega
theorem lay_read {A : Nat → Prop} {w : World} {cs : List Value} {l : LayD} (h : LayO.K A w cs l) (hb : wtY l ≤ 1048576) : l.ok ∧ (∀ s ∈ l.segs, s.chains.length ≤ 1000000000) := by
  obtain ⟨c1, c2, _, _, c3, c4, _, ⟨v, _, hs⟩, _⟩ := h
  have h1 : ∀ x : SegD, 1 ≤ wtS x := fun x => by unfold wtS wtL; omega
  have key : ∀ s ∈ l.segs, (catL s.chains).length + s.chains.length ≤ 1048576 := by
    intro s hm
    have h2 := wtL_mem (wt := wtS) hm
    have h3 := wt_catL s.chains
    have h4 : wtS s = wtL (wtL fun _ => 1) s.chains := rfl
    unfold wtY at hb
    omega
  refine ⟨⟨fun s hm => ⟨?_, ?_⟩, ?_⟩, fun s hm => ?_⟩
  · have := key s hm
    exact ⟨by omega, by omega⟩
  · obtain ⟨cs, c1, c2, _, ⟨_, hk⟩, _⟩ := slice_all hs s hm
    exact hk.u64.1
  · have := wtL_len h1 l.segs
    unfold wtY at hb
    omega
  · have := key s hm
    omega
theorem cell_read {A : Nat → Prop} {w : World} {cs : List Value} {c : CellD} (h : CellO.K A w cs c) (hb : wtC c ≤ 1048576) : c.ok := by
  obtain ⟨c1, c2, _, _, c3, c4, _, ⟨v, _, hd⟩, _⟩ := h
  have h1 := wtL_len (wt := fun _ => 1) (fun _ => Nat.le_refl 1) c.data
  have h2 := wtL_len (wt := fun _ => 1) (fun _ => Nat.le_refl 1) c.backs
  unfold wtC at hb
  refine ⟨fun n hn => ?_, by omega, by omega⟩
  obtain ⟨cs, _, hk⟩ := slice_all hd n hn
  have := hk.u8
  omega
theorem msg_read {A : Nat → Prop} {w : World} {cs : List Value} {m : MsgD} (h : MsgO.K A w cs m) (hb : wtM m ≤ 1048576) : m.ok ∧ (∀ s ∈ m.lay.segs, s.chains.length ≤ 1000000000) := by
  obtain ⟨_, _, _, _, _, _, _, _, _, _, _, _, _, _, _, _, _, _, _, _, _, _, _, _, _, _, _, _, _, _, _, _, _, _, _, hc, _, _, _, _, _, _, _, _, _, _, _, _, _, _, _, _, hl⟩ := h
  have h1 := wtL_len (wt := fun _ => 1) (fun _ => Nat.le_refl 1) m.streams
  have h2 := wtL_len (wt := fun _ => 1) (fun _ => Nat.le_refl 1) m.backs
  unfold wtM at hb
  obtain ⟨l1, l2⟩ := lay_read (l := m.lay) hl (by omega)
  exact ⟨⟨cell_read (c := m.cell) hc (by omega), by omega, by omega, ⟨fun s hs => (l1.1 s hs).1, l1.2⟩⟩, l2⟩
def ActO : Rep ActD := iso (pair (num .i64) (pair (num .i64) (pair MsgO boolR))) fun x => (x.kind, x.n, x.m, x.own)
theorem reads_act : Reads ActO encAct := reads_of (reads_iso _ (reads_pair (reads_num .i64) (reads_pair (reads_num .i64) (reads_pair reads_msg reads_bool)))) fun _ => rfl
def wtA (x : ActD) : Nat := wtM x.m
theorem opens_act : OpensB Tryz.prog ActO 52 wtA :=
  OpensB.iso (opensB_struct Tryz.underlying52 (by kernel_rfl)
    (FieldsB.cons (OpensB.num Tryz.underlying3) rfl (by kernel_rfl) (FieldsB.cons (OpensB.num Tryz.underlying3) rfl (by kernel_rfl) (FieldsB.cons opens_msg rfl (by kernel_rfl) (FieldsB.one (OpensB.bool Tryz.underlying4) rfl (by kernel_rfl))))))
    (fun x => ⟨x.1, x.2.1, x.2.2.1, x.2.2.2⟩) (fun _ => rfl) (fun x => by simp only [wtA]; omega)
theorem opens_acts : OpensB Tryz.prog (slice ActO) 33 (wtL wtA) := opensB_slice Tryz.underlying33 (by kernel_rfl) (by decide) opens_act
theorem acts_lst {A : Nat → Prop} {w : World} {v : Value} {l : List ActD} (h : SliceK ActO A w v l) : VR (ctx0 w) (.lst 25 (l.map encAct)) v := .pure (reads_slice (R := ActO) (by decide) reads_act h)
theorem plays_ac {A : Nat → Prop} {w : World} {cs : List Value} (o : OfP) (h : OfO.K A w cs o) (hb : wtO o ≤ 1048576) (xs : List ActD) {v : Value} (hx : SliceK ActO A w v xs) (hbx : wtL wtA xs ≤ 1048576) :
    ACalls Tryz.prog 3 [encOf o, .lst 25 (xs.map encAct)] [] (.bool true) [] := by
  obtain ⟨cl, id, l, a, c⟩ := o
  obtain ⟨x1, x2, _, _, x3, x4, _, _, x5, x6, _, hl, x7, x8, _, ⟨_, ha⟩, hc⟩ := h
  unfold wtO at hb
  simp only at hb
  obtain ⟨hlo, hlc⟩ := lay_read (l := l) hl (by omega)
  have hco : c.ok := cell_read (c := c) hc (by omega)
  have ha0 := ha.u64.1
  have hd := hco.d
  have hk := hco.b
  have hxs : ∀ x ∈ xs, x.m.ok ∧ ∀ s ∈ x.m.lay.segs, s.chains.length ≤ 1000000000 := by
    intro x hm
    obtain ⟨cs, _, _, _, _, _, _, _, _, _, _, _, hmm, _⟩ := slice_all hx x hm
    have h2 := wtL_mem (wt := wtA) hm
    have h3 : wtA x = wtM x.m := rfl
    exact msg_read (m := x.m) hmm (by omega)
  obtain ⟨b1, h1⟩ := offits_ac cl id l a c
  show ACalls _ _ [.agg (ofL (cl, id, l, a, c)), .lst 25 (xs.map encAct)] [] (.bool true) []
  cases b1 with
  | false => exact plays_1 (cl, id, l, a, c) xs h1
  | true =>
    by_cases hA : Asks cl id l a c
    · obtain ⟨u, hu, hU, h2⟩ := new_yes cl id l a c hlo ha0 (by omega) (by omega) hA
      have h3 := rNew_yes cl id l a c u (fun s hs => ⟨hlc s hs, (hlo.1 s hs).2⟩) hlo.2 hk ha0 hA hu
      have hp := hU.pos
      have hm := hU.most
      have hi : Inv (fresh cl id l a c u) (10 * 0) := ⟨⟨hco, hm, .inl hp, Nat.zero_le _, Int.le_refl 0, .inl (by show (0 : Int) < 6; omega), Int.le_refl 0, (by show (0 : Int) ≤ 5; omega)⟩, Nat.zero_le _, fun x hx => (by cases hx), fun _ => ⟨rfl, rfl, rfl⟩⟩
      have hat : At (fresh cl id l a c u) (-1) := ⟨fun _ => rfl, fun hq => (by cases hq), fun hq => (by cases hq)⟩
      obtain ⟨s3, a3, i3, hlp⟩ := plays_loop (cl, id, l, a, c) xs hxs xs.length 0 (fresh cl id l a c u) (-1) (by omega) (by omega) hi hat
      exact plays_3 (cl, id, l, a, c) xs u h1 h2 h3 s3 a3 i3 hlp
    · have h2 := new_no cl id l a c hlo ha0 hA
      have h3 := rNew_no cl id l a c hlc hlo.2 hk hA
      exact plays_2 (cl, id, l, a, c) xs h1 h2 h3
end Go.Proofs.YtidgcfgkcidkiaaGreat.Ch
namespace Go.Proofs.YtidgcfgkcidkiaaGreat.ChainPlays
open Go Go.RowKit Go.ChangeShapes Go.WideShapes Go.ChangeAt Go.Proofs.YtidgcfgkcidkiaaGreat.L Go.Proofs.YtidgcfgkcidkiaaGreat.X Go.Proofs.YtidgcfgkcidkiaaGreat.Ch
set_option linter.unusedVariables false
set_option linter.unusedSimpArgs false
theorem own : ownKnob Tryz.prog.godebug = none := by kernel_rfl
theorem laidOut : laidOutB Tryz.prog = true := by kernel_rfl
set_option maxRecDepth 100000 in
theorem lifted (os : Os) (started : os.Started) (H : Type) (enc : TypeId × Value → H) (F : Stop.Interp) :
    ReturnsInHanded {} Tryz.checked os 3 .any ((Rows.OpenSpec.upto Rows.chainPlaysSpec).pre6 enc Tryz.prog Tryz.f3 Rows.chainPlaysUptoRow.domain false) (((Rows.OpenSpec.upto Rows.chainPlaysSpec).at F).post enc Tryz.prog Tryz.f3 false true false false) := by
  refine returnsInHanded_of_cond (C := Tryz.checked) (s := Rows.OpenSpec.upto Rows.chainPlaysSpec) (k := Rows.uptoSmall) rfl own started (by kernel_rfl) Tryz.func3
    (OpenSpec.witness (enc := enc) (C := Tryz.checked) (s := Rows.OpenSpec.upto Rows.chainPlaysSpec) (k := Rows.uptoSmall) rfl false
      ⟨#[], #[.agg #[.int .i64 0, .int .i64 0, .int .u64 0, .slice none 0 0, .int .i64 0, .int .u64 0, .int .i64 0, .slice none 0 0, .slice none 0 0], .slice none 0 0], []⟩ 8 (by kernel_rfl) (by kernel_rfl) (by kernel_rfl)
      (x := ([.agg [.lit (.int .i64 0), .lit (.int .i64 0), .agg [.lit (.int .u64 0), .nil, .lit (.int .i64 0)], .lit (.int .u64 0), .agg [.lit (.int .i64 0), .nil, .nil]], .nil], [], [])) (by kernel_rfl) rfl (by kernel_rfl)) ?_
  intro W base args ds gs before hval0 hW0 _ hk _
  have hW : DataW.Whole enc Tryz.prog Tryz.f3.params.toList Rows.chainPlaysSpec.vars false W args.toList ds gs before := hW0
  have hA := hW
  obtain ⟨p, q, hA, hV, _, _, _⟩ := hA
  have hval : ∀ (j : Nat) t v, Tryz.f3.params[j]? = some t → args[j]? = some v → Value.okWide Tryz.prog W .any base t v := hval0
  rw [Tryz.params3] at hA hval
  obtain ⟨v0, v1, d0, d1, p0, p1, hargs, rfl, rfl, h0, h1⟩ := trodAll_two hA
  subst hargs
  obtain ⟨cs0, o, rfl, ho, hwo⟩ := agg_arg opens_of (by decide) h0
  obtain ⟨xs, hx, hwx⟩ := slice_argB opens_acts Tryz.underlying33 (hval 1 _ _ rfl rfl) h1
  have hb : Rows.uptoBulkAll ([d0, d1] ++ gs) ≤ 1048576 := of_decide_eq_true hk
  simp only [List.cons_append, List.nil_append, Rows.uptoBulkAll] at hb
  have hac := plays_ac o ho (by omega) xs hx (by omega)
  refine (law_calls hac (.cons (reads_agg reads_of' ho rfl) (.cons (acts_lst hx) .nil))).mono ?_
  rintro e W' ⟨rfl, hk'⟩
  exact law_post 4 Tryz.underlying4 rfl rfl laidOut (by kernel_rfl) hW (fun h => by subst h; rfl) hk'

theorem chainPlays_holds : Rows.ChainPlaysUptoSaid :=
  OpenClaim.holds_of_cond 3 Tryz.f3 rfl rfl rfl rfl rfl rfl rfl ⟨rfl, rfl, rfl, rfl, rfl⟩ rfl rfl rfl rfl rfl (by kernel_rfl) Tryz.func3 (by kernel_rfl)
    (of_decide_eq_true (by kernel_rfl)) (by unfold Func.isWrapper; first | (rw [if_pos (by decide +kernel)]; kernel_rfl) | (rw [if_neg (by decide +kernel)]; exact ⟨rfl, rfl⟩))
    (fun os started H enc _ F => lifted os started H enc F)
end Go.Proofs.YtidgcfgkcidkiaaGreat.ChainPlays
