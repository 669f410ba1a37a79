/- Texts of one proof, laid together: Df, Dg, Dh, Di, Dj, Dk, Dl, Dm. -/
import Derived.Test.YtidgcfgkcidkiaaGreatS04
namespace Go.Proofs.YtidgcfgkcidkiaaGreat.Ch
open Go Go.RowKit Go.Proofs.YtidgcfgkcidkiaaGreat.L Go.Proofs.YtidgcfgkcidkiaaGreat.X
set_option linter.unusedVariables false
set_option linter.unusedSimpArgs false
theorem two_yes {a b c d : Int} (h : ¬ (a = b ∧ c = d)) : (!(a == b && (c == d && true))) = true := by
  by_cases h1 : a = b <;> by_cases h2 : c = d <;> simp [h1, h2] at h ⊢
theorem two_no {a b c d : Int} (h : ¬ ¬ (a = b ∧ c = d)) : (!(a == b && (c == d && true))) = false := by
  have h := Classical.not_not.1 h
  simp [h.1, h.2]

def hearB (s : SetD) (m : MsgD) (v : Int) : Bool := if s.started = false then false else if s.over = true then false else if rightM m = false then false else if ¬ m.kind = 14 then false else if ¬ m.of_ = 1 then false else if ¬ m.id = s.id then false else if ¬ m.addr = s.a then false else if ¬ (m.tr = 4 ∧ m.tn = s.client) then false else if ¬ (m.fr = 1 ∧ m.fn = v) then false else true
theorem bt_of {b : Bool} (h : ¬ b = false) : b = true := by simpa using h
theorem bf_of {b : Bool} (h : ¬ b = true) : b = false := by simpa using h
theorem hearB_e0 (s : SetD) (m : MsgD) (v : Int) (hm : m.ok) (hv : s.over = false → s.chain[s.at_]? = some v) (hno : hearB s m v = false) (h1 : s.started = false) : ACalls Tryz.prog 14 [.ptr 0 0, encM m] (setO s) (.bool (hearB s m v)) (setO s) := by
  rw [show hearB s m v = false by unfold hearB; rw [if_pos h1]]
  refine acallsK mixed Tryz.func14 rfl [0, 1, 3, 4, 34, 64, 65, 86, 102] 1000 ([.f]) [] [0, 1] (ob := [s.started = false]) (by kernel_rfl) ⟨rfl, rfl⟩ ⟨(by first | exact rfl | (simp [celS, setO, encM, celM, celC, celL, h1]; done) | (simp [celS, setO, encM, celM, celC, celL, h1]; omega) | omega | (first | omega | exact two_yes (by assumption) | exact two_no (by assumption))), trivial⟩
theorem hearB_e1 (s : SetD) (m : MsgD) (v : Int) (hm : m.ok) (hv : s.over = false → s.chain[s.at_]? = some v) (hno : hearB s m v = false) (h1 : ¬ (s.started = false)) (h2 : s.over = true) : ACalls Tryz.prog 14 [.ptr 0 0, encM m] (setO s) (.bool (hearB s m v)) (setO s) := by
  rw [show hearB s m v = false by unfold hearB; rw [if_neg h1, if_pos h2]]
  refine acallsK mixed Tryz.func14 rfl [0, 1, 3, 4, 34, 64, 65, 86, 102] 1000 ([.t, .t]) [] [0, 1] (ob := [s.started = true,
 s.over = true]) (by kernel_rfl) ⟨rfl, rfl⟩ ⟨?z0, ?z1, trivial⟩
  case z0|z1 => first | exact rfl | (simp [celS, setO, encM, celM, celC, celL, bt_of h1, h2] <;> omega) | omega | (first | omega | exact two_yes (by assumption) | exact two_no (by assumption))
theorem hearB_e2 (s : SetD) (m : MsgD) (v : Int) (hm : m.ok) (hv : s.over = false → s.chain[s.at_]? = some v) (hno : hearB s m v = false) (h1 : ¬ (s.started = false)) (h2 : ¬ (s.over = true)) (h3 : rightM m = false) : ACalls Tryz.prog 14 [.ptr 0 0, encM m] (setO s) (.bool (hearB s m v)) (setO s) := by
  have q := rightM_ac m hm
  rw [h3] at q
  rw [show hearB s m v = false by unfold hearB; rw [if_neg h1, if_neg h2, if_pos h3]]
  refine acallsK mixed Tryz.func14 rfl [0, 1, 3, 4, 34, 64, 65, 86, 102] 1000 ([.t, .f, .call [] false true (.bool false) []]) [] [0, 1] (ob := [s.started = true,
 s.over = false,
 ACalls Tryz.prog 51 [(encM m)] [] (.bool false) []]) (by kernel_rfl) ⟨rfl, rfl⟩ ⟨?z0, ?z1, ?q34_1, trivial⟩
  case z0|z1 => first | exact rfl | (simp [celS, setO, encM, celM, celC, celL, bt_of h1, bf_of h2, h3] <;> omega) | omega | (first | omega | exact two_yes (by assumption) | exact two_no (by assumption))
  · exact q
theorem hearB_e3 (s : SetD) (m : MsgD) (v : Int) (hm : m.ok) (hv : s.over = false → s.chain[s.at_]? = some v) (hno : hearB s m v = false) (h1 : ¬ (s.started = false)) (h2 : ¬ (s.over = true)) (h3 : rightM m = true) (h4 : ¬ m.kind = 14) : ACalls Tryz.prog 14 [.ptr 0 0, encM m] (setO s) (.bool (hearB s m v)) (setO s) := by
  have q := rightM_ac m hm
  rw [h3] at q
  rw [show hearB s m v = false by unfold hearB; rw [if_neg h1, if_neg h2, if_neg (by rw [h3]; decide), if_pos h4]]
  refine acallsK mixed Tryz.func14 rfl [0, 1, 3, 4, 34, 64, 65, 86, 102] 1000 ([.t, .f, .call [] false true (.bool true) [], .t]) [] [0, 1] (ob := [s.started = true,
 s.over = false,
 ACalls Tryz.prog 51 [(encM m)] [] (.bool true) [],
 (m.kind != (14 : Int)) = true]) (by kernel_rfl) ⟨rfl, rfl⟩ ⟨?z0, ?z1, ?q42_1, ?z2, trivial⟩
  case z0|z1|z2 => first | exact rfl | (simp [celS, setO, encM, celM, celC, celL, bt_of h1, bf_of h2, h3, h4] <;> omega) | omega | (first | omega | exact two_yes (by assumption) | exact two_no (by assumption))
  · exact q
theorem hearB_e4 (s : SetD) (m : MsgD) (v : Int) (hm : m.ok) (hv : s.over = false → s.chain[s.at_]? = some v) (hno : hearB s m v = false) (h1 : ¬ (s.started = false)) (h2 : ¬ (s.over = true)) (h3 : rightM m = true) (h4 : ¬ (¬ m.kind = 14)) (h5 : ¬ m.of_ = 1) : ACalls Tryz.prog 14 [.ptr 0 0, encM m] (setO s) (.bool (hearB s m v)) (setO s) := by
  have q := rightM_ac m hm
  rw [h3] at q
  rw [show hearB s m v = false by unfold hearB; rw [if_neg h1, if_neg h2, if_neg (by rw [h3]; decide), if_neg h4, if_pos h5]]
  refine acallsK mixed Tryz.func14 rfl [0, 1, 3, 4, 34, 64, 65, 86, 102] 1000 ([.t, .f, .call [] false true (.bool true) [], .f, .t]) [] [0, 1] (ob := [s.started = true,
 s.over = false,
 ACalls Tryz.prog 51 [(encM m)] [] (.bool true) [],
 (m.kind != (14 : Int)) = false,
 (m.of_ != (1 : Int)) = true]) (by kernel_rfl) ⟨rfl, rfl⟩ ⟨?z0, ?z1, ?q50_1, ?z2, ?z3, trivial⟩
  case z0|z1|z2|z3 => first | exact rfl | (simp [celS, setO, encM, celM, celC, celL, bt_of h1, bf_of h2, h3, h4, h5] <;> omega) | omega | (first | omega | exact two_yes (by assumption) | exact two_no (by assumption))
  · exact q
theorem hearB_e5 (s : SetD) (m : MsgD) (v : Int) (hm : m.ok) (hv : s.over = false → s.chain[s.at_]? = some v) (hno : hearB s m v = false) (h1 : ¬ (s.started = false)) (h2 : ¬ (s.over = true)) (h3 : rightM m = true) (h4 : ¬ (¬ m.kind = 14)) (h5 : ¬ (¬ m.of_ = 1)) (h6 : ¬ m.id = s.id) : ACalls Tryz.prog 14 [.ptr 0 0, encM m] (setO s) (.bool (hearB s m v)) (setO s) := by
  have q := rightM_ac m hm
  rw [h3] at q
  rw [show hearB s m v = false by unfold hearB; rw [if_neg h1, if_neg h2, if_neg (by rw [h3]; decide), if_neg h4, if_neg h5, if_pos h6]]
  refine acallsK mixed Tryz.func14 rfl [0, 1, 3, 4, 34, 64, 65, 86, 102] 1000 ([.t, .f, .call [] false true (.bool true) [], .f, .f, .t]) [] [0, 1] (ob := [s.started = true,
 s.over = false,
 ACalls Tryz.prog 51 [(encM m)] [] (.bool true) [],
 (m.kind != (14 : Int)) = false,
 (m.of_ != (1 : Int)) = false,
 (m.id != s.id) = true]) (by kernel_rfl) ⟨rfl, rfl⟩ ⟨?z0, ?z1, ?q58_1, ?z2, ?z3, ?z4, trivial⟩
  case z0|z1|z2|z3|z4 => first | exact rfl | (simp [celS, setO, encM, celM, celC, celL, bt_of h1, bf_of h2, h3, h4, h5, h6] <;> omega) | omega | (first | omega | exact two_yes (by assumption) | exact two_no (by assumption))
  · exact q
theorem hearB_e6 (s : SetD) (m : MsgD) (v : Int) (hm : m.ok) (hv : s.over = false → s.chain[s.at_]? = some v) (hno : hearB s m v = false) (h1 : ¬ (s.started = false)) (h2 : ¬ (s.over = true)) (h3 : rightM m = true) (h4 : ¬ (¬ m.kind = 14)) (h5 : ¬ (¬ m.of_ = 1)) (h6 : ¬ (¬ m.id = s.id)) (h7 : ¬ m.addr = s.a) : ACalls Tryz.prog 14 [.ptr 0 0, encM m] (setO s) (.bool (hearB s m v)) (setO s) := by
  have q := rightM_ac m hm
  rw [h3] at q
  rw [show hearB s m v = false by unfold hearB; rw [if_neg h1, if_neg h2, if_neg (by rw [h3]; decide), if_neg h4, if_neg h5, if_neg h6, if_pos h7]]
  refine acallsK mixed Tryz.func14 rfl [0, 1, 3, 4, 34, 64, 65, 86, 102] 1000 ([.t, .f, .call [] false true (.bool true) [], .f, .f, .f, .t]) [] [0, 1] (ob := [s.started = true,
 s.over = false,
 ACalls Tryz.prog 51 [(encM m)] [] (.bool true) [],
 (m.kind != (14 : Int)) = false,
 (m.of_ != (1 : Int)) = false,
 (m.id != s.id) = false,
 (m.addr != s.a) = true]) (by kernel_rfl) ⟨rfl, rfl⟩ ⟨?z0, ?z1, ?q66_1, ?z2, ?z3, ?z4, ?z5, trivial⟩
  case z0|z1|z2|z3|z4|z5 => first | exact rfl | (simp [celS, setO, encM, celM, celC, celL, bt_of h1, bf_of h2, h3, h4, h5, h6, h7] <;> omega) | omega | (first | omega | exact two_yes (by assumption) | exact two_no (by assumption))
  · exact q
theorem hearB_e7 (s : SetD) (m : MsgD) (v : Int) (hm : m.ok) (hv : s.over = false → s.chain[s.at_]? = some v) (hno : hearB s m v = false) (h1 : ¬ (s.started = false)) (h2 : ¬ (s.over = true)) (h3 : rightM m = true) (h4 : ¬ (¬ m.kind = 14)) (h5 : ¬ (¬ m.of_ = 1)) (h6 : ¬ (¬ m.id = s.id)) (h7 : ¬ (¬ m.addr = s.a)) (h8 : ¬ (m.tr = 4 ∧ m.tn = s.client)) : ACalls Tryz.prog 14 [.ptr 0 0, encM m] (setO s) (.bool (hearB s m v)) (setO s) := by
  have q := rightM_ac m hm
  have q1 := self_rd s
  rw [h3] at q
  rw [show hearB s m v = false by unfold hearB; rw [if_neg h1, if_neg h2, if_neg (by rw [h3]; decide), if_neg h4, if_neg h5, if_neg h6, if_neg h7, if_pos h8]]
  refine acallsK mixed Tryz.func14 rfl [0, 1, 3, 4, 34, 64, 65, 86, 102] 1000 ([.t, .f, .call [] false true (.bool true) [], .f, .f, .f, .f, .rd [0, 1] (.agg [.int .i64 4, .int .i64 s.client]), .t]) [] [0, 1] (ob := [s.started = true,
 s.over = false,
 _,
 (m.kind != (14 : Int)) = false,
 (m.of_ != (1 : Int)) = false,
 (m.id != s.id) = false,
 (m.addr != s.a) = false,
 _,
 (!(m.tr == (4 : Int) && (m.tn == s.client && true))) = true]) (by kernel_rfl) ⟨rfl, rfl⟩ ⟨?z0, ?z1, q, ?z2, ?z3, ?z4, ?z5, q1, ?z6, trivial⟩
  case z0|z1|z2|z3|z4|z5|z6 => first | exact rfl | (simp [celS, setO, encM, celM, celC, celL, bt_of h1, bf_of h2, h3, h4, h5, h6, h7, h8] <;> omega) | omega | (first | omega | exact two_yes (by assumption) | exact two_no (by assumption))
theorem hearB_e8 (s : SetD) (m : MsgD) (v : Int) (hm : m.ok) (hv : s.over = false → s.chain[s.at_]? = some v) (hno : hearB s m v = false) (h1 : ¬ (s.started = false)) (h2 : ¬ (s.over = true)) (h3 : rightM m = true) (h4 : ¬ (¬ m.kind = 14)) (h5 : ¬ (¬ m.of_ = 1)) (h6 : ¬ (¬ m.id = s.id)) (h7 : ¬ (¬ m.addr = s.a)) (h8 : ¬ (¬ (m.tr = 4 ∧ m.tn = s.client))) (h9 : ¬ (m.fr = 1 ∧ m.fn = v)) : ACalls Tryz.prog 14 [.ptr 0 0, encM m] (setO s) (.bool (hearB s m v)) (setO s) := by
  have q := rightM_ac m hm
  have q1 := self_rd s
  have q2 := fun ho => unit_rd s (hv ho)
  rw [h3] at q
  rw [show hearB s m v = false by unfold hearB; rw [if_neg h1, if_neg h2, if_neg (by rw [h3]; decide), if_neg h4, if_neg h5, if_neg h6, if_neg h7, if_neg h8, if_pos h9]]
  refine acallsK mixed Tryz.func14 rfl [0, 1, 3, 4, 34, 64, 65, 86, 102] 1000 ([.t, .f, .call [] false true (.bool true) [], .f, .f, .f, .f, .rd [0, 1] (.agg [.int .i64 4, .int .i64 s.client]), .f, .rd [0, 1] (.agg [.int .i64 1, .int .i64 v]), .t]) [] [0, 1] (ob := [s.started = true,
 s.over = false,
 _,
 (m.kind != (14 : Int)) = false,
 (m.of_ != (1 : Int)) = false,
 (m.id != s.id) = false,
 (m.addr != s.a) = false,
 _,
 (!(m.tr == (4 : Int) && (m.tn == s.client && true))) = false,
 _,
 (!(m.fr == (1 : Int) && (m.fn == v && true))) = true]) (by kernel_rfl) ⟨rfl, rfl⟩ ⟨?z0, ?z1, q, ?z2, ?z3, ?z4, ?z5, q1, ?z6, (q2 (by simpa using h2)), ?z7, trivial⟩
  case z0|z1|z2|z3|z4|z5|z6|z7 => first | exact rfl | (simp [celS, setO, encM, celM, celC, celL, bt_of h1, bf_of h2, h3, h4, h5, h6, h7, h8, h9] <;> omega) | omega | (first | omega | exact two_yes (by assumption) | exact two_no (by assumption))
theorem hearB_ac (s : SetD) (m : MsgD) (v : Int) (hm : m.ok) (hv : s.over = false → s.chain[s.at_]? = some v) (hno : hearB s m v = false) : ACalls Tryz.prog 14 [.ptr 0 0, encM m] (setO s) (.bool (hearB s m v)) (setO s) := by
  by_cases h1 : s.started = false
  · exact hearB_e0 s m v hm hv hno h1
  by_cases h2 : s.over = true
  · exact hearB_e1 s m v hm hv hno h1 h2
  cases h3 : rightM m with
  | false => exact hearB_e2 s m v hm hv hno h1 h2 h3
  | true =>
    by_cases h4 : ¬ m.kind = 14
    · exact hearB_e3 s m v hm hv hno h1 h2 h3 h4
    by_cases h5 : ¬ m.of_ = 1
    · exact hearB_e4 s m v hm hv hno h1 h2 h3 h4 h5
    by_cases h6 : ¬ m.id = s.id
    · exact hearB_e5 s m v hm hv hno h1 h2 h3 h4 h5 h6
    by_cases h7 : ¬ m.addr = s.a
    · exact hearB_e6 s m v hm hv hno h1 h2 h3 h4 h5 h6 h7
    by_cases h8 : ¬ (m.tr = 4 ∧ m.tn = s.client)
    · exact hearB_e7 s m v hm hv hno h1 h2 h3 h4 h5 h6 h7 h8
    by_cases h9 : ¬ (m.fr = 1 ∧ m.fn = v)
    · exact hearB_e8 s m v hm hv hno h1 h2 h3 h4 h5 h6 h7 h8 h9
    exact absurd hno (by rw [show hearB s m v = true by unfold hearB; rw [if_neg h1, if_neg h2, if_neg (by rw [h3]; decide), if_neg h4, if_neg h5, if_neg h6, if_neg h7, if_neg h8, if_neg h9]]; decide)
structure Heard (s : SetD) (m : MsgD) (v : Int) : Prop where
  st : s.started = true
  ov : s.over = false
  rt : rightM m = true
  kd : m.kind = 14
  of1 : m.of_ = 1
  id : m.id = s.id
  ad : m.addr = s.a
  to1 : m.tr = 4
  to2 : m.tn = s.client
  fr1 : m.fr = 1
  fr2 : m.fn = v
theorem hearB_yes {s : SetD} {m : MsgD} {v : Int} (h : hearB s m v = true) : Heard s m v := by
  unfold hearB at h
  repeat' split at h
  all_goals first | cases h | skip
  rename_i h1 h2 h3 h4 h5 h6 h7 h8 h9
  have h8 := Classical.not_not.1 h8
  have h9 := Classical.not_not.1 h9
  exact ⟨bt_of h1, bf_of h2, bt_of h3, Classical.not_not.1 h4, Classical.not_not.1 h5, Classical.not_not.1 h6, Classical.not_not.1 h7, h8.1, h8.2, h9.1, h9.2⟩
def stepS (s : SetD) (m : MsgD) : SetD :=
  if m.err = 81 then
    if 0 < s.at_ then (if sameC m.cell s.cell = true then goS s else ended s 191)
    else if rightC m.cell = true then goS { s with cell := m.cell } else ended s 81
  else if m.err = 0 then goS s else ended s m.err
theorem hear_a (s : SetD) (m : MsgD) (v : Int) (hs : s.ok) (hm : m.ok) (hv : s.chain[s.at_]? = some v) (H : Heard s m v) (k1 : ¬ m.err = 81) (k2 : m.err = 0) : ACalls Tryz.prog 14 [.ptr 0 0, encM m] (setO s) (.bool true) (setO (stepS s m)) := by
  rw [show stepS s m = goS s by unfold stepS; rw [if_neg k1, if_pos k2]]
  have q := rightM_ac m hm
  rw [H.rt] at q
  have q1 := self_rd s
  have q2 := unit_rd s hv
  have q3 := nextE s hs H.ov
  refine acallsK mixed Tryz.func14 rfl [0, 1, 3, 4, 34, 64, 65, 86, 102] 1000 ([.t, .f, .call [] false true (.bool true) [], .f, .f, .f, .f, .rd [0, 1] (.agg [.int .i64 4, .int .i64 s.client]), .f, .rd [0, 1] (.agg [.int .i64 1, .int .i64 v]), .f, .f, .f, .t, .call [0, 1] false false (.tup []) (setO (goS s))]) [] [0, 4] (ob := [s.started = true,
 s.over = false,
 _,
 (m.kind != (14 : Int)) = false,
 (m.of_ != (1 : Int)) = false,
 (m.id != s.id) = false,
 (m.addr != s.a) = false,
 _,
 (!(m.tr == (4 : Int) && (m.tn == s.client && true))) = false,
 _,
 (!(m.fr == (1 : Int) && (m.fn == v && true))) = false,
 (m.err == (81 : Int)) = false,
 (m.err == (81 : Int)) = false,
 (m.err == (0 : Int)) = true,
 _]) (by kernel_rfl) ⟨rfl, rfl⟩ ⟨?z0, ?z1, q, ?z2, ?z3, ?z4, ?z5, q1, ?z6, q2, ?z7, ?z8, ?z9, ?z10, q3, trivial⟩
  case z0|z1|z2|z3|z4|z5|z6|z7|z8|z9|z10 => first | exact rfl | (simp [celS, setO, encM, celM, celC, celL, H.st, H.ov, H.kd, H.of1, H.id, H.ad, H.to1, H.to2, H.fr1, H.fr2, k1, k2] <;> omega) | omega | (first | omega | exact two_no (fun h => h ⟨by first | exact H.to1 | exact H.fr1, by first | exact H.to2 | exact H.fr2⟩))
theorem hear_b (s : SetD) (m : MsgD) (v : Int) (hs : s.ok) (hm : m.ok) (hv : s.chain[s.at_]? = some v) (H : Heard s m v) (k1 : ¬ m.err = 81) (k2 : ¬ m.err = 0) : ACalls Tryz.prog 14 [.ptr 0 0, encM m] (setO s) (.bool true) (setO (stepS s m)) := by
  rw [show stepS s m = ended s m.err by unfold stepS; rw [if_neg k1, if_neg k2]]
  have q := rightM_ac m hm
  rw [H.rt] at q
  have q1 := self_rd s
  have q2 := unit_rd s hv
  refine acallsK mixed Tryz.func14 rfl [0, 1, 3, 4, 34, 64, 65, 86, 102] 1000 ([.t, .f, .call [] false true (.bool true) [], .f, .f, .f, .f, .rd [0, 1] (.agg [.int .i64 4, .int .i64 s.client]), .f, .rd [0, 1] (.agg [.int .i64 1, .int .i64 v]), .f, .f, .f, .f, .f, .call [0, 1] false false (.tup []) (setO (ended s m.err))]) [] [0, 4] (ob := [s.started = true,
 s.over = false,
 _,
 (m.kind != (14 : Int)) = false,
 (m.of_ != (1 : Int)) = false,
 (m.id != s.id) = false,
 (m.addr != s.a) = false,
 _,
 (!(m.tr == (4 : Int) && (m.tn == s.client && true))) = false,
 _,
 (!(m.fr == (1 : Int) && (m.fn == v && true))) = false,
 (m.err == (81 : Int)) = false,
 (m.err == (81 : Int)) = false,
 (m.err == (0 : Int)) = false,
 (m.err == (81 : Int)) = false,
 _]) (by kernel_rfl) ⟨rfl, rfl⟩ ⟨?z0, ?z1, q, ?z2, ?z3, ?z4, ?z5, q1, ?z6, q2, ?z7, ?z8, ?z9, ?z10, ?z11, (endE s m.err), trivial⟩
  case z0|z1|z2|z3|z4|z5|z6|z7|z8|z9|z10|z11 => first | exact rfl | (simp [celS, setO, encM, celM, celC, celL, H.st, H.ov, H.kd, H.of1, H.id, H.ad, H.to1, H.to2, H.fr1, H.fr2, k1, k2] <;> omega) | omega | (first | omega | exact two_no (fun h => h ⟨by first | exact H.to1 | exact H.fr1, by first | exact H.to2 | exact H.fr2⟩))
theorem hear_c (s : SetD) (m : MsgD) (v : Int) (hs : s.ok) (hm : m.ok) (hv : s.chain[s.at_]? = some v) (H : Heard s m v) (k1 : m.err = 81) (k2 : 0 < s.at_) (k3 : sameC m.cell s.cell = false) : ACalls Tryz.prog 14 [.ptr 0 0, encM m] (setO s) (.bool true) (setO (stepS s m)) := by
  rw [show stepS s m = ended s 191 by unfold stepS; rw [if_pos k1, if_pos k2, if_neg (by rw [k3]; decide)]]
  have q := rightM_ac m hm
  rw [H.rt] at q
  have q1 := self_rd s
  have q2 := unit_rd s hv
  have q4 := sameC_ac m.cell s.cell hm.cell hs.cell
  rw [k3] at q4
  refine acallsK mixed Tryz.func14 rfl [0, 1, 3, 4, 34, 64, 65, 86, 102] 1000 ([.t, .f, .call [] false true (.bool true) [], .f, .f, .f, .f, .rd [0, 1] (.agg [.int .i64 4, .int .i64 s.client]), .f, .rd [0, 1] (.agg [.int .i64 1, .int .i64 v]), .f, .t, .t, .call [] false true (.bool false) [], .call [0, 1] false false (.tup []) (setO (ended s 191))]) [] [0, 4] (ob := [s.started = true,
 s.over = false,
 _,
 (m.kind != (14 : Int)) = false,
 (m.of_ != (1 : Int)) = false,
 (m.id != s.id) = false,
 (m.addr != s.a) = false,
 _,
 (!(m.tr == (4 : Int) && (m.tn == s.client && true))) = false,
 _,
 (!(m.fr == (1 : Int) && (m.fn == v && true))) = false,
 (m.err == (81 : Int)) = true,
 decide ((↑s.at_ : Int) > (0 : Int)) = true,
 _,
 _]) (by kernel_rfl) ⟨rfl, rfl⟩ ⟨?z0, ?z1, q, ?z2, ?z3, ?z4, ?z5, q1, ?z6, q2, ?z7, ?z8, ?z9, q4, (endE s 191), trivial⟩
  case z0|z1|z2|z3|z4|z5|z6|z7|z8|z9 => first | exact rfl | (simp [celS, setO, encM, celM, celC, celL, H.st, H.ov, H.kd, H.of1, H.id, H.ad, H.to1, H.to2, H.fr1, H.fr2, k1, k2] <;> omega) | omega | (first | omega | exact two_no (fun h => h ⟨by first | exact H.to1 | exact H.fr1, by first | exact H.to2 | exact H.fr2⟩))
theorem hear_d (s : SetD) (m : MsgD) (v : Int) (hs : s.ok) (hm : m.ok) (hv : s.chain[s.at_]? = some v) (H : Heard s m v) (k1 : m.err = 81) (k2 : 0 < s.at_) (k3 : sameC m.cell s.cell = true) : ACalls Tryz.prog 14 [.ptr 0 0, encM m] (setO s) (.bool true) (setO (stepS s m)) := by
  rw [show stepS s m = goS s by unfold stepS; rw [if_pos k1, if_pos k2, if_pos k3]]
  have q := rightM_ac m hm
  rw [H.rt] at q
  have q1 := self_rd s
  have q2 := unit_rd s hv
  have q3 := nextE s hs H.ov
  have q4 := sameC_ac m.cell s.cell hm.cell hs.cell
  rw [k3] at q4
  refine acallsK mixed Tryz.func14 rfl [0, 1, 3, 4, 34, 64, 65, 86, 102] 1000 ([.t, .f, .call [] false true (.bool true) [], .f, .f, .f, .f, .rd [0, 1] (.agg [.int .i64 4, .int .i64 s.client]), .f, .rd [0, 1] (.agg [.int .i64 1, .int .i64 v]), .f, .t, .t, .call [] false true (.bool true) [], .t, .f, .f, .t, .t, .call [0, 1] false false (.tup []) (setO (goS s))]) [] [0, 4] (ob := [s.started = true,
 s.over = false,
 _,
 (m.kind != (14 : Int)) = false,
 (m.of_ != (1 : Int)) = false,
 (m.id != s.id) = false,
 (m.addr != s.a) = false,
 _,
 (!(m.tr == (4 : Int) && (m.tn == s.client && true))) = false,
 _,
 (!(m.fr == (1 : Int) && (m.fn == v && true))) = false,
 (m.err == (81 : Int)) = true,
 decide ((↑s.at_ : Int) > (0 : Int)) = true,
 _,
 (m.err == (81 : Int)) = true,
 ((↑s.at_ : Int) == (0 : Int)) = false,
 (m.err == (0 : Int)) = false,
 (m.err == (81 : Int)) = true,
 decide ((↑s.at_ : Int) > (0 : Int)) = true,
 _]) (by kernel_rfl) ⟨rfl, rfl⟩ ⟨?z0, ?z1, q, ?z2, ?z3, ?z4, ?z5, q1, ?z6, q2, ?z7, ?z8, ?z9, q4, ?z10, ?z11, ?z12, ?z13, ?z14, q3, trivial⟩
  case z0|z1|z2|z3|z4|z5|z6|z7|z8|z9|z10|z11|z12|z13|z14 => first | exact rfl | (simp [celS, setO, encM, celM, celC, celL, H.st, H.ov, H.kd, H.of1, H.id, H.ad, H.to1, H.to2, H.fr1, H.fr2, k1, k2] <;> omega) | omega | (first | omega | exact two_no (fun h => h ⟨by first | exact H.to1 | exact H.fr1, by first | exact H.to2 | exact H.fr2⟩))
theorem hear_e (s : SetD) (m : MsgD) (v : Int) (hs : s.ok) (hm : m.ok) (hv : s.chain[s.at_]? = some v) (H : Heard s m v) (k1 : m.err = 81) (k2 : ¬ 0 < s.at_) (k3 : rightC m.cell = true) : ACalls Tryz.prog 14 [.ptr 0 0, encM m] (setO s) (.bool true) (setO (stepS s m)) := by
  rw [show stepS s m = goS { s with cell := m.cell } by unfold stepS; rw [if_pos k1, if_neg k2, if_pos k3]]
  have q := rightM_ac m hm
  rw [H.rt] at q
  have q1 := self_rd s
  have q2 := unit_rd s hv
  have q5 := right_ac m.cell
  rw [k3] at q5
  have hd := hm.cell.d
  have hk := hm.cell.b
  have q6 := copied_ac m.cell (by omega) (by omega)
  have q7 := nextE { s with cell := m.cell } ⟨hm.cell, hs.ch, hs.at_, hs.out, hs.t0, hs.t1, hs.w0, hs.w1⟩ H.ov
  refine acallsK mixed Tryz.func14 rfl [0, 1, 3, 4, 34, 64, 65, 86, 102] 1000 ([.t, .f, .call [] false true (.bool true) [], .f, .f, .f, .f, .rd [0, 1] (.agg [.int .i64 4, .int .i64 s.client]), .f, .rd [0, 1] (.agg [.int .i64 1, .int .i64 v]), .f, .t, .f, .t, .t, .call [] false true (.bool true) [], .call [] true false (encC m.cell) [], .call [0, 1] false false (.tup []) (setO (goS { s with cell := m.cell }))]) [] [0, 4] (ob := [s.started = true,
 s.over = false,
 _,
 (m.kind != (14 : Int)) = false,
 (m.of_ != (1 : Int)) = false,
 (m.id != s.id) = false,
 (m.addr != s.a) = false,
 _,
 (!(m.tr == (4 : Int) && (m.tn == s.client && true))) = false,
 _,
 (!(m.fr == (1 : Int) && (m.fn == v && true))) = false,
 (m.err == (81 : Int)) = true,
 decide ((↑s.at_ : Int) > (0 : Int)) = false,
 (m.err == (81 : Int)) = true,
 ((↑s.at_ : Int) == (0 : Int)) = true,
 _,
 _,
 _]) (by kernel_rfl) ⟨rfl, rfl⟩ ⟨?z0, ?z1, q, ?z2, ?z3, ?z4, ?z5, q1, ?z6, q2, ?z7, ?z8, ?z9, ?z10, ?z11, q5, q6, q7, trivial⟩
  case z0|z1|z2|z3|z4|z5|z6|z7|z8|z9|z10|z11 => first | exact rfl | (simp [celS, setO, encM, celM, celC, celL, H.st, H.ov, H.kd, H.of1, H.id, H.ad, H.to1, H.to2, H.fr1, H.fr2, k1, k2] <;> omega) | omega | (first | omega | exact two_no (fun h => h ⟨by first | exact H.to1 | exact H.fr1, by first | exact H.to2 | exact H.fr2⟩))
theorem hear_f (s : SetD) (m : MsgD) (v : Int) (hs : s.ok) (hm : m.ok) (hv : s.chain[s.at_]? = some v) (H : Heard s m v) (k1 : m.err = 81) (k2 : ¬ 0 < s.at_) (k3 : rightC m.cell = false) : ACalls Tryz.prog 14 [.ptr 0 0, encM m] (setO s) (.bool true) (setO (stepS s m)) := by
  rw [show stepS s m = ended s 81 by unfold stepS; rw [if_pos k1, if_neg k2, if_neg (by rw [k3]; decide)]]
  have q := rightM_ac m hm
  rw [H.rt] at q
  have q1 := self_rd s
  have q2 := unit_rd s hv
  have q5 := right_ac m.cell
  rw [k3] at q5
  have hd := hm.cell.d
  have hk := hm.cell.b
  refine acallsK mixed Tryz.func14 rfl [0, 1, 3, 4, 34, 64, 65, 86, 102] 1000 ([.t, .f, .call [] false true (.bool true) [], .f, .f, .f, .f, .rd [0, 1] (.agg [.int .i64 4, .int .i64 s.client]), .f, .rd [0, 1] (.agg [.int .i64 1, .int .i64 v]), .f, .t, .f, .t, .t, .call [] false true (.bool false) [], .f, .t, .f, .call [0, 1] false false (.tup []) (setO (ended s 81))]) [] [0, 4] (ob := [s.started = true,
 s.over = false,
 ACalls Tryz.prog 51 [(encM m)] [] (.bool true) [],
 (m.kind != (14 : Int)) = false,
 (m.of_ != (1 : Int)) = false,
 (m.id != s.id) = false,
 (m.addr != s.a) = false,
 AReads Tryz.prog 52 [.ptr 0 0] [.vars 86 (celS s ++ [.row 1 22 (List.length s.out)]), .row 50 22 s.out] (.agg [.int .i64 4, .int .i64 s.client]),
 (!(m.tr == (4 : Int) && (m.tn == s.client && true))) = false,
 AReads Tryz.prog 53 [.ptr 0 0] [.vars 86 (celS s ++ [.row 1 22 (List.length s.out)]), .row 50 22 s.out] (.agg [.int .i64 1, .int .i64 v]),
 (!(m.fr == (1 : Int) && (m.fn == v && true))) = false,
 (m.err == (81 : Int)) = true,
 decide ((↑s.at_ : Int) > (0 : Int)) = false,
 (m.err == (81 : Int)) = true,
 ((↑s.at_ : Int) == (0 : Int)) = true,
 ACalls Tryz.prog 44 [(encC m.cell)] [] (.bool false) [],
 (m.err == (0 : Int)) = false,
 (m.err == (81 : Int)) = true,
 decide ((↑s.at_ : Int) > (0 : Int)) = false,
 ACalls Tryz.prog 55 [.ptr 0 0, .int .i64 m.err] [.vars 86 (celS s ++ [.row 1 22 (List.length s.out)]), .row 50 22 s.out] (.tup []) [.vars 86 [.int .i64 (ended s 81).client, .int .i64 (ended s 81).id, .int .u64 (ended s 81).epoch, .int .u64 (ended s 81).a, .int .i64 (ended s 81).cell.kind, .lst 1 [], .lst 3 [], .lst 1 (List.map intA (ended s 81).chain), .int .i64 (↑(ended s 81).at_ : Int), .bool (ended s 81).started, .bool (ended s 81).over, .int .i64 (ended s 81).e, .int .i64 (ended s 81).ticks, .int .i64 (ended s 81).writes, .row 1 22 (List.length (ended s 81).out)], .row 50 22 (ended s 81).out]]) (by kernel_rfl) ⟨rfl, rfl⟩ ⟨?z0, ?z1, ?q218_1, ?z2, ?z3, ?z4, ?z5, ?q218_2, ?z6, ?q218_3, ?z7, ?z8, ?z9, ?z10, ?z11, ?q218_4, ?z12, ?z13, ?z14, ?q218_5, trivial⟩
  case z0|z1|z2|z3|z4|z5|z6|z7|z8|z9|z10|z11|z12|z13|z14 => first | exact rfl | (simp [celS, setO, encM, celM, celC, celL, H.st, H.ov, H.kd, H.of1, H.id, H.ad, H.to1, H.to2, H.fr1, H.fr2, k1, k2] <;> omega) | omega | (first | omega | exact two_no (fun h => h ⟨by first | exact H.to1 | exact H.fr1, by first | exact H.to2 | exact H.fr2⟩))
  · exact q
  · exact q1
  · exact q2
  · exact q5
  · rw [k1]; exact endE s 81
theorem hearE (s : SetD) (m : MsgD) (v : Int) (hs : s.ok) (hm : m.ok) (hv : s.over = false → s.chain[s.at_]? = some v) : ACalls Tryz.prog 14 [.ptr 0 0, encM m] (setO s) (.bool (hearB s m v)) (setO (if hearB s m v = true then stepS s m else s)) := by
  cases hh : hearB s m v with
  | false =>
    rw [if_neg (by decide)]
    have := hearB_ac s m v hm hv hh
    rw [hh] at this
    exact this
  | true =>
    rw [if_pos rfl]
    have H := hearB_yes hh
    have hv := hv H.ov
    by_cases k1 : m.err = 81
    · by_cases k2 : 0 < s.at_
      · cases k3 : sameC m.cell s.cell with
        | false => exact hear_c s m v hs hm hv H k1 k2 k3
        | true => exact hear_d s m v hs hm hv H k1 k2 k3
      · cases k3 : rightC m.cell with
        | false => exact hear_f s m v hs hm hv H k1 k2 k3
        | true => exact hear_e s m v hs hm hv H k1 k2 k3
    · by_cases k2 : m.err = 0
      · exact hear_a s m v hs hm hv H k1 k2
      · exact hear_b s m v hs hm hv H k1 k2
end Go.Proofs.YtidgcfgkcidkiaaGreat.Ch
namespace Go.Proofs.YtidgcfgkcidkiaaGreat.Ch
open Go Go.RowKit Go.Proofs.YtidgcfgkcidkiaaGreat.L Go.Proofs.YtidgcfgkcidkiaaGreat.X
set_option linter.unusedVariables false
set_option linter.unusedSimpArgs false
def addrB (a : Int) : Bool := decide (a < 1048576) || decide (a = 18446744073709551615)
theorem addr_ac (a : Int) : ACalls Tryz.prog 138 [.int .u64 a] [] (.bool (addrB a)) [] := by
  by_cases h1 : a < 1048576
  · rw [show addrB a = true by simp [addrB, h1]]
    refine acallsK mixed Tryz.func138 rfl [0, 2] 1000 ([.t]) [] [] (ob := [decide (a < (1048576 : Int)) = true]) (by kernel_rfl) ⟨rfl, rfl⟩ ⟨(by first | exact rfl | (simp [h1]; done) | (simp [h1]; omega) | omega), trivial⟩
  · by_cases h2 : a = 18446744073709551615
    · rw [show addrB a = true by simp [addrB, h2]]
      refine acallsK mixed Tryz.func138 rfl [0, 2] 1000 ([.f, .t]) [] [] (ob := [decide (a < (1048576 : Int)) = false,
 (a == (18446744073709551615 : Int)) = true]) (by kernel_rfl) ⟨rfl, rfl⟩ ⟨?z0, ?z1, trivial⟩
      case z0|z1 => first | exact rfl | (simp [h1, h2] <;> omega) | omega | (omega)
    · rw [show addrB a = false by simp [addrB, h1, h2]]
      refine acallsK mixed Tryz.func138 rfl [0, 2] 1000 ([.f, .f]) [] [] (ob := [decide (a < (1048576 : Int)) = false,
 (a == (18446744073709551615 : Int)) = false]) (by kernel_rfl) ⟨rfl, rfl⟩ ⟨?z2, ?z3, trivial⟩
      case z2|z3 => first | exact rfl | (simp [h1, h2] <;> omega) | omega | (omega)
theorem addrB_cases {a : Int} : (addrB a = true ↔ a < 1048576 ∨ a = 18446744073709551615) ∧ (addrB a = false ↔ ¬ a < 1048576 ∧ ¬ a = 18446744073709551615) := by
  unfold addrB; constructor <;> simp
theorem last_1 (a b : Int) (h1 : addrB a = false) : ACalls Tryz.prog 120 [.agg [.int .u64 a, .int .u64 b]] [] (.bool (lastB a b)) [] := by
  have q1 := addr_ac a
  rw [h1] at q1
  have k1 := h1
  rw [addrB_cases.2] at k1
  rw [show lastB a b = false by unfold lastB; simp; omega]
  refine acallsK mixed Tryz.func120 rfl [0, 1, 2, 3, 4, 6, 51] 1000 ([.go, .t, .ix 0, .call [] false true (.bool false) []]) [] [] (ob := [decide ((0 : Int) < (2 : Int)) = true,
 nat_lit 0 < (2 : Nat),
 (0 : Int) = (↑(nat_lit 0) : Int),
 ACalls Tryz.prog 138 [.int .u64 a] [] (.bool false) []]) (by kernel_rfl) ⟨rfl, rfl⟩ ⟨?z0, ?z1, ?z2, ?q26_1, trivial⟩
  case z0|z1|z2 => first | exact rfl | (simp [h1] <;> omega) | omega | (omega)
  · exact q1
theorem last_2 (a b : Int) (h1 : addrB a = true) (h2 : addrB b = false) : ACalls Tryz.prog 120 [.agg [.int .u64 a, .int .u64 b]] [] (.bool (lastB a b)) [] := by
  have q1 := addr_ac a
  have q2 := addr_ac b
  rw [h1] at q1
  rw [h2] at q2
  have k1 := h1
  rw [addrB_cases.1] at k1
  have k2 := h2
  rw [addrB_cases.2] at k2
  rw [show lastB a b = false by unfold lastB; simp; omega]
  refine acallsK mixed Tryz.func120 rfl [0, 1, 2, 3, 4, 6, 51] 1000 ([.go, .t, .ix 0, .call [] false true (.bool true) [], .f, .f, .n 1, .go, .t, .ix 1, .call [] false true (.bool false) []]) [] [] (ob := [decide ((0 : Int) < (2 : Int)) = true,
 nat_lit 0 < (2 : Nat),
 (0 : Int) = (↑(nat_lit 0) : Int),
 _,
 decide ((0 : Int) > (0 : Int)) = false,
 decide ((0 : Int) > (0 : Int)) = false,
 IntKind.i64.wrap ((0 : Int) + (1 : Int)) = (1 : Int),
 decide ((1 : Int) < (2 : Int)) = true,
 nat_lit 1 < (2 : Nat),
 (1 : Int) = (↑(nat_lit 1) : Int),
 _]) (by kernel_rfl) ⟨rfl, rfl⟩ ⟨?z0, ?z1, ?z2, q1, ?z3, ?z4, ?z5, ?z6, ?z7, ?z8, q2, trivial⟩
  case z0|z1|z2|z3|z4|z5|z6|z7|z8 => first | exact rfl | (simp [h2] <;> omega) | omega | (omega)
theorem last_3 (a b : Int) (h1 : addrB a = true) (h2 : addrB b = true) (h3 : b = 18446744073709551615) (h4 : a = 18446744073709551615) : ACalls Tryz.prog 120 [.agg [.int .u64 a, .int .u64 b]] [] (.bool (lastB a b)) [] := by
  have q1 := addr_ac a
  have q2 := addr_ac b
  rw [h1] at q1
  rw [h2] at q2
  have k1 := h1
  rw [addrB_cases.1] at k1
  have k2 := h2
  rw [addrB_cases.1] at k2
  rw [show lastB a b = true by unfold lastB; simp; omega]
  refine acallsK mixed Tryz.func120 rfl [0, 1, 2, 3, 4, 6, 51] 1000 ([.go, .t, .ix 0, .call [] false true (.bool true) [], .f, .f, .n 1, .go, .t, .ix 1, .call [] false true (.bool true) [], .t, .ix 1, .f, .t, .n 0, .ix 0, .t, .ix 1, .f, .n 2, .go, .f]) [] [] (ob := [decide ((0 : Int) < (2 : Int)) = true,
 nat_lit 0 < (2 : Nat),
 (0 : Int) = (↑(nat_lit 0) : Int),
 _,
 decide ((0 : Int) > (0 : Int)) = false,
 decide ((0 : Int) > (0 : Int)) = false,
 IntKind.i64.wrap ((0 : Int) + (1 : Int)) = (1 : Int),
 decide ((1 : Int) < (2 : Int)) = true,
 nat_lit 1 < (2 : Nat),
 (1 : Int) = (↑(nat_lit 1) : Int),
 _,
 decide ((1 : Int) > (0 : Int)) = true,
 nat_lit 1 < (2 : Nat),
 (1 : Int) = (↑(nat_lit 1) : Int),
 (b != (18446744073709551615 : Int)) = false,
 decide ((1 : Int) > (0 : Int)) = true,
 IntKind.i64.wrap ((1 : Int) - (1 : Int)) = (0 : Int),
 nat_lit 0 < (2 : Nat),
 (0 : Int) = (↑(nat_lit 0) : Int),
 (a == (18446744073709551615 : Int)) = true,
 nat_lit 1 < (2 : Nat),
 (1 : Int) = (↑(nat_lit 1) : Int),
 (b != (18446744073709551615 : Int)) = false,
 IntKind.i64.wrap ((1 : Int) + (1 : Int)) = (2 : Int),
 decide ((2 : Int) < (2 : Int)) = false]) (by kernel_rfl) ⟨rfl, rfl⟩ ⟨?z0, ?z1, ?z2, q1, ?z3, ?z4, ?z5, ?z6, ?z7, ?z8, q2, ?z9, ?z10, ?z11, ?z12, ?z13, ?z14, ?z15, ?z16, ?z17, ?z18, ?z19, ?z20, ?z21, ?z22, trivial⟩
  case z0|z1|z2|z3|z4|z5|z6|z7|z8|z9|z10|z11|z12|z13|z14|z15|z16|z17|z18|z19|z20|z21|z22 => first | exact rfl | (simp [h3, h4] <;> omega) | omega | (omega)
theorem last_4 (a b : Int) (h1 : addrB a = true) (h2 : addrB b = true) (h3 : b = 18446744073709551615) (h4 : ¬ a = 18446744073709551615) : ACalls Tryz.prog 120 [.agg [.int .u64 a, .int .u64 b]] [] (.bool (lastB a b)) [] := by
  have q1 := addr_ac a
  have q2 := addr_ac b
  rw [h1] at q1
  rw [h2] at q2
  have k1 := h1
  rw [addrB_cases.1] at k1
  have k2 := h2
  rw [addrB_cases.1] at k2
  rw [show lastB a b = true by unfold lastB; simp; omega]
  refine acallsK mixed Tryz.func120 rfl [0, 1, 2, 3, 4, 6, 51] 1000 ([.go, .t, .ix 0, .call [] false true (.bool true) [], .f, .f, .n 1, .go, .t, .ix 1, .call [] false true (.bool true) [], .t, .ix 1, .f, .t, .n 0, .ix 0, .f, .n 2, .go, .f]) [] [] (ob := [decide ((0 : Int) < (2 : Int)) = true,
 nat_lit 0 < (2 : Nat),
 (0 : Int) = (↑(nat_lit 0) : Int),
 _,
 decide ((0 : Int) > (0 : Int)) = false,
 decide ((0 : Int) > (0 : Int)) = false,
 IntKind.i64.wrap ((0 : Int) + (1 : Int)) = (1 : Int),
 decide ((1 : Int) < (2 : Int)) = true,
 nat_lit 1 < (2 : Nat),
 (1 : Int) = (↑(nat_lit 1) : Int),
 _,
 decide ((1 : Int) > (0 : Int)) = true,
 nat_lit 1 < (2 : Nat),
 (1 : Int) = (↑(nat_lit 1) : Int),
 (b != (18446744073709551615 : Int)) = false,
 decide ((1 : Int) > (0 : Int)) = true,
 IntKind.i64.wrap ((1 : Int) - (1 : Int)) = (0 : Int),
 nat_lit 0 < (2 : Nat),
 (0 : Int) = (↑(nat_lit 0) : Int),
 (a == (18446744073709551615 : Int)) = false,
 IntKind.i64.wrap ((1 : Int) + (1 : Int)) = (2 : Int),
 decide ((2 : Int) < (2 : Int)) = false]) (by kernel_rfl) ⟨rfl, rfl⟩ ⟨?z0, ?z1, ?z2, q1, ?z3, ?z4, ?z5, ?z6, ?z7, ?z8, q2, ?z9, ?z10, ?z11, ?z12, ?z13, ?z14, ?z15, ?z16, ?z17, ?z18, ?z19, trivial⟩
  case z0|z1|z2|z3|z4|z5|z6|z7|z8|z9|z10|z11|z12|z13|z14|z15|z16|z17|z18|z19 => first | exact rfl | (simp [h3, h4] <;> omega) | omega | (omega)
theorem last_5 (a b : Int) (h1 : addrB a = true) (h2 : addrB b = true) (h3 : ¬ b = 18446744073709551615) (h4 : a ≤ b) : ACalls Tryz.prog 120 [.agg [.int .u64 a, .int .u64 b]] [] (.bool (lastB a b)) [] := by
  have q1 := addr_ac a
  have q2 := addr_ac b
  rw [h1] at q1
  rw [h2] at q2
  have k1 := h1
  rw [addrB_cases.1] at k1
  have k2 := h2
  rw [addrB_cases.1] at k2
  rw [show lastB a b = false by unfold lastB; simp; omega]
  refine acallsK mixed Tryz.func120 rfl [0, 1, 2, 3, 4, 6, 51] 1000 ([.go, .t, .ix 0, .call [] false true (.bool true) [], .f, .f, .n 1, .go, .t, .ix 1, .call [] false true (.bool true) [], .t, .ix 1, .t, .ix 1, .n 0, .ix 0, .t]) [] [] (ob := [decide ((0 : Int) < (2 : Int)) = true,
 nat_lit 0 < (2 : Nat),
 (0 : Int) = (↑(nat_lit 0) : Int),
 _,
 decide ((0 : Int) > (0 : Int)) = false,
 decide ((0 : Int) > (0 : Int)) = false,
 IntKind.i64.wrap ((0 : Int) + (1 : Int)) = (1 : Int),
 decide ((1 : Int) < (2 : Int)) = true,
 nat_lit 1 < (2 : Nat),
 (1 : Int) = (↑(nat_lit 1) : Int),
 _,
 decide ((1 : Int) > (0 : Int)) = true,
 nat_lit 1 < (2 : Nat),
 (1 : Int) = (↑(nat_lit 1) : Int),
 (b != (18446744073709551615 : Int)) = true,
 nat_lit 1 < (2 : Nat),
 (1 : Int) = (↑(nat_lit 1) : Int),
 IntKind.i64.wrap ((1 : Int) - (1 : Int)) = (0 : Int),
 nat_lit 0 < (2 : Nat),
 (0 : Int) = (↑(nat_lit 0) : Int),
 decide (b ≥ a) = true]) (by kernel_rfl) ⟨rfl, rfl⟩ ⟨?z0, ?z1, ?z2, q1, ?z3, ?z4, ?z5, ?z6, ?z7, ?z8, q2, ?z9, ?z10, ?z11, ?z12, ?z13, ?z14, ?z15, ?z16, ?z17, ?z18, trivial⟩
  case z0|z1|z2|z3|z4|z5|z6|z7|z8|z9|z10|z11|z12|z13|z14|z15|z16|z17|z18 => first | exact rfl | (simp [h3, h4] <;> omega) | omega | (omega)
theorem last_6 (a b : Int) (h1 : addrB a = true) (h2 : addrB b = true) (h3 : ¬ b = 18446744073709551615) (h4 : ¬ a ≤ b) (h5 : a = 18446744073709551615) : ACalls Tryz.prog 120 [.agg [.int .u64 a, .int .u64 b]] [] (.bool (lastB a b)) [] := by
  have q1 := addr_ac a
  have q2 := addr_ac b
  rw [h1] at q1
  rw [h2] at q2
  have k1 := h1
  rw [addrB_cases.1] at k1
  have k2 := h2
  rw [addrB_cases.1] at k2
  rw [show lastB a b = false by unfold lastB; simp; omega]
  refine acallsK mixed Tryz.func120 rfl [0, 1, 2, 3, 4, 6, 51] 1000 ([.go, .t, .ix 0, .call [] false true (.bool true) [], .f, .f, .n 1, .go, .t, .ix 1, .call [] false true (.bool true) [], .t, .ix 1, .t, .ix 1, .n 0, .ix 0, .f, .t, .n 0, .ix 0, .t, .ix 1, .t]) [] [] (ob := [decide ((0 : Int) < (2 : Int)) = true,
 nat_lit 0 < (2 : Nat),
 (0 : Int) = (↑(nat_lit 0) : Int),
 _,
 decide ((0 : Int) > (0 : Int)) = false,
 decide ((0 : Int) > (0 : Int)) = false,
 IntKind.i64.wrap ((0 : Int) + (1 : Int)) = (1 : Int),
 decide ((1 : Int) < (2 : Int)) = true,
 nat_lit 1 < (2 : Nat),
 (1 : Int) = (↑(nat_lit 1) : Int),
 _,
 decide ((1 : Int) > (0 : Int)) = true,
 nat_lit 1 < (2 : Nat),
 (1 : Int) = (↑(nat_lit 1) : Int),
 (b != (18446744073709551615 : Int)) = true,
 nat_lit 1 < (2 : Nat),
 (1 : Int) = (↑(nat_lit 1) : Int),
 IntKind.i64.wrap ((1 : Int) - (1 : Int)) = (0 : Int),
 nat_lit 0 < (2 : Nat),
 (0 : Int) = (↑(nat_lit 0) : Int),
 decide (b ≥ a) = false,
 decide ((1 : Int) > (0 : Int)) = true,
 IntKind.i64.wrap ((1 : Int) - (1 : Int)) = (0 : Int),
 nat_lit 0 < (2 : Nat),
 (0 : Int) = (↑(nat_lit 0) : Int),
 (a == (18446744073709551615 : Int)) = true,
 nat_lit 1 < (2 : Nat),
 (1 : Int) = (↑(nat_lit 1) : Int),
 (b != (18446744073709551615 : Int)) = true]) (by kernel_rfl) ⟨rfl, rfl⟩ ⟨?z0, ?z1, ?z2, q1, ?z3, ?z4, ?z5, ?z6, ?z7, ?z8, q2, ?z9, ?z10, ?z11, ?z12, ?z13, ?z14, ?z15, ?z16, ?z17, ?z18, ?z19, ?z20, ?z21, ?z22, ?z23, ?z24, ?z25, ?z26, trivial⟩
  case z0|z1|z2|z3|z4|z5|z6|z7|z8|z9|z10|z11|z12|z13|z14|z15|z16|z17|z18|z19|z20|z21|z22|z23|z24|z25|z26 => first | exact rfl | (simp [h3, h4, h5] <;> omega) | omega | (omega)
theorem last_7 (a b : Int) (h1 : addrB a = true) (h2 : addrB b = true) (h3 : ¬ b = 18446744073709551615) (h4 : ¬ a ≤ b) (h5 : ¬ a = 18446744073709551615) : ACalls Tryz.prog 120 [.agg [.int .u64 a, .int .u64 b]] [] (.bool (lastB a b)) [] := by
  have q1 := addr_ac a
  have q2 := addr_ac b
  rw [h1] at q1
  rw [h2] at q2
  have k1 := h1
  rw [addrB_cases.1] at k1
  have k2 := h2
  rw [addrB_cases.1] at k2
  rw [show lastB a b = true by unfold lastB; simp; omega]
  refine acallsK mixed Tryz.func120 rfl [0, 1, 2, 3, 4, 6, 51] 1000 ([.go, .t, .ix 0, .call [] false true (.bool true) [], .f, .f, .n 1, .go, .t, .ix 1, .call [] false true (.bool true) [], .t, .ix 1, .t, .ix 1, .n 0, .ix 0, .f, .t, .n 0, .ix 0, .f, .n 2, .go, .f]) [] [] (ob := [decide ((0 : Int) < (2 : Int)) = true,
 nat_lit 0 < (2 : Nat),
 (0 : Int) = (↑(nat_lit 0) : Int),
 _,
 decide ((0 : Int) > (0 : Int)) = false,
 decide ((0 : Int) > (0 : Int)) = false,
 IntKind.i64.wrap ((0 : Int) + (1 : Int)) = (1 : Int),
 decide ((1 : Int) < (2 : Int)) = true,
 nat_lit 1 < (2 : Nat),
 (1 : Int) = (↑(nat_lit 1) : Int),
 _,
 decide ((1 : Int) > (0 : Int)) = true,
 nat_lit 1 < (2 : Nat),
 (1 : Int) = (↑(nat_lit 1) : Int),
 (b != (18446744073709551615 : Int)) = true,
 nat_lit 1 < (2 : Nat),
 (1 : Int) = (↑(nat_lit 1) : Int),
 IntKind.i64.wrap ((1 : Int) - (1 : Int)) = (0 : Int),
 nat_lit 0 < (2 : Nat),
 (0 : Int) = (↑(nat_lit 0) : Int),
 decide (b ≥ a) = false,
 decide ((1 : Int) > (0 : Int)) = true,
 IntKind.i64.wrap ((1 : Int) - (1 : Int)) = (0 : Int),
 nat_lit 0 < (2 : Nat),
 (0 : Int) = (↑(nat_lit 0) : Int),
 (a == (18446744073709551615 : Int)) = false,
 IntKind.i64.wrap ((1 : Int) + (1 : Int)) = (2 : Int),
 decide ((2 : Int) < (2 : Int)) = false]) (by kernel_rfl) ⟨rfl, rfl⟩ ⟨?z0, ?z1, ?z2, q1, ?z3, ?z4, ?z5, ?z6, ?z7, ?z8, q2, ?z9, ?z10, ?z11, ?z12, ?z13, ?z14, ?z15, ?z16, ?z17, ?z18, ?z19, ?z20, ?z21, ?z22, ?z23, ?z24, ?z25, trivial⟩
  case z0|z1|z2|z3|z4|z5|z6|z7|z8|z9|z10|z11|z12|z13|z14|z15|z16|z17|z18|z19|z20|z21|z22|z23|z24|z25 => first | exact rfl | (simp [h3, h4, h5] <;> omega) | omega | (omega)
theorem lastR_ac (a b : Int) : ACalls Tryz.prog 120 [.agg [.int .u64 a, .int .u64 b]] [] (.bool (lastB a b)) [] := by
  cases h1 : addrB a with
  | false => exact last_1 a b h1
  | true =>
    cases h2 : addrB b with
    | false => exact last_2 a b h1 h2
    | true =>
      by_cases h3 : b = 18446744073709551615
      · by_cases h4 : a = 18446744073709551615
        · exact last_3 a b h1 h2 h3 h4
        · exact last_4 a b h1 h2 h3 h4
      · by_cases h4 : a ≤ b
        · exact last_5 a b h1 h2 h3 h4
        · by_cases h5 : a = 18446744073709551615
          · exact last_6 a b h1 h2 h3 h4 h5
          · exact last_7 a b h1 h2 h3 h4 h5
end Go.Proofs.YtidgcfgkcidkiaaGreat.Ch
namespace Go.Proofs.YtidgcfgkcidkiaaGreat.Ch
open Go Go.RowKit Go.Proofs.YtidgcfgkcidkiaaGreat.L Go.Proofs.YtidgcfgkcidkiaaGreat.X
set_option linter.unusedVariables false
set_option linter.unusedSimpArgs false
def Prev {α : Type} (key : α → Int) (l : List α) (k : Nat) (v : Int) : Prop := -1 ≤ v ∧ ((k = 0 ∧ v = -1) ∨ ∃ j p, k = j + 1 ∧ l[j]? = some p ∧ key p = v)
theorem wrap_pred {j : Nat} (h : j < 1000000000001) : IntKind.i64.wrap (((j + 1 : Nat) : Int) - 1) = (j : Int) := by
  have := wrap_i (x := (j : Int)) (by omega) (by omega)
  rw [show (((j + 1 : Nat) : Int) - 1) = (j : Int) by omega]
  exact this

theorem backs7_loop (l : List BackD) (hb : l.length ≤ 1000000000000) : ∀ (n k : Nat) (v : Int), l.length = k + n → Prev BackD.s l k v →
    (scanB v (l.drop k) = false → ALoop Tryz.prog 0 Tryz.f84.ntmps (loopB Tryz.f84 0) ⟨[(3, .int .i64 k), (0, .lst 3 (l.map encB))], []⟩ (.exit 0) ⟨[(0, .lst 3 (l.map encB))], []⟩) ∧ (scanB v (l.drop k) = true → ALoop Tryz.prog 0 Tryz.f84.ntmps (loopB Tryz.f84 0) ⟨[(3, .int .i64 k), (0, .lst 3 (l.map encB))], []⟩ .ret ⟨[(2, .bool false)], []⟩)
  | 0, k, v, h, hp => by
    refine ⟨fun _ => ?_, fun hq => ?_⟩
    · refine aloopK mixed [0, 2, 3, 4, 8, 52] 1000 ([.go, .n l.length, .f]) [0] [] (S1 := { env := [(0, .lst 3 (List.map encB l))], objs := [] }) (ob := [((List.map encB l).length : Int) = (l.length : Int),
 decide ((↑k : Int) < (l.length : Int)) = false]) (by kernel_rfl) (by first | exact rfl | exact ⟨rfl, rfl⟩ | (simp []; done)) ⟨?z0, ?z1, trivial⟩
      case z0|z1 => first | exact rfl | (simp [] <;> omega) | omega
    · rw [List.drop_of_length_le (by omega)] at hq; cases hq
  | n + 1, k, v, h, hp => by
    obtain ⟨x, hx⟩ := get_of (l := l) (k := k) (by omega)
    have hk : k < l.length := by omega
    have hw : IntKind.i64.wrap ((k : Int) + 1) = ((k + 1 : Nat) : Int) := wrap64 (by omega)
    obtain ⟨hv, hp⟩ := hp
    rw [drop_of hx]
    have q := lastR_ac x.a x.b
    cases h1 : lastB x.a x.b with
    | false =>
      rw [h1] at q
      have hbad : badB v x = true := by simp [badB, h1] <;> omega
      refine ⟨fun hq => (by simp [scanB, hbad] at hq), fun _ => ?_⟩
      refine aloopK mixed [0, 2, 3, 4, 8, 52] 1000 ([.go, .n l.length, .t, .ix k, .el (encB x), .call [] false true (.bool false) []]) [2] [] (S1 := { env := [(2, .bool false)], objs := [] }) (ob := [((List.map encB l).length : Int) = (l.length : Int),
 decide ((↑k : Int) < (l.length : Int)) = true,
 k < List.length (List.map encB l),
 (↑k : Int) = (↑k : Int),
 (List.map encB l)[k]? = some (.agg [.int .i64 x.s, .int .u64 x.a, .int .u64 x.b]),
 ACalls Tryz.prog 120 [.agg [.int .u64 x.a, .int .u64 x.b]] [] (.bool false) []]) (by kernel_rfl) (by first | exact rfl | exact ⟨rfl, rfl⟩ | (simp [hx, hw, encB, h1]; done) | (first | exact hx | exact hpj | omega | exact wrap_pred (by omega))) ⟨?z2, ?z3, ?z4, ?z5, ?z6, ?q31_1, trivial⟩
      case z2|z3|z4|z5|z6 => first | exact rfl | (simp [hx, hw, encB, h1] <;> omega) | omega | (first | exact hx | exact hpj | omega | exact wrap_pred (by omega))
      · exact q
    | true =>
      rw [h1] at q
      by_cases h2 : x.s < 0
      · skip
        have hbad : badB v x = true := by simp [badB, h1, h2] <;> omega
        refine ⟨fun hq => (by simp [scanB, hbad] at hq), fun _ => ?_⟩
        refine aloopK mixed [0, 2, 3, 4, 8, 52] 1000 ([.go, .n l.length, .t, .ix k, .el (encB x), .call [] false true (.bool true) [], .ix k, .el (encB x), .t]) [2] [] (S1 := { env := [(2, .bool false)], objs := [] }) (ob := [((List.map encB l).length : Int) = (l.length : Int),
 decide ((↑k : Int) < (l.length : Int)) = true,
 k < List.length (List.map encB l),
 (↑k : Int) = (↑k : Int),
 (List.map encB l)[k]? = some (.agg [.int .i64 x.s, .int .u64 x.a, .int .u64 x.b]),
 ACalls Tryz.prog 120 [.agg [.int .u64 x.a, .int .u64 x.b]] [] (.bool true) [],
 k < List.length (List.map encB l),
 (↑k : Int) = (↑k : Int),
 (List.map encB l)[k]? = some (.agg [.int .i64 x.s, .int .u64 x.a, .int .u64 x.b]),
 decide (x.s < (0 : Int)) = true]) (by kernel_rfl) (by first | exact rfl | exact ⟨rfl, rfl⟩ | (simp [hx, hw, encB, h1, h2]; done) | (first | exact hx | exact hpj | omega | exact wrap_pred (by omega))) ⟨?z7, ?z8, ?z9, ?z10, ?z11, ?q39_1, ?z12, ?z13, ?z14, ?z15, trivial⟩
        case z7|z8|z9|z10|z11|z12|z13|z14|z15 => first | exact rfl | (simp [hx, hw, encB, h1, h2] <;> omega) | omega | (first | exact hx | exact hpj | omega | exact wrap_pred (by omega))
        · exact q
      · skip
        by_cases h3 : 16 ≤ x.s
        · skip
          have hbad : badB v x = true := by simp [badB, h1, h2, h3] <;> omega
          refine ⟨fun hq => (by simp [scanB, hbad] at hq), fun _ => ?_⟩
          refine aloopK mixed [0, 2, 3, 4, 8, 52] 1000 ([.go, .n l.length, .t, .ix k, .el (encB x), .call [] false true (.bool true) [], .ix k, .el (encB x), .f, .ix k, .el (encB x), .t]) [2] [] (S1 := { env := [(2, .bool false)], objs := [] }) (ob := [((List.map encB l).length : Int) = (l.length : Int),
 decide ((↑k : Int) < (l.length : Int)) = true,
 k < List.length (List.map encB l),
 (↑k : Int) = (↑k : Int),
 (List.map encB l)[k]? = some (.agg [.int .i64 x.s, .int .u64 x.a, .int .u64 x.b]),
 ACalls Tryz.prog 120 [.agg [.int .u64 x.a, .int .u64 x.b]] [] (.bool true) [],
 k < List.length (List.map encB l),
 (↑k : Int) = (↑k : Int),
 (List.map encB l)[k]? = some (.agg [.int .i64 x.s, .int .u64 x.a, .int .u64 x.b]),
 decide (x.s < (0 : Int)) = false,
 k < List.length (List.map encB l),
 (↑k : Int) = (↑k : Int),
 (List.map encB l)[k]? = some (.agg [.int .i64 x.s, .int .u64 x.a, .int .u64 x.b]),
 decide (x.s ≥ (16 : Int)) = true]) (by kernel_rfl) (by first | exact rfl | exact ⟨rfl, rfl⟩ | (simp [hx, hw, encB, h1, h2, h3]; done) | (first | exact hx | exact hpj | omega | exact wrap_pred (by omega))) ⟨?z16, ?z17, ?z18, ?z19, ?z20, ?q46_1, ?z21, ?z22, ?z23, ?z24, ?z25, ?z26, ?z27, ?z28, trivial⟩
          case z16|z17|z18|z19|z20|z21|z22|z23|z24|z25|z26|z27|z28 => first | exact rfl | (simp [hx, hw, encB, h1, h2, h3] <;> omega) | omega | (first | exact hx | exact hpj | omega | exact wrap_pred (by omega))
          · exact q
        · skip
          rcases hp with ⟨hk0, hv0⟩ | ⟨j, p, hkj, hpj, hpv⟩
          · have hg : decide ((k : Int) > 0) = false := by simp [hk0]
            have hbad : badB v x = false := by simp [badB, h1, h2, h3, hv0] <;> omega
            have ih := backs7_loop l hb n (k + 1) x.s (by omega) ⟨by omega, .inr ⟨k, x, rfl, hx, rfl⟩⟩
            have hsc : scanB v (x :: l.drop (k + 1)) = scanB x.s (l.drop (k + 1)) := by simp [scanB, hbad]
            rw [hsc]
            refine ⟨fun hq => ?_, fun hq => ?_⟩
            · have ih := ih.1 hq
              refine aloopK mixed [0, 2, 3, 4, 8, 52] 1000 ([.go, .n l.length, .t, .ix k, .el (encB x), .call [] false true (.bool true) [], .ix k, .el (encB x), .f, .ix k, .el (encB x), .f, .f, .n ((k + 1 : Nat) : Int), .lp [3, 0] [] (.exit 0) ⟨[(0, .lst 3 (l.map encB))], []⟩]) [0] [] (S1 := { env := [(0, .lst 3 (List.map encB l))], objs := [] }) (ob := [((List.map encB l).length : Int) = (l.length : Int),
 decide ((↑k : Int) < (l.length : Int)) = true,
 k < List.length (List.map encB l),
 (↑k : Int) = (↑k : Int),
 (List.map encB l)[k]? = some (.agg [.int .i64 x.s, .int .u64 x.a, .int .u64 x.b]),
 ACalls Tryz.prog 120 [.agg [.int .u64 x.a, .int .u64 x.b]] [] (.bool true) [],
 k < List.length (List.map encB l),
 (↑k : Int) = (↑k : Int),
 (List.map encB l)[k]? = some (.agg [.int .i64 x.s, .int .u64 x.a, .int .u64 x.b]),
 decide (x.s < (0 : Int)) = false,
 k < List.length (List.map encB l),
 (↑k : Int) = (↑k : Int),
 (List.map encB l)[k]? = some (.agg [.int .i64 x.s, .int .u64 x.a, .int .u64 x.b]),
 decide (x.s ≥ (16 : Int)) = false,
 decide ((↑k : Int) > (0 : Int)) = false,
 IntKind.i64.wrap ((↑k : Int) + (1 : Int)) = (↑(k + (1 : Nat)) : Int),
 ALoop Tryz.prog 0 56 (loopB Tryz.f84 0) { env := [(3, .int .i64 (↑(k + 1) : Int)), (0, .lst 3 (List.map encB l))], objs := [] } (Ex.exit 0) { env := [(0, .lst 3 (List.map encB l))], objs := [] }]) (by kernel_rfl) (by first | exact rfl | exact ⟨rfl, rfl⟩ | (simp [hx, hw, encB, h1, h2, h3, hv0]; done) | (first | exact hx | exact hpj | exact hw | exact hg | omega | exact wrap_pred (by omega))) ⟨?z29, ?z30, ?z31, ?z32, ?z33, ?q57_1, ?z34, ?z35, ?z36, ?z37, ?z38, ?z39, ?z40, ?z41, ?z42, ?z43, ?q57_2, trivial⟩
              case z29|z30|z31|z32|z33|z34|z35|z36|z37|z38|z39|z40|z41|z42|z43 => first | exact rfl | (simp [hx, hw, encB, h1, h2, h3, hv0] <;> omega) | omega | (first | exact hx | exact hpj | exact hw | exact hg | omega | exact wrap_pred (by omega))
              · exact q
              · exact ih
            · have ih := ih.2 hq
              refine aloopK mixed [0, 2, 3, 4, 8, 52] 1000 ([.go, .n l.length, .t, .ix k, .el (encB x), .call [] false true (.bool true) [], .ix k, .el (encB x), .f, .ix k, .el (encB x), .f, .f, .n ((k + 1 : Nat) : Int), .lp [3, 0] [] .ret ⟨[(2, .bool false)], []⟩]) [2] [] (S1 := { env := [(2, .bool false)], objs := [] }) (ob := [((List.map encB l).length : Int) = (l.length : Int),
 decide ((↑k : Int) < (l.length : Int)) = true,
 k < List.length (List.map encB l),
 (↑k : Int) = (↑k : Int),
 (List.map encB l)[k]? = some (.agg [.int .i64 x.s, .int .u64 x.a, .int .u64 x.b]),
 ACalls Tryz.prog 120 [.agg [.int .u64 x.a, .int .u64 x.b]] [] (.bool true) [],
 k < List.length (List.map encB l),
 (↑k : Int) = (↑k : Int),
 (List.map encB l)[k]? = some (.agg [.int .i64 x.s, .int .u64 x.a, .int .u64 x.b]),
 decide (x.s < (0 : Int)) = false,
 k < List.length (List.map encB l),
 (↑k : Int) = (↑k : Int),
 (List.map encB l)[k]? = some (.agg [.int .i64 x.s, .int .u64 x.a, .int .u64 x.b]),
 decide (x.s ≥ (16 : Int)) = false,
 decide ((↑k : Int) > (0 : Int)) = false,
 IntKind.i64.wrap ((↑k : Int) + (1 : Int)) = (↑(k + (1 : Nat)) : Int),
 ALoop Tryz.prog 0 56 (loopB Tryz.f84 0) { env := [(3, .int .i64 (↑(k + 1) : Int)), (0, .lst 3 (List.map encB l))], objs := [] } Ex.ret { env := [(2, .bool false)], objs := [] }]) (by kernel_rfl) (by first | exact rfl | exact ⟨rfl, rfl⟩ | (simp [hx, hw, encB, h1, h2, h3, hv0]; done) | (first | exact hx | exact hpj | exact hw | exact hg | omega | exact wrap_pred (by omega))) ⟨?z44, ?z45, ?z46, ?z47, ?z48, ?q61_1, ?z49, ?z50, ?z51, ?z52, ?z53, ?z54, ?z55, ?z56, ?z57, ?z58, ?q61_2, trivial⟩
              case z44|z45|z46|z47|z48|z49|z50|z51|z52|z53|z54|z55|z56|z57|z58 => first | exact rfl | (simp [hx, hw, encB, h1, h2, h3, hv0] <;> omega) | omega | (first | exact hx | exact hpj | exact hw | exact hg | omega | exact wrap_pred (by omega))
              · exact q
              · exact ih
          · subst hkj
            have hpv : p.s = v := hpv
            subst hpv
            by_cases h9 : x.s ≤ p.s
            · skip
              have hbad : badB p.s x = true := by simp [badB, h1, h2, h3, h9, hpj] <;> omega
              refine ⟨fun hq => (by simp [scanB, hbad] at hq), fun _ => ?_⟩
              refine aloopK mixed [0, 2, 3, 4, 8, 52] 1000 ([.go, .n l.length, .t, .ix (j + 1), .el (encB x), .call [] false true (.bool true) [], .ix (j + 1), .el (encB x), .f, .ix (j + 1), .el (encB x), .f, .t, .ix (j + 1), .el (encB x), .n (j : Int), .ix j, .el (encB p), .t]) [2] [] (S1 := { env := [(2, .bool false)], objs := [] }) (ob := [((List.map encB l).length : Int) = (l.length : Int),
 decide ((↑(j + (1 : Nat)) : Int) < (l.length : Int)) = true,
 j + (1 : Nat) < List.length (List.map encB l),
 (↑(j + (1 : Nat)) : Int) = (↑(j + (1 : Nat)) : Int),
 (List.map encB l)[j + (1 : Nat)]? = some (.agg [.int .i64 x.s, .int .u64 x.a, .int .u64 x.b]),
 ACalls Tryz.prog 120 [.agg [.int .u64 x.a, .int .u64 x.b]] [] (.bool true) [],
 j + (1 : Nat) < List.length (List.map encB l),
 (↑(j + (1 : Nat)) : Int) = (↑(j + (1 : Nat)) : Int),
 (List.map encB l)[j + (1 : Nat)]? = some (.agg [.int .i64 x.s, .int .u64 x.a, .int .u64 x.b]),
 decide (x.s < (0 : Int)) = false,
 j + (1 : Nat) < List.length (List.map encB l),
 (↑(j + (1 : Nat)) : Int) = (↑(j + (1 : Nat)) : Int),
 (List.map encB l)[j + (1 : Nat)]? = some (.agg [.int .i64 x.s, .int .u64 x.a, .int .u64 x.b]),
 decide (x.s ≥ (16 : Int)) = false,
 decide ((↑(j + (1 : Nat)) : Int) > (0 : Int)) = true,
 j + (1 : Nat) < List.length (List.map encB l),
 (↑(j + (1 : Nat)) : Int) = (↑(j + (1 : Nat)) : Int),
 (List.map encB l)[j + (1 : Nat)]? = some (.agg [.int .i64 x.s, .int .u64 x.a, .int .u64 x.b]),
 IntKind.i64.wrap ((↑(j + (1 : Nat)) : Int) - (1 : Int)) = (↑j : Int),
 j < List.length (List.map encB l),
 (↑j : Int) = (↑j : Int),
 (List.map encB l)[j]? = some (.agg [.int .i64 p.s, .int .u64 p.a, .int .u64 p.b]),
 decide (x.s ≤ p.s) = true]) (by kernel_rfl) (by first | exact rfl | exact ⟨rfl, rfl⟩ | (simp [hx, hw, encB, h1, h2, h3, h9, hpj]; done) | (first | exact hx | exact hpj | omega | exact wrap_pred (by omega))) ⟨?z59, ?z60, ?z61, ?z62, ?z63, ?q71_1, ?z64, ?z65, ?z66, ?z67, ?z68, ?z69, ?z70, ?z71, ?z72, ?z73, ?z74, ?z75, ?z76, ?z77, ?z78, ?z79, ?z80, trivial⟩
              case z59|z60|z61|z62|z63|z64|z65|z66|z67|z68|z69|z70|z71|z72|z73|z74|z75|z76|z77|z78|z79|z80 => first | exact rfl | (simp [hx, hw, encB, h1, h2, h3, h9, hpj] <;> omega) | omega | (first | exact hx | exact hpj | omega | exact wrap_pred (by omega))
              · exact q
            · skip
              have hbad : badB p.s x = false := by simp [badB, h1, h2, h3, h9, hpj] <;> omega
              have ih := backs7_loop l hb n (j + 1 + 1) x.s (by omega) ⟨by omega, .inr ⟨j + 1, x, rfl, hx, rfl⟩⟩
              have hsc : scanB p.s (x :: l.drop (j + 1 + 1)) = scanB x.s (l.drop (j + 1 + 1)) := by simp [scanB, hbad]
              rw [hsc]
              refine ⟨fun hq => ?_, fun hq => ?_⟩
              · have ih := ih.1 hq
                refine aloopK mixed [0, 2, 3, 4, 8, 52] 1000 ([.go, .n l.length, .t, .ix (j + 1), .el (encB x), .call [] false true (.bool true) [], .ix (j + 1), .el (encB x), .f, .ix (j + 1), .el (encB x), .f, .t, .ix (j + 1), .el (encB x), .n (j : Int), .ix j, .el (encB p), .f, .n ((j + 1 + 1 : Nat) : Int), .lp [3, 0] [] (.exit 0) ⟨[(0, .lst 3 (l.map encB))], []⟩]) [0] [] (S1 := { env := [(0, .lst 3 (List.map encB l))], objs := [] }) (ob := [((List.map encB l).length : Int) = (l.length : Int),
 decide ((↑(j + (1 : Nat)) : Int) < (l.length : Int)) = true,
 j + (1 : Nat) < List.length (List.map encB l),
 (↑(j + (1 : Nat)) : Int) = (↑(j + (1 : Nat)) : Int),
 (List.map encB l)[j + (1 : Nat)]? = some (.agg [.int .i64 x.s, .int .u64 x.a, .int .u64 x.b]),
 ACalls Tryz.prog 120 [.agg [.int .u64 x.a, .int .u64 x.b]] [] (.bool true) [],
 j + (1 : Nat) < List.length (List.map encB l),
 (↑(j + (1 : Nat)) : Int) = (↑(j + (1 : Nat)) : Int),
 (List.map encB l)[j + (1 : Nat)]? = some (.agg [.int .i64 x.s, .int .u64 x.a, .int .u64 x.b]),
 decide (x.s < (0 : Int)) = false,
 j + (1 : Nat) < List.length (List.map encB l),
 (↑(j + (1 : Nat)) : Int) = (↑(j + (1 : Nat)) : Int),
 (List.map encB l)[j + (1 : Nat)]? = some (.agg [.int .i64 x.s, .int .u64 x.a, .int .u64 x.b]),
 decide (x.s ≥ (16 : Int)) = false,
 decide ((↑(j + (1 : Nat)) : Int) > (0 : Int)) = true,
 j + (1 : Nat) < List.length (List.map encB l),
 (↑(j + (1 : Nat)) : Int) = (↑(j + (1 : Nat)) : Int),
 (List.map encB l)[j + (1 : Nat)]? = some (.agg [.int .i64 x.s, .int .u64 x.a, .int .u64 x.b]),
 IntKind.i64.wrap ((↑(j + (1 : Nat)) : Int) - (1 : Int)) = (↑j : Int),
 j < List.length (List.map encB l),
 (↑j : Int) = (↑j : Int),
 (List.map encB l)[j]? = some (.agg [.int .i64 p.s, .int .u64 p.a, .int .u64 p.b]),
 decide (x.s ≤ p.s) = false,
 IntKind.i64.wrap ((↑(j + (1 : Nat)) : Int) + (1 : Int)) = (↑(j + (1 : Nat) + (1 : Nat)) : Int),
 ALoop Tryz.prog 0 56 (loopB Tryz.f84 0) { env := [(3, .int .i64 (↑(j + 1 + 1) : Int)), (0, .lst 3 (List.map encB l))], objs := [] } (Ex.exit 0) { env := [(0, .lst 3 (List.map encB l))], objs := [] }]) (by kernel_rfl) (by first | exact rfl | exact ⟨rfl, rfl⟩ | (simp [hx, hw, encB, h1, h2, h3, h9, hpj]; done) | (first | exact hx | exact hpj | exact hw | exact hg | omega | exact wrap_pred (by omega))) ⟨?z81, ?z82, ?z83, ?z84, ?z85, ?q80_1, ?z86, ?z87, ?z88, ?z89, ?z90, ?z91, ?z92, ?z93, ?z94, ?z95, ?z96, ?z97, ?z98, ?z99, ?z100, ?z101, ?z102, ?z103, ?q80_2, trivial⟩
                case z81|z82|z83|z84|z85|z86|z87|z88|z89|z90|z91|z92|z93|z94|z95|z96|z97|z98|z99|z100|z101|z102|z103 => first | exact rfl | (simp [hx, hw, encB, h1, h2, h3, h9, hpj] <;> omega) | omega | (first | exact hx | exact hpj | exact hw | exact hg | omega | exact wrap_pred (by omega))
                · exact q
                · exact ih
              · have ih := ih.2 hq
                refine aloopK mixed [0, 2, 3, 4, 8, 52] 1000 ([.go, .n l.length, .t, .ix (j + 1), .el (encB x), .call [] false true (.bool true) [], .ix (j + 1), .el (encB x), .f, .ix (j + 1), .el (encB x), .f, .t, .ix (j + 1), .el (encB x), .n (j : Int), .ix j, .el (encB p), .f, .n ((j + 1 + 1 : Nat) : Int), .lp [3, 0] [] .ret ⟨[(2, .bool false)], []⟩]) [2] [] (S1 := { env := [(2, .bool false)], objs := [] }) (ob := [((List.map encB l).length : Int) = (l.length : Int),
 decide ((↑(j + (1 : Nat)) : Int) < (l.length : Int)) = true,
 j + (1 : Nat) < List.length (List.map encB l),
 (↑(j + (1 : Nat)) : Int) = (↑(j + (1 : Nat)) : Int),
 (List.map encB l)[j + (1 : Nat)]? = some (.agg [.int .i64 x.s, .int .u64 x.a, .int .u64 x.b]),
 ACalls Tryz.prog 120 [.agg [.int .u64 x.a, .int .u64 x.b]] [] (.bool true) [],
 j + (1 : Nat) < List.length (List.map encB l),
 (↑(j + (1 : Nat)) : Int) = (↑(j + (1 : Nat)) : Int),
 (List.map encB l)[j + (1 : Nat)]? = some (.agg [.int .i64 x.s, .int .u64 x.a, .int .u64 x.b]),
 decide (x.s < (0 : Int)) = false,
 j + (1 : Nat) < List.length (List.map encB l),
 (↑(j + (1 : Nat)) : Int) = (↑(j + (1 : Nat)) : Int),
 (List.map encB l)[j + (1 : Nat)]? = some (.agg [.int .i64 x.s, .int .u64 x.a, .int .u64 x.b]),
 decide (x.s ≥ (16 : Int)) = false,
 decide ((↑(j + (1 : Nat)) : Int) > (0 : Int)) = true,
 j + (1 : Nat) < List.length (List.map encB l),
 (↑(j + (1 : Nat)) : Int) = (↑(j + (1 : Nat)) : Int),
 (List.map encB l)[j + (1 : Nat)]? = some (.agg [.int .i64 x.s, .int .u64 x.a, .int .u64 x.b]),
 IntKind.i64.wrap ((↑(j + (1 : Nat)) : Int) - (1 : Int)) = (↑j : Int),
 j < List.length (List.map encB l),
 (↑j : Int) = (↑j : Int),
 (List.map encB l)[j]? = some (.agg [.int .i64 p.s, .int .u64 p.a, .int .u64 p.b]),
 decide (x.s ≤ p.s) = false,
 IntKind.i64.wrap ((↑(j + (1 : Nat)) : Int) + (1 : Int)) = (↑(j + (1 : Nat) + (1 : Nat)) : Int),
 ALoop Tryz.prog 0 56 (loopB Tryz.f84 0) { env := [(3, .int .i64 (↑(j + 1 + 1) : Int)), (0, .lst 3 (List.map encB l))], objs := [] } Ex.ret { env := [(2, .bool false)], objs := [] }]) (by kernel_rfl) (by first | exact rfl | exact ⟨rfl, rfl⟩ | (simp [hx, hw, encB, h1, h2, h3, h9, hpj]; done) | (first | exact hx | exact hpj | exact hw | exact hg | omega | exact wrap_pred (by omega))) ⟨?z104, ?z105, ?z106, ?z107, ?z108, ?q84_1, ?z109, ?z110, ?z111, ?z112, ?z113, ?z114, ?z115, ?z116, ?z117, ?z118, ?z119, ?z120, ?z121, ?z122, ?z123, ?z124, ?z125, ?z126, ?q84_2, trivial⟩
                case z104|z105|z106|z107|z108|z109|z110|z111|z112|z113|z114|z115|z116|z117|z118|z119|z120|z121|z122|z123|z124|z125|z126 => first | exact rfl | (simp [hx, hw, encB, h1, h2, h3, h9, hpj] <;> omega) | omega | (first | exact hx | exact hpj | exact hw | exact hg | omega | exact wrap_pred (by omega))
                · exact q
                · exact ih
def backs7B (l : List BackD) : Bool := !scanB (-1) l && decide ((l.length : Int) ≤ 4)
theorem backs7_ac (l : List BackD) (hb : l.length ≤ 1000000000000) : ACalls Tryz.prog 84 [.lst 3 (l.map encB)] [] (.bool (backs7B l)) [] := by
  have h := backs7_loop l hb l.length 0 (-1) (by omega) ⟨by omega, .inl ⟨rfl, rfl⟩⟩
  rw [List.drop_zero] at h
  unfold backs7B
  cases hs : scanB (-1) l with
  | false =>
    have h := h.1 hs
    rw [Bool.not_false, Bool.true_and]
    refine acallsK mixed Tryz.func84 rfl [0, 2, 3, 4, 8, 52] 1000 ([.lp [3, 0] [] (.exit 0) ⟨[(0, .lst 3 (l.map encB))], []⟩, .n l.length, .k]) [] [] (ob := [_,
 ((List.map encB l).length : Int) = (l.length : Int)]) (by kernel_rfl) ⟨rfl, rfl⟩ ⟨h, (by first | exact rfl | (simp []; done) | (simp []; omega) | omega), trivial⟩
  | true =>
    have h := h.2 hs
    refine acallsK mixed Tryz.func84 rfl [0, 2, 3, 4, 8, 52] 1000 ([.lp [3, 0] [] .ret ⟨[(2, .bool false)], []⟩]) [] [] (ob := [_]) (by kernel_rfl) ⟨rfl, rfl⟩ ⟨h, trivial⟩
theorem rightR7 (c : CellD) (hb : c.backs.length ≤ 1000000000000) : ACalls Tryz.prog 47 [encC c] [] (.bool (rightC c)) [] := by
  have q := backs7_ac c.backs hb
  by_cases h1 : c.kind = 2
  · by_cases h2 : c.data.length = 0
    · by_cases h3 : c.backs.length = 0
      · rw [show rightC c = true by simp only [rightC, h1, h2, h3]; rfl]
        refine acallsK mixed Tryz.func47 rfl [0, 1, 2, 3, 8, 9, 18] 1000 ([.call [] false true (.bool (backs7B c.backs)) [], .f, .t, .n c.data.length, .t, .n c.backs.length, .t]) [] [] (ob := [_,
 (c.kind == (1 : Int)) = false,
 (c.kind == (2 : Int)) = true,
 ((List.map byteA c.data).length : Int) = (c.data.length : Int),
 ((c.data.length : Int) == (0 : Int)) = true,
 ((List.map encB c.backs).length : Int) = (c.backs.length : Int),
 ((c.backs.length : Int) == (0 : Int)) = true]) (by kernel_rfl) ⟨rfl, rfl⟩ ⟨q, ?z0, ?z1, ?z2, ?z3, ?z4, ?z5, trivial⟩
        case z0|z1|z2|z3|z4|z5 => first | exact rfl | (simp [encC, celC, h1, h2, h3] <;> omega) | omega
      · rw [show rightC c = false by simp only [rightC, h1, h2, h3]; rfl]
        refine acallsK mixed Tryz.func47 rfl [0, 1, 2, 3, 8, 9, 18] 1000 ([.call [] false true (.bool (backs7B c.backs)) [], .f, .t, .n c.data.length, .t, .n c.backs.length, .f]) [] [] (ob := [_,
 (c.kind == (1 : Int)) = false,
 (c.kind == (2 : Int)) = true,
 ((List.map byteA c.data).length : Int) = (c.data.length : Int),
 ((c.data.length : Int) == (0 : Int)) = true,
 ((List.map encB c.backs).length : Int) = (c.backs.length : Int),
 ((c.backs.length : Int) == (0 : Int)) = false]) (by kernel_rfl) ⟨rfl, rfl⟩ ⟨q, ?z6, ?z7, ?z8, ?z9, ?z10, ?z11, trivial⟩
        case z6|z7|z8|z9|z10|z11 => first | exact rfl | (simp [encC, celC, h1, h2, h3] <;> omega) | omega | (omega)
    · rw [show rightC c = false by simp only [rightC, h1, h2]; rfl]
      refine acallsK mixed Tryz.func47 rfl [0, 1, 2, 3, 8, 9, 18] 1000 ([.call [] false true (.bool (backs7B c.backs)) [], .f, .t, .n c.data.length, .f]) [] [] (ob := [_,
 (c.kind == (1 : Int)) = false,
 (c.kind == (2 : Int)) = true,
 ((List.map byteA c.data).length : Int) = (c.data.length : Int),
 ((c.data.length : Int) == (0 : Int)) = false]) (by kernel_rfl) ⟨rfl, rfl⟩ ⟨q, ?z12, ?z13, ?z14, ?z15, trivial⟩
      case z12|z13|z14|z15 => first | exact rfl | (simp [encC, celC, h1, h2] <;> omega) | omega | (omega)
  · by_cases h2 : c.kind = 1
    · by_cases h3 : c.data.length ≤ 100
      · rw [show rightC c = backs7B c.backs by unfold rightC backs7B; rw [if_neg h1]; by_cases h4 : c.backs.length ≤ 4 <;> simp [h2, h3, h4] <;> (intros; omega)]
        refine acallsK mixed Tryz.func47 rfl [0, 1, 2, 3, 8, 9, 18] 1000 ([.call [] false true (.bool (backs7B c.backs)) [], .t, .n c.data.length, .t]) [] [] (ob := [_,
 (c.kind == (1 : Int)) = true,
 ((List.map byteA c.data).length : Int) = (c.data.length : Int),
 decide ((c.data.length : Int) ≤ (100 : Int)) = true]) (by kernel_rfl) ⟨rfl, rfl⟩ ⟨q, ?z16, ?z17, ?z18, trivial⟩
        case z16|z17|z18 => first | exact rfl | (simp [encC, celC, h1, h2, h3] <;> omega) | omega | (omega)
      · rw [show rightC c = false by unfold rightC; rw [if_neg h1, if_neg (fun h => h3 h.2.1)]]
        refine acallsK mixed Tryz.func47 rfl [0, 1, 2, 3, 8, 9, 18] 1000 ([.call [] false true (.bool (backs7B c.backs)) [], .t, .n c.data.length, .f]) [] [] (ob := [_,
 (c.kind == (1 : Int)) = true,
 ((List.map byteA c.data).length : Int) = (c.data.length : Int),
 decide ((c.data.length : Int) ≤ (100 : Int)) = false]) (by kernel_rfl) ⟨rfl, rfl⟩ ⟨q, ?z19, ?z20, ?z21, trivial⟩
        case z19|z20|z21 => first | exact rfl | (simp [encC, celC, h1, h2, h3] <;> omega) | omega | (omega)
    · rw [show rightC c = false by unfold rightC; rw [if_neg h1, if_neg (fun h => h2 h.1)]]
      refine acallsK mixed Tryz.func47 rfl [0, 1, 2, 3, 8, 9, 18] 1000 ([.call [] false true (.bool (backs7B c.backs)) [], .f, .f]) [] [] (ob := [_,
 (c.kind == (1 : Int)) = false,
 (c.kind == (2 : Int)) = false]) (by kernel_rfl) ⟨rfl, rfl⟩ ⟨q, ?z22, ?z23, trivial⟩
      case z22|z23 => first | exact rfl | (simp [encC, celC, h1, h2] <;> omega) | omega
theorem streams10_loop (l : List Int) (hb : l.length ≤ 1000000000000) : ∀ (n k : Nat) (v : Int), l.length = k + n → Prev id l k v →
    (scanI v (l.drop k) = false → ALoop Tryz.prog 0 Tryz.f98.ntmps (loopB Tryz.f98 0) ⟨[(3, .int .i64 k), (0, .lst 1 (l.map intA))], []⟩ (.exit 0) ⟨[(0, .lst 1 (l.map intA))], []⟩) ∧ (scanI v (l.drop k) = true → ALoop Tryz.prog 0 Tryz.f98.ntmps (loopB Tryz.f98 0) ⟨[(3, .int .i64 k), (0, .lst 1 (l.map intA))], []⟩ .ret ⟨[(2, .bool false)], []⟩)
  | 0, k, v, h, hp => by
    refine ⟨fun _ => ?_, fun hq => ?_⟩
    · refine aloopK mixed [0, 2, 3, 7, 37] 1000 ([.go, .n l.length, .f]) [0] [] (ob := [((List.map intA l).length : Int) = (l.length : Int),
 decide ((↑k : Int) < (l.length : Int)) = false]) (by kernel_rfl) rfl ⟨?z0, ?z1, trivial⟩
      case z0|z1 => first | exact rfl | (simp [] <;> omega) | omega
    · rw [List.drop_of_length_le (by omega)] at hq; cases hq
  | n + 1, k, v, h, hp => by
    obtain ⟨x, hx⟩ := get_of (l := l) (k := k) (by omega)
    have hk : k < l.length := by omega
    have hw : IntKind.i64.wrap ((k : Int) + 1) = ((k + 1 : Nat) : Int) := wrap64 (by omega)
    obtain ⟨hv, hp⟩ := hp
    rw [drop_of hx]
    by_cases h1 : x < 0
    · skip
      have hbad : badI v x = true := by simp [badI, h1] <;> omega
      refine ⟨fun hq => (by simp [scanI, hbad] at hq), fun _ => ?_⟩
      refine aloopK mixed [0, 2, 3, 7, 37] 1000 ([.go, .n l.length, .t, .ix k, .el (intA x), .t]) [2] [] (ob := [((List.map intA l).length : Int) = (l.length : Int),
 decide ((↑k : Int) < (l.length : Int)) = true,
 k < List.length (List.map intA l),
 (↑k : Int) = (↑k : Int),
 (List.map intA l)[k]? = some (.int .i64 x),
 decide (x < (0 : Int)) = true]) (by kernel_rfl) rfl ⟨?z2, ?z3, ?z4, ?z5, ?z6, ?z7, trivial⟩
      case z2|z3|z4|z5|z6|z7 => first | exact rfl | (simp [hx, hw, intA, h1] <;> omega) | omega | (first | exact hx | exact hpj | omega | exact wrap_pred (by omega))
    · skip
      by_cases h2 : 16 ≤ x
      · skip
        have hbad : badI v x = true := by simp [badI, h1, h2] <;> omega
        refine ⟨fun hq => (by simp [scanI, hbad] at hq), fun _ => ?_⟩
        refine aloopK mixed [0, 2, 3, 7, 37] 1000 ([.go, .n l.length, .t, .ix k, .el (intA x), .f, .ix k, .el (intA x), .t]) [2] [] (ob := [((List.map intA l).length : Int) = (l.length : Int),
 decide ((↑k : Int) < (l.length : Int)) = true,
 k < List.length (List.map intA l),
 (↑k : Int) = (↑k : Int),
 (List.map intA l)[k]? = some (.int .i64 x),
 decide (x < (0 : Int)) = false,
 k < List.length (List.map intA l),
 (↑k : Int) = (↑k : Int),
 (List.map intA l)[k]? = some (.int .i64 x),
 decide (x ≥ (16 : Int)) = true]) (by kernel_rfl) rfl ⟨?z8, ?z9, ?z10, ?z11, ?z12, ?z13, ?z14, ?z15, ?z16, ?z17, trivial⟩
        case z8|z9|z10|z11|z12|z13|z14|z15|z16|z17 => first | exact rfl | (simp [hx, hw, intA, h1, h2] <;> omega) | omega | (first | exact hx | exact hpj | omega | exact wrap_pred (by omega))
      · skip
        rcases hp with ⟨hk0, hv0⟩ | ⟨j, p, hkj, hpj, hpv⟩
        · have hg : decide ((k : Int) > 0) = false := by simp [hk0]
          have hbad : badI v x = false := by simp [badI, h1, h2, hv0] <;> omega
          have ih := streams10_loop l hb n (k + 1) x (by omega) ⟨by omega, .inr ⟨k, x, rfl, hx, rfl⟩⟩
          have hsc : scanI v (x :: l.drop (k + 1)) = scanI x (l.drop (k + 1)) := by simp [scanI, hbad]
          rw [hsc]
          refine ⟨fun hq => ?_, fun hq => ?_⟩
          · have ih := ih.1 hq
            refine aloopK mixed [0, 2, 3, 7, 37] 1000 ([.go, .n l.length, .t, .ix k, .el (intA x), .f, .ix k, .el (intA x), .f, .f, .n ((k + 1 : Nat) : Int), .lp [3, 0] [] (.exit 0) ⟨[(0, .lst 1 (l.map intA))], []⟩]) [0] [] (ob := [((List.map intA l).length : Int) = (l.length : Int),
 decide ((↑k : Int) < (l.length : Int)) = true,
 k < List.length (List.map intA l),
 (↑k : Int) = (↑k : Int),
 (List.map intA l)[k]? = some (.int .i64 x),
 decide (x < (0 : Int)) = false,
 k < List.length (List.map intA l),
 (↑k : Int) = (↑k : Int),
 (List.map intA l)[k]? = some (.int .i64 x),
 decide (x ≥ (16 : Int)) = false,
 decide ((↑k : Int) > (0 : Int)) = false,
 IntKind.i64.wrap ((↑k : Int) + (1 : Int)) = (↑(k + (1 : Nat)) : Int),
 ALoop Tryz.prog 0 41 (loopB Tryz.f98 0) { env := [(3, .int .i64 (↑(k + 1) : Int)), (0, .lst 1 (List.map intA l))], objs := [] } (Ex.exit 0) { env := [(0, .lst 1 (List.map intA l))], objs := [] }]) (by kernel_rfl) rfl ⟨?z18, ?z19, ?z20, ?z21, ?z22, ?z23, ?z24, ?z25, ?z26, ?z27, ?z28, ?z29, ?q159_1, trivial⟩
            case z18|z19|z20|z21|z22|z23|z24|z25|z26|z27|z28|z29 => first | exact rfl | (simp [hx, hw, intA, h1, h2, hv0] <;> omega) | omega | (first | exact hx | exact hpj | exact hw | exact hg | omega | exact wrap_pred (by omega))
            · exact ih
          · have ih := ih.2 hq
            refine aloopK mixed [0, 2, 3, 7, 37] 1000 ([.go, .n l.length, .t, .ix k, .el (intA x), .f, .ix k, .el (intA x), .f, .f, .n ((k + 1 : Nat) : Int), .lp [3, 0] [] .ret ⟨[(2, .bool false)], []⟩]) [2] [] (ob := [((List.map intA l).length : Int) = (l.length : Int),
 decide ((↑k : Int) < (l.length : Int)) = true,
 k < List.length (List.map intA l),
 (↑k : Int) = (↑k : Int),
 (List.map intA l)[k]? = some (.int .i64 x),
 decide (x < (0 : Int)) = false,
 k < List.length (List.map intA l),
 (↑k : Int) = (↑k : Int),
 (List.map intA l)[k]? = some (.int .i64 x),
 decide (x ≥ (16 : Int)) = false,
 decide ((↑k : Int) > (0 : Int)) = false,
 IntKind.i64.wrap ((↑k : Int) + (1 : Int)) = (↑(k + (1 : Nat)) : Int),
 ALoop Tryz.prog 0 41 (loopB Tryz.f98 0) { env := [(3, .int .i64 (↑(k + 1) : Int)), (0, .lst 1 (List.map intA l))], objs := [] } Ex.ret { env := [(2, .bool false)], objs := [] }]) (by kernel_rfl) rfl ⟨?z30, ?z31, ?z32, ?z33, ?z34, ?z35, ?z36, ?z37, ?z38, ?z39, ?z40, ?z41, ?q162_1, trivial⟩
            case z30|z31|z32|z33|z34|z35|z36|z37|z38|z39|z40|z41 => first | exact rfl | (simp [hx, hw, intA, h1, h2, hv0] <;> omega) | omega | (first | exact hx | exact hpj | exact hw | exact hg | omega | exact wrap_pred (by omega))
            · exact ih
        · subst hkj
          have hpv : p = v := hpv
          subst hpv
          by_cases h9 : x ≤ p
          · skip
            have hbad : badI (p) x = true := by simp [badI, h1, h2, h9, hpj] <;> omega
            refine ⟨fun hq => (by simp [scanI, hbad] at hq), fun _ => ?_⟩
            refine aloopK mixed [0, 2, 3, 7, 37] 1000 ([.go, .n l.length, .t, .ix (j + 1), .el (intA x), .f, .ix (j + 1), .el (intA x), .f, .t, .ix (j + 1), .el (intA x), .n (j : Int), .ix j, .el (intA p), .t]) [2] [] (ob := [((List.map intA l).length : Int) = (l.length : Int),
 decide ((↑(j + (1 : Nat)) : Int) < (l.length : Int)) = true,
 j + (1 : Nat) < List.length (List.map intA l),
 (↑(j + (1 : Nat)) : Int) = (↑(j + (1 : Nat)) : Int),
 (List.map intA l)[j + (1 : Nat)]? = some (.int .i64 x),
 decide (x < (0 : Int)) = false,
 j + (1 : Nat) < List.length (List.map intA l),
 (↑(j + (1 : Nat)) : Int) = (↑(j + (1 : Nat)) : Int),
 (List.map intA l)[j + (1 : Nat)]? = some (.int .i64 x),
 decide (x ≥ (16 : Int)) = false,
 decide ((↑(j + (1 : Nat)) : Int) > (0 : Int)) = true,
 j + (1 : Nat) < List.length (List.map intA l),
 (↑(j + (1 : Nat)) : Int) = (↑(j + (1 : Nat)) : Int),
 (List.map intA l)[j + (1 : Nat)]? = some (.int .i64 x),
 IntKind.i64.wrap ((↑(j + (1 : Nat)) : Int) - (1 : Int)) = (↑j : Int),
 j < List.length (List.map intA l),
 (↑j : Int) = (↑j : Int),
 (List.map intA l)[j]? = some (.int .i64 p),
 decide (x ≤ p) = true]) (by kernel_rfl) rfl ⟨?z42, ?z43, ?z44, ?z45, ?z46, ?z47, ?z48, ?z49, ?z50, ?z51, ?z52, ?z53, ?z54, ?z55, ?z56, ?z57, ?z58, ?z59, ?z60, trivial⟩
            case z42|z43|z44|z45|z46|z47|z48|z49|z50|z51|z52|z53|z54|z55|z56|z57|z58|z59|z60 => first | exact rfl | (simp [hx, hw, intA, h1, h2, h9, hpj] <;> omega) | omega | (first | exact hx | exact hpj | omega | exact wrap_pred (by omega))
          · skip
            have hbad : badI (p) x = false := by simp [badI, h1, h2, h9, hpj] <;> omega
            have ih := streams10_loop l hb n (j + 1 + 1) x (by omega) ⟨by omega, .inr ⟨j + 1, x, rfl, hx, rfl⟩⟩
            have hsc : scanI (p) (x :: l.drop (j + 1 + 1)) = scanI x (l.drop (j + 1 + 1)) := by simp [scanI, hbad]
            rw [hsc]
            refine ⟨fun hq => ?_, fun hq => ?_⟩
            · have ih := ih.1 hq
              refine aloopK mixed [0, 2, 3, 7, 37] 1000 ([.go, .n l.length, .t, .ix (j + 1), .el (intA x), .f, .ix (j + 1), .el (intA x), .f, .t, .ix (j + 1), .el (intA x), .n (j : Int), .ix j, .el (intA p), .f, .n ((j + 1 + 1 : Nat) : Int), .lp [3, 0] [] (.exit 0) ⟨[(0, .lst 1 (l.map intA))], []⟩]) [0] [] (ob := [((List.map intA l).length : Int) = (l.length : Int),
 decide ((↑(j + (1 : Nat)) : Int) < (l.length : Int)) = true,
 j + (1 : Nat) < List.length (List.map intA l),
 (↑(j + (1 : Nat)) : Int) = (↑(j + (1 : Nat)) : Int),
 (List.map intA l)[j + (1 : Nat)]? = some (.int .i64 x),
 decide (x < (0 : Int)) = false,
 j + (1 : Nat) < List.length (List.map intA l),
 (↑(j + (1 : Nat)) : Int) = (↑(j + (1 : Nat)) : Int),
 (List.map intA l)[j + (1 : Nat)]? = some (.int .i64 x),
 decide (x ≥ (16 : Int)) = false,
 decide ((↑(j + (1 : Nat)) : Int) > (0 : Int)) = true,
 j + (1 : Nat) < List.length (List.map intA l),
 (↑(j + (1 : Nat)) : Int) = (↑(j + (1 : Nat)) : Int),
 (List.map intA l)[j + (1 : Nat)]? = some (.int .i64 x),
 IntKind.i64.wrap ((↑(j + (1 : Nat)) : Int) - (1 : Int)) = (↑j : Int),
 j < List.length (List.map intA l),
 (↑j : Int) = (↑j : Int),
 (List.map intA l)[j]? = some (.int .i64 p),
 decide (x ≤ p) = false,
 IntKind.i64.wrap ((↑(j + (1 : Nat)) : Int) + (1 : Int)) = (↑(j + (1 : Nat) + (1 : Nat)) : Int),
 ALoop Tryz.prog 0 41 (loopB Tryz.f98 0) { env := [(3, .int .i64 (↑(j + 1 + 1) : Int)), (0, .lst 1 (List.map intA l))], objs := [] } (Ex.exit 0) { env := [(0, .lst 1 (List.map intA l))], objs := [] }]) (by kernel_rfl) rfl ⟨?z61, ?z62, ?z63, ?z64, ?z65, ?z66, ?z67, ?z68, ?z69, ?z70, ?z71, ?z72, ?z73, ?z74, ?z75, ?z76, ?z77, ?z78, ?z79, ?z80, ?q179_1, trivial⟩
              case z61|z62|z63|z64|z65|z66|z67|z68|z69|z70|z71|z72|z73|z74|z75|z76|z77|z78|z79|z80 => first | exact rfl | (simp [hx, hw, intA, h1, h2, h9, hpj] <;> omega) | omega | (first | exact hx | exact hpj | exact hw | exact hg | omega | exact wrap_pred (by omega))
              · exact ih
            · have ih := ih.2 hq
              refine aloopK mixed [0, 2, 3, 7, 37] 1000 ([.go, .n l.length, .t, .ix (j + 1), .el (intA x), .f, .ix (j + 1), .el (intA x), .f, .t, .ix (j + 1), .el (intA x), .n (j : Int), .ix j, .el (intA p), .f, .n ((j + 1 + 1 : Nat) : Int), .lp [3, 0] [] .ret ⟨[(2, .bool false)], []⟩]) [2] [] (ob := [((List.map intA l).length : Int) = (l.length : Int),
 decide ((↑(j + (1 : Nat)) : Int) < (l.length : Int)) = true,
 j + (1 : Nat) < List.length (List.map intA l),
 (↑(j + (1 : Nat)) : Int) = (↑(j + (1 : Nat)) : Int),
 (List.map intA l)[j + (1 : Nat)]? = some (.int .i64 x),
 decide (x < (0 : Int)) = false,
 j + (1 : Nat) < List.length (List.map intA l),
 (↑(j + (1 : Nat)) : Int) = (↑(j + (1 : Nat)) : Int),
 (List.map intA l)[j + (1 : Nat)]? = some (.int .i64 x),
 decide (x ≥ (16 : Int)) = false,
 decide ((↑(j + (1 : Nat)) : Int) > (0 : Int)) = true,
 j + (1 : Nat) < List.length (List.map intA l),
 (↑(j + (1 : Nat)) : Int) = (↑(j + (1 : Nat)) : Int),
 (List.map intA l)[j + (1 : Nat)]? = some (.int .i64 x),
 IntKind.i64.wrap ((↑(j + (1 : Nat)) : Int) - (1 : Int)) = (↑j : Int),
 j < List.length (List.map intA l),
 (↑j : Int) = (↑j : Int),
 (List.map intA l)[j]? = some (.int .i64 p),
 decide (x ≤ p) = false,
 IntKind.i64.wrap ((↑(j + (1 : Nat)) : Int) + (1 : Int)) = (↑(j + (1 : Nat) + (1 : Nat)) : Int),
 ALoop Tryz.prog 0 41 (loopB Tryz.f98 0) { env := [(3, .int .i64 (↑(j + 1 + 1) : Int)), (0, .lst 1 (List.map intA l))], objs := [] } Ex.ret { env := [(2, .bool false)], objs := [] }]) (by kernel_rfl) rfl ⟨?z81, ?z82, ?z83, ?z84, ?z85, ?z86, ?z87, ?z88, ?z89, ?z90, ?z91, ?z92, ?z93, ?z94, ?z95, ?z96, ?z97, ?z98, ?z99, ?z100, ?q182_1, trivial⟩
              case z81|z82|z83|z84|z85|z86|z87|z88|z89|z90|z91|z92|z93|z94|z95|z96|z97|z98|z99|z100 => first | exact rfl | (simp [hx, hw, intA, h1, h2, h9, hpj] <;> omega) | omega | (first | exact hx | exact hpj | exact hw | exact hg | omega | exact wrap_pred (by omega))
              · exact ih
def streamsB (l : List Int) : Bool := !scanI (-1) l && decide ((l.length : Int) ≤ 4)
theorem streams10_ac (l : List Int) (hb : l.length ≤ 1000000000000) : ACalls Tryz.prog 98 [.lst 1 (l.map intA)] [] (.bool (streamsB l)) [] := by
  have h := streams10_loop l hb l.length 0 (-1) (by omega) ⟨by omega, .inl ⟨rfl, rfl⟩⟩
  rw [List.drop_zero] at h
  unfold streamsB
  cases hs : scanI (-1) l with
  | false =>
    have h := h.1 hs
    rw [Bool.not_false, Bool.true_and]
    refine acallsK mixed Tryz.func98 rfl [0, 2, 3, 7, 37] 1000 ([.lp [3, 0] [] (.exit 0) ⟨[(0, .lst 1 (l.map intA))], []⟩, .n l.length, .k]) [] [] (ob := [_,
 ((List.map intA l).length : Int) = (l.length : Int)]) (by kernel_rfl) ⟨rfl, rfl⟩ ⟨h, (by first | exact rfl | (simp []; done) | (simp []; omega) | omega), trivial⟩
  | true =>
    have h := h.2 hs
    refine acallsK mixed Tryz.func98 rfl [0, 2, 3, 7, 37] 1000 ([.lp [3, 0] [] .ret ⟨[(2, .bool false)], []⟩]) [] [] (ob := [_]) (by kernel_rfl) ⟨rfl, rfl⟩ ⟨h, trivial⟩
def badO (v : Int) (x : BackD) : Bool := !backs7B [x] || decide (x.s ≤ v)
def scanO : Int → List BackD → Bool
  | v, [] => false
  | v, x :: l => badO v x || scanO x.s l
end Go.Proofs.YtidgcfgkcidkiaaGreat.Ch
namespace Go.Proofs.YtidgcfgkcidkiaaGreat.Ch
open Go Go.RowKit Go.Proofs.YtidgcfgkcidkiaaGreat.L Go.Proofs.YtidgcfgkcidkiaaGreat.X
set_option linter.unusedVariables false
set_option linter.unusedSimpArgs false
theorem b7_pos {x : BackD} (h : backs7B [x] = true) : -1 < x.s := by
  simp [backs7B, scanB, badB] at h
  omega
theorem one_of {α : Type} {l : List α} {k : Nat} {x : α} (f : α → AV) (h : l[k]? = some x) : List.take (k + 1 - k) (List.drop k (l.map f)) = [f x] := by
  rw [← List.map_drop, drop_of h]
  simp
theorem backs10_loop (l : List BackD) (hb : l.length ≤ 1000000000000) : ∀ (n k : Nat) (v : Int), l.length = k + n → Prev BackD.s l k v →
    (scanO v (l.drop k) = false → ALoop Tryz.prog 0 Tryz.f99.ntmps (loopB Tryz.f99 0) ⟨[(3, .int .i64 k), (0, .lst 3 (l.map encB))], []⟩ (.exit 0) ⟨[(0, .lst 3 (l.map encB))], []⟩) ∧ (scanO v (l.drop k) = true → ALoop Tryz.prog 0 Tryz.f99.ntmps (loopB Tryz.f99 0) ⟨[(3, .int .i64 k), (0, .lst 3 (l.map encB))], []⟩ .ret ⟨[(2, .bool false)], []⟩)
  | 0, k, v, h, hp => by
    refine ⟨fun _ => ?_, fun hq => ?_⟩
    · refine aloopK mixed [0, 2, 3, 4, 8, 36] 1000 ([.go, .n l.length, .f]) [0] [] (S1 := { env := [(0, .lst 3 (List.map encB l))], objs := [] }) (ob := [((List.map encB l).length : Int) = (l.length : Int),
 decide ((↑k : Int) < (l.length : Int)) = false]) (by kernel_rfl) (by first | exact rfl | exact ⟨rfl, rfl⟩ | (simp []; done)) ⟨?z0, ?z1, trivial⟩
      case z0|z1 => first | exact rfl | (simp [] <;> omega) | omega
    · rw [List.drop_of_length_le (by omega)] at hq; cases hq
  | n + 1, k, v, h, hp => by
    obtain ⟨x, hx⟩ := get_of (l := l) (k := k) (by omega)
    have hk : k < l.length := by omega
    have hw : IntKind.i64.wrap ((k : Int) + 1) = ((k + 1 : Nat) : Int) := wrap64 (by omega)
    obtain ⟨hv, hp⟩ := hp
    rw [drop_of hx]
    have q := backs7_ac [x] (by simp)
    have hsl := one_of encB hx
    have hpos := @b7_pos x
    cases h1 : backs7B [x] with
    | false =>
      rw [h1] at q
      have hbad : badO v x = true := by simp [badO, h1] <;> omega
      refine ⟨fun hq => (by simp [scanO, hbad] at hq), fun _ => ?_⟩
      refine aloopK mixed [0, 2, 3, 4, 8, 36] 1000 ([.go, .n l.length, .t, .n ((k + 1 : Nat) : Int), .ix (k + 1), .ix k, .ls [encB x], .call [] false true (.bool false) []]) [2] [] (S1 := { env := [(2, .bool false)], objs := [] }) (ob := [((List.map encB l).length : Int) = (l.length : Int),
 decide ((↑k : Int) < (l.length : Int)) = true,
 IntKind.i64.wrap ((↑k : Int) + (1 : Int)) = (↑(k + (1 : Nat)) : Int),
 k ≤ k + (1 : Nat),
 k + (1 : Nat) ≤ List.length (List.map encB l),
 (↑(k + (1 : Nat)) : Int) = (↑(k + (1 : Nat)) : Int),
 (↑k : Int) = (↑k : Int),
 List.take (k + (1 : Nat) - k) (List.drop k (List.map encB l)) = [.agg [.int .i64 x.s, .int .u64 x.a, .int .u64 x.b]],
 ACalls Tryz.prog 84 [.lst 3 [.agg [.int .i64 x.s, .int .u64 x.a, .int .u64 x.b]]] [] (.bool false) []]) (by kernel_rfl) (by first | exact rfl | exact ⟨rfl, rfl⟩ | (simp [hx, hw, encB, h1]; done) | (first | exact hx | exact hsl | exact hpj | omega | exact wrap_pred (by omega))) ⟨?z2, ?z3, ?z4, ?z5, ?z6, ?z7, ?z8, ?z9, ?q33_1, trivial⟩
      case z2|z3|z4|z5|z6|z7|z8|z9 => first | exact rfl | (simp [hx, hw, encB, h1] <;> omega) | omega | (first | exact hx | exact hsl | exact hpj | omega | exact wrap_pred (by omega))
      · exact q
    | true =>
      rw [h1] at q
      have hpos := hpos h1
      rcases hp with ⟨hk0, hv0⟩ | ⟨j, p, hkj, hpj, hpv⟩
      · have hg : decide ((k : Int) > 0) = false := by simp [hk0]
        have hbad : badO v x = false := by simp [badO, h1, hv0] <;> omega
        have ih := backs10_loop l hb n (k + 1) x.s (by omega) ⟨by omega, .inr ⟨k, x, rfl, hx, rfl⟩⟩
        have hsc : scanO v (x :: l.drop (k + 1)) = scanO x.s (l.drop (k + 1)) := by simp [scanO, hbad]
        rw [hsc]
        refine ⟨fun hq => ?_, fun hq => ?_⟩
        · have ih := ih.1 hq
          refine aloopK mixed [0, 2, 3, 4, 8, 36] 1000 ([.go, .n l.length, .t, .n ((k + 1 : Nat) : Int), .ix (k + 1), .ix k, .ls [encB x], .call [] false true (.bool true) [], .f, .n ((k + 1 : Nat) : Int), .lp [3, 0] [] (.exit 0) ⟨[(0, .lst 3 (l.map encB))], []⟩]) [0] [] (S1 := { env := [(0, .lst 3 (List.map encB l))], objs := [] }) (ob := [((List.map encB l).length : Int) = (l.length : Int),
 decide ((↑k : Int) < (l.length : Int)) = true,
 IntKind.i64.wrap ((↑k : Int) + (1 : Int)) = (↑(k + (1 : Nat)) : Int),
 k ≤ k + (1 : Nat),
 k + (1 : Nat) ≤ List.length (List.map encB l),
 (↑(k + (1 : Nat)) : Int) = (↑(k + (1 : Nat)) : Int),
 (↑k : Int) = (↑k : Int),
 List.take (k + (1 : Nat) - k) (List.drop k (List.map encB l)) = [.agg [.int .i64 x.s, .int .u64 x.a, .int .u64 x.b]],
 ACalls Tryz.prog 84 [.lst 3 [.agg [.int .i64 x.s, .int .u64 x.a, .int .u64 x.b]]] [] (.bool true) [],
 decide ((↑k : Int) > (0 : Int)) = false,
 IntKind.i64.wrap ((↑k : Int) + (1 : Int)) = (↑(k + (1 : Nat)) : Int),
 ALoop Tryz.prog 0 37 (loopB Tryz.f99 0) { env := [(3, .int .i64 (↑(k + 1) : Int)), (0, .lst 3 (List.map encB l))], objs := [] } (Ex.exit 0) { env := [(0, .lst 3 (List.map encB l))], objs := [] }]) (by kernel_rfl) (by first | exact rfl | exact ⟨rfl, rfl⟩ | (simp [hx, hw, encB, h1, hv0]; done) | (first | exact hx | exact hsl | exact hpj | exact hw | exact hg | omega | exact wrap_pred (by omega))) ⟨?z10, ?z11, ?z12, ?z13, ?z14, ?z15, ?z16, ?z17, ?q46_1, ?z18, ?z19, ?q46_2, trivial⟩
          case z10|z11|z12|z13|z14|z15|z16|z17|z18|z19 => first | exact rfl | (simp [hx, hw, encB, h1, hv0] <;> omega) | omega | (first | exact hx | exact hsl | exact hpj | exact hw | exact hg | omega | exact wrap_pred (by omega))
          · exact q
          · exact ih
        · have ih := ih.2 hq
          refine aloopK mixed [0, 2, 3, 4, 8, 36] 1000 ([.go, .n l.length, .t, .n ((k + 1 : Nat) : Int), .ix (k + 1), .ix k, .ls [encB x], .call [] false true (.bool true) [], .f, .n ((k + 1 : Nat) : Int), .lp [3, 0] [] .ret ⟨[(2, .bool false)], []⟩]) [2] [] (S1 := { env := [(2, .bool false)], objs := [] }) (ob := [((List.map encB l).length : Int) = (l.length : Int),
 decide ((↑k : Int) < (l.length : Int)) = true,
 IntKind.i64.wrap ((↑k : Int) + (1 : Int)) = (↑(k + (1 : Nat)) : Int),
 k ≤ k + (1 : Nat),
 k + (1 : Nat) ≤ List.length (List.map encB l),
 (↑(k + (1 : Nat)) : Int) = (↑(k + (1 : Nat)) : Int),
 (↑k : Int) = (↑k : Int),
 List.take (k + (1 : Nat) - k) (List.drop k (List.map encB l)) = [.agg [.int .i64 x.s, .int .u64 x.a, .int .u64 x.b]],
 ACalls Tryz.prog 84 [.lst 3 [.agg [.int .i64 x.s, .int .u64 x.a, .int .u64 x.b]]] [] (.bool true) [],
 decide ((↑k : Int) > (0 : Int)) = false,
 IntKind.i64.wrap ((↑k : Int) + (1 : Int)) = (↑(k + (1 : Nat)) : Int),
 ALoop Tryz.prog 0 37 (loopB Tryz.f99 0) { env := [(3, .int .i64 (↑(k + 1) : Int)), (0, .lst 3 (List.map encB l))], objs := [] } Ex.ret { env := [(2, .bool false)], objs := [] }]) (by kernel_rfl) (by first | exact rfl | exact ⟨rfl, rfl⟩ | (simp [hx, hw, encB, h1, hv0]; done) | (first | exact hx | exact hsl | exact hpj | exact hw | exact hg | omega | exact wrap_pred (by omega))) ⟨?z20, ?z21, ?z22, ?z23, ?z24, ?z25, ?z26, ?z27, ?q50_1, ?z28, ?z29, ?q50_2, trivial⟩
          case z20|z21|z22|z23|z24|z25|z26|z27|z28|z29 => first | exact rfl | (simp [hx, hw, encB, h1, hv0] <;> omega) | omega | (first | exact hx | exact hsl | exact hpj | exact hw | exact hg | omega | exact wrap_pred (by omega))
          · exact q
          · exact ih
      · subst hkj
        have hpv : p.s = v := hpv
        subst hpv
        by_cases h9 : x.s ≤ p.s
        · skip
          have hbad : badO p.s x = true := by simp [badO, h1, h9, hpj] <;> omega
          refine ⟨fun hq => (by simp [scanO, hbad] at hq), fun _ => ?_⟩
          refine aloopK mixed [0, 2, 3, 4, 8, 36] 1000 ([.go, .n l.length, .t, .n ((j + 1 + 1 : Nat) : Int), .ix (j + 1 + 1), .ix (j + 1), .ls [encB x], .call [] false true (.bool true) [], .t, .ix (j + 1), .el (encB x), .n (j : Int), .ix j, .el (encB p), .t]) [2] [] (S1 := { env := [(2, .bool false)], objs := [] }) (ob := [((List.map encB l).length : Int) = (l.length : Int),
 decide ((↑(j + (1 : Nat)) : Int) < (l.length : Int)) = true,
 IntKind.i64.wrap ((↑(j + (1 : Nat)) : Int) + (1 : Int)) = (↑(j + (1 : Nat) + (1 : Nat)) : Int),
 j + (1 : Nat) ≤ j + (1 : Nat) + (1 : Nat),
 j + (1 : Nat) + (1 : Nat) ≤ List.length (List.map encB l),
 (↑(j + (1 : Nat) + (1 : Nat)) : Int) = (↑(j + (1 : Nat) + (1 : Nat)) : Int),
 (↑(j + (1 : Nat)) : Int) = (↑(j + (1 : Nat)) : Int),
 List.take (j + (1 : Nat) + (1 : Nat) - (j + (1 : Nat))) (List.drop (j + (1 : Nat)) (List.map encB l)) = [.agg [.int .i64 x.s, .int .u64 x.a, .int .u64 x.b]],
 ACalls Tryz.prog 84 [.lst 3 [.agg [.int .i64 x.s, .int .u64 x.a, .int .u64 x.b]]] [] (.bool true) [],
 decide ((↑(j + (1 : Nat)) : Int) > (0 : Int)) = true,
 j + (1 : Nat) < List.length (List.map encB l),
 (↑(j + (1 : Nat)) : Int) = (↑(j + (1 : Nat)) : Int),
 (List.map encB l)[j + (1 : Nat)]? = some (.agg [.int .i64 x.s, .int .u64 x.a, .int .u64 x.b]),
 IntKind.i64.wrap ((↑(j + (1 : Nat)) : Int) - (1 : Int)) = (↑j : Int),
 j < List.length (List.map encB l),
 (↑j : Int) = (↑j : Int),
 (List.map encB l)[j]? = some (.agg [.int .i64 p.s, .int .u64 p.a, .int .u64 p.b]),
 decide (x.s ≤ p.s) = true]) (by kernel_rfl) (by first | exact rfl | exact ⟨rfl, rfl⟩ | (simp [hx, hw, encB, h1, h9, hpj]; done) | (first | exact hx | exact hsl | exact hpj | omega | exact wrap_pred (by omega))) ⟨?z30, ?z31, ?z32, ?z33, ?z34, ?z35, ?z36, ?z37, ?q60_1, ?z38, ?z39, ?z40, ?z41, ?z42, ?z43, ?z44, ?z45, ?z46, trivial⟩
          case z30|z31|z32|z33|z34|z35|z36|z37|z38|z39|z40|z41|z42|z43|z44|z45|z46 => first | exact rfl | (simp [hx, hw, encB, h1, h9, hpj] <;> omega) | omega | (first | exact hx | exact hsl | exact hpj | omega | exact wrap_pred (by omega))
          · exact q
        · skip
          have hbad : badO p.s x = false := by simp [badO, h1, h9, hpj] <;> omega
          have ih := backs10_loop l hb n (j + 1 + 1) x.s (by omega) ⟨by omega, .inr ⟨j + 1, x, rfl, hx, rfl⟩⟩
          have hsc : scanO p.s (x :: l.drop (j + 1 + 1)) = scanO x.s (l.drop (j + 1 + 1)) := by simp [scanO, hbad]
          rw [hsc]
          refine ⟨fun hq => ?_, fun hq => ?_⟩
          · have ih := ih.1 hq
            refine aloopK mixed [0, 2, 3, 4, 8, 36] 1000 ([.go, .n l.length, .t, .n ((j + 1 + 1 : Nat) : Int), .ix (j + 1 + 1), .ix (j + 1), .ls [encB x], .call [] false true (.bool true) [], .t, .ix (j + 1), .el (encB x), .n (j : Int), .ix j, .el (encB p), .f, .n ((j + 1 + 1 : Nat) : Int), .lp [3, 0] [] (.exit 0) ⟨[(0, .lst 3 (l.map encB))], []⟩]) [0] [] (S1 := { env := [(0, .lst 3 (List.map encB l))], objs := [] }) (ob := [((List.map encB l).length : Int) = (l.length : Int),
 decide ((↑(j + (1 : Nat)) : Int) < (l.length : Int)) = true,
 IntKind.i64.wrap ((↑(j + (1 : Nat)) : Int) + (1 : Int)) = (↑(j + (1 : Nat) + (1 : Nat)) : Int),
 j + (1 : Nat) ≤ j + (1 : Nat) + (1 : Nat),
 j + (1 : Nat) + (1 : Nat) ≤ List.length (List.map encB l),
 (↑(j + (1 : Nat) + (1 : Nat)) : Int) = (↑(j + (1 : Nat) + (1 : Nat)) : Int),
 (↑(j + (1 : Nat)) : Int) = (↑(j + (1 : Nat)) : Int),
 List.take (j + (1 : Nat) + (1 : Nat) - (j + (1 : Nat))) (List.drop (j + (1 : Nat)) (List.map encB l)) = [.agg [.int .i64 x.s, .int .u64 x.a, .int .u64 x.b]],
 ACalls Tryz.prog 84 [.lst 3 [.agg [.int .i64 x.s, .int .u64 x.a, .int .u64 x.b]]] [] (.bool true) [],
 decide ((↑(j + (1 : Nat)) : Int) > (0 : Int)) = true,
 j + (1 : Nat) < List.length (List.map encB l),
 (↑(j + (1 : Nat)) : Int) = (↑(j + (1 : Nat)) : Int),
 (List.map encB l)[j + (1 : Nat)]? = some (.agg [.int .i64 x.s, .int .u64 x.a, .int .u64 x.b]),
 IntKind.i64.wrap ((↑(j + (1 : Nat)) : Int) - (1 : Int)) = (↑j : Int),
 j < List.length (List.map encB l),
 (↑j : Int) = (↑j : Int),
 (List.map encB l)[j]? = some (.agg [.int .i64 p.s, .int .u64 p.a, .int .u64 p.b]),
 decide (x.s ≤ p.s) = false,
 IntKind.i64.wrap ((↑(j + (1 : Nat)) : Int) + (1 : Int)) = (↑(j + (1 : Nat) + (1 : Nat)) : Int),
 ALoop Tryz.prog 0 37 (loopB Tryz.f99 0) { env := [(3, .int .i64 (↑(j + 1 + 1) : Int)), (0, .lst 3 (List.map encB l))], objs := [] } (Ex.exit 0) { env := [(0, .lst 3 (List.map encB l))], objs := [] }]) (by kernel_rfl) (by first | exact rfl | exact ⟨rfl, rfl⟩ | (simp [hx, hw, encB, h1, h9, hpj]; done) | (first | exact hx | exact hsl | exact hpj | exact hw | exact hg | omega | exact wrap_pred (by omega))) ⟨?z47, ?z48, ?z49, ?z50, ?z51, ?z52, ?z53, ?z54, ?q69_1, ?z55, ?z56, ?z57, ?z58, ?z59, ?z60, ?z61, ?z62, ?z63, ?z64, ?q69_2, trivial⟩
            case z47|z48|z49|z50|z51|z52|z53|z54|z55|z56|z57|z58|z59|z60|z61|z62|z63|z64 => first | exact rfl | (simp [hx, hw, encB, h1, h9, hpj] <;> omega) | omega | (first | exact hx | exact hsl | exact hpj | exact hw | exact hg | omega | exact wrap_pred (by omega))
            · exact q
            · exact ih
          · have ih := ih.2 hq
            refine aloopK mixed [0, 2, 3, 4, 8, 36] 1000 ([.go, .n l.length, .t, .n ((j + 1 + 1 : Nat) : Int), .ix (j + 1 + 1), .ix (j + 1), .ls [encB x], .call [] false true (.bool true) [], .t, .ix (j + 1), .el (encB x), .n (j : Int), .ix j, .el (encB p), .f, .n ((j + 1 + 1 : Nat) : Int), .lp [3, 0] [] .ret ⟨[(2, .bool false)], []⟩]) [2] [] (S1 := { env := [(2, .bool false)], objs := [] }) (ob := [((List.map encB l).length : Int) = (l.length : Int),
 decide ((↑(j + (1 : Nat)) : Int) < (l.length : Int)) = true,
 IntKind.i64.wrap ((↑(j + (1 : Nat)) : Int) + (1 : Int)) = (↑(j + (1 : Nat) + (1 : Nat)) : Int),
 j + (1 : Nat) ≤ j + (1 : Nat) + (1 : Nat),
 j + (1 : Nat) + (1 : Nat) ≤ List.length (List.map encB l),
 (↑(j + (1 : Nat) + (1 : Nat)) : Int) = (↑(j + (1 : Nat) + (1 : Nat)) : Int),
 (↑(j + (1 : Nat)) : Int) = (↑(j + (1 : Nat)) : Int),
 List.take (j + (1 : Nat) + (1 : Nat) - (j + (1 : Nat))) (List.drop (j + (1 : Nat)) (List.map encB l)) = [.agg [.int .i64 x.s, .int .u64 x.a, .int .u64 x.b]],
 ACalls Tryz.prog 84 [.lst 3 [.agg [.int .i64 x.s, .int .u64 x.a, .int .u64 x.b]]] [] (.bool true) [],
 decide ((↑(j + (1 : Nat)) : Int) > (0 : Int)) = true,
 j + (1 : Nat) < List.length (List.map encB l),
 (↑(j + (1 : Nat)) : Int) = (↑(j + (1 : Nat)) : Int),
 (List.map encB l)[j + (1 : Nat)]? = some (.agg [.int .i64 x.s, .int .u64 x.a, .int .u64 x.b]),
 IntKind.i64.wrap ((↑(j + (1 : Nat)) : Int) - (1 : Int)) = (↑j : Int),
 j < List.length (List.map encB l),
 (↑j : Int) = (↑j : Int),
 (List.map encB l)[j]? = some (.agg [.int .i64 p.s, .int .u64 p.a, .int .u64 p.b]),
 decide (x.s ≤ p.s) = false,
 IntKind.i64.wrap ((↑(j + (1 : Nat)) : Int) + (1 : Int)) = (↑(j + (1 : Nat) + (1 : Nat)) : Int),
 ALoop Tryz.prog 0 37 (loopB Tryz.f99 0) { env := [(3, .int .i64 (↑(j + 1 + 1) : Int)), (0, .lst 3 (List.map encB l))], objs := [] } Ex.ret { env := [(2, .bool false)], objs := [] }]) (by kernel_rfl) (by first | exact rfl | exact ⟨rfl, rfl⟩ | (simp [hx, hw, encB, h1, h9, hpj]; done) | (first | exact hx | exact hsl | exact hpj | exact hw | exact hg | omega | exact wrap_pred (by omega))) ⟨?z65, ?z66, ?z67, ?z68, ?z69, ?z70, ?z71, ?z72, ?q73_1, ?z73, ?z74, ?z75, ?z76, ?z77, ?z78, ?z79, ?z80, ?z81, ?z82, ?q73_2, trivial⟩
            case z65|z66|z67|z68|z69|z70|z71|z72|z73|z74|z75|z76|z77|z78|z79|z80|z81|z82 => first | exact rfl | (simp [hx, hw, encB, h1, h9, hpj] <;> omega) | omega | (first | exact hx | exact hsl | exact hpj | exact hw | exact hg | omega | exact wrap_pred (by omega))
            · exact q
            · exact ih
def backs10B (l : List BackD) : Bool := !scanO (-1) l
theorem backs10_ac (l : List BackD) (hb : l.length ≤ 1000000000000) : ACalls Tryz.prog 99 [.lst 3 (l.map encB)] [] (.bool (backs10B l)) [] := by
  have h := backs10_loop l hb l.length 0 (-1) (by omega) ⟨by omega, .inl ⟨rfl, rfl⟩⟩
  rw [List.drop_zero] at h
  unfold backs10B
  cases hs : scanO (-1) l with
  | false =>
    have h := h.1 hs
    refine acallsK mixed Tryz.func99 rfl [0, 2, 3, 4, 8, 36] 1000 ([.lp [3, 0] [] (.exit 0) ⟨[(0, .lst 3 (l.map encB))], []⟩]) [] [] (ob := [_]) (by kernel_rfl) ⟨rfl, rfl⟩ ⟨h, trivial⟩
  | true =>
    have h := h.2 hs
    refine acallsK mixed Tryz.func99 rfl [0, 2, 3, 4, 8, 36] 1000 ([.lp [3, 0] [] .ret ⟨[(2, .bool false)], []⟩]) [] [] (ob := [_]) (by kernel_rfl) ⟨rfl, rfl⟩ ⟨h, trivial⟩
theorem same7_loop (a b : CellD) (hb : a.backs.length ≤ 1000000000000) (h1 : a.backs.length = b.backs.length) : ∀ (n k : Nat), a.backs.length = k + n →
    (a.backs.drop k = b.backs.drop k → ALoop Tryz.prog 0 Tryz.f23.ntmps (loopB Tryz.f23 0) ⟨[(5, .int .i64 k), (3, .ptr 1 0), (2, .ptr 0 0)], [.vars 30 (celC a), .vars 30 (celC b)]⟩ (.exit 0) ⟨[], []⟩) ∧
    (¬ a.backs.drop k = b.backs.drop k → ALoop Tryz.prog 0 Tryz.f23.ntmps (loopB Tryz.f23 0) ⟨[(5, .int .i64 k), (3, .ptr 1 0), (2, .ptr 0 0)], [.vars 30 (celC a), .vars 30 (celC b)]⟩ .ret ⟨[(4, .bool false)], []⟩)
  | 0, k, h => by
    refine ⟨fun _ => ?_, fun hne => ?_⟩
    · refine aloopK mixed [0, 1, 2, 3, 4, 5, 28, 33, 46] 1000 ([.go, .n a.backs.length, .f]) [] [] (S1 := { env := [], objs := [] }) (ob := [((List.map encB a.backs).length : Int) = (a.backs.length : Int),
 decide ((↑k : Int) < (a.backs.length : Int)) = false]) (by kernel_rfl) (by first | exact rfl | exact ⟨rfl, rfl⟩ | (simp []; done)) ⟨?z0, ?z1, trivial⟩
      case z0|z1 => first | exact rfl | (simp [] <;> omega) | omega
    · exact absurd (by rw [List.drop_eq_nil_of_le (by omega), List.drop_eq_nil_of_le (by omega)]) hne
  | n + 1, k, h => by
    obtain ⟨x, hx⟩ := get_of (l := a.backs) (k := k) (by omega)
    obtain ⟨y, hy⟩ := get_of (l := b.backs) (k := k) (by omega)
    have ih := same7_loop a b hb h1 n (k + 1) (by omega)
    rw [drop_eq hx hy]
    have hk : k < a.backs.length := by omega
    have hw : IntKind.i64.wrap ((k : Int) + 1) = ((k + 1 : Nat) : Int) := wrap64 (by omega)
    by_cases hxy : x = y
    · subst hxy
      refine ⟨fun hq => ?_, fun hq => ?_⟩
      · have ih := ih.1 hq.2
        refine aloopK mixed [0, 1, 2, 3, 4, 5, 28, 33, 46] 1000 ([.go, .n a.backs.length, .t, .ix k, .el (encB x), .ix k, .el (encB x), .f, .n ((k + 1 : Nat) : Int), .lp [5, 3, 2] [0, 1] (.exit 0) ⟨[], []⟩]) [] [] (S1 := { env := [], objs := [] }) (ob := [((List.map encB a.backs).length : Int) = (a.backs.length : Int),
 decide ((↑k : Int) < (a.backs.length : Int)) = true,
 k < List.length (List.map encB a.backs),
 (↑k : Int) = (↑k : Int),
 (List.map encB a.backs)[k]? = some (.agg [.int .i64 x.s, .int .u64 x.a, .int .u64 x.b]),
 k < List.length (List.map encB b.backs),
 (↑k : Int) = (↑k : Int),
 (List.map encB b.backs)[k]? = some (.agg [.int .i64 x.s, .int .u64 x.a, .int .u64 x.b]),
 (!(x.s == x.s && (x.a == x.a && (x.b == x.b && true) && true))) = false,
 IntKind.i64.wrap ((↑k : Int) + (1 : Int)) = (↑(k + (1 : Nat)) : Int),
 ALoop Tryz.prog 0 47 (loopB Tryz.f23 0) { env := [(5, .int .i64 (↑(k + 1) : Int)), (3, .ptr 1 0), (2, .ptr 0 0)], objs := [.vars 30 [.int .i64 a.kind, .lst 1 (List.map byteA a.data), .lst 3 (List.map encB a.backs)], .vars 30 [.int .i64 b.kind, .lst 1 (List.map byteA b.data), .lst 3 (List.map encB b.backs)]] } (Ex.exit 0) { env := [], objs := [] }]) (by kernel_rfl) (by first | exact rfl | exact ⟨rfl, rfl⟩ | (simp [hx, hy, encB, hw, h1]; done)) ⟨?z2, ?z3, ?z4, ?z5, ?z6, ?z7, ?z8, ?z9, ?z10, ?z11, ?q108_1, trivial⟩
        case z2|z3|z4|z5|z6|z7|z8|z9|z10|z11 => first | exact rfl | (simp [hx, hy, encB, hw, h1] <;> omega) | omega
        exact ih
      · have ih := ih.2 fun h => hq ⟨rfl, h⟩
        refine aloopK mixed [0, 1, 2, 3, 4, 5, 28, 33, 46] 1000 ([.go, .n a.backs.length, .t, .ix k, .el (encB x), .ix k, .el (encB x), .f, .n ((k + 1 : Nat) : Int), .lp [5, 3, 2] [0, 1] .ret ⟨[(4, .bool false)], []⟩]) [4] [] (S1 := { env := [(4, .bool false)], objs := [] }) (ob := [((List.map encB a.backs).length : Int) = (a.backs.length : Int),
 decide ((↑k : Int) < (a.backs.length : Int)) = true,
 k < List.length (List.map encB a.backs),
 (↑k : Int) = (↑k : Int),
 (List.map encB a.backs)[k]? = some (.agg [.int .i64 x.s, .int .u64 x.a, .int .u64 x.b]),
 k < List.length (List.map encB b.backs),
 (↑k : Int) = (↑k : Int),
 (List.map encB b.backs)[k]? = some (.agg [.int .i64 x.s, .int .u64 x.a, .int .u64 x.b]),
 (!(x.s == x.s && (x.a == x.a && (x.b == x.b && true) && true))) = false,
 IntKind.i64.wrap ((↑k : Int) + (1 : Int)) = (↑(k + (1 : Nat)) : Int),
 ALoop Tryz.prog 0 47 (loopB Tryz.f23 0) { env := [(5, .int .i64 (↑(k + 1) : Int)), (3, .ptr 1 0), (2, .ptr 0 0)], objs := [.vars 30 [.int .i64 a.kind, .lst 1 (List.map byteA a.data), .lst 3 (List.map encB a.backs)], .vars 30 [.int .i64 b.kind, .lst 1 (List.map byteA b.data), .lst 3 (List.map encB b.backs)]] } Ex.ret { env := [(4, .bool false)], objs := [] }]) (by kernel_rfl) (by first | exact rfl | exact ⟨rfl, rfl⟩ | (simp [hx, hy, encB, hw, h1]; done)) ⟨?z12, ?z13, ?z14, ?z15, ?z16, ?z17, ?z18, ?z19, ?z20, ?z21, ?q111_1, trivial⟩
        case z12|z13|z14|z15|z16|z17|z18|z19|z20|z21 => first | exact rfl | (simp [hx, hy, encB, hw, h1] <;> omega) | omega
        exact ih
    · have h2 : x.s = y.s → x.a = y.a → ¬ x.b = y.b := fun e1 e2 e3 => hxy (by cases x; cases y; simp only at e1 e2 e3; rw [e1, e2, e3])
      refine ⟨fun hq => absurd hq.1 hxy, fun _ => ?_⟩
      refine aloopK mixed [0, 1, 2, 3, 4, 5, 28, 33, 46] 1000 ([.go, .n a.backs.length, .t, .ix k, .el (encB x), .ix k, .el (encB y), .t]) [4] [] (S1 := { env := [(4, .bool false)], objs := [] }) (ob := [((List.map encB a.backs).length : Int) = (a.backs.length : Int),
 decide ((↑k : Int) < (a.backs.length : Int)) = true,
 k < List.length (List.map encB a.backs),
 (↑k : Int) = (↑k : Int),
 (List.map encB a.backs)[k]? = some (.agg [.int .i64 x.s, .int .u64 x.a, .int .u64 x.b]),
 k < List.length (List.map encB b.backs),
 (↑k : Int) = (↑k : Int),
 (List.map encB b.backs)[k]? = some (.agg [.int .i64 y.s, .int .u64 y.a, .int .u64 y.b]),
 (!(x.s == y.s && (x.a == y.a && (x.b == y.b && true) && true))) = true]) (by kernel_rfl) (by first | exact rfl | exact ⟨rfl, rfl⟩ | (simp [hx, hy, encB, h1]; done) | (first | omega | (simp; exact h2))) ⟨?z22, ?z23, ?z24, ?z25, ?z26, ?z27, ?z28, ?z29, ?z30, trivial⟩
      case z22|z23|z24|z25|z26|z27|z28|z29|z30 => first | exact rfl | (simp [hx, hy, encB, h1] <;> omega) | omega | (first | omega | (simp; exact h2))

theorem same7_1 (a b : CellD) (ha : a.ok) (hb : b.ok) (h1 : ¬ a.kind = b.kind) : ACalls Tryz.prog 23 [encC a, encC b] [] (.bool (sameC a b)) [] := by
  have e1 := bytes_st ha.by_
  have e2 := bytes_st hb.by_
  have e3 := bytes_eq ha.by_ hb.by_
  rw [show sameC a b = false by unfold sameC; rw [if_pos h1]]
  refine acallsK mixed Tryz.func23 rfl [0, 1, 2, 3, 4, 5, 28, 33, 46] 1000 ([.t]) [] [] (ob := [(a.kind != b.kind) = true]) (by kernel_rfl) ⟨rfl, rfl⟩ ⟨(by first | exact rfl | (simp [encC, celC, h1]; done) | (simp [encC, celC, h1]; omega) | omega | (first | exact e1 | exact e2 | omega | (rw [e3]; simp [h1]))), trivial⟩

theorem same7_2 (a b : CellD) (ha : a.ok) (hb : b.ok) (h1 : ¬ ¬ a.kind = b.kind) (h2 : (a.data == b.data) = false) : ACalls Tryz.prog 23 [encC a, encC b] [] (.bool (sameC a b)) [] := by
  have e1 := bytes_st ha.by_
  have e2 := bytes_st hb.by_
  have e3 := bytes_eq ha.by_ hb.by_
  rw [show sameC a b = false by unfold sameC; rw [if_neg h1, if_pos h2]]
  have h1 := Classical.not_not.1 h1
  refine acallsK mixed Tryz.func23 rfl [0, 1, 2, 3, 4, 5, 28, 33, 46] 1000 ([.f, .st (bytesOf a.data), .st (bytesOf b.data), .t]) [] [] (ob := [(a.kind != b.kind) = false,
 List.map byteA a.data = List.map (fun b => .int .u8 (↑(UInt8.toNat b) : Int)) (Array.toList (ByteArray.data (bytesOf a.data))),
 List.map byteA b.data = List.map (fun b => .int .u8 (↑(UInt8.toNat b) : Int)) (Array.toList (ByteArray.data (bytesOf b.data))),
 (!ByteArray.toList (bytesOf a.data) == ByteArray.toList (bytesOf b.data)) = true]) (by kernel_rfl) ⟨rfl, rfl⟩ ⟨?z0, ?z1, ?z2, ?z3, trivial⟩
  case z0|z1|z2|z3 => first | exact rfl | (simp [encC, celC, h1] <;> omega) | omega | (first | exact e1 | exact e2 | omega | (rw [e3]; simp [h2]))

theorem same7_3 (a b : CellD) (ha : a.ok) (hb : b.ok) (h1 : ¬ ¬ a.kind = b.kind) (h2 : ¬ (a.data == b.data) = false) (h3 : ¬ a.backs.length = b.backs.length) : ACalls Tryz.prog 23 [encC a, encC b] [] (.bool (sameC a b)) [] := by
  have e1 := bytes_st ha.by_
  have e2 := bytes_st hb.by_
  have e3 := bytes_eq ha.by_ hb.by_
  rw [show sameC a b = false by unfold sameC; rw [if_neg h1, if_neg h2, if_pos (decide_eq_false fun h => h3 (by rw [h]))]]
  have h1 := Classical.not_not.1 h1
  have h2 : (a.data == b.data) = true := by simpa using h2
  refine acallsK mixed Tryz.func23 rfl [0, 1, 2, 3, 4, 5, 28, 33, 46] 1000 ([.f, .st (bytesOf a.data), .st (bytesOf b.data), .f, .n a.backs.length, .n b.backs.length, .t]) [] [] (ob := [(a.kind != b.kind) = false,
 List.map byteA a.data = List.map (fun b => .int .u8 (↑(UInt8.toNat b) : Int)) (Array.toList (ByteArray.data (bytesOf a.data))),
 List.map byteA b.data = List.map (fun b => .int .u8 (↑(UInt8.toNat b) : Int)) (Array.toList (ByteArray.data (bytesOf b.data))),
 (!ByteArray.toList (bytesOf a.data) == ByteArray.toList (bytesOf b.data)) = false,
 ((List.map encB a.backs).length : Int) = (a.backs.length : Int),
 ((List.map encB b.backs).length : Int) = (b.backs.length : Int),
 ((a.backs.length : Int) != (b.backs.length : Int)) = true]) (by kernel_rfl) ⟨rfl, rfl⟩ ⟨?z0, ?z1, ?z2, ?z3, ?z4, ?z5, ?z6, trivial⟩
  case z0|z1|z2|z3|z4|z5|z6 => first | exact rfl | (simp [encC, celC, h1, h3] <;> omega) | omega | (first | exact e1 | exact e2 | omega | (rw [e3]; simp [h2]))

theorem same7_4 (a b : CellD) (ha : a.ok) (hb : b.ok) (h1 : ¬ ¬ a.kind = b.kind) (h2 : ¬ (a.data == b.data) = false) (h3 : a.backs.length = b.backs.length) (h4 : ¬ a.backs = b.backs) : ACalls Tryz.prog 23 [encC a, encC b] [] (.bool (sameC a b)) [] := by
  have e1 := bytes_st ha.by_
  have e2 := bytes_st hb.by_
  have e3 := bytes_eq ha.by_ hb.by_
  rw [show sameC a b = false by unfold sameC; rw [if_neg h1, if_neg h2, if_pos (decide_eq_false h4)]]
  have h1 := Classical.not_not.1 h1
  have h2 : (a.data == b.data) = true := by simpa using h2
  have h := (same7_loop a b ha.b h3 a.backs.length 0 (by omega)).2 h4
  refine acallsK mixed Tryz.func23 rfl [0, 1, 2, 3, 4, 5, 28, 33, 46] 1000 ([.f, .st (bytesOf a.data), .st (bytesOf b.data), .f, .n a.backs.length, .n b.backs.length, .f, .lp [5, 3, 2] [0, 1] .ret ⟨[(4, .bool false)], []⟩]) [] [] (ob := [(a.kind != b.kind) = false,
 List.map byteA a.data = List.map (fun b => .int .u8 (↑(UInt8.toNat b) : Int)) (Array.toList (ByteArray.data (bytesOf a.data))),
 List.map byteA b.data = List.map (fun b => .int .u8 (↑(UInt8.toNat b) : Int)) (Array.toList (ByteArray.data (bytesOf b.data))),
 (!ByteArray.toList (bytesOf a.data) == ByteArray.toList (bytesOf b.data)) = false,
 ((List.map encB a.backs).length : Int) = (a.backs.length : Int),
 ((List.map encB b.backs).length : Int) = (b.backs.length : Int),
 ((a.backs.length : Int) != (b.backs.length : Int)) = false,
 ALoop Tryz.prog 0 47 (loopB Tryz.f23 0) { env := [(5, .int .i64 0), (3, .ptr 1 0), (2, .ptr 0 0)], objs := [.vars 30 [.int .i64 a.kind, .lst 1 (List.map byteA a.data), .lst 3 (List.map encB a.backs)], .vars 30 [.int .i64 b.kind, .lst 1 (List.map byteA b.data), .lst 3 (List.map encB b.backs)]] } Ex.ret { env := [(4, .bool false)], objs := [] }]) (by kernel_rfl) ⟨rfl, rfl⟩ ⟨?z0, ?z1, ?z2, ?z3, ?z4, ?z5, ?z6, ?q149_1, trivial⟩
  case z0|z1|z2|z3|z4|z5|z6 => first | exact rfl | (simp [encC, celC, h1, h3] <;> omega) | omega | (first | exact e1 | exact e2 | omega | (rw [e3]; simp [h2]))
  · exact h

theorem same7_5 (a b : CellD) (ha : a.ok) (hb : b.ok) (h1 : ¬ ¬ a.kind = b.kind) (h2 : ¬ (a.data == b.data) = false) (h3 : a.backs.length = b.backs.length) (h4 : a.backs = b.backs) : ACalls Tryz.prog 23 [encC a, encC b] [] (.bool (sameC a b)) [] := by
  have e1 := bytes_st ha.by_
  have e2 := bytes_st hb.by_
  have e3 := bytes_eq ha.by_ hb.by_
  rw [show sameC a b = true by unfold sameC; rw [if_neg h1, if_neg h2, if_neg (by rw [decide_eq_true h4]; decide)]]
  have h1 := Classical.not_not.1 h1
  have h2 : (a.data == b.data) = true := by simpa using h2
  have h := (same7_loop a b ha.b h3 a.backs.length 0 (by omega)).1 h4
  refine acallsK mixed Tryz.func23 rfl [0, 1, 2, 3, 4, 5, 28, 33, 46] 1000 ([.f, .st (bytesOf a.data), .st (bytesOf b.data), .f, .n a.backs.length, .n b.backs.length, .f, .lp [5, 3, 2] [0, 1] (.exit 0) ⟨[], []⟩]) [] [] (ob := [(a.kind != b.kind) = false,
 List.map byteA a.data = List.map (fun b => .int .u8 (↑(UInt8.toNat b) : Int)) (Array.toList (ByteArray.data (bytesOf a.data))),
 List.map byteA b.data = List.map (fun b => .int .u8 (↑(UInt8.toNat b) : Int)) (Array.toList (ByteArray.data (bytesOf b.data))),
 (!ByteArray.toList (bytesOf a.data) == ByteArray.toList (bytesOf b.data)) = false,
 ((List.map encB a.backs).length : Int) = (a.backs.length : Int),
 ((List.map encB b.backs).length : Int) = (b.backs.length : Int),
 ((a.backs.length : Int) != (b.backs.length : Int)) = false,
 ALoop Tryz.prog 0 47 (loopB Tryz.f23 0) { env := [(5, .int .i64 0), (3, .ptr 1 0), (2, .ptr 0 0)], objs := [.vars 30 [.int .i64 a.kind, .lst 1 (List.map byteA a.data), .lst 3 (List.map encB a.backs)], .vars 30 [.int .i64 b.kind, .lst 1 (List.map byteA b.data), .lst 3 (List.map encB b.backs)]] } (Ex.exit 0) { env := [], objs := [] }]) (by kernel_rfl) ⟨rfl, rfl⟩ ⟨?z0, ?z1, ?z2, ?z3, ?z4, ?z5, ?z6, ?q160_1, trivial⟩
  case z0|z1|z2|z3|z4|z5|z6 => first | exact rfl | (simp [encC, celC, h1, h3] <;> omega) | omega | (first | exact e1 | exact e2 | omega | (rw [e3]; simp [h2]))
  · exact h
theorem same7_ac (a b : CellD) (ha : a.ok) (hb : b.ok) : ACalls Tryz.prog 23 [encC a, encC b] [] (.bool (sameC a b)) [] := by
  by_cases h1 : ¬ a.kind = b.kind
  · exact same7_1 a b ha hb h1
  · by_cases h2 : (a.data == b.data) = false
    · exact same7_2 a b ha hb h1 h2
    · by_cases h3 : a.backs.length = b.backs.length
      · by_cases h4 : a.backs = b.backs
        · exact same7_5 a b ha hb h1 h2 h3 h4
        · exact same7_4 a b ha hb h1 h2 h3 h4
      · exact same7_3 a b ha hb h1 h2 h3
theorem has_loop (l : List Int) (n : Int) (hb : l.length ≤ 1000000000000) : ∀ (c k : Nat), l.length = k + c →
    (n ∉ l.drop k → ALoop Tryz.prog 0 Tryz.f119.ntmps (loopB Tryz.f119 0) ⟨[(5, .int .i64 k), (0, .lst 1 (l.map intA)), (1, .int .i64 n)], []⟩ (.exit 0) ⟨[], []⟩) ∧
    (n ∈ l.drop k → ALoop Tryz.prog 0 Tryz.f119.ntmps (loopB Tryz.f119 0) ⟨[(5, .int .i64 k), (0, .lst 1 (l.map intA)), (1, .int .i64 n)], []⟩ .ret ⟨[(4, .bool true)], []⟩)
  | 0, k, h => by
    refine ⟨fun _ => ?_, fun hne => ?_⟩
    · refine aloopK mixed [0, 1, 4, 5, 9, 17] 1000 ([.go, .n l.length, .f]) [] [] (S1 := { env := [], objs := [] }) (ob := [((List.map intA l).length : Int) = (l.length : Int),
 decide ((↑k : Int) < (l.length : Int)) = false]) (by kernel_rfl) (by first | exact rfl | exact ⟨rfl, rfl⟩ | (simp []; done)) ⟨?z0, ?z1, trivial⟩
      case z0|z1 => first | exact rfl | (simp [] <;> omega) | omega
    · rw [List.drop_eq_nil_of_le (by omega)] at hne; cases hne
  | c + 1, k, h => by
    obtain ⟨x, hx⟩ := get_of (l := l) (k := k) (by omega)
    have ih := has_loop l n hb c (k + 1) (by omega)
    rw [drop_of hx]
    have hk : k < l.length := by omega
    have hw : IntKind.i64.wrap ((k : Int) + 1) = ((k + 1 : Nat) : Int) := wrap64 (by omega)
    by_cases hxy : x = n
    · subst hxy
      refine ⟨fun hq => absurd (List.mem_cons_self ..) hq, fun _ => ?_⟩
      refine aloopK mixed [0, 1, 4, 5, 9, 17] 1000 ([.go, .n l.length, .t, .ix k, .el (intA x), .t]) [4] [] (S1 := { env := [(4, .bool true)], objs := [] }) (ob := [((List.map intA l).length : Int) = (l.length : Int),
 decide ((↑k : Int) < (l.length : Int)) = true,
 k < List.length (List.map intA l),
 (↑k : Int) = (↑k : Int),
 (List.map intA l)[k]? = some (.int .i64 x),
 (x == x) = true]) (by kernel_rfl) (by first | exact rfl | exact ⟨rfl, rfl⟩ | (simp [hx, intA]; done)) ⟨?z2, ?z3, ?z4, ?z5, ?z6, ?z7, trivial⟩
      case z2|z3|z4|z5|z6|z7 => first | exact rfl | (simp [hx, intA] <;> omega) | omega
    · refine ⟨fun hq => ?_, fun hq => ?_⟩
      · have ih := ih.1 fun h => hq (List.mem_cons_of_mem _ h)
        refine aloopK mixed [0, 1, 4, 5, 9, 17] 1000 ([.go, .n l.length, .t, .ix k, .el (intA x), .f, .n ((k + 1 : Nat) : Int), .lp [5, 0, 1] [] (.exit 0) ⟨[], []⟩]) [] [] (S1 := { env := [], objs := [] }) (ob := [((List.map intA l).length : Int) = (l.length : Int),
 decide ((↑k : Int) < (l.length : Int)) = true,
 k < List.length (List.map intA l),
 (↑k : Int) = (↑k : Int),
 (List.map intA l)[k]? = some (.int .i64 x),
 (x == n) = false,
 IntKind.i64.wrap ((↑k : Int) + (1 : Int)) = (↑(k + (1 : Nat)) : Int),
 ALoop Tryz.prog 0 18 (loopB Tryz.f119 0) { env := [(5, .int .i64 (↑(k + 1) : Int)), (0, .lst 1 (List.map intA l)), (1, .int .i64 n)], objs := [] } (Ex.exit 0) { env := [], objs := [] }]) (by kernel_rfl) (by first | exact rfl | exact ⟨rfl, rfl⟩ | (simp [hx, intA, hxy, hw]; done)) ⟨?z8, ?z9, ?z10, ?z11, ?z12, ?z13, ?z14, ?q191_1, trivial⟩
        case z8|z9|z10|z11|z12|z13|z14 => first | exact rfl | (simp [hx, intA, hxy, hw] <;> omega) | omega
        exact ih
      · have ih := ih.2 (by rcases List.mem_cons.1 hq with h | h; exact absurd h.symm hxy; exact h)
        refine aloopK mixed [0, 1, 4, 5, 9, 17] 1000 ([.go, .n l.length, .t, .ix k, .el (intA x), .f, .n ((k + 1 : Nat) : Int), .lp [5, 0, 1] [] .ret ⟨[(4, .bool true)], []⟩]) [4] [] (S1 := { env := [(4, .bool true)], objs := [] }) (ob := [((List.map intA l).length : Int) = (l.length : Int),
 decide ((↑k : Int) < (l.length : Int)) = true,
 k < List.length (List.map intA l),
 (↑k : Int) = (↑k : Int),
 (List.map intA l)[k]? = some (.int .i64 x),
 (x == n) = false,
 IntKind.i64.wrap ((↑k : Int) + (1 : Int)) = (↑(k + (1 : Nat)) : Int),
 ALoop Tryz.prog 0 18 (loopB Tryz.f119 0) { env := [(5, .int .i64 (↑(k + 1) : Int)), (0, .lst 1 (List.map intA l)), (1, .int .i64 n)], objs := [] } Ex.ret { env := [(4, .bool true)], objs := [] }]) (by kernel_rfl) (by first | exact rfl | exact ⟨rfl, rfl⟩ | (simp [hx, intA, hxy, hw]; done)) ⟨?z15, ?z16, ?z17, ?z18, ?z19, ?z20, ?z21, ?q194_1, trivial⟩
        case z15|z16|z17|z18|z19|z20|z21 => first | exact rfl | (simp [hx, intA, hxy, hw] <;> omega) | omega
        exact ih
theorem has_ac (l : List Int) (n : Int) (hb : l.length ≤ 1000000000000) : ACalls Tryz.prog 119 [.lst 1 (l.map intA), .int .i64 n] [] (.bool (decide (n ∈ l))) [] := by
  have h := has_loop l n hb l.length 0 (by omega)
  rw [List.drop_zero] at h
  by_cases hn : n ∈ l
  · rw [decide_eq_true hn]
    have h := h.2 hn
    refine acallsK mixed Tryz.func119 rfl [0, 1, 4, 5, 9, 17] 1000 ([.lp [5, 0, 1] [] .ret ⟨[(4, .bool true)], []⟩]) [] [] (ob := [_]) (by kernel_rfl) ⟨rfl, rfl⟩ ⟨h, trivial⟩
  · rw [decide_eq_false hn]
    have h := h.1 hn
    refine acallsK mixed Tryz.func119 rfl [0, 1, 4, 5, 9, 17] 1000 ([.lp [5, 0, 1] [] (.exit 0) ⟨[], []⟩]) [] [] (ob := [_]) (by kernel_rfl) ⟨rfl, rfl⟩ ⟨h, trivial⟩
end Go.Proofs.YtidgcfgkcidkiaaGreat.Ch
namespace Go.Proofs.YtidgcfgkcidkiaaGreat.Ch
open Go Go.RowKit Go.Proofs.YtidgcfgkcidkiaaGreat.L Go.Proofs.YtidgcfgkcidkiaaGreat.X
set_option linter.unusedVariables false
set_option linter.unusedSimpArgs false
def unitsR : List Int → List Int → Option (List Int)
  | acc, [] => some acc
  | acc, x :: r => if x < 0 ∨ 32 ≤ x ∨ x ∈ acc then none else unitsR (acc ++ [x]) r
theorem unitsR_length : ∀ {c acc a : List Int}, unitsR acc c = some a → a.length = acc.length + c.length
  | [], acc, a, h => by injection h with h; subst h; simp
  | x :: r, acc, a, h => by
    unfold unitsR at h
    split at h
    · cases h
    · have := unitsR_length h
      rw [this, List.length_append, List.length_cons, List.length_cons, List.length_nil]; omega
def segO (s : SegD) : X.Obj := .vars 82 [.int .u64 s.at_, .lst 1 (s.chains.map encU)]
theorem seg_in (s : SegD) (c : List Int) (i : Nat) (hc : c.length ≤ 4) : ∀ (n k : Nat) (acc : List Int), c.length = k + n → acc.length + n ≤ 1000000000000 →
    (∀ a, unitsR acc (c.drop k) = some a → ALoop Tryz.prog 0 Tryz.f83.ntmps (loopB Tryz.f83 1) ⟨[(6, .int .i64 k), (5, .lst 1 (c.map intA)), (4, .int .i64 i), (3, .row 1 1 acc.length), (1, .ptr 0 0)], [segO s, .row 3 1 (acc.map intA)]⟩ (.exit 2) ⟨[(4, .int .i64 i), (3, .row 1 1 a.length), (1, .ptr 0 0)], [segO s, .row 3 1 (a.map intA)]⟩) ∧
    (unitsR acc (c.drop k) = none → ALoop Tryz.prog 0 Tryz.f83.ntmps (loopB Tryz.f83 1) ⟨[(6, .int .i64 k), (5, .lst 1 (c.map intA)), (4, .int .i64 i), (3, .row 1 1 acc.length), (1, .ptr 0 0)], [segO s, .row 3 1 (acc.map intA)]⟩ .ret ⟨[(2, .bool false)], []⟩)
  | 0, k, acc, h, hl => by
    rw [List.drop_eq_nil_of_le (by omega)]
    refine ⟨fun a ha => ?_, fun hne => by cases hne⟩
    injection ha with ha
    subst ha
    refine aloopK mixed [0, 1, 2, 3, 4, 5, 6, 11, 26, 30, 52] 1000 ([.go, .n c.length, .f]) [4, 3, 1] [0, 1] (S1 := { env := [(4, .int .i64 (↑i : Int)), (3, .row 1 1 (List.length acc)), (1, .ptr 0 0)], objs := [.vars 82 [.int .u64 s.at_, .lst 1 (List.map encU s.chains)], .row 3 1 (List.map intA acc)] }) (ob := [((List.map intA c).length : Int) = (c.length : Int),
 decide ((↑k : Int) < (c.length : Int)) = false]) (by kernel_rfl) (by first | exact rfl | exact ⟨rfl, rfl⟩ | (simp [segO]; done)) ⟨?z0, ?z1, trivial⟩
    case z0|z1 => first | exact rfl | (simp [segO] <;> omega) | omega
  | n + 1, k, acc, h, hl => by
    obtain ⟨x, hx⟩ := get_of (l := c) (k := k) (by omega)
    have hk : k < c.length := by omega
    have hw : IntKind.i64.wrap ((k : Int) + 1) = ((k + 1 : Nat) : Int) := wrap64 (by omega)
    have hm : acc.map intA ++ [.int .i64 x] = (acc ++ [x]).map intA := by simp [intA]
    have hsz : ((acc.map intA).length + 1) * 8 ≤ 140737488355328 := by rw [List.length_map]; omega
    have hl2 : ((acc ++ [x]).map intA).length = (acc ++ [x]).length := List.length_map ..
    rw [drop_of hx]
    by_cases h1 : x < 0
    · rw [show unitsR acc (x :: c.drop (k + 1)) = none by unfold unitsR; rw [if_pos (.inl h1)]]
      refine ⟨fun a ha => (by cases ha), fun _ => ?_⟩
      refine aloopK mixed [0, 1, 2, 3, 4, 5, 6, 11, 26, 30, 52] 1000 ([.go, .n c.length, .t, .ix k, .el (intA x), .t]) [2] [] (S1 := { env := [(2, .bool false)], objs := [] }) (ob := [((List.map intA c).length : Int) = (c.length : Int),
 decide ((↑k : Int) < (c.length : Int)) = true,
 k < List.length (List.map intA c),
 (↑k : Int) = (↑k : Int),
 (List.map intA c)[k]? = some (.int .i64 x),
 decide (x < (0 : Int)) = true]) (by kernel_rfl) (by first | exact rfl | exact ⟨rfl, rfl⟩ | (simp [segO, hx, intA, h1]; done)) ⟨?z2, ?z3, ?z4, ?z5, ?z6, ?z7, trivial⟩
      case z2|z3|z4|z5|z6|z7 => first | exact rfl | (simp [segO, hx, intA, h1] <;> omega) | omega
    · by_cases h2 : 32 ≤ x
      · rw [show unitsR acc (x :: c.drop (k + 1)) = none by unfold unitsR; rw [if_pos (.inr (.inl h2))]]
        refine ⟨fun a ha => (by cases ha), fun _ => ?_⟩
        refine aloopK mixed [0, 1, 2, 3, 4, 5, 6, 11, 26, 30, 52] 1000 ([.go, .n c.length, .t, .ix k, .el (intA x), .f, .ix k, .el (intA x), .t]) [2] [] (S1 := { env := [(2, .bool false)], objs := [] }) (ob := [((List.map intA c).length : Int) = (c.length : Int),
 decide ((↑k : Int) < (c.length : Int)) = true,
 k < List.length (List.map intA c),
 (↑k : Int) = (↑k : Int),
 (List.map intA c)[k]? = some (.int .i64 x),
 decide (x < (0 : Int)) = false,
 k < List.length (List.map intA c),
 (↑k : Int) = (↑k : Int),
 (List.map intA c)[k]? = some (.int .i64 x),
 decide (x ≥ (32 : Int)) = true]) (by kernel_rfl) (by first | exact rfl | exact ⟨rfl, rfl⟩ | (simp [segO, hx, intA, h1, h2]; done)) ⟨?z8, ?z9, ?z10, ?z11, ?z12, ?z13, ?z14, ?z15, ?z16, ?z17, trivial⟩
        case z8|z9|z10|z11|z12|z13|z14|z15|z16|z17 => first | exact rfl | (simp [segO, hx, intA, h1, h2] <;> omega) | omega
      · have q := has_ac acc x (by omega)
        by_cases h3 : x ∈ acc
        · rw [show unitsR acc (x :: c.drop (k + 1)) = none by unfold unitsR; rw [if_pos (.inr (.inr h3))]]
          rw [decide_eq_true h3] at q
          refine ⟨fun a ha => (by cases ha), fun _ => ?_⟩
          refine aloopK mixed [0, 1, 2, 3, 4, 5, 6, 11, 26, 30, 52] 1000 ([.go, .n c.length, .t, .ix k, .el (intA x), .f, .ix k, .el (intA x), .f, .ix k, .el (intA x), .call [] false true (.bool true) []]) [2] [] (S1 := { env := [(2, .bool false)], objs := [] }) (ob := [((List.map intA c).length : Int) = (c.length : Int),
 decide ((↑k : Int) < (c.length : Int)) = true,
 k < List.length (List.map intA c),
 (↑k : Int) = (↑k : Int),
 (List.map intA c)[k]? = some (.int .i64 x),
 decide (x < (0 : Int)) = false,
 k < List.length (List.map intA c),
 (↑k : Int) = (↑k : Int),
 (List.map intA c)[k]? = some (.int .i64 x),
 decide (x ≥ (32 : Int)) = false,
 k < List.length (List.map intA c),
 (↑k : Int) = (↑k : Int),
 (List.map intA c)[k]? = some (.int .i64 x),
 ACalls Tryz.prog 119 [.lst 1 (List.map intA acc), .int .i64 x] [] (.bool true) []]) (by kernel_rfl) (by first | exact rfl | exact ⟨rfl, rfl⟩ | (simp [segO, hx, intA, h1, h2]; done)) ⟨?z18, ?z19, ?z20, ?z21, ?z22, ?z23, ?z24, ?z25, ?z26, ?z27, ?z28, ?z29, ?z30, ?q49_1, trivial⟩
          case z18|z19|z20|z21|z22|z23|z24|z25|z26|z27|z28|z29|z30 => first | exact rfl | (simp [segO, hx, intA, h1, h2] <;> omega) | omega
          exact q
        · rw [show unitsR acc (x :: c.drop (k + 1)) = unitsR (acc ++ [x]) (c.drop (k + 1)) by rw [unitsR]; rw [if_neg (fun h => by rcases h with h | h | h; exact h1 h; exact h2 h; exact h3 h)]]
          rw [decide_eq_false h3] at q
          have ih := seg_in s c i hc n (k + 1) (acc ++ [x]) (by omega) (by rw [List.length_append, List.length_cons, List.length_nil]; omega)
          refine ⟨fun a ha => ?_, fun hq => ?_⟩
          · have ih := ih.1 a ha
            refine aloopK mixed [0, 1, 2, 3, 4, 5, 6, 11, 26, 30, 52] 1000 ([.go, .n c.length, .t, .ix k, .el (intA x), .f, .ix k, .el (intA x), .f, .ix k, .el (intA x), .call [] false true (.bool false) [], .ix k, .el (intA x), .ls ((acc ++ [x]).map intA), .n ((k + 1 : Nat) : Int), .lp [6, 5, 4, 3, 1] [0, 3] (.exit 2) ⟨[(4, .int .i64 i), (3, .row 1 1 a.length), (1, .ptr 0 0)], [segO s, .row 3 1 (a.map intA)]⟩]) [4, 3, 1] [0, 1] (S1 := { env := [(4, .int .i64 (↑i : Int)), (3, .row 1 1 (List.length a)), (1, .ptr 0 0)], objs := [.vars 82 [.int .u64 s.at_, .lst 1 (List.map encU s.chains)], .row 3 1 (List.map intA a)] }) (ob := [((List.map intA c).length : Int) = (c.length : Int),
 decide ((↑k : Int) < (c.length : Int)) = true,
 k < List.length (List.map intA c),
 (↑k : Int) = (↑k : Int),
 (List.map intA c)[k]? = some (.int .i64 x),
 decide (x < (0 : Int)) = false,
 k < List.length (List.map intA c),
 (↑k : Int) = (↑k : Int),
 (List.map intA c)[k]? = some (.int .i64 x),
 decide (x ≥ (32 : Int)) = false,
 k < List.length (List.map intA c),
 (↑k : Int) = (↑k : Int),
 (List.map intA c)[k]? = some (.int .i64 x),
 ACalls Tryz.prog 119 [.lst 1 (List.map intA acc), .int .i64 x] [] (.bool false) [],
 k < List.length (List.map intA c),
 (↑k : Int) = (↑k : Int),
 (List.map intA c)[k]? = some (.int .i64 x),
 (List.length (List.map intA acc) + (1 : Nat)) * (8 : Nat) ≤ (140737488355328 : Nat),
 List.map intA acc ++ [.int .i64 x] = List.map intA (acc ++ [x]),
 IntKind.i64.wrap ((↑k : Int) + (1 : Int)) = (↑(k + (1 : Nat)) : Int),
 ALoop Tryz.prog 0 75 (loopB Tryz.f83 1) { env := [(6, .int .i64 (↑(k + 1) : Int)), (5, .lst 1 (List.map intA c)), (4, .int .i64 (↑i : Int)), (3, .row 1 1 (List.length (List.map intA (acc ++ [x])))), (1, .ptr 0 0)], objs := [.vars 82 [.int .u64 s.at_, .lst 1 (List.map encU s.chains)], .row 3 1 (List.map intA (acc ++ [x]))] } (Ex.exit 2) { env := [(4, .int .i64 (↑i : Int)), (3, .row 1 1 (List.length a)), (1, .ptr 0 0)], objs := [.vars 82 [.int .u64 s.at_, .lst 1 (List.map encU s.chains)], .row 3 1 (List.map intA a)] }]) (by kernel_rfl) (by first | exact rfl | exact ⟨rfl, rfl⟩ | (simp [segO, hx, intA, h1, h2, hw]; done) | (first | exact hsz | exact hm | omega)) ⟨?z31, ?z32, ?z33, ?z34, ?z35, ?z36, ?z37, ?z38, ?z39, ?z40, ?z41, ?z42, ?z43, ?q56_1, ?z44, ?z45, ?z46, ?z47, ?z48, ?z49, ?q56_2, trivial⟩
            case z31|z32|z33|z34|z35|z36|z37|z38|z39|z40|z41|z42|z43|z44|z45|z46|z47|z48|z49 => first | exact rfl | (simp [segO, hx, intA, h1, h2, hw] <;> omega) | omega | (first | exact hsz | exact hm | omega)
            · exact q
            · rw [hl2]; exact ih
          · have ih := ih.2 hq
            refine aloopK mixed [0, 1, 2, 3, 4, 5, 6, 11, 26, 30, 52] 1000 ([.go, .n c.length, .t, .ix k, .el (intA x), .f, .ix k, .el (intA x), .f, .ix k, .el (intA x), .call [] false true (.bool false) [], .ix k, .el (intA x), .ls ((acc ++ [x]).map intA), .n ((k + 1 : Nat) : Int), .lp [6, 5, 4, 3, 1] [0, 3] .ret ⟨[(2, .bool false)], []⟩]) [2] [] (S1 := { env := [(2, .bool false)], objs := [] }) (ob := [((List.map intA c).length : Int) = (c.length : Int),
 decide ((↑k : Int) < (c.length : Int)) = true,
 k < List.length (List.map intA c),
 (↑k : Int) = (↑k : Int),
 (List.map intA c)[k]? = some (.int .i64 x),
 decide (x < (0 : Int)) = false,
 k < List.length (List.map intA c),
 (↑k : Int) = (↑k : Int),
 (List.map intA c)[k]? = some (.int .i64 x),
 decide (x ≥ (32 : Int)) = false,
 k < List.length (List.map intA c),
 (↑k : Int) = (↑k : Int),
 (List.map intA c)[k]? = some (.int .i64 x),
 ACalls Tryz.prog 119 [.lst 1 (List.map intA acc), .int .i64 x] [] (.bool false) [],
 k < List.length (List.map intA c),
 (↑k : Int) = (↑k : Int),
 (List.map intA c)[k]? = some (.int .i64 x),
 (List.length (List.map intA acc) + (1 : Nat)) * (8 : Nat) ≤ (140737488355328 : Nat),
 List.map intA acc ++ [.int .i64 x] = List.map intA (acc ++ [x]),
 IntKind.i64.wrap ((↑k : Int) + (1 : Int)) = (↑(k + (1 : Nat)) : Int),
 ALoop Tryz.prog 0 75 (loopB Tryz.f83 1) { env := [(6, .int .i64 (↑(k + 1) : Int)), (5, .lst 1 (List.map intA c)), (4, .int .i64 (↑i : Int)), (3, .row 1 1 (List.length (List.map intA (acc ++ [x])))), (1, .ptr 0 0)], objs := [.vars 82 [.int .u64 s.at_, .lst 1 (List.map encU s.chains)], .row 3 1 (List.map intA (acc ++ [x]))] } Ex.ret { env := [(2, .bool false)], objs := [] }]) (by kernel_rfl) (by first | exact rfl | exact ⟨rfl, rfl⟩ | (simp [segO, hx, intA, h1, h2, hw]; done) | (first | exact hsz | exact hm | omega)) ⟨?z50, ?z51, ?z52, ?z53, ?z54, ?z55, ?z56, ?z57, ?z58, ?z59, ?z60, ?z61, ?z62, ?q60_1, ?z63, ?z64, ?z65, ?z66, ?z67, ?z68, ?q60_2, trivial⟩
            case z50|z51|z52|z53|z54|z55|z56|z57|z58|z59|z60|z61|z62|z63|z64|z65|z66|z67|z68 => first | exact rfl | (simp [segO, hx, intA, h1, h2, hw] <;> omega) | omega | (first | exact hsz | exact hm | omega)
            · exact q
            · rw [hl2]; exact ih
def chainsR : List Int → List (List Int) → Option (List Int)
  | acc, [] => some acc
  | acc, c :: r => if c.length < 1 ∨ 4 < c.length then none else match unitsR acc c with | some a => chainsR a r | none => none
theorem seg_out (s : SegD) (hb : s.chains.length ≤ 1000000000) : ∀ (n k : Nat) (acc : List Int), s.chains.length = k + n → acc.length + 4 * n ≤ 1000000000000 →
    (∀ a, chainsR acc (s.chains.drop k) = some a → ALoop Tryz.prog 0 Tryz.f83.ntmps (loopB Tryz.f83 0) ⟨[(4, .int .i64 k), (3, .row 1 1 acc.length), (1, .ptr 0 0)], [segO s, .row 3 1 (acc.map intA)]⟩ (.exit 0) ⟨[(1, .ptr 0 0)], [segO s]⟩) ∧
    (chainsR acc (s.chains.drop k) = none → ALoop Tryz.prog 0 Tryz.f83.ntmps (loopB Tryz.f83 0) ⟨[(4, .int .i64 k), (3, .row 1 1 acc.length), (1, .ptr 0 0)], [segO s, .row 3 1 (acc.map intA)]⟩ .ret ⟨[(2, .bool false)], []⟩)
  | 0, k, acc, h, hl => by
    rw [List.drop_eq_nil_of_le (by omega)]
    refine ⟨fun a ha => ?_, fun hne => (by cases hne)⟩
    refine aloopK mixed [0, 1, 2, 3, 4, 5, 6, 11, 26, 30, 52] 1000 ([.go, .n s.chains.length, .f]) [1] [0] (S1 := { env := [(1, .ptr 0 0)], objs := [.vars 82 [.int .u64 s.at_, .lst 1 (List.map encU s.chains)]] }) (ob := [((List.map encU s.chains).length : Int) = (s.chains.length : Int),
 decide ((↑k : Int) < (s.chains.length : Int)) = false]) (by kernel_rfl) (by first | exact rfl | exact ⟨rfl, rfl⟩ | (simp [segO]; done)) ⟨?z0, ?z1, trivial⟩
    case z0|z1 => first | exact rfl | (simp [segO] <;> omega) | omega
  | n + 1, k, acc, h, hl => by
    obtain ⟨c, hx⟩ := get_of (l := s.chains) (k := k) (by omega)
    have hk : k < s.chains.length := by omega
    have hw : IntKind.i64.wrap ((k : Int) + 1) = ((k + 1 : Nat) : Int) := wrap64 (by omega)
    rw [drop_of hx]
    by_cases h1 : c.length < 1
    · rw [show chainsR acc (c :: s.chains.drop (k + 1)) = none by unfold chainsR; rw [if_pos (.inl h1)]]
      refine ⟨fun a ha => (by cases ha), fun _ => ?_⟩
      refine aloopK mixed [0, 1, 2, 3, 4, 5, 6, 11, 26, 30, 52] 1000 ([.go, .n s.chains.length, .t, .ix k, .el (encU c), .n c.length, .t]) [2] [] (S1 := { env := [(2, .bool false)], objs := [] }) (ob := [((List.map encU s.chains).length : Int) = (s.chains.length : Int),
 decide ((↑k : Int) < (s.chains.length : Int)) = true,
 k < List.length (List.map encU s.chains),
 (↑k : Int) = (↑k : Int),
 (List.map encU s.chains)[k]? = some (.lst (nat_lit 1) (List.map intA c)),
 ((List.map intA c).length : Int) = (c.length : Int),
 decide ((c.length : Int) < (1 : Int)) = true]) (by kernel_rfl) (by first | exact rfl | exact ⟨rfl, rfl⟩ | (simp [segO, hx, encU, h1]; done)) ⟨?z2, ?z3, ?z4, ?z5, ?z6, ?z7, ?z8, trivial⟩
      case z2|z3|z4|z5|z6|z7|z8 => first | exact rfl | (simp [segO, hx, encU, h1] <;> omega) | omega
    · by_cases h2 : 4 < c.length
      · rw [show chainsR acc (c :: s.chains.drop (k + 1)) = none by unfold chainsR; rw [if_pos (.inr h2)]]
        refine ⟨fun a ha => (by cases ha), fun _ => ?_⟩
        refine aloopK mixed [0, 1, 2, 3, 4, 5, 6, 11, 26, 30, 52] 1000 ([.go, .n s.chains.length, .t, .ix k, .el (encU c), .n c.length, .f, .n c.length, .t]) [2] [] (S1 := { env := [(2, .bool false)], objs := [] }) (ob := [((List.map encU s.chains).length : Int) = (s.chains.length : Int),
 decide ((↑k : Int) < (s.chains.length : Int)) = true,
 k < List.length (List.map encU s.chains),
 (↑k : Int) = (↑k : Int),
 (List.map encU s.chains)[k]? = some (.lst (nat_lit 1) (List.map intA c)),
 ((List.map intA c).length : Int) = (c.length : Int),
 decide ((c.length : Int) < (1 : Int)) = false,
 ((List.map intA c).length : Int) = (c.length : Int),
 decide ((c.length : Int) > (4 : Int)) = true]) (by kernel_rfl) (by first | exact rfl | exact ⟨rfl, rfl⟩ | (simp [segO, hx, encU, h1, h2]; done)) ⟨?z9, ?z10, ?z11, ?z12, ?z13, ?z14, ?z15, ?z16, ?z17, trivial⟩
        case z9|z10|z11|z12|z13|z14|z15|z16|z17 => first | exact rfl | (simp [segO, hx, encU, h1, h2] <;> omega) | omega
      · have hin := seg_in s c k (by omega) c.length 0 acc (by omega) (by omega)
        rw [List.drop_zero] at hin
        have hr : chainsR acc (c :: s.chains.drop (k + 1)) = match unitsR acc c with | some a => chainsR a (s.chains.drop (k + 1)) | none => none := by rw [chainsR]; rw [if_neg (fun h => by rcases h with h | h; exact h1 h; exact h2 h)]
        rw [hr]
        cases hu : unitsR acc c with
        | none =>
          have hin := hin.2 hu
          refine ⟨fun a ha => (by cases ha), fun _ => ?_⟩
          refine aloopK mixed [0, 1, 2, 3, 4, 5, 6, 11, 26, 30, 52] 1000 ([.go, .n s.chains.length, .t, .ix k, .el (encU c), .n c.length, .f, .n c.length, .f, .lp [6, 5, 4, 3, 1] [0, 1] .ret ⟨[(2, .bool false)], []⟩]) [2] [] (S1 := { env := [(2, .bool false)], objs := [] }) (ob := [((List.map encU s.chains).length : Int) = (s.chains.length : Int),
 decide ((↑k : Int) < (s.chains.length : Int)) = true,
 k < List.length (List.map encU s.chains),
 (↑k : Int) = (↑k : Int),
 (List.map encU s.chains)[k]? = some (.lst (nat_lit 1) (List.map intA c)),
 ((List.map intA c).length : Int) = (c.length : Int),
 decide ((c.length : Int) < (1 : Int)) = false,
 ((List.map intA c).length : Int) = (c.length : Int),
 decide ((c.length : Int) > (4 : Int)) = false,
 ALoop Tryz.prog 0 75 (loopB Tryz.f83 1) { env := [(6, .int .i64 0), (5, .lst 1 (List.map intA c)), (4, .int .i64 (↑k : Int)), (3, .row 1 1 (List.length acc)), (1, .ptr 0 0)], objs := [.vars 82 [.int .u64 s.at_, .lst 1 (List.map encU s.chains)], .row 3 1 (List.map intA acc)] } Ex.ret { env := [(2, .bool false)], objs := [] }]) (by kernel_rfl) (by first | exact rfl | exact ⟨rfl, rfl⟩ | (simp [segO, hx, encU, h1, h2]; done)) ⟨?z18, ?z19, ?z20, ?z21, ?z22, ?z23, ?z24, ?z25, ?z26, ?q94_1, trivial⟩
          case z18|z19|z20|z21|z22|z23|z24|z25|z26 => first | exact rfl | (simp [segO, hx, encU, h1, h2] <;> omega) | omega
          exact hin
        | some b =>
          have hin := hin.1 b hu
          have hbl := unitsR_length hu
          have ih := seg_out s hb n (k + 1) b (by omega) (by omega)
          refine ⟨fun a ha => ?_, fun hq => ?_⟩
          · have ih := ih.1 a ha
            refine aloopK mixed [0, 1, 2, 3, 4, 5, 6, 11, 26, 30, 52] 1000 ([.go, .n s.chains.length, .t, .ix k, .el (encU c), .n c.length, .f, .n c.length, .f, .lp [6, 5, 4, 3, 1] [0, 1] (.exit 2) ⟨[(4, .int .i64 k), (3, .row 1 1 b.length), (1, .ptr 0 0)], [segO s, .row 3 1 (b.map intA)]⟩, .n ((k + 1 : Nat) : Int), .lp [4, 3, 1] [0, 1] (.exit 0) ⟨[(1, .ptr 0 0)], [segO s]⟩]) [1] [0] (S1 := { env := [(1, .ptr 0 0)], objs := [.vars 82 [.int .u64 s.at_, .lst 1 (List.map encU s.chains)]] }) (ob := [((List.map encU s.chains).length : Int) = (s.chains.length : Int),
 decide ((↑k : Int) < (s.chains.length : Int)) = true,
 k < List.length (List.map encU s.chains),
 (↑k : Int) = (↑k : Int),
 (List.map encU s.chains)[k]? = some (.lst (nat_lit 1) (List.map intA c)),
 ((List.map intA c).length : Int) = (c.length : Int),
 decide ((c.length : Int) < (1 : Int)) = false,
 ((List.map intA c).length : Int) = (c.length : Int),
 decide ((c.length : Int) > (4 : Int)) = false,
 ALoop Tryz.prog 0 75 (loopB Tryz.f83 1) { env := [(6, .int .i64 0), (5, .lst 1 (List.map intA c)), (4, .int .i64 (↑k : Int)), (3, .row 1 1 (List.length acc)), (1, .ptr 0 0)], objs := [.vars 82 [.int .u64 s.at_, .lst 1 (List.map encU s.chains)], .row 3 1 (List.map intA acc)] } (Ex.exit 2) { env := [(4, .int .i64 (↑k : Int)), (3, .row 1 1 (List.length b)), (1, .ptr 0 0)], objs := [.vars 82 [.int .u64 s.at_, .lst 1 (List.map encU s.chains)], .row 3 1 (List.map intA b)] },
 IntKind.i64.wrap ((↑k : Int) + (1 : Int)) = (↑(k + (1 : Nat)) : Int),
 ALoop Tryz.prog 0 75 (loopB Tryz.f83 0) { env := [(4, .int .i64 (↑(k + 1) : Int)), (3, .row 1 1 (List.length b)), (1, .ptr 0 0)], objs := [.vars 82 [.int .u64 s.at_, .lst 1 (List.map encU s.chains)], .row 3 1 (List.map intA b)] } (Ex.exit 0) { env := [(1, .ptr 0 0)], objs := [.vars 82 [.int .u64 s.at_, .lst 1 (List.map encU s.chains)]] }]) (by kernel_rfl) (by first | exact rfl | exact ⟨rfl, rfl⟩ | (simp [segO, hx, encU, h1, h2, hw]; done)) ⟨?z27, ?z28, ?z29, ?z30, ?z31, ?z32, ?z33, ?z34, ?z35, ?q102_1, ?z36, ?q102_2, trivial⟩
            case z27|z28|z29|z30|z31|z32|z33|z34|z35|z36 => first | exact rfl | (simp [segO, hx, encU, h1, h2, hw] <;> omega) | omega
            · exact hin
            · exact ih
          · have ih := ih.2 hq
            refine aloopK mixed [0, 1, 2, 3, 4, 5, 6, 11, 26, 30, 52] 1000 ([.go, .n s.chains.length, .t, .ix k, .el (encU c), .n c.length, .f, .n c.length, .f, .lp [6, 5, 4, 3, 1] [0, 1] (.exit 2) ⟨[(4, .int .i64 k), (3, .row 1 1 b.length), (1, .ptr 0 0)], [segO s, .row 3 1 (b.map intA)]⟩, .n ((k + 1 : Nat) : Int), .lp [4, 3, 1] [0, 1] .ret ⟨[(2, .bool false)], []⟩]) [2] [] (S1 := { env := [(2, .bool false)], objs := [] }) (ob := [((List.map encU s.chains).length : Int) = (s.chains.length : Int),
 decide ((↑k : Int) < (s.chains.length : Int)) = true,
 k < List.length (List.map encU s.chains),
 (↑k : Int) = (↑k : Int),
 (List.map encU s.chains)[k]? = some (.lst (nat_lit 1) (List.map intA c)),
 ((List.map intA c).length : Int) = (c.length : Int),
 decide ((c.length : Int) < (1 : Int)) = false,
 ((List.map intA c).length : Int) = (c.length : Int),
 decide ((c.length : Int) > (4 : Int)) = false,
 ALoop Tryz.prog 0 75 (loopB Tryz.f83 1) { env := [(6, .int .i64 0), (5, .lst 1 (List.map intA c)), (4, .int .i64 (↑k : Int)), (3, .row 1 1 (List.length acc)), (1, .ptr 0 0)], objs := [.vars 82 [.int .u64 s.at_, .lst 1 (List.map encU s.chains)], .row 3 1 (List.map intA acc)] } (Ex.exit 2) { env := [(4, .int .i64 (↑k : Int)), (3, .row 1 1 (List.length b)), (1, .ptr 0 0)], objs := [.vars 82 [.int .u64 s.at_, .lst 1 (List.map encU s.chains)], .row 3 1 (List.map intA b)] },
 IntKind.i64.wrap ((↑k : Int) + (1 : Int)) = (↑(k + (1 : Nat)) : Int),
 ALoop Tryz.prog 0 75 (loopB Tryz.f83 0) { env := [(4, .int .i64 (↑(k + 1) : Int)), (3, .row 1 1 (List.length b)), (1, .ptr 0 0)], objs := [.vars 82 [.int .u64 s.at_, .lst 1 (List.map encU s.chains)], .row 3 1 (List.map intA b)] } Ex.ret { env := [(2, .bool false)], objs := [] }]) (by kernel_rfl) (by first | exact rfl | exact ⟨rfl, rfl⟩ | (simp [segO, hx, encU, h1, h2, hw]; done)) ⟨?z37, ?z38, ?z39, ?z40, ?z41, ?z42, ?z43, ?z44, ?z45, ?q106_1, ?z46, ?q106_2, trivial⟩
            case z37|z38|z39|z40|z41|z42|z43|z44|z45|z46 => first | exact rfl | (simp [segO, hx, encU, h1, h2, hw] <;> omega) | omega
            · exact hin
            · exact ih
def segR (s : SegD) : Bool := (chainsR [] s.chains).isSome && (decide (1 ≤ s.chains.length) && (decide (s.chains.length ≤ 4) && decide (s.at_ < 1048576)))
theorem segR_ac (s : SegD) (hb : s.chains.length ≤ 1000000000) : ACalls Tryz.prog 83 [encS s] [] (.bool (segR s)) [] := by
  have h := seg_out s hb s.chains.length 0 [] (by omega) (by simp; omega)
  rw [List.drop_zero] at h
  unfold segR
  cases hc : chainsR [] s.chains with
  | none =>
    have h := h.2 hc
    refine acallsK mixed Tryz.func83 rfl [0, 1, 2, 3, 4, 5, 6, 11, 26, 30, 52] 1000 ([.mk 3 3 1, .lp [4, 3, 1] [0, 1] .ret ⟨[(2, .bool false)], []⟩]) [] [] (ob := [_]) (by kernel_rfl) ⟨rfl, rfl⟩ ⟨h, trivial⟩
  | some a =>
    have h := h.1 a hc
    by_cases h1 : 1 ≤ s.chains.length
    · by_cases h2 : s.chains.length ≤ 4
      · rw [decide_eq_true h1, decide_eq_true h2, Bool.true_and, Bool.true_and, Option.isSome_some, Bool.true_and]
        refine acallsK mixed Tryz.func83 rfl [0, 1, 2, 3, 4, 5, 6, 11, 26, 30, 52] 1000 ([.mk 3 3 1, .lp [4, 3, 1] [0, 1] (.exit 0) ⟨[(1, .ptr 0 0)], [segO s]⟩, .n s.chains.length, .t, .n s.chains.length, .t, .k]) [] [] (ob := [_,
 ((List.map encU s.chains).length : Int) = (s.chains.length : Int),
 decide ((s.chains.length : Int) ≥ (1 : Int)) = true,
 ((List.map encU s.chains).length : Int) = (s.chains.length : Int),
 decide ((s.chains.length : Int) ≤ (4 : Int)) = true]) (by kernel_rfl) ⟨rfl, rfl⟩ ⟨h, ?z0, ?z1, ?z2, ?z3, trivial⟩
        case z0|z1|z2|z3 => first | exact rfl | (simp [encS, segO, h1, h2] <;> omega) | omega | (omega)
      · rw [decide_eq_false h2, Bool.false_and, Bool.and_false, Bool.and_false]
        refine acallsK mixed Tryz.func83 rfl [0, 1, 2, 3, 4, 5, 6, 11, 26, 30, 52] 1000 ([.mk 3 3 1, .lp [4, 3, 1] [0, 1] (.exit 0) ⟨[(1, .ptr 0 0)], [segO s]⟩, .n s.chains.length, .t, .n s.chains.length, .f]) [] [] (ob := [_,
 ((List.map encU s.chains).length : Int) = (s.chains.length : Int),
 decide ((s.chains.length : Int) ≥ (1 : Int)) = true,
 ((List.map encU s.chains).length : Int) = (s.chains.length : Int),
 decide ((s.chains.length : Int) ≤ (4 : Int)) = false]) (by kernel_rfl) ⟨rfl, rfl⟩ ⟨h, ?z4, ?z5, ?z6, ?z7, trivial⟩
        case z4|z5|z6|z7 => first | exact rfl | (simp [encS, segO, h1, h2] <;> omega) | omega | (omega)
    · rw [decide_eq_false h1, Bool.false_and, Bool.and_false]
      refine acallsK mixed Tryz.func83 rfl [0, 1, 2, 3, 4, 5, 6, 11, 26, 30, 52] 1000 ([.mk 3 3 1, .lp [4, 3, 1] [0, 1] (.exit 0) ⟨[(1, .ptr 0 0)], [segO s]⟩, .n s.chains.length, .f]) [] [] (ob := [_,
 ((List.map encU s.chains).length : Int) = (s.chains.length : Int),
 decide ((s.chains.length : Int) ≥ (1 : Int)) = false]) (by kernel_rfl) ⟨rfl, rfl⟩ ⟨h, ?z8, ?z9, trivial⟩
      case z8|z9 => first | exact rfl | (simp [encS, segO, h1] <;> omega) | omega | (omega)
end Go.Proofs.YtidgcfgkcidkiaaGreat.Ch
namespace Go.Proofs.YtidgcfgkcidkiaaGreat.Ch
open Go Go.RowKit Go.Proofs.YtidgcfgkcidkiaaGreat.L Go.Proofs.YtidgcfgkcidkiaaGreat.X
set_option linter.unusedVariables false
set_option linter.unusedSimpArgs false
theorem unitsR_some : ∀ {c acc a : List Int}, unitsR acc c = some a → a = acc ++ c
  | [], acc, a, h => by injection h with h; subst h; simp
  | x :: r, acc, a, h => by
    unfold unitsR at h
    split at h
    · cases h
    · have := unitsR_some h
      rw [this]; simp
theorem unitsR_iff : ∀ (c acc : List Int), acc.Nodup → ((unitsR acc c).isSome = true ↔ (∀ x ∈ c, 0 ≤ x ∧ x < 32) ∧ (acc ++ c).Nodup)
  | [], acc, h => by simp [unitsR, h]
  | x :: r, acc, h => by
    unfold unitsR
    split
    · rename_i hx
      constructor
      · intro h; cases h
      · rintro ⟨h1, h2⟩
        have := h1 x (by simp)
        rcases hx with hx | hx | hx
        · omega
        · omega
        · rw [List.nodup_append] at h2
          exact absurd rfl (h2.2.2 x hx x (by simp))
    · rename_i hx
      have hn : x ∉ acc := fun h => hx (.inr (.inr h))
      have h0 : 0 ≤ x ∧ x < 32 := ⟨by omega, by omega⟩
      have ha : (acc ++ [x]).Nodup := by
        rw [List.nodup_append]
        refine ⟨h, by simp, fun a h1 b h2 => ?_⟩
        simp at h2; subst h2
        rintro rfl; exact hn h1
      rw [unitsR_iff r (acc ++ [x]) ha]
      simp only [List.append_assoc, List.cons_append, List.nil_append, List.mem_cons, forall_eq_or_imp]
      constructor
      · rintro ⟨h1, h2⟩; exact ⟨⟨h0, h1⟩, h2⟩
      · rintro ⟨⟨_, h1⟩, h2⟩; exact ⟨h1, h2⟩
theorem chainsR_iff : ∀ (l : List (List Int)) (acc : List Int), acc.Nodup → ((chainsR acc l).isSome = true ↔ (∀ c ∈ l, 1 ≤ c.length ∧ c.length ≤ 4) ∧ (∀ x ∈ l.flatten, 0 ≤ x ∧ x < 32) ∧ (acc ++ l.flatten).Nodup)
  | [], acc, h => by simp [chainsR, h]
  | c :: r, acc, h => by
    unfold chainsR
    split
    · rename_i hc
      constructor
      · intro h; cases h
      · rintro ⟨h1, _⟩
        have := h1 c (by simp)
        omega
    · rename_i hc
      have hl : 1 ≤ c.length ∧ c.length ≤ 4 := by omega
      have hu := unitsR_iff c acc h
      simp only [List.mem_cons, forall_eq_or_imp, List.flatten_cons, List.mem_append]
      cases hr : unitsR acc c with
      | none =>
        rw [hr] at hu
        constructor
        · intro h; cases h
        · rintro ⟨_, h1, h2⟩
          rw [← List.append_assoc, List.nodup_append] at h2
          exact absurd (hu.2 ⟨fun x hx => h1 x (.inl hx), h2.1⟩) (by simp)
      | some a =>
        rw [hr] at hu
        have ⟨hu1, hu2⟩ := hu.1 rfl
        have ha := unitsR_some hr
        subst ha
        rw [chainsR_iff r _ hu2]
        constructor
        · rintro ⟨h1, h2, h3⟩
          exact ⟨⟨hl, h1⟩, fun x hx => hx.elim (hu1 x) (h2 x), by rw [← List.append_assoc]; exact h3⟩
        · rintro ⟨⟨_, h1⟩, h2, h3⟩
          exact ⟨h1, fun x hx => h2 x (.inr hx), by rw [List.append_assoc]; exact h3⟩
/-- A sorted list has as many as its compact form only without doubles. -/
theorem compactUpTo_lt (d : Array Int) : ∀ m j, j < m → Go.Lib.keeps d j = false → (Go.Lib.compactUpTo d m).length < m
  | 0, j, h, _ => by omega
  | m + 1, j, h, hk => by
    rw [Go.Lib.compactUpTo_succ, List.length_append]
    by_cases hj : j = m
    · subst hj
      rw [hk]
      have := compactUpTo_length d j
      simp
      omega
    · have := compactUpTo_lt d m j (by omega) hk
      split <;> simp <;> omega
theorem compact_nodup {l : List Int} (hs : l.Pairwise (· ≤ ·)) : (Go.Lib.compact l).length = l.length ↔ l.Nodup := by
  constructor
  · intro h
    have hk : ∀ j, j < l.length → Go.Lib.keeps l.toArray j = true := by
      intro j hj
      cases hk : Go.Lib.keeps l.toArray j with
      | true => rfl
      | false =>
        have := compactUpTo_lt l.toArray l.length j hj hk
        unfold Go.Lib.compact at h
        omega
    rw [List.nodup_iff_pairwise_ne, List.pairwise_iff_getElem]
    rw [List.pairwise_iff_getElem] at hs
    intro i j hi hj hij he
    have h1 := hk j hj
    unfold Go.Lib.keeps at h1
    have h2 := hs i (j - 1)
    have hlt : ∀ q, q < l.length → l.toArray[q]! = l[q]! := fun q hq => by simp
    by_cases hj0 : j = 0
    · omega
    · simp [hj0] at h1
      by_cases h3 : i = j - 1
      · subst h3
        simp [hj, hi] at h1
        exact h1 he.symm
      · have h4 := h2 hi (by omega) (by omega)
        have h5 := hs (j - 1) j (by omega) hj (by omega)
        have h6 : l[j - 1]'(by omega) = l[j] := by omega
        simp [hj, show j - 1 < l.length by omega] at h1
        exact h1 h6.symm
  · intro h
    rw [Go.Lib.compact_all]
    intro j hj
    unfold Go.Lib.keeps
    by_cases hj0 : j = 0
    · simp [hj0]
    · rw [List.nodup_iff_pairwise_ne, List.pairwise_iff_getElem] at h
      have := h (j - 1) j (by omega) hj (by omega)
      simp [hj0, hj, show j - 1 < l.length by omega]
      exact fun he => this he.symm
theorem sortL_sorted (l : List Int) : (sortL l).Pairwise (· ≤ ·) := by
  have := List.pairwise_mergeSort (le := fun x y : Int => decide (x ≤ y)) (by intro a b c h1 h2; simp at h1 h2 ⊢; omega) (by intro a b; simp; omega) l
  unfold sortL
  exact this.imp fun h => by simpa using h
theorem segR_eq (s : SegD) : segR s = fineB s := by
  have hc := chainsR_iff s.chains [] (by simp)
  have hcn : (sortL (catL s.chains)).Nodup ↔ (catL s.chains).Nodup := (List.mergeSort_perm _ _).nodup_iff
  have hcm := compact_nodup (sortL_sorted (catL s.chains))
  rw [sortL_length, hcn] at hcm
  have hm : ∀ x, x ∈ sortL (catL s.chains) ↔ x ∈ catL s.chains := fun x => by unfold sortL; exact List.mem_mergeSort
  rw [Bool.eq_iff_iff]
  simp only [segR, fineB, Bool.and_eq_true, hc, List.nil_append, decide_eq_true_eq, Bool.not_eq_true', List.any_eq_false, lenB, longB, outB, inB, Int.ofNat_inj]
  have hi : ((Go.Lib.compact (sortL (catL s.chains))).length : Int) = (catL s.chains).length ↔ (catL s.chains).Nodup := by rw [Int.ofNat_inj]; exact hcm
  constructor
  · rintro ⟨⟨h1, h2, h3⟩, h4, h5, h6⟩
    refine ⟨h6, ⟨by omega, by omega⟩, fun c hcc => ?_, fun x hx => ?_, ?_⟩
    · have := h1 c hcc; simp; omega
    · have := h2 x ((hm x).1 hx); simp; omega
    · first | exact hcm.2 h3 | exact hi.2 h3
  · rintro ⟨h1, ⟨h2, h3⟩, h4, h5, h6⟩
    refine ⟨⟨fun c hcc => ?_, fun x hx => ?_, ?_⟩, by omega, by omega, h1⟩
    · have := h4 c hcc; simp at this; omega
    · have := h5 x ((hm x).2 hx); simp at this; omega
    · first | exact hcm.1 h6 | exact hi.1 h6
end Go.Proofs.YtidgcfgkcidkiaaGreat.Ch
namespace Go.Proofs.YtidgcfgkcidkiaaGreat.Ch
open Go Go.RowKit Go.Proofs.YtidgcfgkcidkiaaGreat.L Go.Proofs.YtidgcfgkcidkiaaGreat.X
set_option linter.unusedVariables false
set_option linter.unusedSimpArgs false
theorem lay9_loop (l : LayD) (hs : ∀ s ∈ l.segs, s.chains.length ≤ 1000000000) (hb : l.segs.length ≤ 1000000000000) : ∀ (n k : Nat), l.segs.length = k + n →
    (restB (prevL l k) (l.segs.drop k) = true → ALoop Tryz.prog 0 Tryz.f46.ntmps (loopB Tryz.f46 0) ⟨[(4, .int .i64 k), (3, .int .i64 l.segs.length), (1, .ptr 0 0)], [.vars 25 (celL l)]⟩ (.exit 0) ⟨[], []⟩) ∧
    (restB (prevL l k) (l.segs.drop k) = false → ALoop Tryz.prog 0 Tryz.f46.ntmps (loopB Tryz.f46 0) ⟨[(4, .int .i64 k), (3, .int .i64 l.segs.length), (1, .ptr 0 0)], [.vars 25 (celL l)]⟩ .ret ⟨[(2, .bool false)], []⟩)
  | 0, k, h => by
    rw [List.drop_of_length_le (by omega)]
    refine ⟨fun _ => ?_, fun hq => (by cases prevL l k <;> cases hq)⟩
    refine aloopK mixed [0, 1, 2, 3, 4, 5, 42, 45, 75] 1000 ([.go, .f]) [] [] (S1 := { env := [], objs := [] }) (ob := [decide ((↑k : Int) < (l.segs.length : Int)) = false]) (by kernel_rfl) (by first | exact rfl | exact ⟨rfl, rfl⟩ | (simp []; done)) ⟨(by first | exact rfl | (simp []; done) | (simp []; omega) | omega), trivial⟩
  | n + 1, k, h => by
    obtain ⟨x, hx⟩ := get_of (l := l.segs) (k := k) (by omega)
    have hk : k < l.segs.length := by omega
    have hw : IntKind.i64.wrap ((k : Int) + 1) = ((k + 1 : Nat) : Int) := wrap64 (by omega)
    have ih := lay9_loop l hs hb n (k + 1) (by omega)
    have q := segR_ac x (hs x (List.mem_of_getElem? hx))
    rw [segR_eq] at q
    have hp1 : prevL l (k + 1) = some x.at_ := by simp [prevL, hx]
    rw [hp1] at ih
    rw [drop_of hx]
    cases h1 : fineB x with
    | false =>
      rw [h1] at q
      refine ⟨fun hq => (by cases hp : prevL l k <;> simp [hp, restB, h1] at hq), fun _ => ?_⟩
      refine aloopK mixed [0, 1, 2, 3, 4, 5, 42, 45, 75] 1000 ([.go, .t, .ix k, .el (encS x), .call [] false true (.bool false) []]) [2] [] (S1 := { env := [(2, .bool false)], objs := [] }) (ob := [decide ((↑k : Int) < (l.segs.length : Int)) = true,
 k < List.length (List.map encS l.segs),
 (↑k : Int) = (↑k : Int),
 (List.map encS l.segs)[k]? = some (.agg [.int .u64 x.at_, .lst (nat_lit 1) (List.map encU x.chains)]),
 ACalls Tryz.prog 83 [.agg [.int .u64 x.at_, .lst 1 (List.map encU x.chains)]] [] (.bool false) []]) (by kernel_rfl) (by first | exact rfl | exact ⟨rfl, rfl⟩ | (simp [encS, hx, hw]; done) | (first | exact hx | exact hpj | exact hg | omega | exact wrap_pred (by omega))) ⟨?z0, ?z1, ?z2, ?z3, ?q28_1, trivial⟩
      case z0|z1|z2|z3 => first | exact rfl | (simp [encS, hx, hw] <;> omega) | omega | (first | exact hx | exact hpj | exact hg | omega | exact wrap_pred (by omega))
      · exact q
    | true =>
      rw [h1] at q
      match k, hk, hx, hw, ih, hp1, h with
      | 0, hk, hx, hw, ih, hp1, h =>
        rw [show prevL l 0 = none from rfl]
        have hr : restB none (x :: l.segs.drop (0 + 1)) = restB (some x.at_) (l.segs.drop (0 + 1)) := by simp [restB, h1]
        rw [hr]
        have hg : decide (((0 : Nat) : Int) > 0) = false := by decide
        refine ⟨fun hq => ?_, fun hq => ?_⟩
        · have ih := ih.1 hq
          refine aloopK mixed [0, 1, 2, 3, 4, 5, 42, 45, 75] 1000 ([.go, .t, .ix 0, .el (encS x), .call [] false true (.bool true) [], .f, .n ((0 + 1 : Nat) : Int), .lp [4, 3, 1] [0] (.exit 0) ⟨[], []⟩]) [] [] (S1 := { env := [], objs := [] }) (ob := [decide ((↑(0 : Nat) : Int) < (l.segs.length : Int)) = true,
 nat_lit 0 < List.length (List.map encS l.segs),
 (↑(0 : Nat) : Int) = (↑(nat_lit 0) : Int),
 (List.map encS l.segs)[nat_lit 0]? = some (.agg [.int .u64 x.at_, .lst (nat_lit 1) (List.map encU x.chains)]),
 ACalls Tryz.prog 83 [.agg [.int .u64 x.at_, .lst 1 (List.map encU x.chains)]] [] (.bool true) [],
 decide ((↑(0 : Nat) : Int) > (0 : Int)) = false,
 IntKind.i64.wrap ((↑(0 : Nat) : Int) + (1 : Int)) = (↑((0 : Nat) + (1 : Nat)) : Int),
 ALoop Tryz.prog 0 76 (loopB Tryz.f46 0) { env := [(4, .int .i64 (↑(0 + 1) : Int)), (3, .int .i64 (l.segs.length : Int)), (1, .ptr 0 0)], objs := [.vars 25 [.int .u64 l.epoch, .lst 2 (List.map encS l.segs), .int .i64 l.seq]] } (Ex.exit 0) { env := [], objs := [] }]) (by kernel_rfl) (by first | exact rfl | exact ⟨rfl, rfl⟩ | (simp [encS, hx, hw]; done) | (first | exact hx | exact hpj | exact hg | omega | exact wrap_pred (by omega))) ⟨?z4, ?z5, ?z6, ?z7, ?q40_1, ?z8, ?z9, ?q40_2, trivial⟩
          case z4|z5|z6|z7|z8|z9 => first | exact rfl | (simp [encS, hx, hw] <;> omega) | omega | (first | exact hx | exact hpj | exact hg | omega | exact wrap_pred (by omega))
          · exact q
          · exact ih
        · have ih := ih.2 hq
          refine aloopK mixed [0, 1, 2, 3, 4, 5, 42, 45, 75] 1000 ([.go, .t, .ix 0, .el (encS x), .call [] false true (.bool true) [], .f, .n ((0 + 1 : Nat) : Int), .lp [4, 3, 1] [0] .ret ⟨[(2, .bool false)], []⟩]) [2] [] (S1 := { env := [(2, .bool false)], objs := [] }) (ob := [decide ((↑(0 : Nat) : Int) < (l.segs.length : Int)) = true,
 nat_lit 0 < List.length (List.map encS l.segs),
 (↑(0 : Nat) : Int) = (↑(nat_lit 0) : Int),
 (List.map encS l.segs)[nat_lit 0]? = some (.agg [.int .u64 x.at_, .lst (nat_lit 1) (List.map encU x.chains)]),
 ACalls Tryz.prog 83 [.agg [.int .u64 x.at_, .lst 1 (List.map encU x.chains)]] [] (.bool true) [],
 decide ((↑(0 : Nat) : Int) > (0 : Int)) = false,
 IntKind.i64.wrap ((↑(0 : Nat) : Int) + (1 : Int)) = (↑((0 : Nat) + (1 : Nat)) : Int),
 ALoop Tryz.prog 0 76 (loopB Tryz.f46 0) { env := [(4, .int .i64 (↑(0 + 1) : Int)), (3, .int .i64 (l.segs.length : Int)), (1, .ptr 0 0)], objs := [.vars 25 [.int .u64 l.epoch, .lst 2 (List.map encS l.segs), .int .i64 l.seq]] } Ex.ret { env := [(2, .bool false)], objs := [] }]) (by kernel_rfl) (by first | exact rfl | exact ⟨rfl, rfl⟩ | (simp [encS, hx, hw]; done) | (first | exact hx | exact hpj | exact hg | omega | exact wrap_pred (by omega))) ⟨?z10, ?z11, ?z12, ?z13, ?q44_1, ?z14, ?z15, ?q44_2, trivial⟩
          case z10|z11|z12|z13|z14|z15 => first | exact rfl | (simp [encS, hx, hw] <;> omega) | omega | (first | exact hx | exact hpj | exact hg | omega | exact wrap_pred (by omega))
          · exact q
          · exact ih
      | j + 1, hk, hx, hw, ih, hp1, h =>
        obtain ⟨p, hpj⟩ := get_of (l := l.segs) (k := j) (by omega)
        rw [show prevL l (j + 1) = some p.at_ by simp [prevL, hpj]]
        by_cases h2 : x.at_ ≤ p.at_
        · refine ⟨fun hq => (by simp [restB, h2] at hq), fun _ => ?_⟩
          refine aloopK mixed [0, 1, 2, 3, 4, 5, 42, 45, 75] 1000 ([.go, .t, .ix (j + 1), .el (encS x), .call [] false true (.bool true) [], .t, .ix (j + 1), .el (encS x), .n (j : Int), .ix j, .el (encS p), .t]) [2] [] (S1 := { env := [(2, .bool false)], objs := [] }) (ob := [decide ((↑(j + (1 : Nat)) : Int) < (l.segs.length : Int)) = true,
 j + (1 : Nat) < List.length (List.map encS l.segs),
 (↑(j + (1 : Nat)) : Int) = (↑(j + (1 : Nat)) : Int),
 (List.map encS l.segs)[j + (1 : Nat)]? = some (.agg [.int .u64 x.at_, .lst (nat_lit 1) (List.map encU x.chains)]),
 ACalls Tryz.prog 83 [.agg [.int .u64 x.at_, .lst 1 (List.map encU x.chains)]] [] (.bool true) [],
 decide ((↑(j + (1 : Nat)) : Int) > (0 : Int)) = true,
 j + (1 : Nat) < List.length (List.map encS l.segs),
 (↑(j + (1 : Nat)) : Int) = (↑(j + (1 : Nat)) : Int),
 (List.map encS l.segs)[j + (1 : Nat)]? = some (.agg [.int .u64 x.at_, .lst (nat_lit 1) (List.map encU x.chains)]),
 IntKind.i64.wrap ((↑(j + (1 : Nat)) : Int) - (1 : Int)) = (↑j : Int),
 j < List.length (List.map encS l.segs),
 (↑j : Int) = (↑j : Int),
 (List.map encS l.segs)[j]? = some (.agg [.int .u64 p.at_, .lst (nat_lit 1) (List.map encU p.chains)]),
 decide (x.at_ ≤ p.at_) = true]) (by kernel_rfl) (by first | exact rfl | exact ⟨rfl, rfl⟩ | (simp [encS, hx, hw, hpj, h2]; done) | (first | exact hx | exact hpj | exact hg | omega | exact wrap_pred (by omega))) ⟨?z16, ?z17, ?z18, ?z19, ?q52_1, ?z20, ?z21, ?z22, ?z23, ?z24, ?z25, ?z26, ?z27, ?z28, trivial⟩
          case z16|z17|z18|z19|z20|z21|z22|z23|z24|z25|z26|z27|z28 => first | exact rfl | (simp [encS, hx, hw, hpj, h2] <;> omega) | omega | (first | exact hx | exact hpj | exact hg | omega | exact wrap_pred (by omega))
          · exact q
        · have hr : restB (some p.at_) (x :: l.segs.drop (j + 1 + 1)) = restB (some x.at_) (l.segs.drop (j + 1 + 1)) := by simp [restB, h1, h2]
          rw [hr]
          refine ⟨fun hq => ?_, fun hq => ?_⟩
          · have ih := ih.1 hq
            refine aloopK mixed [0, 1, 2, 3, 4, 5, 42, 45, 75] 1000 ([.go, .t, .ix (j + 1), .el (encS x), .call [] false true (.bool true) [], .t, .ix (j + 1), .el (encS x), .n (j : Int), .ix j, .el (encS p), .f, .n ((j + 1 + 1 : Nat) : Int), .lp [4, 3, 1] [0] (.exit 0) ⟨[], []⟩]) [] [] (S1 := { env := [], objs := [] }) (ob := [decide ((↑(j + (1 : Nat)) : Int) < (l.segs.length : Int)) = true,
 j + (1 : Nat) < List.length (List.map encS l.segs),
 (↑(j + (1 : Nat)) : Int) = (↑(j + (1 : Nat)) : Int),
 (List.map encS l.segs)[j + (1 : Nat)]? = some (.agg [.int .u64 x.at_, .lst (nat_lit 1) (List.map encU x.chains)]),
 ACalls Tryz.prog 83 [.agg [.int .u64 x.at_, .lst 1 (List.map encU x.chains)]] [] (.bool true) [],
 decide ((↑(j + (1 : Nat)) : Int) > (0 : Int)) = true,
 j + (1 : Nat) < List.length (List.map encS l.segs),
 (↑(j + (1 : Nat)) : Int) = (↑(j + (1 : Nat)) : Int),
 (List.map encS l.segs)[j + (1 : Nat)]? = some (.agg [.int .u64 x.at_, .lst (nat_lit 1) (List.map encU x.chains)]),
 IntKind.i64.wrap ((↑(j + (1 : Nat)) : Int) - (1 : Int)) = (↑j : Int),
 j < List.length (List.map encS l.segs),
 (↑j : Int) = (↑j : Int),
 (List.map encS l.segs)[j]? = some (.agg [.int .u64 p.at_, .lst (nat_lit 1) (List.map encU p.chains)]),
 decide (x.at_ ≤ p.at_) = false,
 IntKind.i64.wrap ((↑(j + (1 : Nat)) : Int) + (1 : Int)) = (↑(j + (1 : Nat) + (1 : Nat)) : Int),
 ALoop Tryz.prog 0 76 (loopB Tryz.f46 0) { env := [(4, .int .i64 (↑(j + 1 + 1) : Int)), (3, .int .i64 (l.segs.length : Int)), (1, .ptr 0 0)], objs := [.vars 25 [.int .u64 l.epoch, .lst 2 (List.map encS l.segs), .int .i64 l.seq]] } (Ex.exit 0) { env := [], objs := [] }]) (by kernel_rfl) (by first | exact rfl | exact ⟨rfl, rfl⟩ | (simp [encS, hx, hw, hpj, h2]; done) | (first | exact hx | exact hpj | exact hg | omega | exact wrap_pred (by omega))) ⟨?z29, ?z30, ?z31, ?z32, ?q58_1, ?z33, ?z34, ?z35, ?z36, ?z37, ?z38, ?z39, ?z40, ?z41, ?z42, ?q58_2, trivial⟩
            case z29|z30|z31|z32|z33|z34|z35|z36|z37|z38|z39|z40|z41|z42 => first | exact rfl | (simp [encS, hx, hw, hpj, h2] <;> omega) | omega | (first | exact hx | exact hpj | exact hg | omega | exact wrap_pred (by omega))
            · exact q
            · exact ih
          · have ih := ih.2 hq
            refine aloopK mixed [0, 1, 2, 3, 4, 5, 42, 45, 75] 1000 ([.go, .t, .ix (j + 1), .el (encS x), .call [] false true (.bool true) [], .t, .ix (j + 1), .el (encS x), .n (j : Int), .ix j, .el (encS p), .f, .n ((j + 1 + 1 : Nat) : Int), .lp [4, 3, 1] [0] .ret ⟨[(2, .bool false)], []⟩]) [2] [] (S1 := { env := [(2, .bool false)], objs := [] }) (ob := [decide ((↑(j + (1 : Nat)) : Int) < (l.segs.length : Int)) = true,
 j + (1 : Nat) < List.length (List.map encS l.segs),
 (↑(j + (1 : Nat)) : Int) = (↑(j + (1 : Nat)) : Int),
 (List.map encS l.segs)[j + (1 : Nat)]? = some (.agg [.int .u64 x.at_, .lst (nat_lit 1) (List.map encU x.chains)]),
 ACalls Tryz.prog 83 [.agg [.int .u64 x.at_, .lst 1 (List.map encU x.chains)]] [] (.bool true) [],
 decide ((↑(j + (1 : Nat)) : Int) > (0 : Int)) = true,
 j + (1 : Nat) < List.length (List.map encS l.segs),
 (↑(j + (1 : Nat)) : Int) = (↑(j + (1 : Nat)) : Int),
 (List.map encS l.segs)[j + (1 : Nat)]? = some (.agg [.int .u64 x.at_, .lst (nat_lit 1) (List.map encU x.chains)]),
 IntKind.i64.wrap ((↑(j + (1 : Nat)) : Int) - (1 : Int)) = (↑j : Int),
 j < List.length (List.map encS l.segs),
 (↑j : Int) = (↑j : Int),
 (List.map encS l.segs)[j]? = some (.agg [.int .u64 p.at_, .lst (nat_lit 1) (List.map encU p.chains)]),
 decide (x.at_ ≤ p.at_) = false,
 IntKind.i64.wrap ((↑(j + (1 : Nat)) : Int) + (1 : Int)) = (↑(j + (1 : Nat) + (1 : Nat)) : Int),
 ALoop Tryz.prog 0 76 (loopB Tryz.f46 0) { env := [(4, .int .i64 (↑(j + 1 + 1) : Int)), (3, .int .i64 (l.segs.length : Int)), (1, .ptr 0 0)], objs := [.vars 25 [.int .u64 l.epoch, .lst 2 (List.map encS l.segs), .int .i64 l.seq]] } Ex.ret { env := [(2, .bool false)], objs := [] }]) (by kernel_rfl) (by first | exact rfl | exact ⟨rfl, rfl⟩ | (simp [encS, hx, hw, hpj, h2]; done) | (first | exact hx | exact hpj | exact hg | omega | exact wrap_pred (by omega))) ⟨?z43, ?z44, ?z45, ?z46, ?q62_1, ?z47, ?z48, ?z49, ?z50, ?z51, ?z52, ?z53, ?z54, ?z55, ?z56, ?q62_2, trivial⟩
            case z43|z44|z45|z46|z47|z48|z49|z50|z51|z52|z53|z54|z55|z56 => first | exact rfl | (simp [encS, hx, hw, hpj, h2] <;> omega) | omega | (first | exact hx | exact hpj | exact hg | omega | exact wrap_pred (by omega))
            · exact q
            · exact ih
def right9B (l : LayD) (x0 : SegD) : Bool := if l.epoch < 1 then false else if 1048576 < l.epoch then false else if l.segs.length < 1 then false else if 4 < l.segs.length then false else if l.seq < 0 then false else if 32 ≤ l.seq then false else if ¬ x0.at_ = 0 then false else (restB none l.segs)
theorem right9B_e0 (l : LayD) (x0 : SegD) (hx0 : 1 ≤ l.segs.length → l.segs[0]? = some x0) (hs : ∀ s ∈ l.segs, s.chains.length ≤ 1000000000) (hb : l.segs.length ≤ 1000000000000) (h1 : l.epoch < 1) : ACalls Tryz.prog 46 [encL l] [] (.bool (right9B l x0)) [] := by
  rw [show right9B l x0 = false by unfold right9B; rw [if_pos h1]]
  refine acallsK mixed Tryz.func46 rfl [0, 1, 2, 3, 4, 5, 42, 45, 75] 1000 ([.n l.segs.length, .t]) [] [] (ob := [((List.map encS l.segs).length : Int) = (l.segs.length : Int),
 decide (l.epoch < (1 : Int)) = true]) (by kernel_rfl) ⟨rfl, rfl⟩ ⟨?z0, ?z1, trivial⟩
  case z0|z1 => first | exact rfl | (simp [encL, celL, encS, h1] <;> omega) | omega | (first | omega | (simp [hx0 (by omega), encS]))
theorem right9B_e1 (l : LayD) (x0 : SegD) (hx0 : 1 ≤ l.segs.length → l.segs[0]? = some x0) (hs : ∀ s ∈ l.segs, s.chains.length ≤ 1000000000) (hb : l.segs.length ≤ 1000000000000) (h1 : ¬ (l.epoch < 1)) (h2 : 1048576 < l.epoch) : ACalls Tryz.prog 46 [encL l] [] (.bool (right9B l x0)) [] := by
  rw [show right9B l x0 = false by unfold right9B; rw [if_neg h1, if_pos h2]]
  refine acallsK mixed Tryz.func46 rfl [0, 1, 2, 3, 4, 5, 42, 45, 75] 1000 ([.n l.segs.length, .f, .t]) [] [] (ob := [((List.map encS l.segs).length : Int) = (l.segs.length : Int),
 decide (l.epoch < (1 : Int)) = false,
 decide (l.epoch > (1048576 : Int)) = true]) (by kernel_rfl) ⟨rfl, rfl⟩ ⟨?z0, ?z1, ?z2, trivial⟩
  case z0|z1|z2 => first | exact rfl | (simp [encL, celL, encS, h1, h2] <;> omega) | omega | (first | omega | (simp [hx0 (by omega), encS]))
theorem right9B_e2 (l : LayD) (x0 : SegD) (hx0 : 1 ≤ l.segs.length → l.segs[0]? = some x0) (hs : ∀ s ∈ l.segs, s.chains.length ≤ 1000000000) (hb : l.segs.length ≤ 1000000000000) (h1 : ¬ (l.epoch < 1)) (h2 : ¬ (1048576 < l.epoch)) (h3 : l.segs.length < 1) : ACalls Tryz.prog 46 [encL l] [] (.bool (right9B l x0)) [] := by
  rw [show right9B l x0 = false by unfold right9B; rw [if_neg h1, if_neg h2, if_pos h3]]
  refine acallsK mixed Tryz.func46 rfl [0, 1, 2, 3, 4, 5, 42, 45, 75] 1000 ([.n l.segs.length, .f, .f, .t]) [] [] (ob := [((List.map encS l.segs).length : Int) = (l.segs.length : Int),
 decide (l.epoch < (1 : Int)) = false,
 decide (l.epoch > (1048576 : Int)) = false,
 decide ((l.segs.length : Int) < (1 : Int)) = true]) (by kernel_rfl) ⟨rfl, rfl⟩ ⟨?z0, ?z1, ?z2, ?z3, trivial⟩
  case z0|z1|z2|z3 => first | exact rfl | (simp [encL, celL, encS, h1, h2, h3] <;> omega) | omega | (first | omega | (simp [hx0 (by omega), encS]))
theorem right9B_e3 (l : LayD) (x0 : SegD) (hx0 : 1 ≤ l.segs.length → l.segs[0]? = some x0) (hs : ∀ s ∈ l.segs, s.chains.length ≤ 1000000000) (hb : l.segs.length ≤ 1000000000000) (h1 : ¬ (l.epoch < 1)) (h2 : ¬ (1048576 < l.epoch)) (h3 : ¬ (l.segs.length < 1)) (h4 : 4 < l.segs.length) : ACalls Tryz.prog 46 [encL l] [] (.bool (right9B l x0)) [] := by
  rw [show right9B l x0 = false by unfold right9B; rw [if_neg h1, if_neg h2, if_neg h3, if_pos h4]]
  refine acallsK mixed Tryz.func46 rfl [0, 1, 2, 3, 4, 5, 42, 45, 75] 1000 ([.n l.segs.length, .f, .f, .f, .t]) [] [] (ob := [((List.map encS l.segs).length : Int) = (l.segs.length : Int),
 decide (l.epoch < (1 : Int)) = false,
 decide (l.epoch > (1048576 : Int)) = false,
 decide ((l.segs.length : Int) < (1 : Int)) = false,
 decide ((l.segs.length : Int) > (4 : Int)) = true]) (by kernel_rfl) ⟨rfl, rfl⟩ ⟨?z0, ?z1, ?z2, ?z3, ?z4, trivial⟩
  case z0|z1|z2|z3|z4 => first | exact rfl | (simp [encL, celL, encS, h1, h2, h3, h4] <;> omega) | omega | (first | omega | (simp [hx0 (by omega), encS]))
theorem right9B_e4 (l : LayD) (x0 : SegD) (hx0 : 1 ≤ l.segs.length → l.segs[0]? = some x0) (hs : ∀ s ∈ l.segs, s.chains.length ≤ 1000000000) (hb : l.segs.length ≤ 1000000000000) (h1 : ¬ (l.epoch < 1)) (h2 : ¬ (1048576 < l.epoch)) (h3 : ¬ (l.segs.length < 1)) (h4 : ¬ (4 < l.segs.length)) (h5 : l.seq < 0) : ACalls Tryz.prog 46 [encL l] [] (.bool (right9B l x0)) [] := by
  rw [show right9B l x0 = false by unfold right9B; rw [if_neg h1, if_neg h2, if_neg h3, if_neg h4, if_pos h5]]
  refine acallsK mixed Tryz.func46 rfl [0, 1, 2, 3, 4, 5, 42, 45, 75] 1000 ([.n l.segs.length, .f, .f, .f, .f, .t]) [] [] (ob := [((List.map encS l.segs).length : Int) = (l.segs.length : Int),
 decide (l.epoch < (1 : Int)) = false,
 decide (l.epoch > (1048576 : Int)) = false,
 decide ((l.segs.length : Int) < (1 : Int)) = false,
 decide ((l.segs.length : Int) > (4 : Int)) = false,
 decide (l.seq < (0 : Int)) = true]) (by kernel_rfl) ⟨rfl, rfl⟩ ⟨?z0, ?z1, ?z2, ?z3, ?z4, ?z5, trivial⟩
  case z0|z1|z2|z3|z4|z5 => first | exact rfl | (simp [encL, celL, encS, h1, h2, h3, h4, h5] <;> omega) | omega | (first | omega | (simp [hx0 (by omega), encS]))
theorem right9B_e5 (l : LayD) (x0 : SegD) (hx0 : 1 ≤ l.segs.length → l.segs[0]? = some x0) (hs : ∀ s ∈ l.segs, s.chains.length ≤ 1000000000) (hb : l.segs.length ≤ 1000000000000) (h1 : ¬ (l.epoch < 1)) (h2 : ¬ (1048576 < l.epoch)) (h3 : ¬ (l.segs.length < 1)) (h4 : ¬ (4 < l.segs.length)) (h5 : ¬ (l.seq < 0)) (h6 : 32 ≤ l.seq) : ACalls Tryz.prog 46 [encL l] [] (.bool (right9B l x0)) [] := by
  rw [show right9B l x0 = false by unfold right9B; rw [if_neg h1, if_neg h2, if_neg h3, if_neg h4, if_neg h5, if_pos h6]]
  refine acallsK mixed Tryz.func46 rfl [0, 1, 2, 3, 4, 5, 42, 45, 75] 1000 ([.n l.segs.length, .f, .f, .f, .f, .f, .t]) [] [] (ob := [((List.map encS l.segs).length : Int) = (l.segs.length : Int),
 decide (l.epoch < (1 : Int)) = false,
 decide (l.epoch > (1048576 : Int)) = false,
 decide ((l.segs.length : Int) < (1 : Int)) = false,
 decide ((l.segs.length : Int) > (4 : Int)) = false,
 decide (l.seq < (0 : Int)) = false,
 decide (l.seq ≥ (32 : Int)) = true]) (by kernel_rfl) ⟨rfl, rfl⟩ ⟨?z0, ?z1, ?z2, ?z3, ?z4, ?z5, ?z6, trivial⟩
  case z0|z1|z2|z3|z4|z5|z6 => first | exact rfl | (simp [encL, celL, encS, h1, h2, h3, h4, h5, h6] <;> omega) | omega | (first | omega | (simp [hx0 (by omega), encS]))
theorem right9B_e6 (l : LayD) (x0 : SegD) (hx0 : 1 ≤ l.segs.length → l.segs[0]? = some x0) (hs : ∀ s ∈ l.segs, s.chains.length ≤ 1000000000) (hb : l.segs.length ≤ 1000000000000) (h1 : ¬ (l.epoch < 1)) (h2 : ¬ (1048576 < l.epoch)) (h3 : ¬ (l.segs.length < 1)) (h4 : ¬ (4 < l.segs.length)) (h5 : ¬ (l.seq < 0)) (h6 : ¬ (32 ≤ l.seq)) (h7 : ¬ x0.at_ = 0) : ACalls Tryz.prog 46 [encL l] [] (.bool (right9B l x0)) [] := by
  rw [show right9B l x0 = false by unfold right9B; rw [if_neg h1, if_neg h2, if_neg h3, if_neg h4, if_neg h5, if_neg h6, if_pos h7]]
  refine acallsK mixed Tryz.func46 rfl [0, 1, 2, 3, 4, 5, 42, 45, 75] 1000 ([.n l.segs.length, .f, .f, .f, .f, .f, .f, .ix 0, .el (encS x0), .t]) [] [] (ob := [((List.map encS l.segs).length : Int) = (l.segs.length : Int),
 decide (l.epoch < (1 : Int)) = false,
 decide (l.epoch > (1048576 : Int)) = false,
 decide ((l.segs.length : Int) < (1 : Int)) = false,
 decide ((l.segs.length : Int) > (4 : Int)) = false,
 decide (l.seq < (0 : Int)) = false,
 decide (l.seq ≥ (32 : Int)) = false,
 nat_lit 0 < List.length (List.map encS l.segs),
 (0 : Int) = (↑(nat_lit 0) : Int),
 (List.map encS l.segs)[nat_lit 0]? = some (.agg [.int .u64 x0.at_, .lst (nat_lit 1) (List.map encU x0.chains)]),
 (x0.at_ != (0 : Int)) = true]) (by kernel_rfl) ⟨rfl, rfl⟩ ⟨?z0, ?z1, ?z2, ?z3, ?z4, ?z5, ?z6, ?z7, ?z8, ?z9, ?z10, trivial⟩
  case z0|z1|z2|z3|z4|z5|z6|z7|z8|z9|z10 => first | exact rfl | (simp [encL, celL, encS, h1, h2, h3, h4, h5, h6, h7] <;> omega) | omega | (first | omega | (simp [hx0 (by omega), encS]))
theorem right9B_e7 (l : LayD) (x0 : SegD) (hx0 : 1 ≤ l.segs.length → l.segs[0]? = some x0) (hs : ∀ s ∈ l.segs, s.chains.length ≤ 1000000000) (hb : l.segs.length ≤ 1000000000000) (h1 : ¬ (l.epoch < 1)) (h2 : ¬ (1048576 < l.epoch)) (h3 : ¬ (l.segs.length < 1)) (h4 : ¬ (4 < l.segs.length)) (h5 : ¬ (l.seq < 0)) (h6 : ¬ (32 ≤ l.seq)) (h7 : ¬ (¬ x0.at_ = 0)) (hr : restB none l.segs = false) : ACalls Tryz.prog 46 [encL l] [] (.bool (right9B l x0)) [] := by
  have q := lay9_loop l hs hb l.segs.length 0 (by omega)
  rw [List.drop_zero, show prevL l 0 = none from rfl] at q
  rw [hr] at q
  rw [show right9B l x0 = false by unfold right9B; rw [if_neg h1, if_neg h2, if_neg h3, if_neg h4, if_neg h5, if_neg h6, if_neg h7]; exact hr]
  refine acallsK mixed Tryz.func46 rfl [0, 1, 2, 3, 4, 5, 42, 45, 75] 1000 ([.n l.segs.length, .f, .f, .f, .f, .f, .f, .ix 0, .el (encS x0), .f, .lp [4, 3, 1] [0] .ret ⟨[(2, .bool false)], []⟩]) [] [] (ob := [((List.map encS l.segs).length : Int) = (l.segs.length : Int),
 decide (l.epoch < (1 : Int)) = false,
 decide (l.epoch > (1048576 : Int)) = false,
 decide ((l.segs.length : Int) < (1 : Int)) = false,
 decide ((l.segs.length : Int) > (4 : Int)) = false,
 decide (l.seq < (0 : Int)) = false,
 decide (l.seq ≥ (32 : Int)) = false,
 nat_lit 0 < List.length (List.map encS l.segs),
 (0 : Int) = (↑(nat_lit 0) : Int),
 (List.map encS l.segs)[nat_lit 0]? = some (.agg [.int .u64 x0.at_, .lst (nat_lit 1) (List.map encU x0.chains)]),
 (x0.at_ != (0 : Int)) = false,
 ALoop Tryz.prog 0 76 (loopB Tryz.f46 0) { env := [(4, .int .i64 0), (3, .int .i64 (l.segs.length : Int)), (1, .ptr 0 0)], objs := [.vars 25 [.int .u64 l.epoch, .lst 2 (List.map encS l.segs), .int .i64 l.seq]] } Ex.ret { env := [(2, .bool false)], objs := [] }]) (by kernel_rfl) ⟨rfl, rfl⟩ ⟨?z0, ?z1, ?z2, ?z3, ?z4, ?z5, ?z6, ?z7, ?z8, ?z9, ?z10, ?q106_1, trivial⟩
  case z0|z1|z2|z3|z4|z5|z6|z7|z8|z9|z10 => first | exact rfl | (simp [encL, celL, encS, h1, h2, h3, h4, h5, h6, h7, hr] <;> omega) | omega | (first | omega | (simp [hx0 (by omega), encS]))
  · exact (q.2 rfl)
theorem right9B_e8 (l : LayD) (x0 : SegD) (hx0 : 1 ≤ l.segs.length → l.segs[0]? = some x0) (hs : ∀ s ∈ l.segs, s.chains.length ≤ 1000000000) (hb : l.segs.length ≤ 1000000000000) (h1 : ¬ (l.epoch < 1)) (h2 : ¬ (1048576 < l.epoch)) (h3 : ¬ (l.segs.length < 1)) (h4 : ¬ (4 < l.segs.length)) (h5 : ¬ (l.seq < 0)) (h6 : ¬ (32 ≤ l.seq)) (h7 : ¬ (¬ x0.at_ = 0)) (hr : restB none l.segs = true) : ACalls Tryz.prog 46 [encL l] [] (.bool (right9B l x0)) [] := by
  have q := lay9_loop l hs hb l.segs.length 0 (by omega)
  rw [List.drop_zero, show prevL l 0 = none from rfl] at q
  rw [hr] at q
  rw [show right9B l x0 = true by unfold right9B; rw [if_neg h1, if_neg h2, if_neg h3, if_neg h4, if_neg h5, if_neg h6, if_neg h7]; exact hr]
  refine acallsK mixed Tryz.func46 rfl [0, 1, 2, 3, 4, 5, 42, 45, 75] 1000 ([.n l.segs.length, .f, .f, .f, .f, .f, .f, .ix 0, .el (encS x0), .f, .lp [4, 3, 1] [0] (.exit 0) ⟨[], []⟩]) [] [] (ob := [((List.map encS l.segs).length : Int) = (l.segs.length : Int),
 decide (l.epoch < (1 : Int)) = false,
 decide (l.epoch > (1048576 : Int)) = false,
 decide ((l.segs.length : Int) < (1 : Int)) = false,
 decide ((l.segs.length : Int) > (4 : Int)) = false,
 decide (l.seq < (0 : Int)) = false,
 decide (l.seq ≥ (32 : Int)) = false,
 nat_lit 0 < List.length (List.map encS l.segs),
 (0 : Int) = (↑(nat_lit 0) : Int),
 (List.map encS l.segs)[nat_lit 0]? = some (.agg [.int .u64 x0.at_, .lst (nat_lit 1) (List.map encU x0.chains)]),
 (x0.at_ != (0 : Int)) = false,
 ALoop Tryz.prog 0 76 (loopB Tryz.f46 0) { env := [(4, .int .i64 0), (3, .int .i64 (l.segs.length : Int)), (1, .ptr 0 0)], objs := [.vars 25 [.int .u64 l.epoch, .lst 2 (List.map encS l.segs), .int .i64 l.seq]] } (Ex.exit 0) { env := [], objs := [] }]) (by kernel_rfl) ⟨rfl, rfl⟩ ⟨?z0, ?z1, ?z2, ?z3, ?z4, ?z5, ?z6, ?z7, ?z8, ?z9, ?z10, ?q113_1, trivial⟩
  case z0|z1|z2|z3|z4|z5|z6|z7|z8|z9|z10 => first | exact rfl | (simp [encL, celL, encS, h1, h2, h3, h4, h5, h6, h7, hr] <;> omega) | omega | (first | omega | (simp [hx0 (by omega), encS]))
  · exact (q.1 rfl)
theorem right9B_ac (l : LayD) (x0 : SegD) (hx0 : 1 ≤ l.segs.length → l.segs[0]? = some x0) (hs : ∀ s ∈ l.segs, s.chains.length ≤ 1000000000) (hb : l.segs.length ≤ 1000000000000) : ACalls Tryz.prog 46 [encL l] [] (.bool (right9B l x0)) [] := by
  by_cases h1 : l.epoch < 1
  · exact right9B_e0 l x0 hx0 hs hb h1
  by_cases h2 : 1048576 < l.epoch
  · exact right9B_e1 l x0 hx0 hs hb h1 h2
  by_cases h3 : l.segs.length < 1
  · exact right9B_e2 l x0 hx0 hs hb h1 h2 h3
  by_cases h4 : 4 < l.segs.length
  · exact right9B_e3 l x0 hx0 hs hb h1 h2 h3 h4
  by_cases h5 : l.seq < 0
  · exact right9B_e4 l x0 hx0 hs hb h1 h2 h3 h4 h5
  by_cases h6 : 32 ≤ l.seq
  · exact right9B_e5 l x0 hx0 hs hb h1 h2 h3 h4 h5 h6
  by_cases h7 : ¬ x0.at_ = 0
  · exact right9B_e6 l x0 hx0 hs hb h1 h2 h3 h4 h5 h6 h7
  cases hr : restB none l.segs with
  | false => exact right9B_e7 l x0 hx0 hs hb h1 h2 h3 h4 h5 h6 h7 hr
  | true => exact right9B_e8 l x0 hx0 hs hb h1 h2 h3 h4 h5 h6 h7 hr
theorem right9_eq (l : LayD) (x0 : SegD) (hx0 : 1 ≤ l.segs.length → l.segs[0]? = some x0) : right9B l x0 = rightL l := by
  have hf : 1 ≤ l.segs.length → firstB l.segs = decide (x0.at_ = 0) := by
    intro h
    have := hx0 h
    cases hl : l.segs with
    | nil => rw [hl] at h; simp at h
    | cons s r => rw [hl] at this; injection this with this; subst this; rfl
  unfold right9B rightL
  split
  · simp; omega
  · split
    · simp; omega
    · split
      · simp [lenB]; omega
      · split
        · simp [lenB]; omega
        · split
          · simp [outB, inB]; omega
          · split
            · simp [outB, inB]; omega
            · rw [hf (by omega)]
              split
              · rename_i h; simp [h]
              · rename_i h
                have h : x0.at_ = 0 := Classical.not_not.1 h
                have e1 : decide (1 ≤ l.epoch) = true := by simp; omega
                have e2 : decide (l.epoch ≤ 1048576) = true := by simp; omega
                have e3 : outB l.seq = false := by simp [outB, inB]; omega
                have e4 : lenB l.segs.length 4 = true := by simp [lenB]; omega
                rw [e1, e2, e3, e4]
                simp [h]
theorem right9_ac (l : LayD) (hs : ∀ s ∈ l.segs, s.chains.length ≤ 1000000000) (hb : l.segs.length ≤ 1000000000000) : ACalls Tryz.prog 46 [encL l] [] (.bool (rightL l)) [] := by
  have hx0 : 1 ≤ l.segs.length → l.segs[0]? = some ((l.segs[0]?).getD ⟨0, []⟩) := by
    intro h
    rw [List.getElem?_eq_getElem (by omega)]
    rfl
  rw [← right9_eq l _ hx0]
  exact right9B_ac l _ hx0 hs hb
end Go.Proofs.YtidgcfgkcidkiaaGreat.Ch
namespace Go.Proofs.YtidgcfgkcidkiaaGreat.Ch
open Go Go.RowKit Go.Proofs.YtidgcfgkcidkiaaGreat.L Go.Proofs.YtidgcfgkcidkiaaGreat.X
set_option linter.unusedVariables false
set_option linter.unusedSimpArgs false
theorem segIx_le (l : List SegD) (a : Int) : ∀ k, segIx l a k ≤ k
  | 0 => Nat.le_refl 0
  | k + 1 => by
    unfold segIx
    split
    · split
      · exact Nat.le_refl _
      · exact Nat.le_succ_of_le (segIx_le l a k)
    · exact Nat.zero_le _
theorem segIx_above {l : List SegD} {a : Int} : ∀ k, k < l.length → ∀ j s, segIx l a k < j → j ≤ k → l[j]? = some s → a < s.at_
  | 0, _, j, s, h1, h2, _ => by simp [segIx] at h1; omega
  | k + 1, hk, j, s, h1, h2, hj => by
    obtain ⟨x, hx⟩ := get_of hk
    unfold segIx at h1
    rw [hx] at h1
    dsimp only at h1
    split at h1
    · omega
    · rename_i hn
      by_cases he : j = k + 1
      · subst he
        rw [hx] at hj
        injection hj with hj
        subst hj
        omega
      · exact segIx_above k (by omega) j s h1 (by omega) hj
theorem rise_next : ∀ (l : List SegD) (p : Option Int), restB p l = true → ∀ k x y, l[k]? = some x → l[k + 1]? = some y → x.at_ < y.at_
  | [], _, _, k, x, y, hx, _ => by simp at hx
  | s :: r, p, h, 0, x, y, hx, hy => by
    injection hx with hx
    subst hx
    have h2 : restB (some s.at_) r = true := by cases p <;> simp [restB] at h <;> simp [h]
    cases r with
    | nil => simp at hy
    | cons z r =>
      injection hy with hy
      subst hy
      simp [restB] at h2
      omega
  | s :: r, p, h, k + 1, x, y, hx, hy => by
    have h2 : restB (some s.at_) r = true := by cases p <;> simp [restB] at h <;> simp [h]
    exact rise_next r _ h2 k x y hx hy
theorem rise_below {l : List SegD} (h : restB none l = true) {t : Nat} {s : SegD} (ht : l[t]? = some s) : ∀ n j x, t = j + n → l[j]? = some x → x.at_ ≤ s.at_
  | 0, j, x, e, hx => by
    have : j = t := by omega
    subst this
    rw [ht] at hx; injection hx with hx; subst hx; exact Int.le_refl _
  | n + 1, j, x, e, hx => by
    have hl : t < l.length := (List.getElem?_eq_some_iff.1 ht).1
    obtain ⟨y, hy⟩ := get_of (l := l) (k := j + 1) (by omega)
    have h1 := rise_next l none h j x y hx hy
    have h2 := rise_below h ht n (j + 1) y (by omega) hy
    omega
theorem seg9_loop (l : LayD) (a : Int) (t : Nat) (hb : l.segs.length ≤ 4) (ht : t < l.segs.length) (h1 : ∀ j x, j ≤ t → l.segs[j]? = some x → x.at_ ≤ a) (h2 : ∀ j x, t < j → l.segs[j]? = some x → a < x.at_) : ∀ n k, t = k + n →
    ALoop Tryz.prog 0 Tryz.f85.ntmps (loopB Tryz.f85 0) ⟨[(6, .int .i64 k), (2, .ptr 0 0), (1, .int .u64 a)], [.vars 25 (celL l)]⟩ (.exit 0) ⟨[(6, .int .i64 t)], []⟩
  | 0, k, h => by
    have hkt : k = t := by omega
    subst hkt
    have hw : IntKind.i64.wrap ((k : Int) + 1) = ((k + 1 : Nat) : Int) := wrap64 (by omega)
    by_cases he : k + 1 = l.segs.length
    · refine aloopK mixed [0, 1, 2, 4, 5, 6, 14, 31] 1000 ([.go, .n ((k + 1 : Nat) : Int), .n l.segs.length, .f]) [6] [] (ob := [IntKind.i64.wrap ((↑k : Int) + (1 : Int)) = (↑(k + (1 : Nat)) : Int),
 ((List.map encS l.segs).length : Int) = (l.segs.length : Int),
 decide ((↑(k + (1 : Nat)) : Int) < (l.segs.length : Int)) = false]) (by kernel_rfl) rfl ⟨?z0, ?z1, ?z2, trivial⟩
      case z0|z1|z2 => first | exact rfl | (simp [hw] <;> omega) | omega | (first | exact hw | omega)
    · obtain ⟨y, hy⟩ := get_of (l := l.segs) (k := k + 1) (by omega)
      have h3 := h2 (k + 1) y (by omega) hy
      refine aloopK mixed [0, 1, 2, 4, 5, 6, 14, 31] 1000 ([.go, .n ((k + 1 : Nat) : Int), .n l.segs.length, .t, .n ((k + 1 : Nat) : Int), .ix (k + 1), .el (encS y), .f]) [6] [] (ob := [IntKind.i64.wrap ((↑k : Int) + (1 : Int)) = (↑(k + (1 : Nat)) : Int),
 ((List.map encS l.segs).length : Int) = (l.segs.length : Int),
 decide ((↑(k + (1 : Nat)) : Int) < (l.segs.length : Int)) = true,
 IntKind.i64.wrap ((↑k : Int) + (1 : Int)) = (↑(k + (1 : Nat)) : Int),
 k + (1 : Nat) < List.length (List.map encS l.segs),
 (↑(k + (1 : Nat)) : Int) = (↑(k + (1 : Nat)) : Int),
 (List.map encS l.segs)[k + (1 : Nat)]? = some (.agg [.int .u64 y.at_, .lst (nat_lit 1) (List.map encU y.chains)]),
 decide (y.at_ ≤ a) = false]) (by kernel_rfl) rfl ⟨?z3, ?z4, ?z5, ?z6, ?z7, ?z8, ?z9, ?z10, trivial⟩
      case z3|z4|z5|z6|z7|z8|z9|z10 => first | exact rfl | (simp [hw, hy, encS, h3] <;> omega) | omega | (first | exact hw | omega)
  | n + 1, k, h => by
    have ih := seg9_loop l a t hb ht h1 h2 n (k + 1) (by omega)
    have hw : IntKind.i64.wrap ((k : Int) + 1) = ((k + 1 : Nat) : Int) := wrap64 (by omega)
    obtain ⟨y, hy⟩ := get_of (l := l.segs) (k := k + 1) (by omega)
    have h3 := h1 (k + 1) y (by omega) hy
    refine aloopK mixed [0, 1, 2, 4, 5, 6, 14, 31] 1000 ([.go, .n ((k + 1 : Nat) : Int), .n l.segs.length, .t, .n ((k + 1 : Nat) : Int), .ix (k + 1), .el (encS y), .t, .n ((k + 1 : Nat) : Int), .lp [6, 2, 1] [0] (.exit 0) ⟨[(6, .int .i64 t)], []⟩]) [6] [] (ob := [IntKind.i64.wrap ((↑k : Int) + (1 : Int)) = (↑(k + (1 : Nat)) : Int),
 ((List.map encS l.segs).length : Int) = (l.segs.length : Int),
 decide ((↑(k + (1 : Nat)) : Int) < (l.segs.length : Int)) = true,
 IntKind.i64.wrap ((↑k : Int) + (1 : Int)) = (↑(k + (1 : Nat)) : Int),
 k + (1 : Nat) < List.length (List.map encS l.segs),
 (↑(k + (1 : Nat)) : Int) = (↑(k + (1 : Nat)) : Int),
 (List.map encS l.segs)[k + (1 : Nat)]? = some (.agg [.int .u64 y.at_, .lst (nat_lit 1) (List.map encU y.chains)]),
 decide (y.at_ ≤ a) = true,
 IntKind.i64.wrap ((↑k : Int) + (1 : Int)) = (↑(k + (1 : Nat)) : Int),
 _]) (by kernel_rfl) rfl ⟨?z11, ?z12, ?z13, ?z14, ?z15, ?z16, ?z17, ?z18, ?z19, ih, trivial⟩
    case z11|z12|z13|z14|z15|z16|z17|z18|z19 => first | exact rfl | (simp [hw, hy, encS, h3] <;> omega) | omega | (first | exact hw | omega)
theorem seg9_ac (l : LayD) (a : Int) (hs : ∀ s ∈ l.segs, s.chains.length ≤ 1000000000) (h : rightL l = true) (ha : 0 ≤ a) (h2 : a < 1048576) : ACalls Tryz.prog 85 [encL l, .int .u64 a] [] (.int .i64 (segIx l.segs a (l.segs.length - 1))) [] := by
  obtain ⟨f1, f2, f3⟩ := rightL_first h
  have q := right9_ac l hs (by omega)
  rw [h] at q
  have hr : restB none l.segs = true := by simp only [rightL, Bool.and_eq_true] at h; exact h.2.2.2.2.2
  obtain ⟨s, hx, hle⟩ := segIx_spec f1 ha (l.segs.length - 1) (by omega)
  have hlt := segIx_le l.segs a (l.segs.length - 1)
  have hlp := seg9_loop l a (segIx l.segs a (l.segs.length - 1)) f3 (by omega) (fun j x hj hjx => by
      have := rise_below hr hx (segIx l.segs a (l.segs.length - 1) - j) j x (by omega) hjx
      omega) (fun j x hj hjx => segIx_above _ (by omega) j x hj (by have := (List.getElem?_eq_some_iff.1 hjx).1; omega) hjx) (segIx l.segs a (l.segs.length - 1)) 0 (by omega)
  refine acallsK mixed Tryz.func85 rfl [0, 1, 2, 4, 5, 6, 14, 31] 1000 ([.call [] false true (.bool true) [], .f, .lp [6, 2, 1] [0] (.exit 0) ⟨[(6, .int .i64 (segIx l.segs a (l.segs.length - 1)))], []⟩]) [] [] (ob := [_,
 decide (a ≥ (1048576 : Int)) = false,
 _]) (by kernel_rfl) ⟨rfl, rfl⟩ ⟨q, (by first | exact rfl | (simp [encL]; done) | (simp [encL]; omega) | omega), hlp, trivial⟩
theorem chain9_ac (l : LayD) (a : Int) (u : List Int) (hs : ∀ s ∈ l.segs, s.chains.length ≤ 1000000000 ∧ 0 ≤ s.at_) (h : rightL l = true) (ha : 0 ≤ a) (h2 : a < 1048576) (hu : chainL l a = some u) : ACalls Tryz.prog 48 [encL l, .int .u64 a] [] (encU u) [] := by
  have q := seg9_ac l a (fun s h => (hs s h).1) h ha h2
  obtain ⟨f1, f2, f3⟩ := rightL_first h
  obtain ⟨s, hx, hle⟩ := segIx_spec f1 ha (l.segs.length - 1) (by omega)
  have hr : restB none l.segs = true := by simp only [rightL, Bool.and_eq_true] at h; exact h.2.2.2.2.2
  have hsm := List.mem_of_getElem? hx
  have hfl := fine_len (restB_mem _ _ hr s hsm)
  have hat := (hs s hsm).2
  unfold chainL at hu
  rw [hx] at hu
  have hu : s.chains[(a - s.at_).toNat % s.chains.length]? = some u := hu
  have hm : (a - s.at_).toNat % s.chains.length < s.chains.length := Nat.mod_lt _ hfl.1
  have hlt := segIx_le l.segs a (l.segs.length - 1)
  have hmod : (a - s.at_) % (s.chains.length : Int) = (((a - s.at_).toNat % s.chains.length : Nat) : Int) := by
    rw [Int.natCast_emod, Int.toNat_of_nonneg (by omega)]
  have w1 : IntKind.u64.wrap (a - s.at_) = a - s.at_ := by simp [IntKind.wrap, IntKind.signed, IntKind.bits]; omega
  have w2 : IntKind.u64.wrap (s.chains.length : Int) = (s.chains.length : Int) := by simp [IntKind.wrap, IntKind.signed, IntKind.bits]; omega
  have w3 : Int.tmod (a - s.at_) (s.chains.length : Int) = (((a - s.at_).toNat % s.chains.length : Nat) : Int) := by rw [Int.tmod_eq_emod_of_nonneg (by omega)]; exact hmod
  refine acallsK mixed Tryz.func48 rfl [0, 1, 2, 4, 5, 6, 11] 1000 ([.call [] false true (.int .i64 (segIx l.segs a (l.segs.length - 1))) [], .f, .ix (segIx l.segs a (l.segs.length - 1)), .el (encS s), .n (a - s.at_), .n s.chains.length, .n s.chains.length, .n (((a - s.at_).toNat % s.chains.length : Nat) : Int), .ix ((a - s.at_).toNat % s.chains.length), .el (encU u)]) [] [] (ob := [_,
 decide ((↑(segIx l.segs a (List.length l.segs - (1 : Nat))) : Int) < (0 : Int)) = false,
 segIx l.segs a (List.length l.segs - (1 : Nat)) < List.length (List.map encS l.segs),
 (↑(segIx l.segs a (List.length l.segs - (1 : Nat))) : Int) = (↑(segIx l.segs a (List.length l.segs - (1 : Nat))) : Int),
 (List.map encS l.segs)[segIx l.segs a (List.length l.segs - (1 : Nat))]? = some (.agg [.int .u64 s.at_, .lst (nat_lit 1) (List.map encU s.chains)]),
 IntKind.u64.wrap (a - s.at_) = a - s.at_,
 ((List.map encU s.chains).length : Int) = (s.chains.length : Int),
 IntKind.u64.wrap (s.chains.length : Int) = (s.chains.length : Int),
 (s.chains.length : Int) ≠ (0 : Int),
 Int.tmod (a - s.at_) (s.chains.length : Int) = (↑(Int.toNat (a - s.at_) % List.length s.chains) : Int),
 Int.toNat (a - s.at_) % List.length s.chains < List.length (List.map encU s.chains),
 (↑(Int.toNat (a - s.at_) % List.length s.chains) : Int) = (↑(Int.toNat (a - s.at_) % List.length s.chains) : Int),
 (List.map encU s.chains)[Int.toNat (a - s.at_) % List.length s.chains]? = some (.lst (nat_lit 1) (List.map intA u))]) (by kernel_rfl) ⟨rfl, rfl⟩ ⟨q, ?z0, ?z1, ?z2, ?z3, ?z4, ?z5, ?z6, ?z7, ?z8, ?z9, ?z10, ?z11, trivial⟩
  case z0|z1|z2|z3|z4|z5|z6|z7|z8|z9|z10|z11 => first | exact rfl | (simp [encL, hx, encS, encU, hu] <;> omega) | omega | (first | exact w1 | exact w2 | exact w3 | exact hm | omega)
end Go.Proofs.YtidgcfgkcidkiaaGreat.Ch
