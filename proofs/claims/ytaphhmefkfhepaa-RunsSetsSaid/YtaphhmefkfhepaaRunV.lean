/- The document's answer for runs, first part: Same, Count, Has, Next, Gap: by runs along paths. -/
import Derived.Test.YtaphhmefkfhepaaRunU
namespace Go.Proofs.Ytaphhmefkfhepaa.Run
open Go Go.RowKit Go.Proofs.Ytaphhmefkfhepaa.L Go.Proofs.Ytaphhmefkfhepaa.X
set_option linter.unusedVariables false
set_option linter.unusedSimpArgs false

theorem drop_at {α : Type} {l : List α} {k : Nat} {x : α} (h : l[k]? = some x) : l.drop k = x :: l.drop (k + 1) := by
  obtain ⟨h1, rfl⟩ := List.getElem?_eq_some_iff.1 h
  exact List.drop_eq_getElem_cons h1
theorem get_of {α : Type} {l : List α} {k : Nat} (h : k < l.length) : ∃ x, l[k]? = some x := ⟨_, List.getElem?_eq_getElem h⟩

/-- How a search through a list ends. -/
def exF (o : Option Rn) : Ex := match o with | some _ => .ret | none => .exit 0
def stF (o : Option Rn) (f : Rn → Env) : St := match o with | some x => ⟨f x, []⟩ | none => ⟨[], []⟩

theorem same_loop (a b : List Rn) (hl : a.length = b.length) (hb : a.length ≤ 1099511627775) : ∀ (n k : Nat), a.length = k + n →
    ALoop Try.prog 0 Try.f23.ntmps (loopB Try.f23 0) ⟨[(5, .int .i64 k), (0, .lst 2 (a.map enc)), (1, .lst 2 (b.map enc))], []⟩ (if a.drop k = b.drop k then .exit 0 else .ret) (if a.drop k = b.drop k then ⟨[], []⟩ else ⟨[(4, .bool false)], []⟩)
  | 0, k, hk => by
    have e : a.drop k = b.drop k := by rw [List.drop_of_length_le (by omega), List.drop_of_length_le (by omega)]
    rw [if_pos e, if_pos e]
    refine aloopK mixed [0, 1, 4, 5, 10, 14, 25] 1000 ([.go, .n a.length, .f]) [] [] (S1 := { env := [], objs := [] }) (ob := [(↑(List.length (List.map enc a)) : Int) = (↑(List.length a) : Int),
      decide ((↑k : Int) < (↑(List.length a) : Int)) = false]) (by kernel_rfl) (by first | exact rfl | exact ⟨rfl, rfl⟩ | (simp []; done)) ⟨(by first | exact rfl | (simp []; done) | (simp []; omega) | omega), (by first | exact rfl | (simp []; done) | (simp []; omega) | omega), trivial⟩
  | n + 1, k, hk => by
    obtain ⟨x, hx⟩ := get_of (l := a) (k := k) (by omega)
    obtain ⟨y, hy⟩ := get_of (l := b) (k := k) (by omega)
    rw [drop_at hx, drop_at hy]
    by_cases h : x = y
    · subst h
      simp only [List.cons.injEq, true_and]
      have ih := same_loop a b hl hb n (k + 1) (by omega)
      by_cases e : a.drop (k + 1) = b.drop (k + 1)
      · rw [if_pos e, if_pos e] at ih ⊢
        refine aloopK mixed [0, 1, 4, 5, 10, 14, 25] 1000 ([.go, .n a.length, .t, .ix k, .el (enc x), .ix k, .el (enc x), .f, .n ((k+1:Nat):Int), .lp [5,0,1] [] (.exit 0) ⟨[], []⟩]) [] [] (S1 := { env := [], objs := [] }) (ob := [(↑(List.length (List.map enc a)) : Int) = (↑(List.length a) : Int),
      decide ((↑k : Int) < (↑(List.length a) : Int)) = true,
      k < List.length (List.map enc a),
      (↑k : Int) = (↑k : Int),
      (List.map enc a)[k]? = some (AV.agg [AV.int IntKind.u64 (Rn.f x), AV.int IntKind.u64 (Rn.t x)]),
      k < List.length (List.map enc b),
      (↑k : Int) = (↑k : Int),
      (List.map enc b)[k]? = some (AV.agg [AV.int IntKind.u64 (Rn.f x), AV.int IntKind.u64 (Rn.t x)]),
      (!(Rn.f x == Rn.f x && (Rn.t x == Rn.t x && true))) = false,
      IntKind.wrap IntKind.i64 ((↑k : Int) + 1) = (↑(k + 1) : Int),
      ALoop Try.prog 0 26 (loopB Try.f23 0) { env := [(5, AV.int IntKind.i64 (↑(k + 1) : Int)), (0, AV.lst 2 (List.map enc a)), (1, AV.lst 2 (List.map enc b))], objs := [] } (Ex.exit 0) { env := [], objs := [] }]) (by kernel_rfl) (by first | exact rfl | exact ⟨rfl, rfl⟩ | (simp [hx, hy, enc]; done) | (exact wrap64 (by omega))) ⟨(by first | exact rfl | (simp [hx, hy, enc]; done) | (simp [hx, hy, enc]; omega) | omega | (exact wrap64 (by omega))), (by first | exact rfl | (simp [hx, hy, enc]; done) | (simp [hx, hy, enc]; omega) | omega | (exact wrap64 (by omega))), (by first | exact rfl | (simp [hx, hy, enc]; done) | (simp [hx, hy, enc]; omega) | omega | (exact wrap64 (by omega))), (by first | exact rfl | (simp [hx, hy, enc]; done) | (simp [hx, hy, enc]; omega) | omega | (exact wrap64 (by omega))), (by first | exact rfl | (simp [hx, hy, enc]; done) | (simp [hx, hy, enc]; omega) | omega | (exact wrap64 (by omega))), (by first | exact rfl | (simp [hx, hy, enc]; done) | (simp [hx, hy, enc]; omega) | omega | (exact wrap64 (by omega))), (by first | exact rfl | (simp [hx, hy, enc]; done) | (simp [hx, hy, enc]; omega) | omega | (exact wrap64 (by omega))), (by first | exact rfl | (simp [hx, hy, enc]; done) | (simp [hx, hy, enc]; omega) | omega | (exact wrap64 (by omega))), (by first | exact rfl | (simp [hx, hy, enc]; done) | (simp [hx, hy, enc]; omega) | omega | (exact wrap64 (by omega))), (by first | exact rfl | (simp [hx, hy, enc]; done) | (simp [hx, hy, enc]; omega) | omega | (exact wrap64 (by omega))), ?q32_1, trivial⟩
        exact ih
      · rw [if_neg e, if_neg e] at ih ⊢
        refine aloopK mixed [0, 1, 4, 5, 10, 14, 25] 1000 ([.go, .n a.length, .t, .ix k, .el (enc x), .ix k, .el (enc x), .f, .n ((k+1:Nat):Int), .lp [5,0,1] [] .ret ⟨[(4, .bool false)], []⟩]) [4] [] (S1 := { env := [(4, AV.bool false)], objs := [] }) (ob := [(↑(List.length (List.map enc a)) : Int) = (↑(List.length a) : Int),
      decide ((↑k : Int) < (↑(List.length a) : Int)) = true,
      k < List.length (List.map enc a),
      (↑k : Int) = (↑k : Int),
      (List.map enc a)[k]? = some (AV.agg [AV.int IntKind.u64 (Rn.f x), AV.int IntKind.u64 (Rn.t x)]),
      k < List.length (List.map enc b),
      (↑k : Int) = (↑k : Int),
      (List.map enc b)[k]? = some (AV.agg [AV.int IntKind.u64 (Rn.f x), AV.int IntKind.u64 (Rn.t x)]),
      (!(Rn.f x == Rn.f x && (Rn.t x == Rn.t x && true))) = false,
      IntKind.wrap IntKind.i64 ((↑k : Int) + 1) = (↑(k + 1) : Int),
      ALoop Try.prog 0 26 (loopB Try.f23 0) { env := [(5, AV.int IntKind.i64 (↑(k + 1) : Int)), (0, AV.lst 2 (List.map enc a)), (1, AV.lst 2 (List.map enc b))], objs := [] } Ex.ret { env := [(4, AV.bool false)], objs := [] }]) (by kernel_rfl) (by first | exact rfl | exact ⟨rfl, rfl⟩ | (simp [hx, hy, enc]; done) | (exact wrap64 (by omega))) ⟨(by first | exact rfl | (simp [hx, hy, enc]; done) | (simp [hx, hy, enc]; omega) | omega | (exact wrap64 (by omega))), (by first | exact rfl | (simp [hx, hy, enc]; done) | (simp [hx, hy, enc]; omega) | omega | (exact wrap64 (by omega))), (by first | exact rfl | (simp [hx, hy, enc]; done) | (simp [hx, hy, enc]; omega) | omega | (exact wrap64 (by omega))), (by first | exact rfl | (simp [hx, hy, enc]; done) | (simp [hx, hy, enc]; omega) | omega | (exact wrap64 (by omega))), (by first | exact rfl | (simp [hx, hy, enc]; done) | (simp [hx, hy, enc]; omega) | omega | (exact wrap64 (by omega))), (by first | exact rfl | (simp [hx, hy, enc]; done) | (simp [hx, hy, enc]; omega) | omega | (exact wrap64 (by omega))), (by first | exact rfl | (simp [hx, hy, enc]; done) | (simp [hx, hy, enc]; omega) | omega | (exact wrap64 (by omega))), (by first | exact rfl | (simp [hx, hy, enc]; done) | (simp [hx, hy, enc]; omega) | omega | (exact wrap64 (by omega))), (by first | exact rfl | (simp [hx, hy, enc]; done) | (simp [hx, hy, enc]; omega) | omega | (exact wrap64 (by omega))), (by first | exact rfl | (simp [hx, hy, enc]; done) | (simp [hx, hy, enc]; omega) | omega | (exact wrap64 (by omega))), ?q35_1, trivial⟩
        exact ih
    · rw [if_neg (by simp [h]), if_neg (by simp [h])]
      refine aloopK mixed [0, 1, 4, 5, 10, 14, 25] 1000 ([.go, .n a.length, .t, .ix k, .el (enc x), .ix k, .el (enc y), .t]) [4] [] (S1 := { env := [(4, AV.bool false)], objs := [] }) (ob := [(↑(List.length (List.map enc a)) : Int) = (↑(List.length a) : Int),
      decide ((↑k : Int) < (↑(List.length a) : Int)) = true,
      k < List.length (List.map enc a),
      (↑k : Int) = (↑k : Int),
      (List.map enc a)[k]? = some (AV.agg [AV.int IntKind.u64 (Rn.f x), AV.int IntKind.u64 (Rn.t x)]),
      k < List.length (List.map enc b),
      (↑k : Int) = (↑k : Int),
      (List.map enc b)[k]? = some (AV.agg [AV.int IntKind.u64 (Rn.f y), AV.int IntKind.u64 (Rn.t y)]),
      (!(Rn.f x == Rn.f y && (Rn.t x == Rn.t y && true))) = true]) (by kernel_rfl) (by first | exact rfl | exact ⟨rfl, rfl⟩ | (simp [hx, hy, enc]; done) | ((have : ¬ (x.f = y.f ∧ x.t = y.t) := fun ⟨h1, h2⟩ => h (by cases x; cases y; simp_all); simp; omega))) ⟨(by first | exact rfl | (simp [hx, hy, enc]; done) | (simp [hx, hy, enc]; omega) | omega | ((have : ¬ (x.f = y.f ∧ x.t = y.t) := fun ⟨h1, h2⟩ => h (by cases x; cases y; simp_all); simp; omega))), (by first | exact rfl | (simp [hx, hy, enc]; done) | (simp [hx, hy, enc]; omega) | omega | ((have : ¬ (x.f = y.f ∧ x.t = y.t) := fun ⟨h1, h2⟩ => h (by cases x; cases y; simp_all); simp; omega))), (by first | exact rfl | (simp [hx, hy, enc]; done) | (simp [hx, hy, enc]; omega) | omega | ((have : ¬ (x.f = y.f ∧ x.t = y.t) := fun ⟨h1, h2⟩ => h (by cases x; cases y; simp_all); simp; omega))), (by first | exact rfl | (simp [hx, hy, enc]; done) | (simp [hx, hy, enc]; omega) | omega | ((have : ¬ (x.f = y.f ∧ x.t = y.t) := fun ⟨h1, h2⟩ => h (by cases x; cases y; simp_all); simp; omega))), (by first | exact rfl | (simp [hx, hy, enc]; done) | (simp [hx, hy, enc]; omega) | omega | ((have : ¬ (x.f = y.f ∧ x.t = y.t) := fun ⟨h1, h2⟩ => h (by cases x; cases y; simp_all); simp; omega))), (by first | exact rfl | (simp [hx, hy, enc]; done) | (simp [hx, hy, enc]; omega) | omega | ((have : ¬ (x.f = y.f ∧ x.t = y.t) := fun ⟨h1, h2⟩ => h (by cases x; cases y; simp_all); simp; omega))), (by first | exact rfl | (simp [hx, hy, enc]; done) | (simp [hx, hy, enc]; omega) | omega | ((have : ¬ (x.f = y.f ∧ x.t = y.t) := fun ⟨h1, h2⟩ => h (by cases x; cases y; simp_all); simp; omega))), (by first | exact rfl | (simp [hx, hy, enc]; done) | (simp [hx, hy, enc]; omega) | omega | ((have : ¬ (x.f = y.f ∧ x.t = y.t) := fun ⟨h1, h2⟩ => h (by cases x; cases y; simp_all); simp; omega))), (by first | exact rfl | (simp [hx, hy, enc]; done) | (simp [hx, hy, enc]; omega) | omega | ((have : ¬ (x.f = y.f ∧ x.t = y.t) := fun ⟨h1, h2⟩ => h (by cases x; cases y; simp_all); simp; omega))), trivial⟩
theorem same_ac (a b : List Rn) (hb : a.length ≤ 1099511627775) : ACalls Try.prog 23 [.lst 2 (a.map enc), .lst 2 (b.map enc)] [] (.bool (decide (a = b))) [] := by
  by_cases hl : a.length = b.length
  · have h := same_loop a b hl hb a.length 0 (by simp)
    simp only [List.drop_zero] at h
    by_cases e : a = b
    · rw [if_pos e, if_pos e] at h
      refine acallsK mixed Try.func23 rfl [0, 1, 4, 5, 10, 14, 25] 1000 ([.n a.length, .n b.length, .f, .lp [5, 0, 1] [] (.exit 0) ⟨[], []⟩]) [] [] (v1 := AV.bool true) (objs1 := []) (ob := [(↑(List.length (List.map enc a)) : Int) = (↑(List.length a) : Int),
      (↑(List.length (List.map enc b)) : Int) = (↑(List.length b) : Int),
      ((↑(List.length a) : Int) != (↑(List.length b) : Int)) = false,
      ALoop Try.prog 0 26 (loopB Try.f23 0) { env := [(5, AV.int IntKind.i64 0), (0, AV.lst 2 (List.map enc a)), (1, AV.lst 2 (List.map enc b))], objs := [] } (Ex.exit 0) { env := [], objs := [] }]) (by kernel_rfl) (by first | exact rfl | exact ⟨rfl, rfl⟩ | (simp [e]; done)) ⟨(by first | exact rfl | (simp [e]; done) | (simp [e]; omega) | omega), (by first | exact rfl | (simp [e]; done) | (simp [e]; omega) | omega), (by first | exact rfl | (simp [e]; done) | (simp [e]; omega) | omega), ?q45_1, trivial⟩
      exact h
    · rw [if_neg e, if_neg e] at h
      refine acallsK mixed Try.func23 rfl [0, 1, 4, 5, 10, 14, 25] 1000 ([.n a.length, .n b.length, .f, .lp [5, 0, 1] [] .ret ⟨[(4, .bool false)], []⟩]) [] [] (v1 := AV.bool false) (objs1 := []) (ob := [(↑(List.length (List.map enc a)) : Int) = (↑(List.length a) : Int),
      (↑(List.length (List.map enc b)) : Int) = (↑(List.length b) : Int),
      ((↑(List.length a) : Int) != (↑(List.length b) : Int)) = false,
      ALoop Try.prog 0 26 (loopB Try.f23 0) { env := [(5, AV.int IntKind.i64 0), (0, AV.lst 2 (List.map enc a)), (1, AV.lst 2 (List.map enc b))], objs := [] } Ex.ret { env := [(4, AV.bool false)], objs := [] }]) (by kernel_rfl) (by first | exact rfl | exact ⟨rfl, rfl⟩ | (simp [e, hl]; done)) ⟨(by first | exact rfl | (simp [e, hl]; done) | (simp [e, hl]; omega) | omega), (by first | exact rfl | (simp [e, hl]; done) | (simp [e, hl]; omega) | omega), (by first | exact rfl | (simp [e, hl]; done) | (simp [e, hl]; omega) | omega), ?q48_1, trivial⟩
      exact h
  · have e : ¬ a = b := by rintro rfl; exact hl rfl
    refine acallsK mixed Try.func23 rfl [0, 1, 4, 5, 10, 14, 25] 1000 ([.n a.length, .n b.length, .t]) [] [] (v1 := AV.bool false) (objs1 := []) (ob := [(↑(List.length (List.map enc a)) : Int) = (↑(List.length a) : Int),
      (↑(List.length (List.map enc b)) : Int) = (↑(List.length b) : Int),
      ((↑(List.length a) : Int) != (↑(List.length b) : Int)) = true]) (by kernel_rfl) (by first | exact rfl | exact ⟨rfl, rfl⟩ | (simp [e]; done)) ⟨(by first | exact rfl | (simp [e]; done) | (simp [e]; omega) | omega), (by first | exact rfl | (simp [e]; done) | (simp [e]; omega) | omega), (by first | exact rfl | (simp [e]; done) | (simp [e]; omega) | omega), trivial⟩

theorem count_loop (l : List Rn) (hb : l.length ≤ 1099511627775) : ∀ (n k : Nat), l.length = k + n →
    ALoop Try.prog 0 Try.f16.ntmps (loopB Try.f16 0) ⟨[(4, .int .i64 k), (3, .int .u64 (wu (countL (l.take k)))), (0, .lst 2 (l.map enc))], []⟩ (.exit 0) ⟨[(3, .int .u64 (wu (countL l)))], []⟩
  | 0, k, hk => by
    refine aloopK mixed [0, 2, 3, 4, 8] 1000 ([.go, .n l.length, .f]) [3] [] (S1 := { env := [(3, AV.int IntKind.u64 (wu (countL (List.take k l))))], objs := [] }) (ob := [(↑(List.length (List.map enc l)) : Int) = (↑(List.length l) : Int),
      decide ((↑k : Int) < (↑(List.length l) : Int)) = false]) (by kernel_rfl) (by first | exact rfl | exact ⟨rfl, rfl⟩ | (simp []; done) | (rw [List.take_of_length_le (by omega)])) ⟨(by first | exact rfl | (simp []; done) | (simp []; omega) | omega | (rw [List.take_of_length_le (by omega)])), (by first | exact rfl | (simp []; done) | (simp []; omega) | omega | (rw [List.take_of_length_le (by omega)])), trivial⟩
  | n + 1, k, hk => by
    obtain ⟨x, hx⟩ := get_of (l := l) (k := k) (by omega)
    refine aloopK mixed [0, 2, 3, 4, 8] 1000 ([.go, .n l.length, .t, .ix k, .el (enc x), .k, .ix k, .el (enc x), .n (wu (countL (l.take (k + 1)))), .n ((k+1:Nat):Int), .lp [4,3,0] [] (.exit 0) ⟨[(3, .int .u64 (wu (countL l)))], []⟩]) [3] [] (S1 := { env := [(3, AV.int IntKind.u64 (wu (countL l)))], objs := [] }) (ob := [(↑(List.length (List.map enc l)) : Int) = (↑(List.length l) : Int),
      decide ((↑k : Int) < (↑(List.length l) : Int)) = true,
      k < List.length (List.map enc l),
      (↑k : Int) = (↑k : Int),
      (List.map enc l)[k]? = some (AV.agg [AV.int IntKind.u64 (Rn.f x), AV.int IntKind.u64 (Rn.t x)]),
      k < List.length (List.map enc l),
      (↑k : Int) = (↑k : Int),
      (List.map enc l)[k]? = some (AV.agg [AV.int IntKind.u64 (Rn.f x), AV.int IntKind.u64 (Rn.t x)]),
      IntKind.wrap IntKind.u64 (IntKind.wrap IntKind.u64 (wu (countL (List.take k l)) + Rn.t x) - Rn.f x) = wu (countL (List.take (k + 1) l)),
      IntKind.wrap IntKind.i64 ((↑k : Int) + 1) = (↑(k + 1) : Int),
      ALoop Try.prog 0 25 (loopB Try.f16 0) { env := [(4, AV.int IntKind.i64 (↑(k + 1) : Int)), (3, AV.int IntKind.u64 (wu (countL (List.take (k + 1) l)))), (0, AV.lst 2 (List.map enc l))], objs := [] } (Ex.exit 0) { env := [(3, AV.int IntKind.u64 (wu (countL l)))], objs := [] }]) (by kernel_rfl) (by first | exact rfl | exact ⟨rfl, rfl⟩ | (simp [hx, enc]; done) | (first | exact wrap64 (by omega) | (rw [countL_take hx, wrap_wu, wrap_wu]; unfold wu; omega))) ⟨(by first | exact rfl | (simp [hx, enc]; done) | (simp [hx, enc]; omega) | omega | (first | exact wrap64 (by omega) | (rw [countL_take hx, wrap_wu, wrap_wu]; unfold wu; omega))), (by first | exact rfl | (simp [hx, enc]; done) | (simp [hx, enc]; omega) | omega | (first | exact wrap64 (by omega) | (rw [countL_take hx, wrap_wu, wrap_wu]; unfold wu; omega))), (by first | exact rfl | (simp [hx, enc]; done) | (simp [hx, enc]; omega) | omega | (first | exact wrap64 (by omega) | (rw [countL_take hx, wrap_wu, wrap_wu]; unfold wu; omega))), (by first | exact rfl | (simp [hx, enc]; done) | (simp [hx, enc]; omega) | omega | (first | exact wrap64 (by omega) | (rw [countL_take hx, wrap_wu, wrap_wu]; unfold wu; omega))), (by first | exact rfl | (simp [hx, enc]; done) | (simp [hx, enc]; omega) | omega | (first | exact wrap64 (by omega) | (rw [countL_take hx, wrap_wu, wrap_wu]; unfold wu; omega))), (by first | exact rfl | (simp [hx, enc]; done) | (simp [hx, enc]; omega) | omega | (first | exact wrap64 (by omega) | (rw [countL_take hx, wrap_wu, wrap_wu]; unfold wu; omega))), (by first | exact rfl | (simp [hx, enc]; done) | (simp [hx, enc]; omega) | omega | (first | exact wrap64 (by omega) | (rw [countL_take hx, wrap_wu, wrap_wu]; unfold wu; omega))), (by first | exact rfl | (simp [hx, enc]; done) | (simp [hx, enc]; omega) | omega | (first | exact wrap64 (by omega) | (rw [countL_take hx, wrap_wu, wrap_wu]; unfold wu; omega))), (by first | exact rfl | (simp [hx, enc]; done) | (simp [hx, enc]; omega) | omega | (first | exact wrap64 (by omega) | (rw [countL_take hx, wrap_wu, wrap_wu]; unfold wu; omega))), (by first | exact rfl | (simp [hx, enc]; done) | (simp [hx, enc]; omega) | omega | (first | exact wrap64 (by omega) | (rw [countL_take hx, wrap_wu, wrap_wu]; unfold wu; omega))), ?q59_1, trivial⟩
    exact count_loop l hb n (k + 1) (by omega)
theorem refcount_ac (l : List Rn) (hb : l.length ≤ 1099511627775) : ACalls Try.prog 16 [.lst 2 (l.map enc)] [] (.int .u64 (wu (countL l))) [] := by
  refine acallsK mixed Try.func16 rfl [0, 2, 3, 4, 8] 1000 ([.lp [4, 3, 0] [] (.exit 0) ⟨[(3, .int .u64 (wu (countL l)))], []⟩]) [] [] (v1 := AV.int IntKind.u64 (wu (countL l))) (objs1 := []) (ob := [ALoop Try.prog 0 25 (loopB Try.f16 0) { env := [(4, AV.int IntKind.i64 0), (3, AV.int IntKind.u64 0), (0, AV.lst 2 (List.map enc l))], objs := [] } (Ex.exit 0) { env := [(3, AV.int IntKind.u64 (wu (countL l)))], objs := [] }]) (by kernel_rfl) (by first | exact rfl | exact ⟨rfl, rfl⟩ | (simp []; done)) ⟨?q62_1, trivial⟩
  exact count_loop l hb l.length 0 (by simp)

def hit (n : Int) (x : Rn) : Bool := decide (x.f ≤ n) && decide (n < x.t)
theorem refhas_loop (l : List Rn) (m : Int) (hb : l.length ≤ 1099511627775) : ∀ (n k : Nat), l.length = k + n →
    ALoop Try.prog 0 Try.f28.ntmps (loopB Try.f28 0) ⟨[(5, .int .i64 k), (0, .lst 2 (l.map enc)), (1, .int .u64 m)], []⟩ (exF ((l.drop k).find? (hit m))) (stF ((l.drop k).find? (hit m)) fun x => [(4, .bool true)])
  | 0, k, hk => by
    rw [List.drop_of_length_le (by omega)]
    refine aloopK mixed [0, 1, 4, 5, 9, 27] 1000 ([.go, .n l.length, .f]) [] [] (S1 := { env := [], objs := [] }) (ob := [(↑(List.length (List.map enc l)) : Int) = (↑(List.length l) : Int),
      decide ((↑k : Int) < (↑(List.length l) : Int)) = false]) (by kernel_rfl) (by first | exact rfl | exact ⟨rfl, rfl⟩ | (simp []; done)) ⟨(by first | exact rfl | (simp []; done) | (simp []; omega) | omega), (by first | exact rfl | (simp []; done) | (simp []; omega) | omega), trivial⟩
  | n + 1, k, hk => by
    obtain ⟨x, hx⟩ := get_of (l := l) (k := k) (by omega)
    have ih := refhas_loop l m hb n (k + 1) (by omega)
    rw [drop_at hx, List.find?_cons]
    by_cases h1 : x.f ≤ m
    · by_cases h2 : m < x.t
      · have e : hit m x = true := by simp [hit, h1, h2]
        rw [e]
        refine aloopK mixed [0, 1, 4, 5, 9, 27] 1000 ([.go, .n l.length, .t, .ix k, .el (enc x), .t, .ix k, .el (enc x), .t]) [4] [] (S1 := { env := [(4, AV.bool true)], objs := [] }) (ob := [(↑(List.length (List.map enc l)) : Int) = (↑(List.length l) : Int),
      decide ((↑k : Int) < (↑(List.length l) : Int)) = true,
      k < List.length (List.map enc l),
      (↑k : Int) = (↑k : Int),
      (List.map enc l)[k]? = some (AV.agg [AV.int IntKind.u64 (Rn.f x), AV.int IntKind.u64 (Rn.t x)]),
      decide (Rn.f x ≤ m) = true,
      k < List.length (List.map enc l),
      (↑k : Int) = (↑k : Int),
      (List.map enc l)[k]? = some (AV.agg [AV.int IntKind.u64 (Rn.f x), AV.int IntKind.u64 (Rn.t x)]),
      decide (m < Rn.t x) = true]) (by kernel_rfl) (by first | exact rfl | exact ⟨rfl, rfl⟩ | (simp [hx, enc, h1, h2, exF, stF]; done)) ⟨(by first | exact rfl | (simp [hx, enc, h1, h2, exF, stF]; done) | (simp [hx, enc, h1, h2, exF, stF]; omega) | omega), (by first | exact rfl | (simp [hx, enc, h1, h2, exF, stF]; done) | (simp [hx, enc, h1, h2, exF, stF]; omega) | omega), (by first | exact rfl | (simp [hx, enc, h1, h2, exF, stF]; done) | (simp [hx, enc, h1, h2, exF, stF]; omega) | omega), (by first | exact rfl | (simp [hx, enc, h1, h2, exF, stF]; done) | (simp [hx, enc, h1, h2, exF, stF]; omega) | omega), (by first | exact rfl | (simp [hx, enc, h1, h2, exF, stF]; done) | (simp [hx, enc, h1, h2, exF, stF]; omega) | omega), (by first | exact rfl | (simp [hx, enc, h1, h2, exF, stF]; done) | (simp [hx, enc, h1, h2, exF, stF]; omega) | omega), (by first | exact rfl | (simp [hx, enc, h1, h2, exF, stF]; done) | (simp [hx, enc, h1, h2, exF, stF]; omega) | omega), (by first | exact rfl | (simp [hx, enc, h1, h2, exF, stF]; done) | (simp [hx, enc, h1, h2, exF, stF]; omega) | omega), (by first | exact rfl | (simp [hx, enc, h1, h2, exF, stF]; done) | (simp [hx, enc, h1, h2, exF, stF]; omega) | omega), (by first | exact rfl | (simp [hx, enc, h1, h2, exF, stF]; done) | (simp [hx, enc, h1, h2, exF, stF]; omega) | omega), trivial⟩
      · have e : hit m x = false := by simp [hit, h2]
        rw [e]
        cases hf : (l.drop (k + 1)).find? (hit m) with
        | none =>
          rw [hf] at ih
          refine aloopK mixed [0, 1, 4, 5, 9, 27] 1000 ([.go, .n l.length, .t, .ix k, .el (enc x), .t, .ix k, .el (enc x), .f, .n ((k+1:Nat):Int), .lp [5,0,1] [] (.exit 0) ⟨[], []⟩]) [] [] (S1 := { env := [], objs := [] }) (ob := [(↑(List.length (List.map enc l)) : Int) = (↑(List.length l) : Int),
      decide ((↑k : Int) < (↑(List.length l) : Int)) = true,
      k < List.length (List.map enc l),
      (↑k : Int) = (↑k : Int),
      (List.map enc l)[k]? = some (AV.agg [AV.int IntKind.u64 (Rn.f x), AV.int IntKind.u64 (Rn.t x)]),
      decide (Rn.f x ≤ m) = true,
      k < List.length (List.map enc l),
      (↑k : Int) = (↑k : Int),
      (List.map enc l)[k]? = some (AV.agg [AV.int IntKind.u64 (Rn.f x), AV.int IntKind.u64 (Rn.t x)]),
      decide (m < Rn.t x) = false,
      IntKind.wrap IntKind.i64 ((↑k : Int) + 1) = (↑(k + 1) : Int),
      ALoop Try.prog 0 28 (loopB Try.f28 0) { env := [(5, AV.int IntKind.i64 (↑(k + 1) : Int)), (0, AV.lst 2 (List.map enc l)), (1, AV.int IntKind.u64 m)], objs := [] } (Ex.exit 0) { env := [], objs := [] }]) (by kernel_rfl) (by first | exact rfl | exact ⟨rfl, rfl⟩ | (simp [hx, enc, h1, h2, exF, stF]; done) | (exact wrap64 (by omega))) ⟨(by first | exact rfl | (simp [hx, enc, h1, h2, exF, stF]; done) | (simp [hx, enc, h1, h2, exF, stF]; omega) | omega | (exact wrap64 (by omega))), (by first | exact rfl | (simp [hx, enc, h1, h2, exF, stF]; done) | (simp [hx, enc, h1, h2, exF, stF]; omega) | omega | (exact wrap64 (by omega))), (by first | exact rfl | (simp [hx, enc, h1, h2, exF, stF]; done) | (simp [hx, enc, h1, h2, exF, stF]; omega) | omega | (exact wrap64 (by omega))), (by first | exact rfl | (simp [hx, enc, h1, h2, exF, stF]; done) | (simp [hx, enc, h1, h2, exF, stF]; omega) | omega | (exact wrap64 (by omega))), (by first | exact rfl | (simp [hx, enc, h1, h2, exF, stF]; done) | (simp [hx, enc, h1, h2, exF, stF]; omega) | omega | (exact wrap64 (by omega))), (by first | exact rfl | (simp [hx, enc, h1, h2, exF, stF]; done) | (simp [hx, enc, h1, h2, exF, stF]; omega) | omega | (exact wrap64 (by omega))), (by first | exact rfl | (simp [hx, enc, h1, h2, exF, stF]; done) | (simp [hx, enc, h1, h2, exF, stF]; omega) | omega | (exact wrap64 (by omega))), (by first | exact rfl | (simp [hx, enc, h1, h2, exF, stF]; done) | (simp [hx, enc, h1, h2, exF, stF]; omega) | omega | (exact wrap64 (by omega))), (by first | exact rfl | (simp [hx, enc, h1, h2, exF, stF]; done) | (simp [hx, enc, h1, h2, exF, stF]; omega) | omega | (exact wrap64 (by omega))), (by first | exact rfl | (simp [hx, enc, h1, h2, exF, stF]; done) | (simp [hx, enc, h1, h2, exF, stF]; omega) | omega | (exact wrap64 (by omega))), (by first | exact rfl | (simp [hx, enc, h1, h2, exF, stF]; done) | (simp [hx, enc, h1, h2, exF, stF]; omega) | omega | (exact wrap64 (by omega))), ?q85_1, trivial⟩
          exact ih
        | some y =>
          rw [hf] at ih
          refine aloopK mixed [0, 1, 4, 5, 9, 27] 1000 ([.go, .n l.length, .t, .ix k, .el (enc x), .t, .ix k, .el (enc x), .f, .n ((k+1:Nat):Int), .lp [5,0,1] [] .ret ⟨[(4, .bool true)], []⟩]) [4] [] (S1 := { env := [(4, AV.bool true)], objs := [] }) (ob := [(↑(List.length (List.map enc l)) : Int) = (↑(List.length l) : Int),
      decide ((↑k : Int) < (↑(List.length l) : Int)) = true,
      k < List.length (List.map enc l),
      (↑k : Int) = (↑k : Int),
      (List.map enc l)[k]? = some (AV.agg [AV.int IntKind.u64 (Rn.f x), AV.int IntKind.u64 (Rn.t x)]),
      decide (Rn.f x ≤ m) = true,
      k < List.length (List.map enc l),
      (↑k : Int) = (↑k : Int),
      (List.map enc l)[k]? = some (AV.agg [AV.int IntKind.u64 (Rn.f x), AV.int IntKind.u64 (Rn.t x)]),
      decide (m < Rn.t x) = false,
      IntKind.wrap IntKind.i64 ((↑k : Int) + 1) = (↑(k + 1) : Int),
      ALoop Try.prog 0 28 (loopB Try.f28 0) { env := [(5, AV.int IntKind.i64 (↑(k + 1) : Int)), (0, AV.lst 2 (List.map enc l)), (1, AV.int IntKind.u64 m)], objs := [] } Ex.ret { env := [(4, AV.bool true)], objs := [] }]) (by kernel_rfl) (by first | exact rfl | exact ⟨rfl, rfl⟩ | (simp [hx, enc, h1, h2, exF, stF]; done) | (exact wrap64 (by omega))) ⟨(by first | exact rfl | (simp [hx, enc, h1, h2, exF, stF]; done) | (simp [hx, enc, h1, h2, exF, stF]; omega) | omega | (exact wrap64 (by omega))), (by first | exact rfl | (simp [hx, enc, h1, h2, exF, stF]; done) | (simp [hx, enc, h1, h2, exF, stF]; omega) | omega | (exact wrap64 (by omega))), (by first | exact rfl | (simp [hx, enc, h1, h2, exF, stF]; done) | (simp [hx, enc, h1, h2, exF, stF]; omega) | omega | (exact wrap64 (by omega))), (by first | exact rfl | (simp [hx, enc, h1, h2, exF, stF]; done) | (simp [hx, enc, h1, h2, exF, stF]; omega) | omega | (exact wrap64 (by omega))), (by first | exact rfl | (simp [hx, enc, h1, h2, exF, stF]; done) | (simp [hx, enc, h1, h2, exF, stF]; omega) | omega | (exact wrap64 (by omega))), (by first | exact rfl | (simp [hx, enc, h1, h2, exF, stF]; done) | (simp [hx, enc, h1, h2, exF, stF]; omega) | omega | (exact wrap64 (by omega))), (by first | exact rfl | (simp [hx, enc, h1, h2, exF, stF]; done) | (simp [hx, enc, h1, h2, exF, stF]; omega) | omega | (exact wrap64 (by omega))), (by first | exact rfl | (simp [hx, enc, h1, h2, exF, stF]; done) | (simp [hx, enc, h1, h2, exF, stF]; omega) | omega | (exact wrap64 (by omega))), (by first | exact rfl | (simp [hx, enc, h1, h2, exF, stF]; done) | (simp [hx, enc, h1, h2, exF, stF]; omega) | omega | (exact wrap64 (by omega))), (by first | exact rfl | (simp [hx, enc, h1, h2, exF, stF]; done) | (simp [hx, enc, h1, h2, exF, stF]; omega) | omega | (exact wrap64 (by omega))), (by first | exact rfl | (simp [hx, enc, h1, h2, exF, stF]; done) | (simp [hx, enc, h1, h2, exF, stF]; omega) | omega | (exact wrap64 (by omega))), ?q89_1, trivial⟩
          exact ih
    · have e : hit m x = false := by simp [hit, h1]
      rw [e]
      cases hf : (l.drop (k + 1)).find? (hit m) with
      | none =>
        rw [hf] at ih
        refine aloopK mixed [0, 1, 4, 5, 9, 27] 1000 ([.go, .n l.length, .t, .ix k, .el (enc x), .f, .n ((k+1:Nat):Int), .lp [5,0,1] [] (.exit 0) ⟨[], []⟩]) [] [] (S1 := { env := [], objs := [] }) (ob := [(↑(List.length (List.map enc l)) : Int) = (↑(List.length l) : Int),
      decide ((↑k : Int) < (↑(List.length l) : Int)) = true,
      k < List.length (List.map enc l),
      (↑k : Int) = (↑k : Int),
      (List.map enc l)[k]? = some (AV.agg [AV.int IntKind.u64 (Rn.f x), AV.int IntKind.u64 (Rn.t x)]),
      decide (Rn.f x ≤ m) = false,
      IntKind.wrap IntKind.i64 ((↑k : Int) + 1) = (↑(k + 1) : Int),
      ALoop Try.prog 0 28 (loopB Try.f28 0) { env := [(5, AV.int IntKind.i64 (↑(k + 1) : Int)), (0, AV.lst 2 (List.map enc l)), (1, AV.int IntKind.u64 m)], objs := [] } (Ex.exit 0) { env := [], objs := [] }]) (by kernel_rfl) (by first | exact rfl | exact ⟨rfl, rfl⟩ | (simp [hx, enc, h1, exF, stF]; done) | (exact wrap64 (by omega))) ⟨(by first | exact rfl | (simp [hx, enc, h1, exF, stF]; done) | (simp [hx, enc, h1, exF, stF]; omega) | omega | (exact wrap64 (by omega))), (by first | exact rfl | (simp [hx, enc, h1, exF, stF]; done) | (simp [hx, enc, h1, exF, stF]; omega) | omega | (exact wrap64 (by omega))), (by first | exact rfl | (simp [hx, enc, h1, exF, stF]; done) | (simp [hx, enc, h1, exF, stF]; omega) | omega | (exact wrap64 (by omega))), (by first | exact rfl | (simp [hx, enc, h1, exF, stF]; done) | (simp [hx, enc, h1, exF, stF]; omega) | omega | (exact wrap64 (by omega))), (by first | exact rfl | (simp [hx, enc, h1, exF, stF]; done) | (simp [hx, enc, h1, exF, stF]; omega) | omega | (exact wrap64 (by omega))), (by first | exact rfl | (simp [hx, enc, h1, exF, stF]; done) | (simp [hx, enc, h1, exF, stF]; omega) | omega | (exact wrap64 (by omega))), (by first | exact rfl | (simp [hx, enc, h1, exF, stF]; done) | (simp [hx, enc, h1, exF, stF]; omega) | omega | (exact wrap64 (by omega))), ?q96_1, trivial⟩
        exact ih
      | some y =>
        rw [hf] at ih
        refine aloopK mixed [0, 1, 4, 5, 9, 27] 1000 ([.go, .n l.length, .t, .ix k, .el (enc x), .f, .n ((k+1:Nat):Int), .lp [5,0,1] [] .ret ⟨[(4, .bool true)], []⟩]) [4] [] (S1 := { env := [(4, AV.bool true)], objs := [] }) (ob := [(↑(List.length (List.map enc l)) : Int) = (↑(List.length l) : Int),
      decide ((↑k : Int) < (↑(List.length l) : Int)) = true,
      k < List.length (List.map enc l),
      (↑k : Int) = (↑k : Int),
      (List.map enc l)[k]? = some (AV.agg [AV.int IntKind.u64 (Rn.f x), AV.int IntKind.u64 (Rn.t x)]),
      decide (Rn.f x ≤ m) = false,
      IntKind.wrap IntKind.i64 ((↑k : Int) + 1) = (↑(k + 1) : Int),
      ALoop Try.prog 0 28 (loopB Try.f28 0) { env := [(5, AV.int IntKind.i64 (↑(k + 1) : Int)), (0, AV.lst 2 (List.map enc l)), (1, AV.int IntKind.u64 m)], objs := [] } Ex.ret { env := [(4, AV.bool true)], objs := [] }]) (by kernel_rfl) (by first | exact rfl | exact ⟨rfl, rfl⟩ | (simp [hx, enc, h1, exF, stF]; done) | (exact wrap64 (by omega))) ⟨(by first | exact rfl | (simp [hx, enc, h1, exF, stF]; done) | (simp [hx, enc, h1, exF, stF]; omega) | omega | (exact wrap64 (by omega))), (by first | exact rfl | (simp [hx, enc, h1, exF, stF]; done) | (simp [hx, enc, h1, exF, stF]; omega) | omega | (exact wrap64 (by omega))), (by first | exact rfl | (simp [hx, enc, h1, exF, stF]; done) | (simp [hx, enc, h1, exF, stF]; omega) | omega | (exact wrap64 (by omega))), (by first | exact rfl | (simp [hx, enc, h1, exF, stF]; done) | (simp [hx, enc, h1, exF, stF]; omega) | omega | (exact wrap64 (by omega))), (by first | exact rfl | (simp [hx, enc, h1, exF, stF]; done) | (simp [hx, enc, h1, exF, stF]; omega) | omega | (exact wrap64 (by omega))), (by first | exact rfl | (simp [hx, enc, h1, exF, stF]; done) | (simp [hx, enc, h1, exF, stF]; omega) | omega | (exact wrap64 (by omega))), (by first | exact rfl | (simp [hx, enc, h1, exF, stF]; done) | (simp [hx, enc, h1, exF, stF]; omega) | omega | (exact wrap64 (by omega))), ?q100_1, trivial⟩
        exact ih
theorem refhas_ac (l : List Rn) (m : Int) (hb : l.length ≤ 1099511627775) : ACalls Try.prog 28 [.lst 2 (l.map enc), .int .u64 m] [] (.bool (l.find? (hit m)).isSome) [] := by
  have h := refhas_loop l m hb l.length 0 (by simp)
  rw [List.drop_zero] at h
  cases hf : l.find? (hit m) with
  | none =>
    rw [hf] at h
    refine acallsK mixed Try.func28 rfl [0, 1, 4, 5, 9, 27] 1000 ([.lp [5, 0, 1] [] (.exit 0) ⟨[], []⟩]) [] [] (v1 := AV.bool false) (objs1 := []) (ob := [ALoop Try.prog 0 28 (loopB Try.f28 0) { env := [(5, AV.int IntKind.i64 0), (0, AV.lst 2 (List.map enc l)), (1, AV.int IntKind.u64 m)], objs := [] } (Ex.exit 0) { env := [], objs := [] }]) (by kernel_rfl) (by first | exact rfl | exact ⟨rfl, rfl⟩ | (simp []; done)) ⟨?q108_1, trivial⟩
    exact h
  | some y =>
    rw [hf] at h
    refine acallsK mixed Try.func28 rfl [0, 1, 4, 5, 9, 27] 1000 ([.lp [5, 0, 1] [] .ret ⟨[(4, .bool true)], []⟩]) [] [] (v1 := AV.bool true) (objs1 := []) (ob := [ALoop Try.prog 0 28 (loopB Try.f28 0) { env := [(5, AV.int IntKind.i64 0), (0, AV.lst 2 (List.map enc l)), (1, AV.int IntKind.u64 m)], objs := [] } Ex.ret { env := [(4, AV.bool true)], objs := [] }]) (by kernel_rfl) (by first | exact rfl | exact ⟨rfl, rfl⟩ | (simp []; done)) ⟨?q112_1, trivial⟩
    exact h

def stG (o : Option Rn) (f : Rn → Env) (e : Env) : St := match o with | some x => ⟨f x, []⟩ | none => ⟨e, []⟩
theorem refgap_loop (l : List Rn) (m : Int) (hb : l.length ≤ 1099511627775) : ∀ (n k : Nat), l.length = k + n →
    ALoop Try.prog 0 Try.f26.ntmps (loopB Try.f26 0) ⟨[(5, .int .i64 k), (0, .lst 2 (l.map enc)), (1, .int .u64 m)], []⟩ (exF ((l.drop k).find? (hit m))) (stG ((l.drop k).find? (hit m)) (fun x => [(4, .int .u64 x.t)]) [(1, .int .u64 m)])
  | 0, k, hk => by
    rw [List.drop_of_length_le (by omega)]
    refine aloopK mixed [0, 1, 4, 5, 9, 27] 1000 ([.go, .n l.length, .f]) [1] [] (S1 := { env := [(1, AV.int IntKind.u64 m)], objs := [] }) (ob := [(↑(List.length (List.map enc l)) : Int) = (↑(List.length l) : Int),
      decide ((↑k : Int) < (↑(List.length l) : Int)) = false]) (by kernel_rfl) (by first | exact rfl | exact ⟨rfl, rfl⟩ | (simp []; done)) ⟨(by first | exact rfl | (simp []; done) | (simp []; omega) | omega), (by first | exact rfl | (simp []; done) | (simp []; omega) | omega), trivial⟩
  | n + 1, k, hk => by
    obtain ⟨x, hx⟩ := get_of (l := l) (k := k) (by omega)
    have ih := refgap_loop l m hb n (k + 1) (by omega)
    rw [drop_at hx, List.find?_cons]
    by_cases h1 : x.f ≤ m
    · by_cases h2 : m < x.t
      · have e : hit m x = true := by simp [hit, h1, h2]
        rw [e]
        refine aloopK mixed [0, 1, 4, 5, 9, 27] 1000 ([.go, .n l.length, .t, .ix k, .el (enc x), .t, .ix k, .el (enc x), .t, .ix k, .el (enc x)]) [4] [] (S1 := { env := [(4, AV.int IntKind.u64 (Rn.t x))], objs := [] }) (ob := [(↑(List.length (List.map enc l)) : Int) = (↑(List.length l) : Int),
      decide ((↑k : Int) < (↑(List.length l) : Int)) = true,
      k < List.length (List.map enc l),
      (↑k : Int) = (↑k : Int),
      (List.map enc l)[k]? = some (AV.agg [AV.int IntKind.u64 (Rn.f x), AV.int IntKind.u64 (Rn.t x)]),
      decide (Rn.f x ≤ m) = true,
      k < List.length (List.map enc l),
      (↑k : Int) = (↑k : Int),
      (List.map enc l)[k]? = some (AV.agg [AV.int IntKind.u64 (Rn.f x), AV.int IntKind.u64 (Rn.t x)]),
      decide (m < Rn.t x) = true,
      k < List.length (List.map enc l),
      (↑k : Int) = (↑k : Int),
      (List.map enc l)[k]? = some (AV.agg [AV.int IntKind.u64 (Rn.f x), AV.int IntKind.u64 (Rn.t x)])]) (by kernel_rfl) (by first | exact rfl | exact ⟨rfl, rfl⟩ | (simp [hx, enc, h1, h2, exF, stG]; done)) ⟨(by first | exact rfl | (simp [hx, enc, h1, h2, exF, stG]; done) | (simp [hx, enc, h1, h2, exF, stG]; omega) | omega), (by first | exact rfl | (simp [hx, enc, h1, h2, exF, stG]; done) | (simp [hx, enc, h1, h2, exF, stG]; omega) | omega), (by first | exact rfl | (simp [hx, enc, h1, h2, exF, stG]; done) | (simp [hx, enc, h1, h2, exF, stG]; omega) | omega), (by first | exact rfl | (simp [hx, enc, h1, h2, exF, stG]; done) | (simp [hx, enc, h1, h2, exF, stG]; omega) | omega), (by first | exact rfl | (simp [hx, enc, h1, h2, exF, stG]; done) | (simp [hx, enc, h1, h2, exF, stG]; omega) | omega), (by first | exact rfl | (simp [hx, enc, h1, h2, exF, stG]; done) | (simp [hx, enc, h1, h2, exF, stG]; omega) | omega), (by first | exact rfl | (simp [hx, enc, h1, h2, exF, stG]; done) | (simp [hx, enc, h1, h2, exF, stG]; omega) | omega), (by first | exact rfl | (simp [hx, enc, h1, h2, exF, stG]; done) | (simp [hx, enc, h1, h2, exF, stG]; omega) | omega), (by first | exact rfl | (simp [hx, enc, h1, h2, exF, stG]; done) | (simp [hx, enc, h1, h2, exF, stG]; omega) | omega), (by first | exact rfl | (simp [hx, enc, h1, h2, exF, stG]; done) | (simp [hx, enc, h1, h2, exF, stG]; omega) | omega), (by first | exact rfl | (simp [hx, enc, h1, h2, exF, stG]; done) | (simp [hx, enc, h1, h2, exF, stG]; omega) | omega), (by first | exact rfl | (simp [hx, enc, h1, h2, exF, stG]; done) | (simp [hx, enc, h1, h2, exF, stG]; omega) | omega), (by first | exact rfl | (simp [hx, enc, h1, h2, exF, stG]; done) | (simp [hx, enc, h1, h2, exF, stG]; omega) | omega), trivial⟩
      · have e : hit m x = false := by simp [hit, h2]
        rw [e]
        cases hf : (l.drop (k + 1)).find? (hit m) with
        | none =>
          rw [hf] at ih
          refine aloopK mixed [0, 1, 4, 5, 9, 27] 1000 ([.go, .n l.length, .t, .ix k, .el (enc x), .t, .ix k, .el (enc x), .f, .n ((k+1:Nat):Int), .lp [5,0,1] [] (.exit 0) ⟨[(1, .int .u64 m)], []⟩]) [1] [] (S1 := { env := [(1, AV.int IntKind.u64 m)], objs := [] }) (ob := [(↑(List.length (List.map enc l)) : Int) = (↑(List.length l) : Int),
      decide ((↑k : Int) < (↑(List.length l) : Int)) = true,
      k < List.length (List.map enc l),
      (↑k : Int) = (↑k : Int),
      (List.map enc l)[k]? = some (AV.agg [AV.int IntKind.u64 (Rn.f x), AV.int IntKind.u64 (Rn.t x)]),
      decide (Rn.f x ≤ m) = true,
      k < List.length (List.map enc l),
      (↑k : Int) = (↑k : Int),
      (List.map enc l)[k]? = some (AV.agg [AV.int IntKind.u64 (Rn.f x), AV.int IntKind.u64 (Rn.t x)]),
      decide (m < Rn.t x) = false,
      IntKind.wrap IntKind.i64 ((↑k : Int) + 1) = (↑(k + 1) : Int),
      ALoop Try.prog 0 34 (loopB Try.f26 0) { env := [(5, AV.int IntKind.i64 (↑(k + 1) : Int)), (0, AV.lst 2 (List.map enc l)), (1, AV.int IntKind.u64 m)], objs := [] } (Ex.exit 0) { env := [(1, AV.int IntKind.u64 m)], objs := [] }]) (by kernel_rfl) (by first | exact rfl | exact ⟨rfl, rfl⟩ | (simp [hx, enc, h1, h2, exF, stG]; done) | (exact wrap64 (by omega))) ⟨(by first | exact rfl | (simp [hx, enc, h1, h2, exF, stG]; done) | (simp [hx, enc, h1, h2, exF, stG]; omega) | omega | (exact wrap64 (by omega))), (by first | exact rfl | (simp [hx, enc, h1, h2, exF, stG]; done) | (simp [hx, enc, h1, h2, exF, stG]; omega) | omega | (exact wrap64 (by omega))), (by first | exact rfl | (simp [hx, enc, h1, h2, exF, stG]; done) | (simp [hx, enc, h1, h2, exF, stG]; omega) | omega | (exact wrap64 (by omega))), (by first | exact rfl | (simp [hx, enc, h1, h2, exF, stG]; done) | (simp [hx, enc, h1, h2, exF, stG]; omega) | omega | (exact wrap64 (by omega))), (by first | exact rfl | (simp [hx, enc, h1, h2, exF, stG]; done) | (simp [hx, enc, h1, h2, exF, stG]; omega) | omega | (exact wrap64 (by omega))), (by first | exact rfl | (simp [hx, enc, h1, h2, exF, stG]; done) | (simp [hx, enc, h1, h2, exF, stG]; omega) | omega | (exact wrap64 (by omega))), (by first | exact rfl | (simp [hx, enc, h1, h2, exF, stG]; done) | (simp [hx, enc, h1, h2, exF, stG]; omega) | omega | (exact wrap64 (by omega))), (by first | exact rfl | (simp [hx, enc, h1, h2, exF, stG]; done) | (simp [hx, enc, h1, h2, exF, stG]; omega) | omega | (exact wrap64 (by omega))), (by first | exact rfl | (simp [hx, enc, h1, h2, exF, stG]; done) | (simp [hx, enc, h1, h2, exF, stG]; omega) | omega | (exact wrap64 (by omega))), (by first | exact rfl | (simp [hx, enc, h1, h2, exF, stG]; done) | (simp [hx, enc, h1, h2, exF, stG]; omega) | omega | (exact wrap64 (by omega))), (by first | exact rfl | (simp [hx, enc, h1, h2, exF, stG]; done) | (simp [hx, enc, h1, h2, exF, stG]; omega) | omega | (exact wrap64 (by omega))), ?q135_1, trivial⟩
          exact ih
        | some y =>
          rw [hf] at ih
          refine aloopK mixed [0, 1, 4, 5, 9, 27] 1000 ([.go, .n l.length, .t, .ix k, .el (enc x), .t, .ix k, .el (enc x), .f, .n ((k+1:Nat):Int), .lp [5,0,1] [] .ret ⟨[(4, .int .u64 y.t)], []⟩]) [4] [] (S1 := { env := [(4, AV.int IntKind.u64 (Rn.t y))], objs := [] }) (ob := [(↑(List.length (List.map enc l)) : Int) = (↑(List.length l) : Int),
      decide ((↑k : Int) < (↑(List.length l) : Int)) = true,
      k < List.length (List.map enc l),
      (↑k : Int) = (↑k : Int),
      (List.map enc l)[k]? = some (AV.agg [AV.int IntKind.u64 (Rn.f x), AV.int IntKind.u64 (Rn.t x)]),
      decide (Rn.f x ≤ m) = true,
      k < List.length (List.map enc l),
      (↑k : Int) = (↑k : Int),
      (List.map enc l)[k]? = some (AV.agg [AV.int IntKind.u64 (Rn.f x), AV.int IntKind.u64 (Rn.t x)]),
      decide (m < Rn.t x) = false,
      IntKind.wrap IntKind.i64 ((↑k : Int) + 1) = (↑(k + 1) : Int),
      ALoop Try.prog 0 34 (loopB Try.f26 0) { env := [(5, AV.int IntKind.i64 (↑(k + 1) : Int)), (0, AV.lst 2 (List.map enc l)), (1, AV.int IntKind.u64 m)], objs := [] } Ex.ret { env := [(4, AV.int IntKind.u64 (Rn.t y))], objs := [] }]) (by kernel_rfl) (by first | exact rfl | exact ⟨rfl, rfl⟩ | (simp [hx, enc, h1, h2, exF, stG]; done) | (exact wrap64 (by omega))) ⟨(by first | exact rfl | (simp [hx, enc, h1, h2, exF, stG]; done) | (simp [hx, enc, h1, h2, exF, stG]; omega) | omega | (exact wrap64 (by omega))), (by first | exact rfl | (simp [hx, enc, h1, h2, exF, stG]; done) | (simp [hx, enc, h1, h2, exF, stG]; omega) | omega | (exact wrap64 (by omega))), (by first | exact rfl | (simp [hx, enc, h1, h2, exF, stG]; done) | (simp [hx, enc, h1, h2, exF, stG]; omega) | omega | (exact wrap64 (by omega))), (by first | exact rfl | (simp [hx, enc, h1, h2, exF, stG]; done) | (simp [hx, enc, h1, h2, exF, stG]; omega) | omega | (exact wrap64 (by omega))), (by first | exact rfl | (simp [hx, enc, h1, h2, exF, stG]; done) | (simp [hx, enc, h1, h2, exF, stG]; omega) | omega | (exact wrap64 (by omega))), (by first | exact rfl | (simp [hx, enc, h1, h2, exF, stG]; done) | (simp [hx, enc, h1, h2, exF, stG]; omega) | omega | (exact wrap64 (by omega))), (by first | exact rfl | (simp [hx, enc, h1, h2, exF, stG]; done) | (simp [hx, enc, h1, h2, exF, stG]; omega) | omega | (exact wrap64 (by omega))), (by first | exact rfl | (simp [hx, enc, h1, h2, exF, stG]; done) | (simp [hx, enc, h1, h2, exF, stG]; omega) | omega | (exact wrap64 (by omega))), (by first | exact rfl | (simp [hx, enc, h1, h2, exF, stG]; done) | (simp [hx, enc, h1, h2, exF, stG]; omega) | omega | (exact wrap64 (by omega))), (by first | exact rfl | (simp [hx, enc, h1, h2, exF, stG]; done) | (simp [hx, enc, h1, h2, exF, stG]; omega) | omega | (exact wrap64 (by omega))), (by first | exact rfl | (simp [hx, enc, h1, h2, exF, stG]; done) | (simp [hx, enc, h1, h2, exF, stG]; omega) | omega | (exact wrap64 (by omega))), ?q139_1, trivial⟩
          exact ih
    · have e : hit m x = false := by simp [hit, h1]
      rw [e]
      cases hf : (l.drop (k + 1)).find? (hit m) with
      | none =>
        rw [hf] at ih
        refine aloopK mixed [0, 1, 4, 5, 9, 27] 1000 ([.go, .n l.length, .t, .ix k, .el (enc x), .f, .n ((k+1:Nat):Int), .lp [5,0,1] [] (.exit 0) ⟨[(1, .int .u64 m)], []⟩]) [1] [] (S1 := { env := [(1, AV.int IntKind.u64 m)], objs := [] }) (ob := [(↑(List.length (List.map enc l)) : Int) = (↑(List.length l) : Int),
      decide ((↑k : Int) < (↑(List.length l) : Int)) = true,
      k < List.length (List.map enc l),
      (↑k : Int) = (↑k : Int),
      (List.map enc l)[k]? = some (AV.agg [AV.int IntKind.u64 (Rn.f x), AV.int IntKind.u64 (Rn.t x)]),
      decide (Rn.f x ≤ m) = false,
      IntKind.wrap IntKind.i64 ((↑k : Int) + 1) = (↑(k + 1) : Int),
      ALoop Try.prog 0 34 (loopB Try.f26 0) { env := [(5, AV.int IntKind.i64 (↑(k + 1) : Int)), (0, AV.lst 2 (List.map enc l)), (1, AV.int IntKind.u64 m)], objs := [] } (Ex.exit 0) { env := [(1, AV.int IntKind.u64 m)], objs := [] }]) (by kernel_rfl) (by first | exact rfl | exact ⟨rfl, rfl⟩ | (simp [hx, enc, h1, exF, stG]; done) | (exact wrap64 (by omega))) ⟨(by first | exact rfl | (simp [hx, enc, h1, exF, stG]; done) | (simp [hx, enc, h1, exF, stG]; omega) | omega | (exact wrap64 (by omega))), (by first | exact rfl | (simp [hx, enc, h1, exF, stG]; done) | (simp [hx, enc, h1, exF, stG]; omega) | omega | (exact wrap64 (by omega))), (by first | exact rfl | (simp [hx, enc, h1, exF, stG]; done) | (simp [hx, enc, h1, exF, stG]; omega) | omega | (exact wrap64 (by omega))), (by first | exact rfl | (simp [hx, enc, h1, exF, stG]; done) | (simp [hx, enc, h1, exF, stG]; omega) | omega | (exact wrap64 (by omega))), (by first | exact rfl | (simp [hx, enc, h1, exF, stG]; done) | (simp [hx, enc, h1, exF, stG]; omega) | omega | (exact wrap64 (by omega))), (by first | exact rfl | (simp [hx, enc, h1, exF, stG]; done) | (simp [hx, enc, h1, exF, stG]; omega) | omega | (exact wrap64 (by omega))), (by first | exact rfl | (simp [hx, enc, h1, exF, stG]; done) | (simp [hx, enc, h1, exF, stG]; omega) | omega | (exact wrap64 (by omega))), ?q146_1, trivial⟩
        exact ih
      | some y =>
        rw [hf] at ih
        refine aloopK mixed [0, 1, 4, 5, 9, 27] 1000 ([.go, .n l.length, .t, .ix k, .el (enc x), .f, .n ((k+1:Nat):Int), .lp [5,0,1] [] .ret ⟨[(4, .int .u64 y.t)], []⟩]) [4] [] (S1 := { env := [(4, AV.int IntKind.u64 (Rn.t y))], objs := [] }) (ob := [(↑(List.length (List.map enc l)) : Int) = (↑(List.length l) : Int),
      decide ((↑k : Int) < (↑(List.length l) : Int)) = true,
      k < List.length (List.map enc l),
      (↑k : Int) = (↑k : Int),
      (List.map enc l)[k]? = some (AV.agg [AV.int IntKind.u64 (Rn.f x), AV.int IntKind.u64 (Rn.t x)]),
      decide (Rn.f x ≤ m) = false,
      IntKind.wrap IntKind.i64 ((↑k : Int) + 1) = (↑(k + 1) : Int),
      ALoop Try.prog 0 34 (loopB Try.f26 0) { env := [(5, AV.int IntKind.i64 (↑(k + 1) : Int)), (0, AV.lst 2 (List.map enc l)), (1, AV.int IntKind.u64 m)], objs := [] } Ex.ret { env := [(4, AV.int IntKind.u64 (Rn.t y))], objs := [] }]) (by kernel_rfl) (by first | exact rfl | exact ⟨rfl, rfl⟩ | (simp [hx, enc, h1, exF, stG]; done) | (exact wrap64 (by omega))) ⟨(by first | exact rfl | (simp [hx, enc, h1, exF, stG]; done) | (simp [hx, enc, h1, exF, stG]; omega) | omega | (exact wrap64 (by omega))), (by first | exact rfl | (simp [hx, enc, h1, exF, stG]; done) | (simp [hx, enc, h1, exF, stG]; omega) | omega | (exact wrap64 (by omega))), (by first | exact rfl | (simp [hx, enc, h1, exF, stG]; done) | (simp [hx, enc, h1, exF, stG]; omega) | omega | (exact wrap64 (by omega))), (by first | exact rfl | (simp [hx, enc, h1, exF, stG]; done) | (simp [hx, enc, h1, exF, stG]; omega) | omega | (exact wrap64 (by omega))), (by first | exact rfl | (simp [hx, enc, h1, exF, stG]; done) | (simp [hx, enc, h1, exF, stG]; omega) | omega | (exact wrap64 (by omega))), (by first | exact rfl | (simp [hx, enc, h1, exF, stG]; done) | (simp [hx, enc, h1, exF, stG]; omega) | omega | (exact wrap64 (by omega))), (by first | exact rfl | (simp [hx, enc, h1, exF, stG]; done) | (simp [hx, enc, h1, exF, stG]; omega) | omega | (exact wrap64 (by omega))), ?q150_1, trivial⟩
        exact ih
def refGap (l : List Rn) (m : Int) : Int := match l.find? (hit m) with | some x => x.t | none => m
theorem refgap_ac (l : List Rn) (m : Int) (hb : l.length ≤ 1099511627775) : ACalls Try.prog 26 [.lst 2 (l.map enc), .int .u64 m] [] (.int .u64 (refGap l m)) [] := by
  have h := refgap_loop l m hb l.length 0 (by simp)
  rw [List.drop_zero] at h
  unfold refGap
  cases hf : l.find? (hit m) with
  | none =>
    rw [hf] at h
    refine acallsK mixed Try.func26 rfl [0, 1, 4, 5, 9, 27] 1000 ([.lp [5, 0, 1] [] (.exit 0) ⟨[(1, .int .u64 m)], []⟩]) [] [] (v1 := AV.int IntKind.u64 m) (objs1 := []) (ob := [ALoop Try.prog 0 34 (loopB Try.f26 0) { env := [(5, AV.int IntKind.i64 0), (0, AV.lst 2 (List.map enc l)), (1, AV.int IntKind.u64 m)], objs := [] } (Ex.exit 0) { env := [(1, AV.int IntKind.u64 m)], objs := [] }]) (by kernel_rfl) (by first | exact rfl | exact ⟨rfl, rfl⟩ | (simp []; done)) ⟨?q160_1, trivial⟩
    exact h
  | some y =>
    rw [hf] at h
    refine acallsK mixed Try.func26 rfl [0, 1, 4, 5, 9, 27] 1000 ([.lp [5, 0, 1] [] .ret ⟨[(4, .int .u64 y.t)], []⟩]) [] [] (v1 := AV.int IntKind.u64 (Rn.t y)) (objs1 := []) (ob := [ALoop Try.prog 0 34 (loopB Try.f26 0) { env := [(5, AV.int IntKind.i64 0), (0, AV.lst 2 (List.map enc l)), (1, AV.int IntKind.u64 m)], objs := [] } Ex.ret { env := [(4, AV.int IntKind.u64 (Rn.t y))], objs := [] }]) (by kernel_rfl) (by first | exact rfl | exact ⟨rfl, rfl⟩ | (simp []; done)) ⟨?q164_1, trivial⟩
    exact h

def ahead (n : Int) (x : Rn) : Bool := decide (n < x.t)
theorem refnext_loop (l : List Rn) (m : Int) (hb : l.length ≤ 1099511627775) : ∀ (n k : Nat), l.length = k + n →
    ALoop Try.prog 0 Try.f22.ntmps (loopB Try.f22 0) ⟨[(6, .int .i64 k), (0, .lst 2 (l.map enc)), (1, .int .u64 m)], []⟩ (exF ((l.drop k).find? (ahead m))) (stF ((l.drop k).find? (ahead m)) fun x => [(4, .int .u64 (mx m x.f)), (5, .bool true)])
  | 0, k, hk => by
    rw [List.drop_of_length_le (by omega)]
    refine aloopK mixed [0, 1, 4, 5, 6, 10, 19] 1000 ([.go, .n l.length, .f]) [] [] (S1 := { env := [], objs := [] }) (ob := [(↑(List.length (List.map enc l)) : Int) = (↑(List.length l) : Int),
      decide ((↑k : Int) < (↑(List.length l) : Int)) = false]) (by kernel_rfl) (by first | exact rfl | exact ⟨rfl, rfl⟩ | (simp []; done)) ⟨(by first | exact rfl | (simp []; done) | (simp []; omega) | omega), (by first | exact rfl | (simp []; done) | (simp []; omega) | omega), trivial⟩
  | n + 1, k, hk => by
    obtain ⟨x, hx⟩ := get_of (l := l) (k := k) (by omega)
    have ih := refnext_loop l m hb n (k + 1) (by omega)
    rw [drop_at hx, List.find?_cons]
    by_cases h2 : m < x.t
    · have e : ahead m x = true := by simp [ahead, h2]
      rw [e]
      refine aloopK mixed [0, 1, 4, 5, 6, 10, 19] 1000 ([.go, .n l.length, .t, .ix k, .el (enc x), .t, .ix k, .el (enc x), .k]) [4, 5] [] (S1 := { env := [(4, AV.int IntKind.u64 (mx m (Rn.f x))), (5, AV.bool true)], objs := [] }) (ob := [(↑(List.length (List.map enc l)) : Int) = (↑(List.length l) : Int),
      decide ((↑k : Int) < (↑(List.length l) : Int)) = true,
      k < List.length (List.map enc l),
      (↑k : Int) = (↑k : Int),
      (List.map enc l)[k]? = some (AV.agg [AV.int IntKind.u64 (Rn.f x), AV.int IntKind.u64 (Rn.t x)]),
      decide (m < Rn.t x) = true,
      k < List.length (List.map enc l),
      (↑k : Int) = (↑k : Int),
      (List.map enc l)[k]? = some (AV.agg [AV.int IntKind.u64 (Rn.f x), AV.int IntKind.u64 (Rn.t x)])]) (by kernel_rfl) (by first | exact rfl | exact ⟨rfl, rfl⟩ | (simp [hx, enc, h2, exF, stF]; done)) ⟨(by first | exact rfl | (simp [hx, enc, h2, exF, stF]; done) | (simp [hx, enc, h2, exF, stF]; omega) | omega), (by first | exact rfl | (simp [hx, enc, h2, exF, stF]; done) | (simp [hx, enc, h2, exF, stF]; omega) | omega), (by first | exact rfl | (simp [hx, enc, h2, exF, stF]; done) | (simp [hx, enc, h2, exF, stF]; omega) | omega), (by first | exact rfl | (simp [hx, enc, h2, exF, stF]; done) | (simp [hx, enc, h2, exF, stF]; omega) | omega), (by first | exact rfl | (simp [hx, enc, h2, exF, stF]; done) | (simp [hx, enc, h2, exF, stF]; omega) | omega), (by first | exact rfl | (simp [hx, enc, h2, exF, stF]; done) | (simp [hx, enc, h2, exF, stF]; omega) | omega), (by first | exact rfl | (simp [hx, enc, h2, exF, stF]; done) | (simp [hx, enc, h2, exF, stF]; omega) | omega), (by first | exact rfl | (simp [hx, enc, h2, exF, stF]; done) | (simp [hx, enc, h2, exF, stF]; omega) | omega), (by first | exact rfl | (simp [hx, enc, h2, exF, stF]; done) | (simp [hx, enc, h2, exF, stF]; omega) | omega), trivial⟩
    · have e : ahead m x = false := by simp [ahead, h2]
      rw [e]
      cases hf : (l.drop (k + 1)).find? (ahead m) with
      | none =>
        rw [hf] at ih
        refine aloopK mixed [0, 1, 4, 5, 6, 10, 19] 1000 ([.go, .n l.length, .t, .ix k, .el (enc x), .f, .n ((k+1:Nat):Int), .lp [6,0,1] [] (.exit 0) ⟨[], []⟩]) [] [] (S1 := { env := [], objs := [] }) (ob := [(↑(List.length (List.map enc l)) : Int) = (↑(List.length l) : Int),
      decide ((↑k : Int) < (↑(List.length l) : Int)) = true,
      k < List.length (List.map enc l),
      (↑k : Int) = (↑k : Int),
      (List.map enc l)[k]? = some (AV.agg [AV.int IntKind.u64 (Rn.f x), AV.int IntKind.u64 (Rn.t x)]),
      decide (m < Rn.t x) = false,
      IntKind.wrap IntKind.i64 ((↑k : Int) + 1) = (↑(k + 1) : Int),
      ALoop Try.prog 0 27 (loopB Try.f22 0) { env := [(6, AV.int IntKind.i64 (↑(k + 1) : Int)), (0, AV.lst 2 (List.map enc l)), (1, AV.int IntKind.u64 m)], objs := [] } (Ex.exit 0) { env := [], objs := [] }]) (by kernel_rfl) (by first | exact rfl | exact ⟨rfl, rfl⟩ | (simp [hx, enc, h2, exF, stF]; done) | (exact wrap64 (by omega))) ⟨(by first | exact rfl | (simp [hx, enc, h2, exF, stF]; done) | (simp [hx, enc, h2, exF, stF]; omega) | omega | (exact wrap64 (by omega))), (by first | exact rfl | (simp [hx, enc, h2, exF, stF]; done) | (simp [hx, enc, h2, exF, stF]; omega) | omega | (exact wrap64 (by omega))), (by first | exact rfl | (simp [hx, enc, h2, exF, stF]; done) | (simp [hx, enc, h2, exF, stF]; omega) | omega | (exact wrap64 (by omega))), (by first | exact rfl | (simp [hx, enc, h2, exF, stF]; done) | (simp [hx, enc, h2, exF, stF]; omega) | omega | (exact wrap64 (by omega))), (by first | exact rfl | (simp [hx, enc, h2, exF, stF]; done) | (simp [hx, enc, h2, exF, stF]; omega) | omega | (exact wrap64 (by omega))), (by first | exact rfl | (simp [hx, enc, h2, exF, stF]; done) | (simp [hx, enc, h2, exF, stF]; omega) | omega | (exact wrap64 (by omega))), (by first | exact rfl | (simp [hx, enc, h2, exF, stF]; done) | (simp [hx, enc, h2, exF, stF]; omega) | omega | (exact wrap64 (by omega))), ?q186_1, trivial⟩
        exact ih
      | some y =>
        rw [hf] at ih
        refine aloopK mixed [0, 1, 4, 5, 6, 10, 19] 1000 ([.go, .n l.length, .t, .ix k, .el (enc x), .f, .n ((k+1:Nat):Int), .lp [6,0,1] [] .ret ⟨[(4, .int .u64 (mx m y.f)), (5, .bool true)], []⟩]) [4, 5] [] (S1 := { env := [(4, AV.int IntKind.u64 (mx m (Rn.f y))), (5, AV.bool true)], objs := [] }) (ob := [(↑(List.length (List.map enc l)) : Int) = (↑(List.length l) : Int),
      decide ((↑k : Int) < (↑(List.length l) : Int)) = true,
      k < List.length (List.map enc l),
      (↑k : Int) = (↑k : Int),
      (List.map enc l)[k]? = some (AV.agg [AV.int IntKind.u64 (Rn.f x), AV.int IntKind.u64 (Rn.t x)]),
      decide (m < Rn.t x) = false,
      IntKind.wrap IntKind.i64 ((↑k : Int) + 1) = (↑(k + 1) : Int),
      ALoop Try.prog 0 27 (loopB Try.f22 0) { env := [(6, AV.int IntKind.i64 (↑(k + 1) : Int)), (0, AV.lst 2 (List.map enc l)), (1, AV.int IntKind.u64 m)], objs := [] } Ex.ret { env := [(4, AV.int IntKind.u64 (mx m (Rn.f y))), (5, AV.bool true)], objs := [] }]) (by kernel_rfl) (by first | exact rfl | exact ⟨rfl, rfl⟩ | (simp [hx, enc, h2, exF, stF]; done) | (exact wrap64 (by omega))) ⟨(by first | exact rfl | (simp [hx, enc, h2, exF, stF]; done) | (simp [hx, enc, h2, exF, stF]; omega) | omega | (exact wrap64 (by omega))), (by first | exact rfl | (simp [hx, enc, h2, exF, stF]; done) | (simp [hx, enc, h2, exF, stF]; omega) | omega | (exact wrap64 (by omega))), (by first | exact rfl | (simp [hx, enc, h2, exF, stF]; done) | (simp [hx, enc, h2, exF, stF]; omega) | omega | (exact wrap64 (by omega))), (by first | exact rfl | (simp [hx, enc, h2, exF, stF]; done) | (simp [hx, enc, h2, exF, stF]; omega) | omega | (exact wrap64 (by omega))), (by first | exact rfl | (simp [hx, enc, h2, exF, stF]; done) | (simp [hx, enc, h2, exF, stF]; omega) | omega | (exact wrap64 (by omega))), (by first | exact rfl | (simp [hx, enc, h2, exF, stF]; done) | (simp [hx, enc, h2, exF, stF]; omega) | omega | (exact wrap64 (by omega))), (by first | exact rfl | (simp [hx, enc, h2, exF, stF]; done) | (simp [hx, enc, h2, exF, stF]; omega) | omega | (exact wrap64 (by omega))), ?q190_1, trivial⟩
        exact ih
def refNext (l : List Rn) (m : Int) : AV := match l.find? (ahead m) with | some x => .tup [.int .u64 (mx m x.f), .bool true] | none => .tup [.int .u64 0, .bool false]
theorem refnext_ac (l : List Rn) (m : Int) (hb : l.length ≤ 1099511627775) : ACalls Try.prog 22 [.lst 2 (l.map enc), .int .u64 m] [] (refNext l m) [] := by
  have h := refnext_loop l m hb l.length 0 (by simp)
  rw [List.drop_zero] at h
  unfold refNext
  cases hf : l.find? (ahead m) with
  | none =>
    rw [hf] at h
    refine acallsK mixed Try.func22 rfl [0, 1, 4, 5, 6, 10, 19] 1000 ([.lp [6, 0, 1] [] (.exit 0) ⟨[], []⟩]) [] [] (v1 := AV.tup [AV.int IntKind.u64 0, AV.bool false]) (objs1 := []) (ob := [ALoop Try.prog 0 27 (loopB Try.f22 0) { env := [(6, AV.int IntKind.i64 0), (0, AV.lst 2 (List.map enc l)), (1, AV.int IntKind.u64 m)], objs := [] } (Ex.exit 0) { env := [], objs := [] }]) (by kernel_rfl) (by first | exact rfl | exact ⟨rfl, rfl⟩ | (simp []; done)) ⟨?q200_1, trivial⟩
    exact h
  | some y =>
    rw [hf] at h
    refine acallsK mixed Try.func22 rfl [0, 1, 4, 5, 6, 10, 19] 1000 ([.lp [6, 0, 1] [] .ret ⟨[(4, .int .u64 (mx m y.f)), (5, .bool true)], []⟩]) [] [] (v1 := AV.tup [AV.int IntKind.u64 (mx m (Rn.f y)), AV.bool true]) (objs1 := []) (ob := [ALoop Try.prog 0 27 (loopB Try.f22 0) { env := [(6, AV.int IntKind.i64 0), (0, AV.lst 2 (List.map enc l)), (1, AV.int IntKind.u64 m)], objs := [] } Ex.ret { env := [(4, AV.int IntKind.u64 (mx m (Rn.f y))), (5, AV.bool true)], objs := [] }]) (by kernel_rfl) (by first | exact rfl | exact ⟨rfl, rfl⟩ | (simp []; done)) ⟨?q204_1, trivial⟩
    exact h

/-- A set that is built. -/
theorem built_loop (l : List Rn) (h64 : All64 l) : ∀ (n k : Nat), l.length = k + n → k ≤ 60 →
    ALoop Try.prog 0 Try.f10.ntmps (loopB Try.f10 0) ⟨[(4, .int .i64 k), (3, .ptr 0 0), (0, .lst 2 (l.map enc))], setObjs (putAll [] (l.take k))⟩ (.exit 0) ⟨[(3, .ptr 0 0)], setObjs (buildL l)⟩
  | 0, k, hk, h60 => by
    have e : putAll [] (l.take k) = buildL l := by unfold buildL; rw [List.take_of_length_le (by omega), List.take_of_length_le (by omega)]
    rw [e]
    refine aloopK mixed [0, 2, 3, 4, 13] 1000 ([.go, .n l.length, .f]) [3] [0, 1] (S1 := { env := [(3, AV.ptr 0 0)], objs := [Obj.vars 62 [AV.row 1 2 (List.length (buildL l))], Obj.row 30 2 (List.map enc (buildL l))] }) (ob := [(↑(List.length (List.map enc l)) : Int) = (↑(List.length l) : Int),
      decide ((↑k : Int) < (↑(List.length l) : Int)) = false]) (by kernel_rfl) (by first | exact rfl | exact ⟨rfl, rfl⟩ | (simp [setObjs]; done)) ⟨(by first | exact rfl | (simp [setObjs]; done) | (simp [setObjs]; omega) | omega), (by first | exact rfl | (simp [setObjs]; done) | (simp [setObjs]; omega) | omega), trivial⟩
  | n + 1, k, hk, h60 => by
    obtain ⟨x, hx⟩ := get_of (l := l) (k := k) (by omega)
    by_cases h : k < 60
    · have ih := built_loop l h64 n (k + 1) (by omega) (by omega)
      have hg := putAll_spec (l.take k) [] good_nil (h64.take k)
      have e := build_step hx []
      have ha := add_ac hg.1 (h64 x (List.mem_of_getElem? hx)) (by have := hg.2.2; simp at this; omega)
      rw [← e] at ha
      refine aloopK mixed [0, 2, 3, 4, 13] 1000 ([.go, .n l.length, .t, .t, .ix k, .el (enc x), .call [0, 1] false false (.int .u64 (countL (putAll [] (l.take (k + 1))) - countL (putAll [] (l.take k)))) (setObjs (putAll [] (l.take (k + 1)))), .n ((k+1:Nat):Int), .lp [4, 3, 0] [0, 3] (.exit 0) ⟨[(3, .ptr 0 0)], setObjs (buildL l)⟩]) [3] [0, 1] (S1 := { env := [(3, AV.ptr 0 0)], objs := [Obj.vars 62 [AV.row 1 2 (List.length (buildL l))], Obj.row 30 2 (List.map enc (buildL l))] }) (ob := [(↑(List.length (List.map enc l)) : Int) = (↑(List.length l) : Int),
      decide ((↑k : Int) < (↑(List.length l) : Int)) = true,
      decide ((↑k : Int) < 60) = true,
      k < List.length (List.map enc l),
      (↑k : Int) = (↑k : Int),
      (List.map enc l)[k]? = some (AV.agg [AV.int IntKind.u64 (Rn.f x), AV.int IntKind.u64 (Rn.t x)]),
      ACalls Try.prog 21 [AV.ptr 0 0, AV.agg [AV.int IntKind.u64 (Rn.f x), AV.int IntKind.u64 (Rn.t x)]] [Obj.vars 62 [AV.row 1 2 (List.length (putAll [] (List.take k l)))], Obj.row 30 2 (List.map enc (putAll [] (List.take k l)))] (AV.int IntKind.u64 (countL (putAll [] (List.take (k + 1) l)) - countL (putAll [] (List.take k l)))) [Obj.vars 62 [AV.row 1 2 (List.length (putAll [] (List.take (k + 1) l)))], Obj.row 30 2 (List.map enc (putAll [] (List.take (k + 1) l)))],
      IntKind.wrap IntKind.i64 ((↑k : Int) + 1) = (↑(k + 1) : Int),
      ALoop Try.prog 0 23 (loopB Try.f10 0) { env := [(4, AV.int IntKind.i64 (↑(k + 1) : Int)), (3, AV.ptr 0 0), (0, AV.lst 2 (List.map enc l))], objs := [Obj.vars 62 [AV.row 1 2 (List.length (putAll [] (List.take (k + 1) l)))], Obj.row 30 2 (List.map enc (putAll [] (List.take (k + 1) l)))] } (Ex.exit 0) { env := [(3, AV.ptr 0 0)], objs := [Obj.vars 62 [AV.row 1 2 (List.length (buildL l))], Obj.row 30 2 (List.map enc (buildL l))] }]) (by kernel_rfl) (by first | exact rfl | exact ⟨rfl, rfl⟩ | (simp [hx, enc, h, setObjs]; done) | (exact wrap64 (by omega))) ⟨(by first | exact rfl | (simp [hx, enc, h, setObjs]; done) | (simp [hx, enc, h, setObjs]; omega) | omega | (exact wrap64 (by omega))), (by first | exact rfl | (simp [hx, enc, h, setObjs]; done) | (simp [hx, enc, h, setObjs]; omega) | omega | (exact wrap64 (by omega))), (by first | exact rfl | (simp [hx, enc, h, setObjs]; done) | (simp [hx, enc, h, setObjs]; omega) | omega | (exact wrap64 (by omega))), (by first | exact rfl | (simp [hx, enc, h, setObjs]; done) | (simp [hx, enc, h, setObjs]; omega) | omega | (exact wrap64 (by omega))), (by first | exact rfl | (simp [hx, enc, h, setObjs]; done) | (simp [hx, enc, h, setObjs]; omega) | omega | (exact wrap64 (by omega))), (by first | exact rfl | (simp [hx, enc, h, setObjs]; done) | (simp [hx, enc, h, setObjs]; omega) | omega | (exact wrap64 (by omega))), ?q222_1, (by first | exact rfl | (simp [hx, enc, h, setObjs]; done) | (simp [hx, enc, h, setObjs]; omega) | omega | (exact wrap64 (by omega))), ?q222_2, trivial⟩
      · exact ha
      · exact ih
    · have e : putAll [] (l.take k) = buildL l := by unfold buildL; rw [show k = 60 by omega]
      rw [e]
      refine aloopK mixed [0, 2, 3, 4, 13] 1000 ([.go, .n l.length, .t, .f]) [3] [0, 1] (S1 := { env := [(3, AV.ptr 0 0)], objs := [Obj.vars 62 [AV.row 1 2 (List.length (buildL l))], Obj.row 30 2 (List.map enc (buildL l))] }) (ob := [(↑(List.length (List.map enc l)) : Int) = (↑(List.length l) : Int),
      decide ((↑k : Int) < (↑(List.length l) : Int)) = true,
      decide ((↑k : Int) < 60) = false]) (by kernel_rfl) (by first | exact rfl | exact ⟨rfl, rfl⟩ | (simp [setObjs, h]; done)) ⟨(by first | exact rfl | (simp [setObjs, h]; done) | (simp [setObjs, h]; omega) | omega), (by first | exact rfl | (simp [setObjs, h]; done) | (simp [setObjs, h]; omega) | omega), (by first | exact rfl | (simp [setObjs, h]; done) | (simp [setObjs, h]; omega) | omega), trivial⟩
theorem built_ac (l : List Rn) (h64 : All64 l) : ACalls Try.prog 10 [.lst 2 (l.map enc)] [] (.ptr 0 0) (setObjs (buildL l)) := by
  have h := built_loop l h64 l.length 0 (by simp) (by omega)
  refine acallsK mixed Try.func10 rfl [0, 2, 3, 4, 13] 1000 ([.call [] false false (.ptr 0 0) (setObjs []), .lp [4, 3, 0] [0, 1] (.exit 0) ⟨[(3, .ptr 0 0)], setObjs (buildL l)⟩]) [] [0, 1] (v1 := AV.ptr 0 0) (objs1 := [Obj.vars 62 [AV.row 1 2 (List.length (buildL l))], Obj.row 30 2 (List.map enc (buildL l))]) (ob := [ACalls Try.prog 15 [] [] (AV.ptr 0 0) [Obj.vars 62 [AV.row 1 2 0], Obj.row 30 2 []],
      ALoop Try.prog 0 23 (loopB Try.f10 0) { env := [(4, AV.int IntKind.i64 0), (3, AV.ptr 0 0), (0, AV.lst 2 (List.map enc l))], objs := [Obj.vars 62 [AV.row 1 2 0], Obj.row 30 2 []] } (Ex.exit 0) { env := [(3, AV.ptr 0 0)], objs := [Obj.vars 62 [AV.row 1 2 (List.length (buildL l))], Obj.row 30 2 (List.map enc (buildL l))] }]) (by kernel_rfl) (by first | exact rfl | exact ⟨rfl, rfl⟩ | (simp [setObjs]; done)) ⟨?q230_1, ?q230_2, trivial⟩
  · exact new_acalls
  · exact h
end Go.Proofs.Ytaphhmefkfhepaa.Run
