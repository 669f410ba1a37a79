/- The document's answer for runs, second part: Norm, Drop, Add: by runs along paths. -/
import Derived.Test.YtaphhmefkfhepaaRunW
namespace Go.Proofs.Ytaphhmefkfhepaa.Run
open Go Go.RowKit Go.Proofs.Ytaphhmefkfhepaa.L Go.Proofs.Ytaphhmefkfhepaa.X
set_option linter.unusedVariables false
set_option linter.unusedSimpArgs false

/-- A run comes down to its place. -/
def sink (x : Rn) : List Rn → List Rn → List Rn
  | [], v => x :: v
  | y :: ru, v => if x.f < y.f then sink x ru (y :: v) else (y :: ru).reverse ++ x :: v
def sorts (l : List Rn) : List Rn := l.foldl (fun s x => if x.t ≤ x.f then s else sink x s.reverse []) []
def mrg (o : List Rn) (x : Rn) : List Rn :=
  match o.getLast? with
  | some y => if x.f ≤ y.t then o.dropLast ++ [⟨y.f, mx y.t x.t⟩] else o ++ [x]
  | none => [x]
def normL (l : List Rn) : List Rn := (sorts l).foldl mrg []
theorem sink_length (x : Rn) : ∀ ru v, (sink x ru v).length = ru.length + v.length + 1
  | [], v => by simp [sink]
  | y :: ru, v => by
    unfold sink
    split
    · rw [sink_length x ru (y :: v)]; simp; omega
    · simp <;> omega
theorem sorts_step {l : List Rn} {k : Nat} {x : Rn} (h : l[k]? = some x) : sorts (l.take (k + 1)) = if x.t ≤ x.f then sorts (l.take k) else sink x (sorts (l.take k)).reverse [] := by
  unfold sorts; rw [List.take_add_one, h]; simp
theorem sorts_length : ∀ (l s : List Rn), (l.foldl (fun s x => if x.t ≤ x.f then s else sink x s.reverse []) s).length ≤ s.length + l.length
  | [], s => by simp
  | x :: l, s => by
    rw [List.foldl_cons]
    refine Nat.le_trans (sorts_length l _) ?_
    split
    · simp <;> omega
    · rw [sink_length]; simp; omega
theorem wrap_down {n : Nat} (h : n < 9223372036854775807) : IntKind.i64.wrap (((n + 1 : Nat) : Int) - 1) = (n : Int) := by
  simp [IntKind.wrap, IntKind.bits, IntKind.signed]; omega
theorem sink_loop (l : List Rn) (i : Nat) (x : Rn) (N : Nat) (hN : N ≤ 1099511627776) : ∀ (ru v : List Rn), N = ru.length + 1 + v.length →
    ALoop Try.prog 0 Try.f32.ntmps (loopB Try.f32 1) ⟨[(5, .int .i64 ru.length), (3, .row 0 2 N), (4, .int .i64 i), (0, .lst 2 (l.map enc))], [.row 39 2 ((ru.reverse ++ x :: v).map enc)]⟩ (.exit 2)
      ⟨[(3, .row 0 2 N), (4, .int .i64 i), (0, .lst 2 (l.map enc))], [.row 39 2 ((sink x ru v).map enc)]⟩
  | [], v, h => by
    simp only [List.length_nil, List.reverse_nil, List.nil_append]
    refine aloopK mixed [0, 2, 3, 4, 5, 6, 7, 8, 9, 13, 26, 52, 75, 95] 1000 ([.go, .f]) [3, 4, 0] [0] (S1 := { env := [(3, AV.row 0 2 N), (4, AV.int IntKind.i64 (↑i : Int)), (0, AV.lst 2 (List.map enc l))], objs := [Obj.row 39 2 (List.map enc (x :: v))] }) (ob := [decide ((↑(0 : Nat) : Int) > (0 : Int)) = false]) (by kernel_rfl) (by first | exact rfl | exact ⟨rfl, rfl⟩ | (simp [sink]; done)) ⟨(by first | exact rfl | (simp [sink]; done) | (simp [sink]; omega) | omega), trivial⟩
  | y :: ru, v, h => by
    have es : (y :: ru).reverse ++ x :: v = ru.reverse ++ (y :: x :: v) := by simp
    have hx : ((ru.reverse ++ (y :: x :: v)).map enc)[ru.length + 1]? = some (enc x) := by
      rw [List.getElem?_map, List.getElem?_append_right (by simp)]; simp
    have hy : ((ru.reverse ++ (y :: x :: v)).map enc)[ru.length]? = some (enc y) := by
      rw [List.getElem?_map, List.getElem?_append_right (by simp)]; simp
    have hy2 : (((ru.reverse ++ (y :: x :: v)).map enc).set (ru.length + 1) (enc y))[ru.length]? = some (enc y) := by
      rw [List.getElem?_set_ne (by omega)]; exact hy
    have hs : (((ru.reverse ++ (y :: x :: v)).map enc).set (ru.length + 1) (enc y)).set ru.length (enc x) = (ru.reverse ++ (x :: y :: v)).map enc := by
      rw [List.map_append, List.map_append, List.set_append_right _ _ (by simp), List.set_append_right _ _ (by simp)]; simp
    simp only [List.length_cons] at h ⊢
    by_cases hlt : x.f < y.f
    · rw [es]
      have ih := sink_loop l i x N hN ru (y :: v) (by simp; omega)
      rw [show sink x (y :: ru) v = sink x ru (y :: v) by simp [sink, hlt]]
      refine aloopK mixed [0, 2, 3, 4, 5, 6, 7, 8, 9, 13, 26, 52, 75, 95] 1000 ([.go, .t, .ix (ru.length + 1), .el (enc x), .n (ru.length : Int), .ix ru.length, .el (enc y), .t, .ix (ru.length + 1), .el (enc x), .n (ru.length : Int), .ix ru.length, .el (enc y), .ix (ru.length + 1), .el (enc x), .n (ru.length : Int), .ix ru.length, .el (enc y), .n (ru.length : Int), .lp [5, 3, 4, 0] [0] (.exit 2) ⟨[(3, .row 0 2 N), (4, .int .i64 i), (0, .lst 2 (l.map enc))], [.row 39 2 ((sink x ru (y :: v)).map enc)]⟩]) [3, 4, 0] [0] (S1 := { env := [(3, AV.row 0 2 N), (4, AV.int IntKind.i64 (↑i : Int)), (0, AV.lst 2 (List.map enc l))], objs := [Obj.row 39 2 (List.map enc (sink x ru (y :: v)))] }) (ob := [decide ((↑(List.length ru + (1 : Nat)) : Int) > (0 : Int)) = true,
      List.length ru + (1 : Nat) < N,
      (↑(List.length ru + (1 : Nat)) : Int) = (↑(List.length ru + (1 : Nat)) : Int),
      (List.map enc (List.reverse ru ++ y :: x :: v))[List.length ru + (1 : Nat)]? = some (AV.agg [AV.int IntKind.u64 (Rn.f x), AV.int IntKind.u64 (Rn.t x)]),
      IntKind.wrap IntKind.i64 ((↑(List.length ru + (1 : Nat)) : Int) - (1 : Int)) = (↑(List.length ru) : Int),
      List.length ru < N,
      (↑(List.length ru) : Int) = (↑(List.length ru) : Int),
      (List.map enc (List.reverse ru ++ y :: x :: v))[List.length ru]? = some (AV.agg [AV.int IntKind.u64 (Rn.f y), AV.int IntKind.u64 (Rn.t y)]),
      decide (Rn.f x < Rn.f y) = true,
      List.length ru + (1 : Nat) < N,
      (↑(List.length ru + (1 : Nat)) : Int) = (↑(List.length ru + (1 : Nat)) : Int),
      (List.map enc (List.reverse ru ++ y :: x :: v))[List.length ru + (1 : Nat)]? = some (AV.agg [AV.int IntKind.u64 (Rn.f x), AV.int IntKind.u64 (Rn.t x)]),
      IntKind.wrap IntKind.i64 ((↑(List.length ru + (1 : Nat)) : Int) - (1 : Int)) = (↑(List.length ru) : Int),
      List.length ru < N,
      (↑(List.length ru) : Int) = (↑(List.length ru) : Int),
      (List.map enc (List.reverse ru ++ y :: x :: v))[List.length ru]? = some (AV.agg [AV.int IntKind.u64 (Rn.f y), AV.int IntKind.u64 (Rn.t y)]),
      List.length ru + (1 : Nat) < N,
      (↑(List.length ru + (1 : Nat)) : Int) = (↑(List.length ru + (1 : Nat)) : Int),
      (List.map enc (List.reverse ru ++ y :: x :: v))[List.length ru + (1 : Nat)]? = some (AV.agg [AV.int IntKind.u64 (Rn.f x), AV.int IntKind.u64 (Rn.t x)]),
      IntKind.wrap IntKind.i64 ((↑(List.length ru + (1 : Nat)) : Int) - (1 : Int)) = (↑(List.length ru) : Int),
      List.length ru < N,
      (↑(List.length ru) : Int) = (↑(List.length ru) : Int),
      (List.set (List.map enc (List.reverse ru ++ y :: x :: v)) (List.length ru + (1 : Nat)) (AV.agg [AV.int IntKind.u64 (Rn.f y), AV.int IntKind.u64 (Rn.t y)]))[List.length ru]? = some (AV.agg [AV.int IntKind.u64 (Rn.f y), AV.int IntKind.u64 (Rn.t y)]),
      IntKind.wrap IntKind.i64 ((↑(List.length ru + (1 : Nat)) : Int) - (1 : Int)) = (↑(List.length ru) : Int),
      ALoop Try.prog 0 119 (loopB Try.f32 1) { env := [(5, AV.int IntKind.i64 (↑(List.length ru) : Int)), (3, AV.row 0 2 N), (4, AV.int IntKind.i64 (↑i : Int)), (0, AV.lst 2 (List.map enc l))], objs := [Obj.row 39 2 (List.set (List.set (List.map enc (List.reverse ru ++ y :: x :: v)) (List.length ru + 1) (AV.agg [AV.int IntKind.u64 (Rn.f y), AV.int IntKind.u64 (Rn.t y)])) (List.length ru) (AV.agg [AV.int IntKind.u64 (Rn.f x), AV.int IntKind.u64 (Rn.t x)]))] } (Ex.exit 2) { env := [(3, AV.row 0 2 N), (4, AV.int IntKind.i64 (↑i : Int)), (0, AV.lst 2 (List.map enc l))], objs := [Obj.row 39 2 (List.map enc (sink x ru (y :: v)))] }]) (by kernel_rfl) (by first | exact rfl | exact ⟨rfl, rfl⟩ | (simp [hlt]; done) | (first | exact hx | exact hy | exact hy2 | exact wrap_down (by omega))) ⟨(by first | exact rfl | (simp [hlt]; done) | (simp [hlt]; omega) | omega | (first | exact hx | exact hy | exact hy2 | exact wrap_down (by omega))), (by first | exact rfl | (simp [hlt]; done) | (simp [hlt]; omega) | omega | (first | exact hx | exact hy | exact hy2 | exact wrap_down (by omega))), (by first | exact rfl | (simp [hlt]; done) | (simp [hlt]; omega) | omega | (first | exact hx | exact hy | exact hy2 | exact wrap_down (by omega))), (by first | exact rfl | (simp [hlt]; done) | (simp [hlt]; omega) | omega | (first | exact hx | exact hy | exact hy2 | exact wrap_down (by omega))), (by first | exact rfl | (simp [hlt]; done) | (simp [hlt]; omega) | omega | (first | exact hx | exact hy | exact hy2 | exact wrap_down (by omega))), (by first | exact rfl | (simp [hlt]; done) | (simp [hlt]; omega) | omega | (first | exact hx | exact hy | exact hy2 | exact wrap_down (by omega))), (by first | exact rfl | (simp [hlt]; done) | (simp [hlt]; omega) | omega | (first | exact hx | exact hy | exact hy2 | exact wrap_down (by omega))), (by first | exact rfl | (simp [hlt]; done) | (simp [hlt]; omega) | omega | (first | exact hx | exact hy | exact hy2 | exact wrap_down (by omega))), (by first | exact rfl | (simp [hlt]; done) | (simp [hlt]; omega) | omega | (first | exact hx | exact hy | exact hy2 | exact wrap_down (by omega))), (by first | exact rfl | (simp [hlt]; done) | (simp [hlt]; omega) | omega | (first | exact hx | exact hy | exact hy2 | exact wrap_down (by omega))), (by first | exact rfl | (simp [hlt]; done) | (simp [hlt]; omega) | omega | (first | exact hx | exact hy | exact hy2 | exact wrap_down (by omega))), (by first | exact rfl | (simp [hlt]; done) | (simp [hlt]; omega) | omega | (first | exact hx | exact hy | exact hy2 | exact wrap_down (by omega))), (by first | exact rfl | (simp [hlt]; done) | (simp [hlt]; omega) | omega | (first | exact hx | exact hy | exact hy2 | exact wrap_down (by omega))), (by first | exact rfl | (simp [hlt]; done) | (simp [hlt]; omega) | omega | (first | exact hx | exact hy | exact hy2 | exact wrap_down (by omega))), (by first | exact rfl | (simp [hlt]; done) | (simp [hlt]; omega) | omega | (first | exact hx | exact hy | exact hy2 | exact wrap_down (by omega))), (by first | exact rfl | (simp [hlt]; done) | (simp [hlt]; omega) | omega | (first | exact hx | exact hy | exact hy2 | exact wrap_down (by omega))), (by first | exact rfl | (simp [hlt]; done) | (simp [hlt]; omega) | omega | (first | exact hx | exact hy | exact hy2 | exact wrap_down (by omega))), (by first | exact rfl | (simp [hlt]; done) | (simp [hlt]; omega) | omega | (first | exact hx | exact hy | exact hy2 | exact wrap_down (by omega))), (by first | exact rfl | (simp [hlt]; done) | (simp [hlt]; omega) | omega | (first | exact hx | exact hy | exact hy2 | exact wrap_down (by omega))), (by first | exact rfl | (simp [hlt]; done) | (simp [hlt]; omega) | omega | (first | exact hx | exact hy | exact hy2 | exact wrap_down (by omega))), (by first | exact rfl | (simp [hlt]; done) | (simp [hlt]; omega) | omega | (first | exact hx | exact hy | exact hy2 | exact wrap_down (by omega))), (by first | exact rfl | (simp [hlt]; done) | (simp [hlt]; omega) | omega | (first | exact hx | exact hy | exact hy2 | exact wrap_down (by omega))), (by first | exact rfl | (simp [hlt]; done) | (simp [hlt]; omega) | omega | (first | exact hx | exact hy | exact hy2 | exact wrap_down (by omega))), (by first | exact rfl | (simp [hlt]; done) | (simp [hlt]; omega) | omega | (first | exact hx | exact hy | exact hy2 | exact wrap_down (by omega))), ?q57_1, trivial⟩
      have hs' : List.set (List.set ((ru.reverse ++ (y :: x :: v)).map enc) (ru.length + 1) (AV.agg [.int .u64 y.f, .int .u64 y.t])) ru.length (AV.agg [.int .u64 x.f, .int .u64 x.t]) = (ru.reverse ++ (x :: y :: v)).map enc := hs
      rw [hs']
      exact ih
    · rw [es, show sink x (y :: ru) v = ru.reverse ++ (y :: x :: v) by simp [sink, hlt]]
      refine aloopK mixed [0, 2, 3, 4, 5, 6, 7, 8, 9, 13, 26, 52, 75, 95] 1000 ([.go, .t, .ix (ru.length + 1), .el (enc x), .n (ru.length : Int), .ix ru.length, .el (enc y), .f]) [3, 4, 0] [0] (S1 := { env := [(3, AV.row 0 2 N), (4, AV.int IntKind.i64 (↑i : Int)), (0, AV.lst 2 (List.map enc l))], objs := [Obj.row 39 2 (List.map enc (List.reverse ru ++ y :: x :: v))] }) (ob := [decide ((↑(List.length ru + (1 : Nat)) : Int) > (0 : Int)) = true,
      List.length ru + (1 : Nat) < N,
      (↑(List.length ru + (1 : Nat)) : Int) = (↑(List.length ru + (1 : Nat)) : Int),
      (List.map enc (List.reverse ru ++ y :: x :: v))[List.length ru + (1 : Nat)]? = some (AV.agg [AV.int IntKind.u64 (Rn.f x), AV.int IntKind.u64 (Rn.t x)]),
      IntKind.wrap IntKind.i64 ((↑(List.length ru + (1 : Nat)) : Int) - (1 : Int)) = (↑(List.length ru) : Int),
      List.length ru < N,
      (↑(List.length ru) : Int) = (↑(List.length ru) : Int),
      (List.map enc (List.reverse ru ++ y :: x :: v))[List.length ru]? = some (AV.agg [AV.int IntKind.u64 (Rn.f y), AV.int IntKind.u64 (Rn.t y)]),
      decide (Rn.f x < Rn.f y) = false]) (by kernel_rfl) (by first | exact rfl | exact ⟨rfl, rfl⟩ | (simp [hlt]; done) | (first | exact hx | exact hy | exact wrap_down (by omega))) ⟨(by first | exact rfl | (simp [hlt]; done) | (simp [hlt]; omega) | omega | (first | exact hx | exact hy | exact wrap_down (by omega))), (by first | exact rfl | (simp [hlt]; done) | (simp [hlt]; omega) | omega | (first | exact hx | exact hy | exact wrap_down (by omega))), (by first | exact rfl | (simp [hlt]; done) | (simp [hlt]; omega) | omega | (first | exact hx | exact hy | exact wrap_down (by omega))), (by first | exact rfl | (simp [hlt]; done) | (simp [hlt]; omega) | omega | (first | exact hx | exact hy | exact wrap_down (by omega))), (by first | exact rfl | (simp [hlt]; done) | (simp [hlt]; omega) | omega | (first | exact hx | exact hy | exact wrap_down (by omega))), (by first | exact rfl | (simp [hlt]; done) | (simp [hlt]; omega) | omega | (first | exact hx | exact hy | exact wrap_down (by omega))), (by first | exact rfl | (simp [hlt]; done) | (simp [hlt]; omega) | omega | (first | exact hx | exact hy | exact wrap_down (by omega))), (by first | exact rfl | (simp [hlt]; done) | (simp [hlt]; omega) | omega | (first | exact hx | exact hy | exact wrap_down (by omega))), (by first | exact rfl | (simp [hlt]; done) | (simp [hlt]; omega) | omega | (first | exact hx | exact hy | exact wrap_down (by omega))), trivial⟩

theorem sort_loop (l : List Rn) (hb : l.length ≤ 1099511627775) : ∀ (n i : Nat), l.length = i + n →
    ALoop Try.prog 0 Try.f32.ntmps (loopB Try.f32 0) ⟨[(4, .int .i64 i), (3, .row 0 2 (sorts (l.take i)).length), (0, .lst 2 (l.map enc))], [.row 39 2 ((sorts (l.take i)).map enc)]⟩ (.exit 0)
      ⟨[(3, .row 0 2 (sorts l).length)], [.row 39 2 ((sorts l).map enc)]⟩
  | 0, i, h => by
    rw [List.take_of_length_le (by omega)]
    refine aloopK mixed [0, 2, 3, 4, 5, 6, 7, 8, 9, 13, 26, 52, 75, 95] 1000 ([.go, .n l.length, .f]) [3] [0] (S1 := { env := [(3, AV.row 0 2 (List.length (sorts l)))], objs := [Obj.row 39 2 (List.map enc (sorts l))] }) (ob := [(↑(List.length (List.map enc l)) : Int) = (↑(List.length l) : Int),
      decide ((↑i : Int) < (↑(List.length l) : Int)) = false]) (by kernel_rfl) (by first | exact rfl | exact ⟨rfl, rfl⟩ | (simp []; done)) ⟨(by first | exact rfl | (simp []; done) | (simp []; omega) | omega), (by first | exact rfl | (simp []; done) | (simp []; omega) | omega), trivial⟩
  | n + 1, i, h => by
    obtain ⟨x, hx⟩ := get_of (l := l) (k := i) (by omega)
    have ih := sort_loop l hb n (i + 1) (by omega)
    have e := sorts_step hx
    by_cases hf : x.t ≤ x.f
    · rw [if_pos hf] at e
      rw [e] at ih
      refine aloopK mixed [0, 2, 3, 4, 5, 6, 7, 8, 9, 13, 26, 52, 75, 95] 1000 ([.go, .n l.length, .t, .ix i, .el (enc x), .ix i, .el (enc x), .t, .n ((i + 1 : Nat) : Int), .lp [4, 3, 0] [0] (.exit 0) ⟨[(3, .row 0 2 (sorts l).length)], [.row 39 2 ((sorts l).map enc)]⟩]) [3] [0] (S1 := { env := [(3, AV.row 0 2 (List.length (sorts l)))], objs := [Obj.row 39 2 (List.map enc (sorts l))] }) (ob := [(↑(List.length (List.map enc l)) : Int) = (↑(List.length l) : Int),
      decide ((↑i : Int) < (↑(List.length l) : Int)) = true,
      i < List.length (List.map enc l),
      (↑i : Int) = (↑i : Int),
      (List.map enc l)[i]? = some (AV.agg [AV.int IntKind.u64 (Rn.f x), AV.int IntKind.u64 (Rn.t x)]),
      i < List.length (List.map enc l),
      (↑i : Int) = (↑i : Int),
      (List.map enc l)[i]? = some (AV.agg [AV.int IntKind.u64 (Rn.f x), AV.int IntKind.u64 (Rn.t x)]),
      decide (Rn.t x ≤ Rn.f x) = true,
      IntKind.wrap IntKind.i64 ((↑i : Int) + (1 : Int)) = (↑(i + (1 : Nat)) : Int),
      ALoop Try.prog 0 119 (loopB Try.f32 0) { env := [(4, AV.int IntKind.i64 (↑(i + 1) : Int)), (3, AV.row 0 2 (List.length (sorts (List.take i l)))), (0, AV.lst 2 (List.map enc l))], objs := [Obj.row 39 2 (List.map enc (sorts (List.take i l)))] } (Ex.exit 0) { env := [(3, AV.row 0 2 (List.length (sorts l)))], objs := [Obj.row 39 2 (List.map enc (sorts l))] }]) (by kernel_rfl) (by first | exact rfl | exact ⟨rfl, rfl⟩ | (simp [hx, enc, hf]; done) | (exact wrap64 (by omega))) ⟨(by first | exact rfl | (simp [hx, enc, hf]; done) | (simp [hx, enc, hf]; omega) | omega | (exact wrap64 (by omega))), (by first | exact rfl | (simp [hx, enc, hf]; done) | (simp [hx, enc, hf]; omega) | omega | (exact wrap64 (by omega))), (by first | exact rfl | (simp [hx, enc, hf]; done) | (simp [hx, enc, hf]; omega) | omega | (exact wrap64 (by omega))), (by first | exact rfl | (simp [hx, enc, hf]; done) | (simp [hx, enc, hf]; omega) | omega | (exact wrap64 (by omega))), (by first | exact rfl | (simp [hx, enc, hf]; done) | (simp [hx, enc, hf]; omega) | omega | (exact wrap64 (by omega))), (by first | exact rfl | (simp [hx, enc, hf]; done) | (simp [hx, enc, hf]; omega) | omega | (exact wrap64 (by omega))), (by first | exact rfl | (simp [hx, enc, hf]; done) | (simp [hx, enc, hf]; omega) | omega | (exact wrap64 (by omega))), (by first | exact rfl | (simp [hx, enc, hf]; done) | (simp [hx, enc, hf]; omega) | omega | (exact wrap64 (by omega))), (by first | exact rfl | (simp [hx, enc, hf]; done) | (simp [hx, enc, hf]; omega) | omega | (exact wrap64 (by omega))), (by first | exact rfl | (simp [hx, enc, hf]; done) | (simp [hx, enc, hf]; omega) | omega | (exact wrap64 (by omega))), ?q77_1, trivial⟩
      exact ih
    · rw [if_neg hf] at e
      rw [e] at ih
      have hl : (sorts (l.take i)).length ≤ i := by
        have := sorts_length (l.take i) []
        unfold sorts
        simp at this ⊢
        omega
      generalize sorts (l.take i) = s at hl ih
      have q := sink_loop l i x (s.length + 1) (by omega) s.reverse [] (by simp)
      have hlen : (sink x s.reverse []).length = s.length + 1 := by rw [sink_length]; simp
      rw [hlen] at ih
      simp only [List.reverse_reverse, List.length_reverse] at q
      have hw : IntKind.i64.wrap (((s.length + 1 : Nat) : Int) - 1) = (s.length : Int) := wrap_down (by omega)
      have el : (List.map enc (s ++ [x])).length = s.length + 1 := by simp
      refine aloopK mixed [0, 2, 3, 4, 5, 6, 7, 8, 9, 13, 26, 52, 75, 95] 1000 ([.go, .n l.length, .t, .ix i, .el (enc x), .ix i, .el (enc x), .f, .ix i, .el (enc x), .ls ((s ++ [x]).map enc), .n ((s.length + 1 : Nat) : Int), .n s.length, .lp [5, 3, 4, 0] [2] (.exit 2) ⟨[(3, .row 0 2 (s.length + 1)), (4, .int .i64 i), (0, .lst 2 (l.map enc))], [.row 39 2 ((sink x s.reverse []).map enc)]⟩, .n ((i + 1 : Nat) : Int), .lp [4, 3, 0] [0] (.exit 0) ⟨[(3, .row 0 2 (sorts l).length)], [.row 39 2 ((sorts l).map enc)]⟩]) [3] [0] (S1 := { env := [(3, AV.row 0 2 (List.length (sorts l)))], objs := [Obj.row 39 2 (List.map enc (sorts l))] }) (ob := [(↑(List.length (List.map enc l)) : Int) = (↑(List.length l) : Int),
      decide ((↑i : Int) < (↑(List.length l) : Int)) = true,
      i < List.length (List.map enc l),
      (↑i : Int) = (↑i : Int),
      (List.map enc l)[i]? = some (AV.agg [AV.int IntKind.u64 (Rn.f x), AV.int IntKind.u64 (Rn.t x)]),
      i < List.length (List.map enc l),
      (↑i : Int) = (↑i : Int),
      (List.map enc l)[i]? = some (AV.agg [AV.int IntKind.u64 (Rn.f x), AV.int IntKind.u64 (Rn.t x)]),
      decide (Rn.t x ≤ Rn.f x) = false,
      i < List.length (List.map enc l),
      (↑i : Int) = (↑i : Int),
      (List.map enc l)[i]? = some (AV.agg [AV.int IntKind.u64 (Rn.f x), AV.int IntKind.u64 (Rn.t x)]),
      (List.length (List.map enc s) + (1 : Nat)) * (16 : Nat) ≤ (140737488355328 : Nat),
      List.map enc s ++ [AV.agg [AV.int IntKind.u64 (Rn.f x), AV.int IntKind.u64 (Rn.t x)]] = List.map enc (s ++ [x]),
      (↑(List.length (List.map enc (s ++ [x]))) : Int) = (↑(List.length s + (1 : Nat)) : Int),
      IntKind.wrap IntKind.i64 ((↑(List.length s + (1 : Nat)) : Int) - (1 : Int)) = (↑(List.length s) : Int),
      ALoop Try.prog 0 119 (loopB Try.f32 1) { env := [(5, AV.int IntKind.i64 (↑(List.length s) : Int)), (3, AV.row 0 2 (List.length (List.map enc (s ++ [x])))), (4, AV.int IntKind.i64 (↑i : Int)), (0, AV.lst 2 (List.map enc l))], objs := [Obj.row 39 2 (List.map enc (s ++ [x]))] } (Ex.exit 2) { env := [(3, AV.row 0 2 (List.length s + 1)), (4, AV.int IntKind.i64 (↑i : Int)), (0, AV.lst 2 (List.map enc l))], objs := [Obj.row 39 2 (List.map enc (sink x (List.reverse s) []))] },
      IntKind.wrap IntKind.i64 ((↑i : Int) + (1 : Int)) = (↑(i + (1 : Nat)) : Int),
      ALoop Try.prog 0 119 (loopB Try.f32 0) { env := [(4, AV.int IntKind.i64 (↑(i + 1) : Int)), (3, AV.row 0 2 (List.length s + 1)), (0, AV.lst 2 (List.map enc l))], objs := [Obj.row 39 2 (List.map enc (sink x (List.reverse s) []))] } (Ex.exit 0) { env := [(3, AV.row 0 2 (List.length (sorts l)))], objs := [Obj.row 39 2 (List.map enc (sorts l))] }]) (by kernel_rfl) (by first | exact rfl | exact ⟨rfl, rfl⟩ | (simp [hx, enc, hf]; done) | (first | exact wrap64 (by omega) | exact hw)) ⟨(by first | exact rfl | (simp [hx, enc, hf]; done) | (simp [hx, enc, hf]; omega) | omega | (first | exact wrap64 (by omega) | exact hw)), (by first | exact rfl | (simp [hx, enc, hf]; done) | (simp [hx, enc, hf]; omega) | omega | (first | exact wrap64 (by omega) | exact hw)), (by first | exact rfl | (simp [hx, enc, hf]; done) | (simp [hx, enc, hf]; omega) | omega | (first | exact wrap64 (by omega) | exact hw)), (by first | exact rfl | (simp [hx, enc, hf]; done) | (simp [hx, enc, hf]; omega) | omega | (first | exact wrap64 (by omega) | exact hw)), (by first | exact rfl | (simp [hx, enc, hf]; done) | (simp [hx, enc, hf]; omega) | omega | (first | exact wrap64 (by omega) | exact hw)), (by first | exact rfl | (simp [hx, enc, hf]; done) | (simp [hx, enc, hf]; omega) | omega | (first | exact wrap64 (by omega) | exact hw)), (by first | exact rfl | (simp [hx, enc, hf]; done) | (simp [hx, enc, hf]; omega) | omega | (first | exact wrap64 (by omega) | exact hw)), (by first | exact rfl | (simp [hx, enc, hf]; done) | (simp [hx, enc, hf]; omega) | omega | (first | exact wrap64 (by omega) | exact hw)), (by first | exact rfl | (simp [hx, enc, hf]; done) | (simp [hx, enc, hf]; omega) | omega | (first | exact wrap64 (by omega) | exact hw)), (by first | exact rfl | (simp [hx, enc, hf]; done) | (simp [hx, enc, hf]; omega) | omega | (first | exact wrap64 (by omega) | exact hw)), (by first | exact rfl | (simp [hx, enc, hf]; done) | (simp [hx, enc, hf]; omega) | omega | (first | exact wrap64 (by omega) | exact hw)), (by first | exact rfl | (simp [hx, enc, hf]; done) | (simp [hx, enc, hf]; omega) | omega | (first | exact wrap64 (by omega) | exact hw)), (by first | exact rfl | (simp [hx, enc, hf]; done) | (simp [hx, enc, hf]; omega) | omega | (first | exact wrap64 (by omega) | exact hw)), (by first | exact rfl | (simp [hx, enc, hf]; done) | (simp [hx, enc, hf]; omega) | omega | (first | exact wrap64 (by omega) | exact hw)), (by first | exact rfl | (simp [hx, enc, hf]; done) | (simp [hx, enc, hf]; omega) | omega | (first | exact wrap64 (by omega) | exact hw)), (by first | exact rfl | (simp [hx, enc, hf]; done) | (simp [hx, enc, hf]; omega) | omega | (first | exact wrap64 (by omega) | exact hw)), ?q93_1, (by first | exact rfl | (simp [hx, enc, hf]; done) | (simp [hx, enc, hf]; omega) | omega | (first | exact wrap64 (by omega) | exact hw)), ?q93_2, trivial⟩
      · rw [el]; exact q
      · exact ih

theorem mrg_length (o : List Rn) (x : Rn) : (mrg o x).length ≤ o.length + 1 := by
  unfold mrg
  split
  · split
    · simp
    · simp
  · simp
theorem mrgs_length : ∀ (l o : List Rn), (l.foldl mrg o).length ≤ o.length + l.length
  | [], o => by simp
  | x :: l, o => by
    rw [List.foldl_cons]
    have h1 := mrgs_length l (mrg o x)
    have h2 := mrg_length o x
    simp; omega
theorem mrg_step {s : List Rn} {k : Nat} {x : Rn} (h : s[k]? = some x) : (s.take (k + 1)).foldl mrg [] = mrg ((s.take k).foldl mrg []) x := by
  rw [List.take_add_one, h]; simp
theorem merge_loop (s : List Rn) (hb : s.length ≤ 1099511627775) : ∀ (n k : Nat), s.length = k + n →
    ALoop Try.prog 0 Try.f32.ntmps (loopB Try.f32 2) ⟨[(8, .int .i64 k), (7, .row 0 2 ((s.take k).foldl mrg []).length), (3, .lst 2 (s.map enc))], [.row 39 2 (((s.take k).foldl mrg []).map enc)]⟩ (.exit 4)
      ⟨[(7, .row 0 2 (s.foldl mrg []).length)], [.row 39 2 ((s.foldl mrg []).map enc)]⟩
  | 0, k, h => by
    rw [List.take_of_length_le (by omega)]
    refine aloopK mixed [0, 2, 3, 4, 5, 6, 7, 8, 9, 13, 26, 52, 75, 95] 1000 ([.go, .n s.length, .f]) [7] [0] (S1 := { env := [(7, AV.row 0 2 (List.length (List.foldl mrg [] s)))], objs := [Obj.row 39 2 (List.map enc (List.foldl mrg [] s))] }) (ob := [(↑(List.length (List.map enc s)) : Int) = (↑(List.length s) : Int),
      decide ((↑k : Int) < (↑(List.length s) : Int)) = false]) (by kernel_rfl) (by first | exact rfl | exact ⟨rfl, rfl⟩ | (simp []; done)) ⟨(by first | exact rfl | (simp []; done) | (simp []; omega) | omega), (by first | exact rfl | (simp []; done) | (simp []; omega) | omega), trivial⟩
  | n + 1, k, h => by
    obtain ⟨x, hx⟩ := get_of (l := s) (k := k) (by omega)
    have ih := merge_loop s hb n (k + 1) (by omega)
    rw [mrg_step hx] at ih
    have hl : ((s.take k).foldl mrg []).length ≤ k := by
      have := mrgs_length (s.take k) []
      simp at this ⊢
      omega
    generalize (s.take k).foldl mrg [] = o at hl ih
    rcases List.eq_nil_or_concat o with rfl | ⟨o', y, rfl⟩
    · have e : mrg [] x = [x] := rfl
      rw [e] at ih
      refine aloopK mixed [0, 2, 3, 4, 5, 6, 7, 8, 9, 13, 26, 52, 75, 95] 1000 ([.go, .n s.length, .t, .n 0, .n (-1), .f, .ix k, .el (enc x), .ls ([x].map enc), .n ((k + 1 : Nat) : Int), .lp [8, 7, 3] [2] (.exit 4) ⟨[(7, .row 0 2 (s.foldl mrg []).length)], [.row 39 2 ((s.foldl mrg []).map enc)]⟩]) [7] [0] (S1 := { env := [(7, AV.row 0 2 (List.length (List.foldl mrg [] s)))], objs := [Obj.row 39 2 (List.map enc (List.foldl mrg [] s))] }) (ob := [(↑(List.length (List.map enc s)) : Int) = (↑(List.length s) : Int),
      decide ((↑k : Int) < (↑(List.length s) : Int)) = true,
      (↑(nat_lit 0) : Int) = (0 : Int),
      IntKind.wrap IntKind.i64 ((0 : Int) - (1 : Int)) = (-1 : Int),
      decide ((-1 : Int) ≥ (0 : Int)) = false,
      k < List.length (List.map enc s),
      (↑k : Int) = (↑k : Int),
      (List.map enc s)[k]? = some (AV.agg [AV.int IntKind.u64 (Rn.f x), AV.int IntKind.u64 (Rn.t x)]),
      ((0 : Nat) + (1 : Nat)) * (16 : Nat) ≤ (140737488355328 : Nat),
      [] ++ [AV.agg [AV.int IntKind.u64 (Rn.f x), AV.int IntKind.u64 (Rn.t x)]] = [AV.agg [AV.int IntKind.u64 (Rn.f x), AV.int IntKind.u64 (Rn.t x)]],
      IntKind.wrap IntKind.i64 ((↑k : Int) + (1 : Int)) = (↑(k + (1 : Nat)) : Int),
      ALoop Try.prog 0 119 (loopB Try.f32 2) { env := [(8, AV.int IntKind.i64 (↑(k + 1) : Int)), (7, AV.row 0 2 1), (3, AV.lst 2 (List.map enc s))], objs := [Obj.row 39 2 [AV.agg [AV.int IntKind.u64 (Rn.f x), AV.int IntKind.u64 (Rn.t x)]]] } (Ex.exit 4) { env := [(7, AV.row 0 2 (List.length (List.foldl mrg [] s)))], objs := [Obj.row 39 2 (List.map enc (List.foldl mrg [] s))] }]) (by kernel_rfl) (by first | exact rfl | exact ⟨rfl, rfl⟩ | (simp [hx, enc]; done) | (exact wrap64 (by omega))) ⟨(by first | exact rfl | (simp [hx, enc]; done) | (simp [hx, enc]; omega) | omega | (exact wrap64 (by omega))), (by first | exact rfl | (simp [hx, enc]; done) | (simp [hx, enc]; omega) | omega | (exact wrap64 (by omega))), (by first | exact rfl | (simp [hx, enc]; done) | (simp [hx, enc]; omega) | omega | (exact wrap64 (by omega))), (by first | exact rfl | (simp [hx, enc]; done) | (simp [hx, enc]; omega) | omega | (exact wrap64 (by omega))), (by first | exact rfl | (simp [hx, enc]; done) | (simp [hx, enc]; omega) | omega | (exact wrap64 (by omega))), (by first | exact rfl | (simp [hx, enc]; done) | (simp [hx, enc]; omega) | omega | (exact wrap64 (by omega))), (by first | exact rfl | (simp [hx, enc]; done) | (simp [hx, enc]; omega) | omega | (exact wrap64 (by omega))), (by first | exact rfl | (simp [hx, enc]; done) | (simp [hx, enc]; omega) | omega | (exact wrap64 (by omega))), (by first | exact rfl | (simp [hx, enc]; done) | (simp [hx, enc]; omega) | omega | (exact wrap64 (by omega))), (by first | exact rfl | (simp [hx, enc]; done) | (simp [hx, enc]; omega) | omega | (exact wrap64 (by omega))), (by first | exact rfl | (simp [hx, enc]; done) | (simp [hx, enc]; omega) | omega | (exact wrap64 (by omega))), ?q131_1, trivial⟩
      exact ih
    · simp only [List.concat_eq_append] at hl ih ⊢
      have hl2 : (o' ++ [y]).length = o'.length + 1 := by simp
      have hy : ((o' ++ [y]).map enc)[o'.length]? = some (enc y) := by
        rw [List.getElem?_map, List.getElem?_append_right (by simp)]; simp
      have hw : IntKind.i64.wrap (((o'.length + 1 : Nat) : Int) - 1) = (o'.length : Int) := wrap_down (by simp at hl; omega)
      by_cases hm : x.f ≤ y.t
      · have e : mrg (o' ++ [y]) x = o' ++ [⟨y.f, mx y.t x.t⟩] := by simp [mrg, hm]
        rw [e] at ih
        have hs : ((o' ++ [y]).map enc).set o'.length (AV.agg [.int .u64 y.f, .int .u64 (mx y.t x.t)]) = (o' ++ [(⟨y.f, mx y.t x.t⟩ : Rn)]).map enc := by
          rw [List.map_append, List.set_append_right _ _ (by simp)]; simp [enc]
        have hl3 : (o' ++ [(⟨y.f, mx y.t x.t⟩ : Rn)]).length = (o' ++ [y]).length := by simp
        rw [hl3] at ih
        refine aloopK mixed [0, 2, 3, 4, 5, 6, 7, 8, 9, 13, 26, 52, 75, 95] 1000 ([.go, .n s.length, .t, .n ((o'.length + 1 : Nat) : Int), .n (o'.length : Int), .t, .ix k, .el (enc x), .ix o'.length, .el (enc y), .t, .ix o'.length, .el (enc y), .ix k, .el (enc x), .n (mx y.t x.t), .ix o'.length, .el (enc y), .n ((k + 1 : Nat) : Int), .lp [8, 7, 3] [0] (.exit 4) ⟨[(7, .row 0 2 (s.foldl mrg []).length)], [.row 39 2 ((s.foldl mrg []).map enc)]⟩]) [7] [0] (S1 := { env := [(7, AV.row 0 2 (List.length (List.foldl mrg [] s)))], objs := [Obj.row 39 2 (List.map enc (List.foldl mrg [] s))] }) (ob := [(↑(List.length (List.map enc s)) : Int) = (↑(List.length s) : Int),
      decide ((↑k : Int) < (↑(List.length s) : Int)) = true,
      (↑(List.length (o' ++ [y])) : Int) = (↑(List.length o' + (1 : Nat)) : Int),
      IntKind.wrap IntKind.i64 ((↑(List.length o' + (1 : Nat)) : Int) - (1 : Int)) = (↑(List.length o') : Int),
      decide ((↑(List.length o') : Int) ≥ (0 : Int)) = true,
      k < List.length (List.map enc s),
      (↑k : Int) = (↑k : Int),
      (List.map enc s)[k]? = some (AV.agg [AV.int IntKind.u64 (Rn.f x), AV.int IntKind.u64 (Rn.t x)]),
      List.length o' < List.length (o' ++ [y]),
      (↑(List.length o') : Int) = (↑(List.length o') : Int),
      (List.map enc (o' ++ [y]))[List.length o']? = some (AV.agg [AV.int IntKind.u64 (Rn.f y), AV.int IntKind.u64 (Rn.t y)]),
      decide (Rn.f x ≤ Rn.t y) = true,
      List.length o' < List.length (o' ++ [y]),
      (↑(List.length o') : Int) = (↑(List.length o') : Int),
      (List.map enc (o' ++ [y]))[List.length o']? = some (AV.agg [AV.int IntKind.u64 (Rn.f y), AV.int IntKind.u64 (Rn.t y)]),
      k < List.length (List.map enc s),
      (↑k : Int) = (↑k : Int),
      (List.map enc s)[k]? = some (AV.agg [AV.int IntKind.u64 (Rn.f x), AV.int IntKind.u64 (Rn.t x)]),
      mx (Rn.t y) (Rn.t x) = mx (Rn.t y) (Rn.t x),
      List.length o' < List.length (o' ++ [y]),
      (↑(List.length o') : Int) = (↑(List.length o') : Int),
      (List.map enc (o' ++ [y]))[List.length o']? = some (AV.agg [AV.int IntKind.u64 (Rn.f y), AV.int IntKind.u64 (Rn.t y)]),
      IntKind.wrap IntKind.i64 ((↑k : Int) + (1 : Int)) = (↑(k + (1 : Nat)) : Int),
      ALoop Try.prog 0 119 (loopB Try.f32 2) { env := [(8, AV.int IntKind.i64 (↑(k + 1) : Int)), (7, AV.row 0 2 (List.length (o' ++ [y]))), (3, AV.lst 2 (List.map enc s))], objs := [Obj.row 39 2 (List.set (List.map enc (o' ++ [y])) (List.length o') (AV.agg [AV.int IntKind.u64 (Rn.f y), AV.int IntKind.u64 (mx (Rn.t y) (Rn.t x))]))] } (Ex.exit 4) { env := [(7, AV.row 0 2 (List.length (List.foldl mrg [] s)))], objs := [Obj.row 39 2 (List.map enc (List.foldl mrg [] s))] }]) (by kernel_rfl) (by first | exact rfl | exact ⟨rfl, rfl⟩ | (simp [hx, enc, hm]; done) | (first | exact wrap64 (by omega) | exact hw | exact hy)) ⟨(by first | exact rfl | (simp [hx, enc, hm]; done) | (simp [hx, enc, hm]; omega) | omega | (first | exact wrap64 (by omega) | exact hw | exact hy)), (by first | exact rfl | (simp [hx, enc, hm]; done) | (simp [hx, enc, hm]; omega) | omega | (first | exact wrap64 (by omega) | exact hw | exact hy)), (by first | exact rfl | (simp [hx, enc, hm]; done) | (simp [hx, enc, hm]; omega) | omega | (first | exact wrap64 (by omega) | exact hw | exact hy)), (by first | exact rfl | (simp [hx, enc, hm]; done) | (simp [hx, enc, hm]; omega) | omega | (first | exact wrap64 (by omega) | exact hw | exact hy)), (by first | exact rfl | (simp [hx, enc, hm]; done) | (simp [hx, enc, hm]; omega) | omega | (first | exact wrap64 (by omega) | exact hw | exact hy)), (by first | exact rfl | (simp [hx, enc, hm]; done) | (simp [hx, enc, hm]; omega) | omega | (first | exact wrap64 (by omega) | exact hw | exact hy)), (by first | exact rfl | (simp [hx, enc, hm]; done) | (simp [hx, enc, hm]; omega) | omega | (first | exact wrap64 (by omega) | exact hw | exact hy)), (by first | exact rfl | (simp [hx, enc, hm]; done) | (simp [hx, enc, hm]; omega) | omega | (first | exact wrap64 (by omega) | exact hw | exact hy)), (by first | exact rfl | (simp [hx, enc, hm]; done) | (simp [hx, enc, hm]; omega) | omega | (first | exact wrap64 (by omega) | exact hw | exact hy)), (by first | exact rfl | (simp [hx, enc, hm]; done) | (simp [hx, enc, hm]; omega) | omega | (first | exact wrap64 (by omega) | exact hw | exact hy)), (by first | exact rfl | (simp [hx, enc, hm]; done) | (simp [hx, enc, hm]; omega) | omega | (first | exact wrap64 (by omega) | exact hw | exact hy)), (by first | exact rfl | (simp [hx, enc, hm]; done) | (simp [hx, enc, hm]; omega) | omega | (first | exact wrap64 (by omega) | exact hw | exact hy)), (by first | exact rfl | (simp [hx, enc, hm]; done) | (simp [hx, enc, hm]; omega) | omega | (first | exact wrap64 (by omega) | exact hw | exact hy)), (by first | exact rfl | (simp [hx, enc, hm]; done) | (simp [hx, enc, hm]; omega) | omega | (first | exact wrap64 (by omega) | exact hw | exact hy)), (by first | exact rfl | (simp [hx, enc, hm]; done) | (simp [hx, enc, hm]; omega) | omega | (first | exact wrap64 (by omega) | exact hw | exact hy)), (by first | exact rfl | (simp [hx, enc, hm]; done) | (simp [hx, enc, hm]; omega) | omega | (first | exact wrap64 (by omega) | exact hw | exact hy)), (by first | exact rfl | (simp [hx, enc, hm]; done) | (simp [hx, enc, hm]; omega) | omega | (first | exact wrap64 (by omega) | exact hw | exact hy)), (by first | exact rfl | (simp [hx, enc, hm]; done) | (simp [hx, enc, hm]; omega) | omega | (first | exact wrap64 (by omega) | exact hw | exact hy)), (by first | exact rfl | (simp [hx, enc, hm]; done) | (simp [hx, enc, hm]; omega) | omega | (first | exact wrap64 (by omega) | exact hw | exact hy)), (by first | exact rfl | (simp [hx, enc, hm]; done) | (simp [hx, enc, hm]; omega) | omega | (first | exact wrap64 (by omega) | exact hw | exact hy)), (by first | exact rfl | (simp [hx, enc, hm]; done) | (simp [hx, enc, hm]; omega) | omega | (first | exact wrap64 (by omega) | exact hw | exact hy)), (by first | exact rfl | (simp [hx, enc, hm]; done) | (simp [hx, enc, hm]; omega) | omega | (first | exact wrap64 (by omega) | exact hw | exact hy)), (by first | exact rfl | (simp [hx, enc, hm]; done) | (simp [hx, enc, hm]; omega) | omega | (first | exact wrap64 (by omega) | exact hw | exact hy)), ?q145_1, trivial⟩
        rw [hs]
        exact ih
      · have e : mrg (o' ++ [y]) x = o' ++ [y] ++ [x] := by simp [mrg, hm]
        rw [e] at ih
        refine aloopK mixed [0, 2, 3, 4, 5, 6, 7, 8, 9, 13, 26, 52, 75, 95] 1000 ([.go, .n s.length, .t, .n ((o'.length + 1 : Nat) : Int), .n (o'.length : Int), .t, .ix k, .el (enc x), .ix o'.length, .el (enc y), .f, .ix k, .el (enc x), .ls ((o' ++ [y] ++ [x]).map enc), .n ((k + 1 : Nat) : Int), .lp [8, 7, 3] [2] (.exit 4) ⟨[(7, .row 0 2 (s.foldl mrg []).length)], [.row 39 2 ((s.foldl mrg []).map enc)]⟩]) [7] [0] (S1 := { env := [(7, AV.row 0 2 (List.length (List.foldl mrg [] s)))], objs := [Obj.row 39 2 (List.map enc (List.foldl mrg [] s))] }) (ob := [(↑(List.length (List.map enc s)) : Int) = (↑(List.length s) : Int),
      decide ((↑k : Int) < (↑(List.length s) : Int)) = true,
      (↑(List.length (o' ++ [y])) : Int) = (↑(List.length o' + (1 : Nat)) : Int),
      IntKind.wrap IntKind.i64 ((↑(List.length o' + (1 : Nat)) : Int) - (1 : Int)) = (↑(List.length o') : Int),
      decide ((↑(List.length o') : Int) ≥ (0 : Int)) = true,
      k < List.length (List.map enc s),
      (↑k : Int) = (↑k : Int),
      (List.map enc s)[k]? = some (AV.agg [AV.int IntKind.u64 (Rn.f x), AV.int IntKind.u64 (Rn.t x)]),
      List.length o' < List.length (o' ++ [y]),
      (↑(List.length o') : Int) = (↑(List.length o') : Int),
      (List.map enc (o' ++ [y]))[List.length o']? = some (AV.agg [AV.int IntKind.u64 (Rn.f y), AV.int IntKind.u64 (Rn.t y)]),
      decide (Rn.f x ≤ Rn.t y) = false,
      k < List.length (List.map enc s),
      (↑k : Int) = (↑k : Int),
      (List.map enc s)[k]? = some (AV.agg [AV.int IntKind.u64 (Rn.f x), AV.int IntKind.u64 (Rn.t x)]),
      (List.length (List.map enc (o' ++ [y])) + (1 : Nat)) * (16 : Nat) ≤ (140737488355328 : Nat),
      List.map enc (o' ++ [y]) ++ [AV.agg [AV.int IntKind.u64 (Rn.f x), AV.int IntKind.u64 (Rn.t x)]] = List.map enc (o' ++ [y] ++ [x]),
      IntKind.wrap IntKind.i64 ((↑k : Int) + (1 : Int)) = (↑(k + (1 : Nat)) : Int),
      ALoop Try.prog 0 119 (loopB Try.f32 2) { env := [(8, AV.int IntKind.i64 (↑(k + 1) : Int)), (7, AV.row 0 2 (List.length (List.map enc (o' ++ [y] ++ [x])))), (3, AV.lst 2 (List.map enc s))], objs := [Obj.row 39 2 (List.map enc (o' ++ [y] ++ [x]))] } (Ex.exit 4) { env := [(7, AV.row 0 2 (List.length (List.foldl mrg [] s)))], objs := [Obj.row 39 2 (List.map enc (List.foldl mrg [] s))] }]) (by kernel_rfl) (by first | exact rfl | exact ⟨rfl, rfl⟩ | (simp [hx, enc, hm]; done) | (first | exact wrap64 (by omega) | exact hw | exact hy)) ⟨(by first | exact rfl | (simp [hx, enc, hm]; done) | (simp [hx, enc, hm]; omega) | omega | (first | exact wrap64 (by omega) | exact hw | exact hy)), (by first | exact rfl | (simp [hx, enc, hm]; done) | (simp [hx, enc, hm]; omega) | omega | (first | exact wrap64 (by omega) | exact hw | exact hy)), (by first | exact rfl | (simp [hx, enc, hm]; done) | (simp [hx, enc, hm]; omega) | omega | (first | exact wrap64 (by omega) | exact hw | exact hy)), (by first | exact rfl | (simp [hx, enc, hm]; done) | (simp [hx, enc, hm]; omega) | omega | (first | exact wrap64 (by omega) | exact hw | exact hy)), (by first | exact rfl | (simp [hx, enc, hm]; done) | (simp [hx, enc, hm]; omega) | omega | (first | exact wrap64 (by omega) | exact hw | exact hy)), (by first | exact rfl | (simp [hx, enc, hm]; done) | (simp [hx, enc, hm]; omega) | omega | (first | exact wrap64 (by omega) | exact hw | exact hy)), (by first | exact rfl | (simp [hx, enc, hm]; done) | (simp [hx, enc, hm]; omega) | omega | (first | exact wrap64 (by omega) | exact hw | exact hy)), (by first | exact rfl | (simp [hx, enc, hm]; done) | (simp [hx, enc, hm]; omega) | omega | (first | exact wrap64 (by omega) | exact hw | exact hy)), (by first | exact rfl | (simp [hx, enc, hm]; done) | (simp [hx, enc, hm]; omega) | omega | (first | exact wrap64 (by omega) | exact hw | exact hy)), (by first | exact rfl | (simp [hx, enc, hm]; done) | (simp [hx, enc, hm]; omega) | omega | (first | exact wrap64 (by omega) | exact hw | exact hy)), (by first | exact rfl | (simp [hx, enc, hm]; done) | (simp [hx, enc, hm]; omega) | omega | (first | exact wrap64 (by omega) | exact hw | exact hy)), (by first | exact rfl | (simp [hx, enc, hm]; done) | (simp [hx, enc, hm]; omega) | omega | (first | exact wrap64 (by omega) | exact hw | exact hy)), (by first | exact rfl | (simp [hx, enc, hm]; done) | (simp [hx, enc, hm]; omega) | omega | (first | exact wrap64 (by omega) | exact hw | exact hy)), (by first | exact rfl | (simp [hx, enc, hm]; done) | (simp [hx, enc, hm]; omega) | omega | (first | exact wrap64 (by omega) | exact hw | exact hy)), (by first | exact rfl | (simp [hx, enc, hm]; done) | (simp [hx, enc, hm]; omega) | omega | (first | exact wrap64 (by omega) | exact hw | exact hy)), (by first | exact rfl | (simp [hx, enc, hm]; done) | (simp [hx, enc, hm]; omega) | omega | (first | exact wrap64 (by omega) | exact hw | exact hy)), (by first | exact rfl | (simp [hx, enc, hm]; done) | (simp [hx, enc, hm]; omega) | omega | (first | exact wrap64 (by omega) | exact hw | exact hy)), (by first | exact rfl | (simp [hx, enc, hm]; done) | (simp [hx, enc, hm]; omega) | omega | (first | exact wrap64 (by omega) | exact hw | exact hy)), ?q150_1, trivial⟩
        rw [List.length_map]
        exact ih
theorem norm_ac (l : List Rn) (hb : l.length ≤ 1099511627775) : ACalls Try.prog 32 [.lst 2 (l.map enc)] [] (.row 0 2 (normL l).length) [.row 39 2 ((normL l).map enc)] := by
  have hl : (sorts l).length ≤ l.length := by have := sorts_length l []; simpa [sorts] using this
  have h1 := sort_loop l hb l.length 0 (by simp)
  have h2 := merge_loop (sorts l) (by omega) (sorts l).length 0 (by simp)
  refine acallsK mixed Try.func32 rfl [0, 2, 3, 4, 5, 6, 7, 8, 9, 13, 26, 52, 75, 95] 1000 ([.mk 3 39 2, .lp [4, 3, 0] [0] (.exit 0) ⟨[(3, .row 0 2 (sorts l).length)], [.row 39 2 ((sorts l).map enc)]⟩, .fz [0], .mk 7 39 2, .lp [8, 7, 3] [1] (.exit 4) ⟨[(7, .row 0 2 (normL l).length)], [.row 39 2 ((normL l).map enc)]⟩]) [] [0] (v1 := AV.row 0 2 (List.length (normL l))) (objs1 := [Obj.row 39 2 (List.map enc (normL l))]) (ob := [ALoop Try.prog 0 119 (loopB Try.f32 0) { env := [(4, AV.int IntKind.i64 0), (3, AV.row 0 2 0), (0, AV.lst 2 (List.map enc l))], objs := [Obj.row 39 2 []] } (Ex.exit 0) { env := [(3, AV.row 0 2 (List.length (sorts l)))], objs := [Obj.row 39 2 (List.map enc (sorts l))] },
      ALoop Try.prog 0 119 (loopB Try.f32 2) { env := [(8, AV.int IntKind.i64 0), (7, AV.row 0 2 0), (3, AV.lst 2 (List.map enc (sorts l)))], objs := [Obj.row 39 2 []] } (Ex.exit 4) { env := [(7, AV.row 0 2 (List.length (normL l)))], objs := [Obj.row 39 2 (List.map enc (normL l))] }]) (by kernel_rfl) (by first | exact rfl | exact ⟨rfl, rfl⟩ | (simp []; done)) ⟨?q157_1, ?q157_2, trivial⟩
  · exact h1
  · exact h2

def cuts (r : Rn) (l : List Rn) : List Rn := l.flatMap (pieces r)
theorem cuts_step {r : Rn} {l : List Rn} {k : Nat} {x : Rn} (h : l[k]? = some x) : cuts r (l.take (k + 1)) = cuts r (l.take k) ++ pieces r x := by
  unfold cuts; rw [List.take_add_one, h]; simp
theorem cuts_length (r : Rn) : ∀ (l : List Rn), (cuts r l).length = 2 * l.length
  | [] => rfl
  | x :: l => by
    have := cuts_length r l
    unfold cuts at this ⊢
    rw [List.flatMap_cons, List.length_append, this]
    simp [pieces]; omega
theorem cuts_loop (r : Rn) (l : List Rn) (hb : l.length ≤ 1099511627775) : ∀ (n k : Nat), l.length = k + n →
    ALoop Try.prog 0 Try.f19.ntmps (loopB Try.f19 0) ⟨[(6, .int .i64 k), (5, .row 1 2 (cuts r (l.take k)).length), (3, .ptr 0 0), (0, .lst 2 (l.map enc))], [.vars 39 [.int .u64 r.f, .int .u64 r.t], .row 39 2 ((cuts r (l.take k)).map enc)]⟩ (.exit 0)
      ⟨[(5, .row 0 2 (cuts r l).length)], [.row 39 2 ((cuts r l).map enc)]⟩
  | 0, k, h => by
    rw [List.take_of_length_le (by omega)]
    refine aloopK mixed [0, 1, 3, 4, 5, 6, 11, 17] 1000 ([.go, .n l.length, .f]) [5] [1] (S1 := { env := [(5, AV.row 0 2 (List.length (cuts r l)))], objs := [Obj.row 39 2 (List.map enc (cuts r l))] }) (ob := [(↑(List.length (List.map enc l)) : Int) = (↑(List.length l) : Int),
      decide ((↑k : Int) < (↑(List.length l) : Int)) = false]) (by kernel_rfl) (by first | exact rfl | exact ⟨rfl, rfl⟩ | (simp []; done)) ⟨(by first | exact rfl | (simp []; done) | (simp []; omega) | omega), (by first | exact rfl | (simp []; done) | (simp []; omega) | omega), trivial⟩
  | n + 1, k, h => by
    obtain ⟨x, hx⟩ := get_of (l := l) (k := k) (by omega)
    have ih := cuts_loop r l hb n (k + 1) (by omega)
    have hl : (cuts r (l.take k)).length ≤ 2 * k := by rw [cuts_length]; simp; omega
    rw [cuts_step hx] at ih
    generalize cuts r (l.take k) = o at hl ih
    refine aloopK mixed [0, 1, 3, 4, 5, 6, 11, 17] 1000 ([.go, .n l.length, .t, .ix k, .el (enc x), .ix k, .el (enc x), .n (mn x.t r.f), .ix k, .el (enc x), .n (mx x.f r.t), .ix k, .el (enc x), .ls ((o ++ pieces r x).map enc), .n ((k + 1 : Nat) : Int), .lp [6, 5, 3, 0] [0, 3] (.exit 0) ⟨[(5, .row 0 2 (cuts r l).length)], [.row 39 2 ((cuts r l).map enc)]⟩]) [5] [0] (S1 := { env := [(5, AV.row 0 2 (List.length (cuts r l)))], objs := [Obj.row 39 2 (List.map enc (cuts r l))] }) (ob := [(↑(List.length (List.map enc l)) : Int) = (↑(List.length l) : Int),
      decide ((↑k : Int) < (↑(List.length l) : Int)) = true,
      k < List.length (List.map enc l),
      (↑k : Int) = (↑k : Int),
      (List.map enc l)[k]? = some (AV.agg [AV.int IntKind.u64 (Rn.f x), AV.int IntKind.u64 (Rn.t x)]),
      k < List.length (List.map enc l),
      (↑k : Int) = (↑k : Int),
      (List.map enc l)[k]? = some (AV.agg [AV.int IntKind.u64 (Rn.f x), AV.int IntKind.u64 (Rn.t x)]),
      mn (Rn.t x) (Rn.f r) = mn (Rn.t x) (Rn.f r),
      k < List.length (List.map enc l),
      (↑k : Int) = (↑k : Int),
      (List.map enc l)[k]? = some (AV.agg [AV.int IntKind.u64 (Rn.f x), AV.int IntKind.u64 (Rn.t x)]),
      mx (Rn.f x) (Rn.t r) = mx (Rn.f x) (Rn.t r),
      k < List.length (List.map enc l),
      (↑k : Int) = (↑k : Int),
      (List.map enc l)[k]? = some (AV.agg [AV.int IntKind.u64 (Rn.f x), AV.int IntKind.u64 (Rn.t x)]),
      (List.length (List.map enc o) + (2 : Nat)) * (16 : Nat) ≤ (140737488355328 : Nat),
      List.map enc o ++ [AV.agg [AV.int IntKind.u64 (Rn.f x), AV.int IntKind.u64 (mn (Rn.t x) (Rn.f r))], AV.agg [AV.int IntKind.u64 (mx (Rn.f x) (Rn.t r)), AV.int IntKind.u64 (Rn.t x)]] = List.map enc (o ++ pieces r x),
      IntKind.wrap IntKind.i64 ((↑k : Int) + (1 : Int)) = (↑(k + (1 : Nat)) : Int),
      ALoop Try.prog 0 53 (loopB Try.f19 0) { env := [(6, AV.int IntKind.i64 (↑(k + 1) : Int)), (5, AV.row 1 2 (List.length (List.map enc (o ++ pieces r x)))), (3, AV.ptr 0 0), (0, AV.lst 2 (List.map enc l))], objs := [Obj.vars 39 [AV.int IntKind.u64 (Rn.f r), AV.int IntKind.u64 (Rn.t r)], Obj.row 39 2 (List.map enc (o ++ pieces r x))] } (Ex.exit 0) { env := [(5, AV.row 0 2 (List.length (cuts r l)))], objs := [Obj.row 39 2 (List.map enc (cuts r l))] }]) (by kernel_rfl) (by first | exact rfl | exact ⟨rfl, rfl⟩ | (simp [hx, enc, pieces]; done) | (first | (rw [List.map_append]; rfl) | exact wrap64 (by omega))) ⟨(by first | exact rfl | (simp [hx, enc, pieces]; done) | (simp [hx, enc, pieces]; omega) | omega | (first | (rw [List.map_append]; rfl) | exact wrap64 (by omega))), (by first | exact rfl | (simp [hx, enc, pieces]; done) | (simp [hx, enc, pieces]; omega) | omega | (first | (rw [List.map_append]; rfl) | exact wrap64 (by omega))), (by first | exact rfl | (simp [hx, enc, pieces]; done) | (simp [hx, enc, pieces]; omega) | omega | (first | (rw [List.map_append]; rfl) | exact wrap64 (by omega))), (by first | exact rfl | (simp [hx, enc, pieces]; done) | (simp [hx, enc, pieces]; omega) | omega | (first | (rw [List.map_append]; rfl) | exact wrap64 (by omega))), (by first | exact rfl | (simp [hx, enc, pieces]; done) | (simp [hx, enc, pieces]; omega) | omega | (first | (rw [List.map_append]; rfl) | exact wrap64 (by omega))), (by first | exact rfl | (simp [hx, enc, pieces]; done) | (simp [hx, enc, pieces]; omega) | omega | (first | (rw [List.map_append]; rfl) | exact wrap64 (by omega))), (by first | exact rfl | (simp [hx, enc, pieces]; done) | (simp [hx, enc, pieces]; omega) | omega | (first | (rw [List.map_append]; rfl) | exact wrap64 (by omega))), (by first | exact rfl | (simp [hx, enc, pieces]; done) | (simp [hx, enc, pieces]; omega) | omega | (first | (rw [List.map_append]; rfl) | exact wrap64 (by omega))), (by first | exact rfl | (simp [hx, enc, pieces]; done) | (simp [hx, enc, pieces]; omega) | omega | (first | (rw [List.map_append]; rfl) | exact wrap64 (by omega))), (by first | exact rfl | (simp [hx, enc, pieces]; done) | (simp [hx, enc, pieces]; omega) | omega | (first | (rw [List.map_append]; rfl) | exact wrap64 (by omega))), (by first | exact rfl | (simp [hx, enc, pieces]; done) | (simp [hx, enc, pieces]; omega) | omega | (first | (rw [List.map_append]; rfl) | exact wrap64 (by omega))), (by first | exact rfl | (simp [hx, enc, pieces]; done) | (simp [hx, enc, pieces]; omega) | omega | (first | (rw [List.map_append]; rfl) | exact wrap64 (by omega))), (by first | exact rfl | (simp [hx, enc, pieces]; done) | (simp [hx, enc, pieces]; omega) | omega | (first | (rw [List.map_append]; rfl) | exact wrap64 (by omega))), (by first | exact rfl | (simp [hx, enc, pieces]; done) | (simp [hx, enc, pieces]; omega) | omega | (first | (rw [List.map_append]; rfl) | exact wrap64 (by omega))), (by first | exact rfl | (simp [hx, enc, pieces]; done) | (simp [hx, enc, pieces]; omega) | omega | (first | (rw [List.map_append]; rfl) | exact wrap64 (by omega))), (by first | exact rfl | (simp [hx, enc, pieces]; done) | (simp [hx, enc, pieces]; omega) | omega | (first | (rw [List.map_append]; rfl) | exact wrap64 (by omega))), (by first | exact rfl | (simp [hx, enc, pieces]; done) | (simp [hx, enc, pieces]; omega) | omega | (first | (rw [List.map_append]; rfl) | exact wrap64 (by omega))), (by first | exact rfl | (simp [hx, enc, pieces]; done) | (simp [hx, enc, pieces]; omega) | omega | (first | (rw [List.map_append]; rfl) | exact wrap64 (by omega))), (by first | exact rfl | (simp [hx, enc, pieces]; done) | (simp [hx, enc, pieces]; omega) | omega | (first | (rw [List.map_append]; rfl) | exact wrap64 (by omega))), ?q183_1, trivial⟩
    rw [List.length_map]
    exact ih
def refDrop (l : List Rn) (r : Rn) : List Rn := if r.t ≤ r.f then normL l else normL (cuts r l)
def refAdd (l : List Rn) (r : Rn) : List Rn := normL (l ++ [r])
theorem refdrop_ac (l : List Rn) (r : Rn) (hb : l.length ≤ 109951162777) : ACalls Try.prog 19 [.lst 2 (l.map enc), enc r] [] (.row 0 2 (refDrop l r).length) [.row 39 2 ((refDrop l r).map enc)] := by
  unfold refDrop
  by_cases h : r.t ≤ r.f
  · rw [if_pos h]
    have q := norm_ac l (by omega)
    refine acallsK mixed Try.func19 rfl [0, 1, 3, 4, 5, 6, 11, 17] 1000 ([.t, .call [] false false (.row 0 2 (normL l).length) [.row 39 2 ((normL l).map enc)]]) [] [1] (v1 := AV.row 0 2 (List.length (normL l))) (objs1 := [Obj.row 39 2 (List.map enc (normL l))]) (ob := [decide (Rn.t r ≤ Rn.f r) = true,
      ACalls Try.prog 32 [AV.lst 2 (List.map enc l)] [] (AV.row 0 2 (List.length (normL l))) [Obj.row 39 2 (List.map enc (normL l))]]) (by kernel_rfl) (by first | exact rfl | exact ⟨rfl, rfl⟩ | (simp [h]; done)) ⟨(by first | exact rfl | (simp [h]; done) | (simp [h]; omega) | omega), ?q193_1, trivial⟩
    exact q
  · rw [if_neg h]
    have q := norm_ac (cuts r l) (by rw [cuts_length]; omega)
    have p := cuts_loop r l (by omega) l.length 0 (by simp)
    refine acallsK mixed Try.func19 rfl [0, 1, 3, 4, 5, 6, 11, 17] 1000 ([.f, .mk 5 39 2, .lp [6, 5, 3, 0] [0, 1] (.exit 0) ⟨[(5, .row 0 2 (cuts r l).length)], [.row 39 2 ((cuts r l).map enc)]⟩, .call [] false false (.row 0 2 (normL (cuts r l)).length) [.row 39 2 ((normL (cuts r l)).map enc)]]) [] [1] (v1 := AV.row 0 2 (List.length (normL (cuts r l)))) (objs1 := [Obj.row 39 2 (List.map enc (normL (cuts r l)))]) (ob := [decide (Rn.t r ≤ Rn.f r) = false,
      ALoop Try.prog 0 53 (loopB Try.f19 0) { env := [(6, AV.int IntKind.i64 0), (5, AV.row 1 2 0), (3, AV.ptr 0 0), (0, AV.lst 2 (List.map enc l))], objs := [Obj.vars 39 [AV.int IntKind.u64 (Rn.f r), AV.int IntKind.u64 (Rn.t r)], Obj.row 39 2 []] } (Ex.exit 0) { env := [(5, AV.row 0 2 (List.length (cuts r l)))], objs := [Obj.row 39 2 (List.map enc (cuts r l))] },
      ACalls Try.prog 32 [AV.lst 2 (List.map enc (cuts r l))] [] (AV.row 0 2 (List.length (normL (cuts r l)))) [Obj.row 39 2 (List.map enc (normL (cuts r l)))]]) (by kernel_rfl) (by first | exact rfl | exact ⟨rfl, rfl⟩ | (simp [h]; done)) ⟨(by first | exact rfl | (simp [h]; done) | (simp [h]; omega) | omega), ?q198_1, ?q198_2, trivial⟩
    · exact p
    · exact q
theorem refadd_ac (l : List Rn) (r : Rn) (hb : l.length ≤ 109951162777) : ACalls Try.prog 20 [.lst 2 (l.map enc), enc r] [] (.row 0 2 (refAdd l r).length) [.row 39 2 ((refAdd l r).map enc)] := by
  unfold refAdd
  have q := norm_ac (l ++ [r]) (by simp; omega)
  refine acallsK mixed Try.func20 rfl [0, 1, 3, 4] 1000 ([.ls (l.map enc), .ls ((l ++ [r]).map enc), .call [] false false (.row 0 2 (normL (l ++ [r])).length) [.row 39 2 ((normL (l ++ [r])).map enc)]]) [] [5] (v1 := AV.row 0 2 (List.length (normL (l ++ [r])))) (objs1 := [Obj.row 39 2 (List.map enc (normL (l ++ [r])))]) (ob := [((0 : Nat) + List.length (List.map enc l)) * (16 : Nat) ≤ (140737488355328 : Nat),
      [] ++ List.map enc l = List.map enc l,
      (List.length (List.map enc l) + (1 : Nat)) * (16 : Nat) ≤ (140737488355328 : Nat),
      List.map enc l ++ [AV.agg [AV.int IntKind.u64 (Rn.f r), AV.int IntKind.u64 (Rn.t r)]] = List.map enc (l ++ [r]),
      ACalls Try.prog 32 [AV.lst 2 (List.map enc (l ++ [r]))] [] (AV.row 0 2 (List.length (normL (l ++ [r])))) [Obj.row 39 2 (List.map enc (normL (l ++ [r])))]]) (by kernel_rfl) (by first | exact rfl | exact ⟨rfl, rfl⟩ | (simp [enc]; done)) ⟨(by first | exact rfl | (simp [enc]; done) | (simp [enc]; omega) | omega), (by first | exact rfl | (simp [enc]; done) | (simp [enc]; omega) | omega), (by first | exact rfl | (simp [enc]; done) | (simp [enc]; omega) | omega), (by first | exact rfl | (simp [enc]; done) | (simp [enc]; omega) | omega), ?q204_1, trivial⟩
  exact q
end Go.Proofs.Ytaphhmefkfhepaa.Run
