/- slices.Concat at ints: by runs along paths. -/
import Derived.Test.YtidgcfgkcidkiaaChI
import Derived.Test.YtidgcfgkcidkiaaChF
namespace Go.Proofs.Ytidgcfgkcidkiaa.Ch
open Go Go.RowKit Go.Proofs.Ytidgcfgkcidkiaa.L Go.Proofs.Ytidgcfgkcidkiaa.X
set_option linter.unusedVariables false
set_option linter.unusedSimpArgs false

def catL (l : List (List Int)) : List Int := l.flatten
theorem catL_step {l : List (List Int)} {k : Nat} {x : List Int} (h : l[k]? = some x) : catL (l.take (k + 1)) = catL (l.take k) ++ x := by
  unfold catL; rw [List.take_add_one, h, List.flatten_append]; simp
theorem catL_take (l : List (List Int)) (k : Nat) : (catL (l.take k)).length ≤ (catL l).length := by
  have : catL l = catL (l.take k) ++ catL (l.drop k) := by unfold catL; rw [← List.flatten_append, List.take_append_drop]
  rw [this, List.length_append]; omega
theorem size_loop (l : List (List Int)) (hb : (catL l).length ≤ 1099511627776) (hl : l.length ≤ 1099511627776) : ∀ (n k : Nat), l.length = k + n →
    ALoop Try.prog 0 Try.f39.ntmps (loopB Try.f39 0) ⟨[(11, .int .i64 k), (10, .int .i64 l.length), (9, .lst 1 (l.map encU)), (3, .int .i64 (catL (l.take k)).length), (0, .lst 1 (l.map encU))], []⟩ (.exit 0) ⟨[(3, .int .i64 (catL l).length), (0, .lst 1 (l.map encU))], []⟩
  | 0, k, h => by
    rw [List.take_of_length_le (by omega)]
    refine aloopK mixed [0, 2, 3, 5, 6, 8, 9, 10, 11, 12, 20, 25, 26, 27, 28] 1000 ([.go, .f]) [3, 0] [] (S1 := { env := [(3, AV.int IntKind.i64 (↑(List.length (catL l)) : Int)), (0, AV.lst 1 (List.map encU l))], objs := [] }) (ob := [decide ((↑k : Int) < (↑(List.length l) : Int)) = false]) (by kernel_rfl) (by first | exact rfl | exact ⟨rfl, rfl⟩ | (simp []; done)) ⟨(by first | exact rfl | (simp []; done) | (simp []; omega) | omega), trivial⟩
  | n + 1, k, h => by
    obtain ⟨x, hx⟩ := get_of (l := l) (k := k) (by omega)
    have ih := size_loop l hb hl n (k + 1) (by omega)
    have h1 := catL_take l (k + 1)
    rw [catL_step hx] at ih h1
    generalize catL (l.take k) = q at ih h1
    have hw : IntKind.i64.wrap ((q.length : Int) + (x.length : Int)) = (((q ++ x).length : Nat) : Int) := by
      rw [List.length_append] at h1 ⊢
      simp [IntKind.wrap, IntKind.bits, IntKind.signed]; omega
    refine aloopK mixed [0, 2, 3, 5, 6, 8, 9, 10, 11, 12, 20, 25, 26, 27, 28] 1000 ([.go, .t, .ix k, .el (encU x), .n x.length, .n (((q ++ x).length : Nat) : Int), .f, .n ((k + 1 : Nat) : Int), .lp [11, 10, 9, 3, 0] [] (.exit 0) ⟨[(3, .int .i64 (catL l).length), (0, .lst 1 (l.map encU))], []⟩]) [3, 0] [] (S1 := { env := [(3, AV.int IntKind.i64 (↑(List.length (catL l)) : Int)), (0, AV.lst 1 (List.map encU l))], objs := [] }) (ob := [decide ((↑k : Int) < (↑(List.length l) : Int)) = true,
      k < List.length (List.map encU l),
      (↑k : Int) = (↑k : Int),
      (List.map encU l)[k]? = some (AV.lst (nat_lit 1) (List.map intA x)),
      (↑(List.length (List.map intA x)) : Int) = (↑(List.length x) : Int),
      IntKind.wrap IntKind.i64 ((↑(List.length q) : Int) + (↑(List.length x) : Int)) = (↑(List.length (q ++ x)) : Int),
      decide ((↑(List.length (q ++ x)) : Int) < (0 : Int)) = false,
      IntKind.wrap IntKind.i64 ((↑k : Int) + (1 : Int)) = (↑(k + (1 : Nat)) : Int),
      ALoop Try.prog 0 36 (loopB Try.f39 0) { env := [(11, AV.int IntKind.i64 (↑(k + 1) : Int)), (10, AV.int IntKind.i64 (↑(List.length l) : Int)), (9, AV.lst 1 (List.map encU l)), (3, AV.int IntKind.i64 (↑(List.length (q ++ x)) : Int)), (0, AV.lst 1 (List.map encU l))], objs := [] } (Ex.exit 0) { env := [(3, AV.int IntKind.i64 (↑(List.length (catL l)) : Int)), (0, AV.lst 1 (List.map encU l))], objs := [] }]) (by kernel_rfl) (by first | exact rfl | exact ⟨rfl, rfl⟩ | (simp [hx, encU]; done) | (first | omega | exact hw | exact wrap64 (by omega))) ⟨(by first | exact rfl | (simp [hx, encU]; done) | (simp [hx, encU]; omega) | omega | (first | omega | exact hw | exact wrap64 (by omega))), (by first | exact rfl | (simp [hx, encU]; done) | (simp [hx, encU]; omega) | omega | (first | omega | exact hw | exact wrap64 (by omega))), (by first | exact rfl | (simp [hx, encU]; done) | (simp [hx, encU]; omega) | omega | (first | omega | exact hw | exact wrap64 (by omega))), (by first | exact rfl | (simp [hx, encU]; done) | (simp [hx, encU]; omega) | omega | (first | omega | exact hw | exact wrap64 (by omega))), (by first | exact rfl | (simp [hx, encU]; done) | (simp [hx, encU]; omega) | omega | (first | omega | exact hw | exact wrap64 (by omega))), (by first | exact rfl | (simp [hx, encU]; done) | (simp [hx, encU]; omega) | omega | (first | omega | exact hw | exact wrap64 (by omega))), (by first | exact rfl | (simp [hx, encU]; done) | (simp [hx, encU]; omega) | omega | (first | omega | exact hw | exact wrap64 (by omega))), (by first | exact rfl | (simp [hx, encU]; done) | (simp [hx, encU]; omega) | omega | (first | omega | exact hw | exact wrap64 (by omega))), ?q28_1, trivial⟩
    exact ih
theorem cat_loop (l : List (List Int)) (hb : (catL l).length ≤ 1099511627776) (hl : l.length ≤ 1099511627776) : ∀ (n k : Nat), l.length = k + n →
    ALoop Try.prog 0 Try.f39.ntmps (loopB Try.f39 1) ⟨[(27, .int .i64 k), (26, .int .i64 l.length), (25, .lst 1 (l.map encU)), (6, .row 0 1 (catL (l.take k)).length)], [.row 3 1 ((catL (l.take k)).map intA)]⟩ (.exit 2) ⟨[(6, .row 0 1 (catL l).length)], [.row 3 1 ((catL l).map intA)]⟩
  | 0, k, h => by
    rw [List.take_of_length_le (by omega)]
    refine aloopK mixed [0, 2, 3, 5, 6, 8, 9, 10, 11, 12, 20, 25, 26, 27, 28] 1000 ([.go, .f]) [6] [0] (S1 := { env := [(6, AV.row 0 1 (List.length (catL l)))], objs := [Obj.row 3 1 (List.map intA (catL l))] }) (ob := [decide ((↑k : Int) < (↑(List.length l) : Int)) = false]) (by kernel_rfl) (by first | exact rfl | exact ⟨rfl, rfl⟩ | (simp []; done)) ⟨(by first | exact rfl | (simp []; done) | (simp []; omega) | omega), trivial⟩
  | n + 1, k, h => by
    obtain ⟨x, hx⟩ := get_of (l := l) (k := k) (by omega)
    have ih := cat_loop l hb hl n (k + 1) (by omega)
    have h1 := catL_take l (k + 1)
    rw [catL_step hx] at ih h1
    rw [List.length_append] at h1
    generalize catL (l.take k) = q at ih h1
    refine aloopK mixed [0, 2, 3, 5, 6, 8, 9, 10, 11, 12, 20, 25, 26, 27, 28] 1000 ([.go, .t, .ix k, .el (encU x), .ls ((q ++ x).map intA), .n ((k + 1 : Nat) : Int), .lp [27, 26, 25, 6] [1] (.exit 2) ⟨[(6, .row 0 1 (catL l).length)], [.row 3 1 ((catL l).map intA)]⟩]) [6] [0] (S1 := { env := [(6, AV.row 0 1 (List.length (catL l)))], objs := [Obj.row 3 1 (List.map intA (catL l))] }) (ob := [decide ((↑k : Int) < (↑(List.length l) : Int)) = true,
      k < List.length (List.map encU l),
      (↑k : Int) = (↑k : Int),
      (List.map encU l)[k]? = some (AV.lst (nat_lit 1) (List.map intA x)),
      (List.length (List.map intA q) + List.length (List.map intA x)) * (8 : Nat) ≤ (140737488355328 : Nat),
      List.map intA q ++ List.map intA x = List.map intA (q ++ x),
      IntKind.wrap IntKind.i64 ((↑k : Int) + (1 : Int)) = (↑(k + (1 : Nat)) : Int),
      ALoop Try.prog 0 36 (loopB Try.f39 1) { env := [(27, AV.int IntKind.i64 (↑(k + 1) : Int)), (26, AV.int IntKind.i64 (↑(List.length l) : Int)), (25, AV.lst 1 (List.map encU l)), (6, AV.row 0 1 (List.length (List.map intA (q ++ x))))], objs := [Obj.row 3 1 (List.map intA (q ++ x))] } (Ex.exit 2) { env := [(6, AV.row 0 1 (List.length (catL l)))], objs := [Obj.row 3 1 (List.map intA (catL l))] }]) (by kernel_rfl) (by first | exact rfl | exact ⟨rfl, rfl⟩ | (simp [hx, encU]; done) | (first | (rw [List.map_append]; done) | exact wrap64 (by omega))) ⟨(by first | exact rfl | (simp [hx, encU]; done) | (simp [hx, encU]; omega) | omega | (first | (rw [List.map_append]; done) | exact wrap64 (by omega))), (by first | exact rfl | (simp [hx, encU]; done) | (simp [hx, encU]; omega) | omega | (first | (rw [List.map_append]; done) | exact wrap64 (by omega))), (by first | exact rfl | (simp [hx, encU]; done) | (simp [hx, encU]; omega) | omega | (first | (rw [List.map_append]; done) | exact wrap64 (by omega))), (by first | exact rfl | (simp [hx, encU]; done) | (simp [hx, encU]; omega) | omega | (first | (rw [List.map_append]; done) | exact wrap64 (by omega))), (by first | exact rfl | (simp [hx, encU]; done) | (simp [hx, encU]; omega) | omega | (first | (rw [List.map_append]; done) | exact wrap64 (by omega))), (by first | exact rfl | (simp [hx, encU]; done) | (simp [hx, encU]; omega) | omega | (first | (rw [List.map_append]; done) | exact wrap64 (by omega))), (by first | exact rfl | (simp [hx, encU]; done) | (simp [hx, encU]; omega) | omega | (first | (rw [List.map_append]; done) | exact wrap64 (by omega))), ?q42_1, trivial⟩
    rw [List.length_map]
    exact ih
theorem concat_ac (l : List (List Int)) (hb : (catL l).length ≤ 1099511627776) (hl : l.length ≤ 1099511627776) : ACalls Try.prog 39 [.lst 1 (l.map encU)] [] (.row 0 1 (catL l).length) [.row 3 1 ((catL l).map intA)] := by
  have q1 := size_loop l hb hl l.length 0 (by omega)
  have q2 := cat_loop l hb hl l.length 0 (by omega)
  have q3 := grow_ac (catL l).length hb
  rw [List.take_zero, show catL [] = [] from rfl] at q1 q2
  refine acallsK mixed Try.func39 rfl [0, 2, 3, 5, 6, 8, 9, 10, 11, 12, 20, 25, 26, 27, 28] 1000 ([.n l.length, .lp [11, 10, 9, 3, 0] [] (.exit 0) ⟨[(3, .int .i64 (catL l).length), (0, .lst 1 (l.map encU))], []⟩, .call [] false false (.row 0 1 0) [.row 3 1 []], .n l.length, .lp [27, 26, 25, 6] [0] (.exit 2) ⟨[(6, .row 0 1 (catL l).length)], [.row 3 1 ((catL l).map intA)]⟩]) [] [0] (v1 := AV.row 0 1 (List.length (catL l))) (objs1 := [Obj.row 3 1 (List.map intA (catL l))]) (ob := [(↑(List.length (List.map encU l)) : Int) = (↑(List.length l) : Int),
      ALoop Try.prog 0 36 (loopB Try.f39 0) { env := [(11, AV.int IntKind.i64 0), (10, AV.int IntKind.i64 (↑(List.length l) : Int)), (9, AV.lst 1 (List.map encU l)), (3, AV.int IntKind.i64 0), (0, AV.lst 1 (List.map encU l))], objs := [] } (Ex.exit 0) { env := [(3, AV.int IntKind.i64 (↑(List.length (catL l)) : Int)), (0, AV.lst 1 (List.map encU l))], objs := [] },
      ACalls Try.prog 75 [AV.nils, AV.int IntKind.i64 (↑(List.length (catL l)) : Int)] [] (AV.row 0 1 0) [Obj.row 3 1 []],
      (↑(List.length (List.map encU l)) : Int) = (↑(List.length l) : Int),
      ALoop Try.prog 0 36 (loopB Try.f39 1) { env := [(27, AV.int IntKind.i64 0), (26, AV.int IntKind.i64 (↑(List.length l) : Int)), (25, AV.lst 1 (List.map encU l)), (6, AV.row 0 1 0)], objs := [Obj.row 3 1 []] } (Ex.exit 2) { env := [(6, AV.row 0 1 (List.length (catL l)))], objs := [Obj.row 3 1 (List.map intA (catL l))] }]) (by kernel_rfl) (by first | exact rfl | exact ⟨rfl, rfl⟩ | (simp []; done)) ⟨(by first | exact rfl | (simp []; done) | (simp []; omega) | omega), ?q50_1, ?q50_2, (by first | exact rfl | (simp []; done) | (simp []; omega) | omega), ?q50_3, trivial⟩
  · exact q1
  · exact q3
  · exact q2
end Go.Proofs.Ytidgcfgkcidkiaa.Ch
