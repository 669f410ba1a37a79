/- The document's answer for what two sets have in common: by runs along paths. -/
import Derived.Test.YtaphhmefkfhepaaRunMv
import Derived.Test.YtaphhmefkfhepaaRunX
namespace Go.Proofs.Ytaphhmefkfhepaa.Run
open Go Go.RowKit Go.Proofs.Ytaphhmefkfhepaa.L Go.Proofs.Ytaphhmefkfhepaa.X
set_option linter.unusedVariables false
set_option linter.unusedSimpArgs false

def pairR (x y : Rn) : Rn := ⟨mx x.f y.f, mn x.t y.t⟩
def meetP (x : Rn) (b : List Rn) : List Rn := b.map (pairR x)
def meetsP (a b : List Rn) : List Rn := a.flatMap fun x => meetP x b
theorem meetP_step {b : List Rn} {k : Nat} {y : Rn} (h : b[k]? = some y) (x : Rn) : meetP x (b.take (k + 1)) = meetP x (b.take k) ++ [pairR x y] := by
  unfold meetP; rw [List.take_add_one, h, List.map_append]; rfl
theorem meetsP_step {a : List Rn} {k : Nat} {x : Rn} (h : a[k]? = some x) (b : List Rn) : meetsP (a.take (k + 1)) b = meetsP (a.take k) b ++ meetP x b := by
  unfold meetsP; rw [List.take_add_one, h, List.flatMap_append]; simp
theorem meetsP_length (a b : List Rn) : (meetsP a b).length = a.length * b.length := by
  induction a with
  | nil => simp [meetsP]
  | cons x a ih => unfold meetsP at ih ⊢; rw [List.flatMap_cons, List.length_append, ih, List.length_cons, Nat.succ_mul]; simp [meetP]; omega
theorem sm_inner (a b o : List Rn) (i : Nat) (x : Rn) (hx : a[i]? = some x) (ho : o.length ≤ 1000000) (hb : b.length ≤ 1000) : ∀ (n k : Nat), b.length = k + n →
    ALoop Try.prog 0 Try.f33.ntmps (loopB Try.f33 1) ⟨[(7, .int .i64 k), (6, .int .i64 i), (5, .row 0 2 (o ++ meetP x (b.take k)).length), (0, .lst 2 (a.map enc)), (1, .lst 2 (b.map enc))], [.row 39 2 ((o ++ meetP x (b.take k)).map enc)]⟩ (.exit 2)
      ⟨[(6, .int .i64 i), (5, .row 0 2 (o ++ meetP x b).length), (0, .lst 2 (a.map enc)), (1, .lst 2 (b.map enc))], [.row 39 2 ((o ++ meetP x b).map enc)]⟩
  | 0, k, h => by
    rw [List.take_of_length_le (by omega)]
    refine aloopK mixed [0, 1, 4, 5, 6, 7, 11, 17] 1000 ([.go, .n b.length, .f]) [6, 5, 0, 1] [0] (S1 := { env := [(6, AV.int IntKind.i64 (↑i : Int)), (5, AV.row 0 2 (List.length (o ++ meetP x b))), (0, AV.lst 2 (List.map enc a)), (1, AV.lst 2 (List.map enc b))], objs := [Obj.row 39 2 (List.map enc (o ++ meetP x b))] }) (ob := [(↑(List.length (List.map enc b)) : Int) = (↑(List.length b) : Int),
      decide ((↑k : Int) < (↑(List.length b) : Int)) = false]) (by kernel_rfl) (by first | exact rfl | exact ⟨rfl, rfl⟩ | (simp []; done)) ⟨(by first | exact rfl | (simp []; done) | (simp []; omega) | omega), (by first | exact rfl | (simp []; done) | (simp []; omega) | omega), trivial⟩
  | n + 1, k, h => by
    obtain ⟨y, hy⟩ := get_of (l := b) (k := k) (by omega)
    have ih := sm_inner a b o i x hx ho hb n (k + 1) (by omega)
    have hia : i < a.length := (List.getElem?_eq_some_iff.1 hx).1
    have hl : (o ++ meetP x (b.take k)).length ≤ 1001000 := by simp [meetP]; omega
    rw [meetP_step hy, ← List.append_assoc] at ih
    generalize o ++ meetP x (b.take k) = q at hl ih
    refine aloopK mixed [0, 1, 4, 5, 6, 7, 11, 17] 1000 ([.go, .n b.length, .t, .ix i, .el (enc x), .ix k, .el (enc y), .n (mx x.f y.f), .ix i, .el (enc x), .ix k, .el (enc y), .n (mn x.t y.t), .ls ((q ++ [pairR x y]).map enc), .n ((k + 1 : Nat) : Int), .lp [7, 6, 5, 0, 1] [2] (.exit 2) ⟨[(6, .int .i64 i), (5, .row 0 2 (o ++ meetP x b).length), (0, .lst 2 (a.map enc)), (1, .lst 2 (b.map enc))], [.row 39 2 ((o ++ meetP x b).map enc)]⟩]) [6, 5, 0, 1] [0] (S1 := { env := [(6, AV.int IntKind.i64 (↑i : Int)), (5, AV.row 0 2 (List.length (o ++ meetP x b))), (0, AV.lst 2 (List.map enc a)), (1, AV.lst 2 (List.map enc b))], objs := [Obj.row 39 2 (List.map enc (o ++ meetP x b))] }) (ob := [(↑(List.length (List.map enc b)) : Int) = (↑(List.length b) : Int),
      decide ((↑k : Int) < (↑(List.length b) : Int)) = true,
      i < List.length (List.map enc a),
      (↑i : Int) = (↑i : Int),
      (List.map enc a)[i]? = some (AV.agg [AV.int IntKind.u64 (Rn.f x), AV.int IntKind.u64 (Rn.t x)]),
      k < List.length (List.map enc b),
      (↑k : Int) = (↑k : Int),
      (List.map enc b)[k]? = some (AV.agg [AV.int IntKind.u64 (Rn.f y), AV.int IntKind.u64 (Rn.t y)]),
      mx (Rn.f x) (Rn.f y) = mx (Rn.f x) (Rn.f y),
      i < List.length (List.map enc a),
      (↑i : Int) = (↑i : Int),
      (List.map enc a)[i]? = some (AV.agg [AV.int IntKind.u64 (Rn.f x), AV.int IntKind.u64 (Rn.t x)]),
      k < List.length (List.map enc b),
      (↑k : Int) = (↑k : Int),
      (List.map enc b)[k]? = some (AV.agg [AV.int IntKind.u64 (Rn.f y), AV.int IntKind.u64 (Rn.t y)]),
      mn (Rn.t x) (Rn.t y) = mn (Rn.t x) (Rn.t y),
      (List.length (List.map enc q) + (1 : Nat)) * (16 : Nat) ≤ (140737488355328 : Nat),
      List.map enc q ++ [AV.agg [AV.int IntKind.u64 (mx (Rn.f x) (Rn.f y)), AV.int IntKind.u64 (mn (Rn.t x) (Rn.t y))]] = List.map enc (q ++ [pairR x y]),
      IntKind.wrap IntKind.i64 ((↑k : Int) + (1 : Int)) = (↑(k + (1 : Nat)) : Int),
      ALoop Try.prog 0 48 (loopB Try.f33 1) { env := [(7, AV.int IntKind.i64 (↑(k + 1) : Int)), (6, AV.int IntKind.i64 (↑i : Int)), (5, AV.row 0 2 (List.length (List.map enc (q ++ [pairR x y])))), (0, AV.lst 2 (List.map enc a)), (1, AV.lst 2 (List.map enc b))], objs := [Obj.row 39 2 (List.map enc (q ++ [pairR x y]))] } (Ex.exit 2) { env := [(6, AV.int IntKind.i64 (↑i : Int)), (5, AV.row 0 2 (List.length (o ++ meetP x b))), (0, AV.lst 2 (List.map enc a)), (1, AV.lst 2 (List.map enc b))], objs := [Obj.row 39 2 (List.map enc (o ++ meetP x b))] }]) (by kernel_rfl) (by first | exact rfl | exact ⟨rfl, rfl⟩ | (simp [hx, hy, enc, pairR]; done) | (first | (rw [List.map_append]; rfl) | (refine wrap64 (n := k) ?_; omega))) ⟨(by first | exact rfl | (simp [hx, hy, enc, pairR]; done) | (simp [hx, hy, enc, pairR]; omega) | omega | (first | (rw [List.map_append]; rfl) | (refine wrap64 (n := k) ?_; omega))), (by first | exact rfl | (simp [hx, hy, enc, pairR]; done) | (simp [hx, hy, enc, pairR]; omega) | omega | (first | (rw [List.map_append]; rfl) | (refine wrap64 (n := k) ?_; omega))), (by first | exact rfl | (simp [hx, hy, enc, pairR]; done) | (simp [hx, hy, enc, pairR]; omega) | omega | (first | (rw [List.map_append]; rfl) | (refine wrap64 (n := k) ?_; omega))), (by first | exact rfl | (simp [hx, hy, enc, pairR]; done) | (simp [hx, hy, enc, pairR]; omega) | omega | (first | (rw [List.map_append]; rfl) | (refine wrap64 (n := k) ?_; omega))), (by first | exact rfl | (simp [hx, hy, enc, pairR]; done) | (simp [hx, hy, enc, pairR]; omega) | omega | (first | (rw [List.map_append]; rfl) | (refine wrap64 (n := k) ?_; omega))), (by first | exact rfl | (simp [hx, hy, enc, pairR]; done) | (simp [hx, hy, enc, pairR]; omega) | omega | (first | (rw [List.map_append]; rfl) | (refine wrap64 (n := k) ?_; omega))), (by first | exact rfl | (simp [hx, hy, enc, pairR]; done) | (simp [hx, hy, enc, pairR]; omega) | omega | (first | (rw [List.map_append]; rfl) | (refine wrap64 (n := k) ?_; omega))), (by first | exact rfl | (simp [hx, hy, enc, pairR]; done) | (simp [hx, hy, enc, pairR]; omega) | omega | (first | (rw [List.map_append]; rfl) | (refine wrap64 (n := k) ?_; omega))), (by first | exact rfl | (simp [hx, hy, enc, pairR]; done) | (simp [hx, hy, enc, pairR]; omega) | omega | (first | (rw [List.map_append]; rfl) | (refine wrap64 (n := k) ?_; omega))), (by first | exact rfl | (simp [hx, hy, enc, pairR]; done) | (simp [hx, hy, enc, pairR]; omega) | omega | (first | (rw [List.map_append]; rfl) | (refine wrap64 (n := k) ?_; omega))), (by first | exact rfl | (simp [hx, hy, enc, pairR]; done) | (simp [hx, hy, enc, pairR]; omega) | omega | (first | (rw [List.map_append]; rfl) | (refine wrap64 (n := k) ?_; omega))), (by first | exact rfl | (simp [hx, hy, enc, pairR]; done) | (simp [hx, hy, enc, pairR]; omega) | omega | (first | (rw [List.map_append]; rfl) | (refine wrap64 (n := k) ?_; omega))), (by first | exact rfl | (simp [hx, hy, enc, pairR]; done) | (simp [hx, hy, enc, pairR]; omega) | omega | (first | (rw [List.map_append]; rfl) | (refine wrap64 (n := k) ?_; omega))), (by first | exact rfl | (simp [hx, hy, enc, pairR]; done) | (simp [hx, hy, enc, pairR]; omega) | omega | (first | (rw [List.map_append]; rfl) | (refine wrap64 (n := k) ?_; omega))), (by first | exact rfl | (simp [hx, hy, enc, pairR]; done) | (simp [hx, hy, enc, pairR]; omega) | omega | (first | (rw [List.map_append]; rfl) | (refine wrap64 (n := k) ?_; omega))), (by first | exact rfl | (simp [hx, hy, enc, pairR]; done) | (simp [hx, hy, enc, pairR]; omega) | omega | (first | (rw [List.map_append]; rfl) | (refine wrap64 (n := k) ?_; omega))), (by first | exact rfl | (simp [hx, hy, enc, pairR]; done) | (simp [hx, hy, enc, pairR]; omega) | omega | (first | (rw [List.map_append]; rfl) | (refine wrap64 (n := k) ?_; omega))), (by first | exact rfl | (simp [hx, hy, enc, pairR]; done) | (simp [hx, hy, enc, pairR]; omega) | omega | (first | (rw [List.map_append]; rfl) | (refine wrap64 (n := k) ?_; omega))), (by first | exact rfl | (simp [hx, hy, enc, pairR]; done) | (simp [hx, hy, enc, pairR]; omega) | omega | (first | (rw [List.map_append]; rfl) | (refine wrap64 (n := k) ?_; omega))), ?q32_1, trivial⟩
    rw [List.length_map]
    exact ih
theorem sm_outer (a b : List Rn) (ha : a.length ≤ 1000) (hb : b.length ≤ 1000) : ∀ (n i : Nat), a.length = i + n →
    ALoop Try.prog 0 Try.f33.ntmps (loopB Try.f33 0) ⟨[(6, .int .i64 i), (5, .row 0 2 (meetsP (a.take i) b).length), (0, .lst 2 (a.map enc)), (1, .lst 2 (b.map enc))], [.row 39 2 ((meetsP (a.take i) b).map enc)]⟩ (.exit 0)
      ⟨[(5, .row 0 2 (meetsP a b).length)], [.row 39 2 ((meetsP a b).map enc)]⟩
  | 0, i, h => by
    rw [List.take_of_length_le (by omega)]
    refine aloopK mixed [0, 1, 4, 5, 6, 7, 11, 17] 1000 ([.go, .n a.length, .f]) [5] [0] (S1 := { env := [(5, AV.row 0 2 (List.length (meetsP a b)))], objs := [Obj.row 39 2 (List.map enc (meetsP a b))] }) (ob := [(↑(List.length (List.map enc a)) : Int) = (↑(List.length a) : Int),
      decide ((↑i : Int) < (↑(List.length a) : Int)) = false]) (by kernel_rfl) (by first | exact rfl | exact ⟨rfl, rfl⟩ | (simp []; done)) ⟨(by first | exact rfl | (simp []; done) | (simp []; omega) | omega), (by first | exact rfl | (simp []; done) | (simp []; omega) | omega), trivial⟩
  | n + 1, i, h => by
    obtain ⟨x, hx⟩ := get_of (l := a) (k := i) (by omega)
    have ih := sm_outer a b ha hb n (i + 1) (by omega)
    have hl : (meetsP (a.take i) b).length ≤ 1000000 := by
      rw [meetsP_length, List.length_take]
      exact Nat.le_trans (Nat.mul_le_mul (show min i a.length ≤ 1000 by omega) hb) (by decide)
    have hi := sm_inner a b (meetsP (a.take i) b) i x hx hl hb b.length 0 (by omega)
    rw [List.take_zero, show meetP x [] = [] from rfl, List.append_nil, ← meetsP_step hx] at hi
    refine aloopK mixed [0, 1, 4, 5, 6, 7, 11, 17] 1000 ([.go, .n a.length, .t, .lp [7, 6, 5, 0, 1] [0] (.exit 2) ⟨[(6, .int .i64 i), (5, .row 0 2 (meetsP (a.take (i + 1)) b).length), (0, .lst 2 (a.map enc)), (1, .lst 2 (b.map enc))], [.row 39 2 ((meetsP (a.take (i + 1)) b).map enc)]⟩, .n ((i + 1 : Nat) : Int), .lp [6, 5, 0, 1] [0] (.exit 0) ⟨[(5, .row 0 2 (meetsP a b).length)], [.row 39 2 ((meetsP a b).map enc)]⟩]) [5] [0] (S1 := { env := [(5, AV.row 0 2 (List.length (meetsP a b)))], objs := [Obj.row 39 2 (List.map enc (meetsP a b))] }) (ob := [(↑(List.length (List.map enc a)) : Int) = (↑(List.length a) : Int),
      decide ((↑i : Int) < (↑(List.length a) : Int)) = true,
      ALoop Try.prog 0 48 (loopB Try.f33 1) { env := [(7, AV.int IntKind.i64 0), (6, AV.int IntKind.i64 (↑i : Int)), (5, AV.row 0 2 (List.length (meetsP (List.take i a) b))), (0, AV.lst 2 (List.map enc a)), (1, AV.lst 2 (List.map enc b))], objs := [Obj.row 39 2 (List.map enc (meetsP (List.take i a) b))] } (Ex.exit 2) { env := [(6, AV.int IntKind.i64 (↑i : Int)), (5, AV.row 0 2 (List.length (meetsP (List.take (i + 1) a) b))), (0, AV.lst 2 (List.map enc a)), (1, AV.lst 2 (List.map enc b))], objs := [Obj.row 39 2 (List.map enc (meetsP (List.take (i + 1) a) b))] },
      IntKind.wrap IntKind.i64 ((↑i : Int) + (1 : Int)) = (↑(i + (1 : Nat)) : Int),
      ALoop Try.prog 0 48 (loopB Try.f33 0) { env := [(6, AV.int IntKind.i64 (↑(i + 1) : Int)), (5, AV.row 0 2 (List.length (meetsP (List.take (i + 1) a) b))), (0, AV.lst 2 (List.map enc a)), (1, AV.lst 2 (List.map enc b))], objs := [Obj.row 39 2 (List.map enc (meetsP (List.take (i + 1) a) b))] } (Ex.exit 0) { env := [(5, AV.row 0 2 (List.length (meetsP a b)))], objs := [Obj.row 39 2 (List.map enc (meetsP a b))] }]) (by kernel_rfl) (by first | exact rfl | exact ⟨rfl, rfl⟩ | (simp [hx]; done) | (exact wrap64 (by omega))) ⟨(by first | exact rfl | (simp [hx]; done) | (simp [hx]; omega) | omega | (exact wrap64 (by omega))), (by first | exact rfl | (simp [hx]; done) | (simp [hx]; omega) | omega | (exact wrap64 (by omega))), ?q49_1, (by first | exact rfl | (simp [hx]; done) | (simp [hx]; omega) | omega | (exact wrap64 (by omega))), ?q49_2, trivial⟩
    · exact hi
    · exact ih
def refMeet (a b : List Rn) : List Rn := normL (meetsP a b)
theorem refmeet_ac (a b : List Rn) (ha : a.length ≤ 1000) (hb : b.length ≤ 1000) : ACalls Try.prog 33 [.lst 2 (a.map enc), .lst 2 (b.map enc)] [] (.row 0 2 (refMeet a b).length) [.row 39 2 ((refMeet a b).map enc)] := by
  have h := sm_outer a b ha hb a.length 0 (by omega)
  have hl : (meetsP a b).length ≤ 1000000 := by
    rw [meetsP_length]
    exact Nat.le_trans (Nat.mul_le_mul ha hb) (by decide)
  have hn := norm_ac (meetsP a b) (by omega)
  rw [List.take_zero, show meetsP [] b = [] from rfl] at h
  refine acallsK mixed Try.func33 rfl [0, 1, 4, 5, 6, 7, 11, 17] 1000 ([.mk 5 39 2, .lp [6, 5, 0, 1] [0] (.exit 0) ⟨[(5, .row 0 2 (meetsP a b).length)], [.row 39 2 ((meetsP a b).map enc)]⟩, .call [] false false (.row 0 2 (refMeet a b).length) [.row 39 2 ((refMeet a b).map enc)]]) [] [1] (v1 := AV.row 0 2 (List.length (refMeet a b))) (objs1 := [Obj.row 39 2 (List.map enc (refMeet a b))]) (ob := [ALoop Try.prog 0 48 (loopB Try.f33 0) { env := [(6, AV.int IntKind.i64 0), (5, AV.row 0 2 0), (0, AV.lst 2 (List.map enc a)), (1, AV.lst 2 (List.map enc b))], objs := [Obj.row 39 2 []] } (Ex.exit 0) { env := [(5, AV.row 0 2 (List.length (meetsP a b)))], objs := [Obj.row 39 2 (List.map enc (meetsP a b))] },
      ACalls Try.prog 32 [AV.lst 2 (List.map enc (meetsP a b))] [] (AV.row 0 2 (List.length (refMeet a b))) [Obj.row 39 2 (List.map enc (refMeet a b))]]) (by kernel_rfl) (by first | exact rfl | exact ⟨rfl, rfl⟩ | (simp []; done)) ⟨?q60_1, ?q60_2, trivial⟩
  · exact h
  · exact hn
theorem meetsP_mem (a b : List Rn) (n : Int) : Mem (meetsP a b) n ↔ Mem a n ∧ Mem b n := by
  constructor
  · rintro ⟨r, hr, h1, h2⟩
    obtain ⟨x, hx, hr⟩ := List.mem_flatMap.1 hr
    obtain ⟨y, hy, rfl⟩ := List.mem_map.1 hr
    obtain ⟨q1, q2⟩ := mx_le.1 h1
    obtain ⟨q3, q4⟩ := lt_mn.1 h2
    exact ⟨⟨x, hx, q1, q3⟩, ⟨y, hy, q2, q4⟩⟩
  · rintro ⟨⟨x, hx, q1, q3⟩, ⟨y, hy, q2, q4⟩⟩
    exact ⟨pairR x y, List.mem_flatMap.2 ⟨x, hx, List.mem_map.2 ⟨y, hy, rfl⟩⟩, mx_le.2 ⟨q1, q2⟩, lt_mn.2 ⟨q3, q4⟩⟩
theorem meetsP_64 {a b : List Rn} (ha : All64 a) (hb : All64 b) : All64 (meetsP a b) := by
  intro r hr
  obtain ⟨x, hx, hr⟩ := List.mem_flatMap.1 hr
  obtain ⟨y, hy, rfl⟩ := List.mem_map.1 hr
  exact ⟨mx_64 (ha x hx).1 (hb y hy).1, mn_64 (ha x hx).2 (hb y hy).2⟩
theorem refMeet_eq {a b : List Rn} (ha : Good a) (hb : Good b) : refMeet a b = metL a b := by
  obtain ⟨g1, e1⟩ := norm_spec (meetsP_64 ha.all hb.all)
  obtain ⟨g2, e2, _⟩ := met_spec ha hb ha.all hb.all
  exact good_unique (l := refMeet a b) g1 g2 fun n _ => by show Mem (normL (meetsP a b)) n ↔ _; rw [e1, meetsP_mem, e2]
theorem norm_build {l : List Rn} (h : All64 l) (hl : l.length ≤ 60) : normL l = buildL l := by
  obtain ⟨g1, e1⟩ := norm_spec h
  obtain ⟨g2, e2, _⟩ := build_spec h
  refine good_unique g1 g2 fun n _ => ?_
  rw [e1, e2, List.take_of_length_le hl]; exact Iff.rfl
theorem norm_join {a b : List Rn} (ha : Good a) (hb : Good b) : normL (a ++ b) = joinL a b := by
  obtain ⟨g1, e1⟩ := norm_spec (l := a ++ b) (fun r hr => by rcases List.mem_append.1 hr with h | h; exact ha.all r h; exact hb.all r h)
  obtain ⟨g2, e2, _⟩ := join_spec ha.all hb.all
  exact good_unique g1 g2 fun n _ => by rw [e1, mem_append, e2]
theorem norm_good {a : List Rn} (ha : Good a) : normL a = a := by
  obtain ⟨g1, e1⟩ := norm_spec ha.all
  exact good_unique g1 ha fun n _ => e1 n

theorem se_ac (a b : List Rn) (ha : All64 a) (hb : All64 b) : ACalls Try.prog 9 [.lst 2 (a.map enc), .lst 2 (b.map enc)] [] (.bool true) [] := by
  by_cases hla : 60 < a.length
  · refine acallsK mixed Try.func9 rfl [0, 1, 4, 5, 6, 7, 8, 9, 10, 11, 12, 13, 14, 15, 16, 24, 67] 1000 ([.n a.length, .t, .call [] false true (.bool true) []]) [] [] (v1 := AV.bool true) (objs1 := []) (ob := [(↑(List.length (List.map enc a)) : Int) = (↑(List.length a) : Int),
      decide ((↑(List.length a) : Int) > (60 : Int)) = true,
      ACalls Try.prog 14 [] [] (AV.bool true) []]) (by kernel_rfl) (by first | exact rfl | exact ⟨rfl, rfl⟩ | (simp [hla]; done) | (omega)) ⟨(by first | exact rfl | (simp [hla]; done) | (simp [hla]; omega) | omega | (omega)), (by first | exact rfl | (simp [hla]; done) | (simp [hla]; omega) | omega | (omega)), ?q9_1, trivial⟩
    exact alive_ac
  by_cases hlb : 60 < b.length
  · refine acallsK mixed Try.func9 rfl [0, 1, 4, 5, 6, 7, 8, 9, 10, 11, 12, 13, 14, 15, 16, 24, 67] 1000 ([.n a.length, .f, .n b.length, .t, .call [] false true (.bool true) []]) [] [] (v1 := AV.bool true) (objs1 := []) (ob := [(↑(List.length (List.map enc a)) : Int) = (↑(List.length a) : Int),
      decide ((↑(List.length a) : Int) > (60 : Int)) = false,
      (↑(List.length (List.map enc b)) : Int) = (↑(List.length b) : Int),
      decide ((↑(List.length b) : Int) > (60 : Int)) = true,
      ACalls Try.prog 14 [] [] (AV.bool true) []]) (by kernel_rfl) (by first | exact rfl | exact ⟨rfl, rfl⟩ | (simp [hla, hlb]; done) | (omega)) ⟨(by first | exact rfl | (simp [hla, hlb]; done) | (simp [hla, hlb]; omega) | omega | (omega)), (by first | exact rfl | (simp [hla, hlb]; done) | (simp [hla, hlb]; omega) | omega | (omega)), (by first | exact rfl | (simp [hla, hlb]; done) | (simp [hla, hlb]; omega) | omega | (omega)), (by first | exact rfl | (simp [hla, hlb]; done) | (simp [hla, hlb]; omega) | omega | (omega)), ?q12_1, trivial⟩
    exact alive_ac
  obtain ⟨gA, _, lA⟩ := build_spec ha
  obtain ⟨gB, _, lB⟩ := build_spec hb
  have qa := built_ac a ha
  have qb := built_ac b hb
  have na := norm_ac a (by omega)
  have nb := norm_ac b (by omega)
  rw [norm_build ha (by omega)] at na
  rw [norm_build hb (by omega)] at nb
  have eA : Good a → buildL a = a := fun h => by rw [← norm_build ha (by omega)]; exact norm_good h
  generalize buildL a = A at gA lA qa na eA
  generalize buildL b = B at gB lB qb nb
  have ta := told_ac a (by omega)
  have tb := told_ac b (by omega)
  obtain ⟨gM, eM, lM⟩ := met_spec gA gB gA.all gB.all
  obtain ⟨gJ, eJ, lJ⟩ := join_spec gA.all gB.all
  have qM := meet_two gA gB (by omega) (by omega)
  have qJ := join_two gA gB (by omega) (by omega)
  have qrm := refmeet_ac A B (by omega) (by omega)
  rw [refMeet_eq gA gB] at qrm
  have nJ := norm_ac (A ++ B) (by simp; omega)
  rw [norm_join gA gB] at nJ
  have qE := meet_none gA (by omega)
  have qF := join_none gB (by omega)
  obtain ⟨gE, eE, lE⟩ := met_spec gA good_nil gA.all good_nil.all
  obtain ⟨gF, eF, lF⟩ := join_spec (a := []) (b := B) (fun r h => by cases h) gB.all
  have iE : metL A [] = [] := good_unique gE good_nil fun n _ => by rw [eE]; exact ⟨fun h => h.2, fun h => absurd h (mem_nil n)⟩
  have iF : joinL [] B = B := good_unique gF gB fun n _ => by rw [eF]; exact ⟨fun h => h.resolve_left (mem_nil n), .inr⟩
  obtain ⟨E, hE0⟩ : ∃ E : List Rn, E = [] := ⟨[], rfl⟩
  rw [iE, ← hE0] at qE
  rw [iF] at qF
  have gE0 : Good E := by rw [hE0]; exact good_nil
  have hEl : E.length = 0 := by rw [hE0]; rfl
  generalize metL A B = M at gM eM lM qM qrm
  generalize joinL A B = J at gJ eJ lJ qJ nJ
  clear gE eE lE gF eF lF iE iF
  have rM := runs_ac gM (by omega)
  have tM := told_ac M (by omega)
  have sM := same_ac M M (by omega)
  have rJ := runs_ac gJ (by omega)
  have tJ := told_ac J (by omega)
  have sJ := same_ac J J (by omega)
  have rB := runs_ac gB (by omega)
  have rE := runs_ac gE0 (by omega)
  have sa := same_ac a A (by omega)
  by_cases hg0 : Good a
  · have hg : a = A := (eA hg0).symm
    have qo := of_good_ac a hg0 (by omega)
    have ra2 := runs_ac hg0 (by omega)
    refine acallsK mixed Try.func9 rfl [0, 1, 4, 5, 6, 7, 8, 9, 10, 11, 12, 13, 14, 15, 16, 24, 67] 1000 ([.n a.length, .f, .n b.length, .f, .call [] false false (.ptr 0 0) (setObjs A), .call [] false false (.ptr 0 0) (setObjs B), .call [] false false (.row 0 2 a.length) [.row 39 2 (a.map enc)], .call [] false false (.row 0 2 A.length) [.row 39 2 (A.map enc)], .call [] false false (.row 0 2 b.length) [.row 39 2 (b.map enc)], .call [] false false (.row 0 2 B.length) [.row 39 2 (B.map enc)], .call [0, 1, 2, 3] false false (.ptr 4 0) (setObjs2 A B ++ [.vars 62 [.row 5 2 M.length], .row 30 2 (M.map enc)]), .call [0, 9, 2, 11] false false (.ptr 4 0) (setObjs2 A B ++ [.vars 62 [.row 5 2 J.length], .row 30 2 (J.map enc)]), .call [] false false (.tup [.ptr 0 0, .bool true]) (setObjs a), .call [] false false (.row 0 2 a.length) [.row 39 2 (a.map enc)], .call [] false true (.bool true) [], .f, .f, .call [12, 13] false false (.row 2 2 M.length) (setObjs M ++ [.row 30 2 (M.map enc)]), .call [] false false (.row 0 2 M.length) [.row 39 2 (M.map enc)], .call [] false false (.row 0 2 M.length) [.row 39 2 (M.map enc)], .call [] false true (.bool true) [], .call [18, 19] false false (.row 2 2 J.length) (setObjs J ++ [.row 30 2 (J.map enc)]), .call [] false false (.row 0 2 J.length) [.row 39 2 (J.map enc)], .ls (A.map enc), .ls ((A ++ B).map enc), .call [] false false (.row 0 2 J.length) [.row 39 2 (J.map enc)], .call [] false true (.bool true) [], .call [0, 15] false false (.ptr 2 0) (setObjs A ++ [.vars 62 [.row 3 2 E.length], .row 30 2 (E.map enc)]), .call [38, 39] false false (.row 2 2 E.length) (setObjs E ++ [.row 30 2 (E.map enc)]), .n 0, .t, .call [2, 17] false false (.ptr 2 0) (setObjs B ++ [.vars 62 [.row 3 2 B.length], .row 30 2 (B.map enc)]), .call [45, 46] false false (.row 2 2 B.length) (setObjs B ++ [.row 30 2 (B.map enc)]), .n B.length, .n B.length, .t, .call [] false true (.bool true) [], .call [20, 21] false false (.row 2 2 a.length) (setObjs a ++ [.row 30 2 (a.map enc)]), .call [] false false (.row 0 2 a.length) [.row 39 2 (a.map enc)], .call [] false true (.bool true) []]) [] [] (v1 := AV.bool true) (objs1 := []) (ob := [(↑(List.length (List.map enc a)) : Int) = (↑(List.length a) : Int),
      decide ((↑(List.length a) : Int) > (60 : Int)) = false,
      (↑(List.length (List.map enc b)) : Int) = (↑(List.length b) : Int),
      decide ((↑(List.length b) : Int) > (60 : Int)) = false,
      ACalls Try.prog 10 [AV.lst 2 (List.map enc a)] [] (AV.ptr 0 0) [Obj.vars 62 [AV.row 1 2 (List.length A)], Obj.row 30 2 (List.map enc A)],
      ACalls Try.prog 10 [AV.lst 2 (List.map enc b)] [] (AV.ptr 0 0) [Obj.vars 62 [AV.row 1 2 (List.length B)], Obj.row 30 2 (List.map enc B)],
      ACalls Try.prog 24 [AV.lst 2 (List.map enc a)] [] (AV.row 0 2 (List.length a)) [Obj.row 39 2 (List.map enc a)],
      ACalls Try.prog 32 [AV.lst 2 (List.map enc a)] [] (AV.row 0 2 (List.length A)) [Obj.row 39 2 (List.map enc A)],
      ACalls Try.prog 24 [AV.lst 2 (List.map enc b)] [] (AV.row 0 2 (List.length b)) [Obj.row 39 2 (List.map enc b)],
      ACalls Try.prog 32 [AV.lst 2 (List.map enc b)] [] (AV.row 0 2 (List.length B)) [Obj.row 39 2 (List.map enc B)],
      ACalls Try.prog 30 [AV.ptr 0 0, AV.ptr 2 0] [Obj.vars 62 [AV.row 1 2 (List.length A)], Obj.row 30 2 (List.map enc A), Obj.vars 62 [AV.row 3 2 (List.length B)], Obj.row 30 2 (List.map enc B)] (AV.ptr 4 0) [Obj.vars 62 [AV.row 1 2 (List.length A)], Obj.row 30 2 (List.map enc A), Obj.vars 62 [AV.row 3 2 (List.length B)], Obj.row 30 2 (List.map enc B), Obj.vars 62 [AV.row 5 2 (List.length M)], Obj.row 30 2 (List.map enc M)],
      ACalls Try.prog 31 [AV.ptr 0 0, AV.ptr 2 0] [Obj.vars 62 [AV.row 1 2 (List.length A)], Obj.row 30 2 (List.map enc A), Obj.vars 62 [AV.row 3 2 (List.length B)], Obj.row 30 2 (List.map enc B)] (AV.ptr 4 0) [Obj.vars 62 [AV.row 1 2 (List.length A)], Obj.row 30 2 (List.map enc A), Obj.vars 62 [AV.row 3 2 (List.length B)], Obj.row 30 2 (List.map enc B), Obj.vars 62 [AV.row 5 2 (List.length J)], Obj.row 30 2 (List.map enc J)],
      ACalls Try.prog 29 [AV.lst 2 (List.map enc a)] [] (AV.tup [AV.ptr 0 0, AV.bool true]) [Obj.vars 62 [AV.row 1 2 (List.length a)], Obj.row 30 2 (List.map enc a)],
      ACalls Try.prog 24 [AV.lst 2 (List.map enc a)] [] (AV.row 0 2 (List.length a)) [Obj.row 39 2 (List.map enc a)],
      ACalls Try.prog 23 [AV.lst 2 (List.map enc a), AV.lst 2 (List.map enc A)] [] (AV.bool true) [],
      (!true == true) = false,
      (!true == true) = false,
      ACalls Try.prog 11 [AV.ptr 0 0] [Obj.vars 62 [AV.row 1 2 (List.length M)], Obj.row 30 2 (List.map enc M)] (AV.row 2 2 (List.length M)) [Obj.vars 62 [AV.row 1 2 (List.length M)], Obj.row 30 2 (List.map enc M), Obj.row 30 2 (List.map enc M)],
      ACalls Try.prog 24 [AV.lst 2 (List.map enc M)] [] (AV.row 0 2 (List.length M)) [Obj.row 39 2 (List.map enc M)],
      ACalls Try.prog 33 [AV.lst 2 (List.map enc A), AV.lst 2 (List.map enc B)] [] (AV.row 0 2 (List.length M)) [Obj.row 39 2 (List.map enc M)],
      ACalls Try.prog 23 [AV.lst 2 (List.map enc M), AV.lst 2 (List.map enc M)] [] (AV.bool true) [],
      ACalls Try.prog 11 [AV.ptr 0 0] [Obj.vars 62 [AV.row 1 2 (List.length J)], Obj.row 30 2 (List.map enc J)] (AV.row 2 2 (List.length J)) [Obj.vars 62 [AV.row 1 2 (List.length J)], Obj.row 30 2 (List.map enc J), Obj.row 30 2 (List.map enc J)],
      ACalls Try.prog 24 [AV.lst 2 (List.map enc J)] [] (AV.row 0 2 (List.length J)) [Obj.row 39 2 (List.map enc J)],
      ((0 : Nat) + List.length (List.map enc A)) * (16 : Nat) ≤ (140737488355328 : Nat),
      [] ++ List.map enc A = List.map enc A,
      (List.length (List.map enc A) + List.length (List.map enc B)) * (16 : Nat) ≤ (140737488355328 : Nat),
      List.map enc A ++ List.map enc B = List.map enc (A ++ B),
      ACalls Try.prog 32 [AV.lst 2 (List.map enc (A ++ B))] [] (AV.row 0 2 (List.length J)) [Obj.row 39 2 (List.map enc J)],
      ACalls Try.prog 23 [AV.lst 2 (List.map enc J), AV.lst 2 (List.map enc J)] [] (AV.bool true) [],
      ACalls Try.prog 30 [AV.ptr 0 0, AV.nilp] [Obj.vars 62 [AV.row 1 2 (List.length A)], Obj.row 30 2 (List.map enc A)] (AV.ptr 2 0) [Obj.vars 62 [AV.row 1 2 (List.length A)], Obj.row 30 2 (List.map enc A), Obj.vars 62 [AV.row 3 2 (List.length E)], Obj.row 30 2 (List.map enc E)],
      ACalls Try.prog 11 [AV.ptr 0 0] [Obj.vars 62 [AV.row 1 2 (List.length E)], Obj.row 30 2 (List.map enc E)] (AV.row 2 2 (List.length E)) [Obj.vars 62 [AV.row 1 2 (List.length E)], Obj.row 30 2 (List.map enc E), Obj.row 30 2 (List.map enc E)],
      (↑(List.length E) : Int) = (0 : Int),
      ((0 : Int) == (0 : Int)) = true,
      ACalls Try.prog 31 [AV.nilp, AV.ptr 0 0] [Obj.vars 62 [AV.row 1 2 (List.length B)], Obj.row 30 2 (List.map enc B)] (AV.ptr 2 0) [Obj.vars 62 [AV.row 1 2 (List.length B)], Obj.row 30 2 (List.map enc B), Obj.vars 62 [AV.row 3 2 (List.length B)], Obj.row 30 2 (List.map enc B)],
      ACalls Try.prog 11 [AV.ptr 0 0] [Obj.vars 62 [AV.row 1 2 (List.length B)], Obj.row 30 2 (List.map enc B)] (AV.row 2 2 (List.length B)) [Obj.vars 62 [AV.row 1 2 (List.length B)], Obj.row 30 2 (List.map enc B), Obj.row 30 2 (List.map enc B)],
      (↑(List.length B) : Int) = (↑(List.length B) : Int),
      (↑(List.length B) : Int) = (↑(List.length B) : Int),
      ((↑(List.length B) : Int) == (↑(List.length B) : Int)) = true,
      ACalls Try.prog 14 [] [] (AV.bool true) [],
      ACalls Try.prog 11 [AV.ptr 0 0] [Obj.vars 62 [AV.row 1 2 (List.length a)], Obj.row 30 2 (List.map enc a)] (AV.row 2 2 (List.length a)) [Obj.vars 62 [AV.row 1 2 (List.length a)], Obj.row 30 2 (List.map enc a), Obj.row 30 2 (List.map enc a)],
      ACalls Try.prog 24 [AV.lst 2 (List.map enc a)] [] (AV.row 0 2 (List.length a)) [Obj.row 39 2 (List.map enc a)],
      ACalls Try.prog 23 [AV.lst 2 (List.map enc a), AV.lst 2 (List.map enc A)] [] (AV.bool true) []]) (by kernel_rfl) (by first | exact rfl | exact ⟨rfl, rfl⟩ | (simp [setObjs, setObjs2, hEl]; done) | (first | rfl | omega | (rw [List.map_append]; done) | simp)) ⟨(by first | exact rfl | (simp [setObjs, setObjs2, hEl]; done) | (simp [setObjs, setObjs2, hEl]; omega) | omega | (first | rfl | omega | (rw [List.map_append]; done) | simp)), (by first | exact rfl | (simp [setObjs, setObjs2, hEl]; done) | (simp [setObjs, setObjs2, hEl]; omega) | omega | (first | rfl | omega | (rw [List.map_append]; done) | simp)), (by first | exact rfl | (simp [setObjs, setObjs2, hEl]; done) | (simp [setObjs, setObjs2, hEl]; omega) | omega | (first | rfl | omega | (rw [List.map_append]; done) | simp)), (by first | exact rfl | (simp [setObjs, setObjs2, hEl]; done) | (simp [setObjs, setObjs2, hEl]; omega) | omega | (first | rfl | omega | (rw [List.map_append]; done) | simp)), ?q62_1, ?q62_2, ?q62_3, ?q62_4, ?q62_5, ?q62_6, ?q62_7, ?q62_8, ?q62_9, ?q62_10, ?q62_11, (by first | exact rfl | (simp [setObjs, setObjs2, hEl]; done) | (simp [setObjs, setObjs2, hEl]; omega) | omega | (first | rfl | omega | (rw [List.map_append]; done) | simp)), (by first | exact rfl | (simp [setObjs, setObjs2, hEl]; done) | (simp [setObjs, setObjs2, hEl]; omega) | omega | (first | rfl | omega | (rw [List.map_append]; done) | simp)), ?q62_12, ?q62_13, ?q62_14, ?q62_15, ?q62_16, ?q62_17, (by first | exact rfl | (simp [setObjs, setObjs2, hEl]; done) | (simp [setObjs, setObjs2, hEl]; omega) | omega | (first | rfl | omega | (rw [List.map_append]; done) | simp)), (by first | exact rfl | (simp [setObjs, setObjs2, hEl]; done) | (simp [setObjs, setObjs2, hEl]; omega) | omega | (first | rfl | omega | (rw [List.map_append]; done) | simp)), (by first | exact rfl | (simp [setObjs, setObjs2, hEl]; done) | (simp [setObjs, setObjs2, hEl]; omega) | omega | (first | rfl | omega | (rw [List.map_append]; done) | simp)), (by first | exact rfl | (simp [setObjs, setObjs2, hEl]; done) | (simp [setObjs, setObjs2, hEl]; omega) | omega | (first | rfl | omega | (rw [List.map_append]; done) | simp)), ?q62_18, ?q62_19, ?q62_20, ?q62_21, (by first | exact rfl | (simp [setObjs, setObjs2, hEl]; done) | (simp [setObjs, setObjs2, hEl]; omega) | omega | (first | rfl | omega | (rw [List.map_append]; done) | simp)), (by first | exact rfl | (simp [setObjs, setObjs2, hEl]; done) | (simp [setObjs, setObjs2, hEl]; omega) | omega | (first | rfl | omega | (rw [List.map_append]; done) | simp)), ?q62_22, ?q62_23, (by first | exact rfl | (simp [setObjs, setObjs2, hEl]; done) | (simp [setObjs, setObjs2, hEl]; omega) | omega | (first | rfl | omega | (rw [List.map_append]; done) | simp)), (by first | exact rfl | (simp [setObjs, setObjs2, hEl]; done) | (simp [setObjs, setObjs2, hEl]; omega) | omega | (first | rfl | omega | (rw [List.map_append]; done) | simp)), (by first | exact rfl | (simp [setObjs, setObjs2, hEl]; done) | (simp [setObjs, setObjs2, hEl]; omega) | omega | (first | rfl | omega | (rw [List.map_append]; done) | simp)), ?q62_24, ?q62_25, ?q62_26, ?q62_27, trivial⟩
    · exact qa
    · exact qb
    · exact ta
    · exact na
    · exact tb
    · exact nb
    · exact qM
    · exact qJ
    · exact qo
    · exact ta
    · exact (by simpa [hg] using sa)
    · exact rM
    · exact tM
    · exact qrm
    · exact (by simpa using sM)
    · exact rJ
    · exact tJ
    · exact nJ
    · exact (by simpa using sJ)
    · exact qE
    · exact rE
    · exact qF
    · exact rB
    · exact alive_ac
    · exact ra2
    · exact ta
    · exact (by simpa [hg] using sa)
  · have hg : ¬ a = A := fun h => hg0 (by rw [h]; exact gA)
    have qo := of_bad_ac a ha hg0 (by omega)
    refine acallsK mixed Try.func9 rfl [0, 1, 4, 5, 6, 7, 8, 9, 10, 11, 12, 13, 14, 15, 16, 24, 67] 1000 ([.n a.length, .f, .n b.length, .f, .call [] false false (.ptr 0 0) (setObjs A), .call [] false false (.ptr 0 0) (setObjs B), .call [] false false (.row 0 2 a.length) [.row 39 2 (a.map enc)], .call [] false false (.row 0 2 A.length) [.row 39 2 (A.map enc)], .call [] false false (.row 0 2 b.length) [.row 39 2 (b.map enc)], .call [] false false (.row 0 2 B.length) [.row 39 2 (B.map enc)], .call [0, 1, 2, 3] false false (.ptr 4 0) (setObjs2 A B ++ [.vars 62 [.row 5 2 M.length], .row 30 2 (M.map enc)]), .call [0, 9, 2, 11] false false (.ptr 4 0) (setObjs2 A B ++ [.vars 62 [.row 5 2 J.length], .row 30 2 (J.map enc)]), .call [] false false (.tup [.nilp, .bool false]) [], .call [] false false (.row 0 2 a.length) [.row 39 2 (a.map enc)], .call [] false true (.bool false) [], .f, .f, .call [12, 13] false false (.row 2 2 M.length) (setObjs M ++ [.row 30 2 (M.map enc)]), .call [] false false (.row 0 2 M.length) [.row 39 2 (M.map enc)], .call [] false false (.row 0 2 M.length) [.row 39 2 (M.map enc)], .call [] false true (.bool true) [], .call [18, 19] false false (.row 2 2 J.length) (setObjs J ++ [.row 30 2 (J.map enc)]), .call [] false false (.row 0 2 J.length) [.row 39 2 (J.map enc)], .ls (A.map enc), .ls ((A ++ B).map enc), .call [] false false (.row 0 2 J.length) [.row 39 2 (J.map enc)], .call [] false true (.bool true) [], .call [0, 15] false false (.ptr 2 0) (setObjs A ++ [.vars 62 [.row 3 2 E.length], .row 30 2 (E.map enc)]), .call [36, 37] false false (.row 2 2 E.length) (setObjs E ++ [.row 30 2 (E.map enc)]), .n 0, .t, .call [2, 17] false false (.ptr 2 0) (setObjs B ++ [.vars 62 [.row 3 2 B.length], .row 30 2 (B.map enc)]), .call [43, 44] false false (.row 2 2 B.length) (setObjs B ++ [.row 30 2 (B.map enc)]), .n B.length, .n B.length, .t, .call [] false true (.bool true) []]) [] [] (v1 := AV.bool true) (objs1 := []) (ob := [(↑(List.length (List.map enc a)) : Int) = (↑(List.length a) : Int),
      decide ((↑(List.length a) : Int) > (60 : Int)) = false,
      (↑(List.length (List.map enc b)) : Int) = (↑(List.length b) : Int),
      decide ((↑(List.length b) : Int) > (60 : Int)) = false,
      ACalls Try.prog 10 [AV.lst 2 (List.map enc a)] [] (AV.ptr 0 0) [Obj.vars 62 [AV.row 1 2 (List.length A)], Obj.row 30 2 (List.map enc A)],
      ACalls Try.prog 10 [AV.lst 2 (List.map enc b)] [] (AV.ptr 0 0) [Obj.vars 62 [AV.row 1 2 (List.length B)], Obj.row 30 2 (List.map enc B)],
      ACalls Try.prog 24 [AV.lst 2 (List.map enc a)] [] (AV.row 0 2 (List.length a)) [Obj.row 39 2 (List.map enc a)],
      ACalls Try.prog 32 [AV.lst 2 (List.map enc a)] [] (AV.row 0 2 (List.length A)) [Obj.row 39 2 (List.map enc A)],
      ACalls Try.prog 24 [AV.lst 2 (List.map enc b)] [] (AV.row 0 2 (List.length b)) [Obj.row 39 2 (List.map enc b)],
      ACalls Try.prog 32 [AV.lst 2 (List.map enc b)] [] (AV.row 0 2 (List.length B)) [Obj.row 39 2 (List.map enc B)],
      ACalls Try.prog 30 [AV.ptr 0 0, AV.ptr 2 0] [Obj.vars 62 [AV.row 1 2 (List.length A)], Obj.row 30 2 (List.map enc A), Obj.vars 62 [AV.row 3 2 (List.length B)], Obj.row 30 2 (List.map enc B)] (AV.ptr 4 0) [Obj.vars 62 [AV.row 1 2 (List.length A)], Obj.row 30 2 (List.map enc A), Obj.vars 62 [AV.row 3 2 (List.length B)], Obj.row 30 2 (List.map enc B), Obj.vars 62 [AV.row 5 2 (List.length M)], Obj.row 30 2 (List.map enc M)],
      ACalls Try.prog 31 [AV.ptr 0 0, AV.ptr 2 0] [Obj.vars 62 [AV.row 1 2 (List.length A)], Obj.row 30 2 (List.map enc A), Obj.vars 62 [AV.row 3 2 (List.length B)], Obj.row 30 2 (List.map enc B)] (AV.ptr 4 0) [Obj.vars 62 [AV.row 1 2 (List.length A)], Obj.row 30 2 (List.map enc A), Obj.vars 62 [AV.row 3 2 (List.length B)], Obj.row 30 2 (List.map enc B), Obj.vars 62 [AV.row 5 2 (List.length J)], Obj.row 30 2 (List.map enc J)],
      ACalls Try.prog 29 [AV.lst 2 (List.map enc a)] [] (AV.tup [AV.nilp, AV.bool false]) [],
      ACalls Try.prog 24 [AV.lst 2 (List.map enc a)] [] (AV.row 0 2 (List.length a)) [Obj.row 39 2 (List.map enc a)],
      ACalls Try.prog 23 [AV.lst 2 (List.map enc a), AV.lst 2 (List.map enc A)] [] (AV.bool false) [],
      (!false == false) = false,
      (!false == false) = false,
      ACalls Try.prog 11 [AV.ptr 0 0] [Obj.vars 62 [AV.row 1 2 (List.length M)], Obj.row 30 2 (List.map enc M)] (AV.row 2 2 (List.length M)) [Obj.vars 62 [AV.row 1 2 (List.length M)], Obj.row 30 2 (List.map enc M), Obj.row 30 2 (List.map enc M)],
      ACalls Try.prog 24 [AV.lst 2 (List.map enc M)] [] (AV.row 0 2 (List.length M)) [Obj.row 39 2 (List.map enc M)],
      ACalls Try.prog 33 [AV.lst 2 (List.map enc A), AV.lst 2 (List.map enc B)] [] (AV.row 0 2 (List.length M)) [Obj.row 39 2 (List.map enc M)],
      ACalls Try.prog 23 [AV.lst 2 (List.map enc M), AV.lst 2 (List.map enc M)] [] (AV.bool true) [],
      ACalls Try.prog 11 [AV.ptr 0 0] [Obj.vars 62 [AV.row 1 2 (List.length J)], Obj.row 30 2 (List.map enc J)] (AV.row 2 2 (List.length J)) [Obj.vars 62 [AV.row 1 2 (List.length J)], Obj.row 30 2 (List.map enc J), Obj.row 30 2 (List.map enc J)],
      ACalls Try.prog 24 [AV.lst 2 (List.map enc J)] [] (AV.row 0 2 (List.length J)) [Obj.row 39 2 (List.map enc J)],
      ((0 : Nat) + List.length (List.map enc A)) * (16 : Nat) ≤ (140737488355328 : Nat),
      [] ++ List.map enc A = List.map enc A,
      (List.length (List.map enc A) + List.length (List.map enc B)) * (16 : Nat) ≤ (140737488355328 : Nat),
      List.map enc A ++ List.map enc B = List.map enc (A ++ B),
      ACalls Try.prog 32 [AV.lst 2 (List.map enc (A ++ B))] [] (AV.row 0 2 (List.length J)) [Obj.row 39 2 (List.map enc J)],
      ACalls Try.prog 23 [AV.lst 2 (List.map enc J), AV.lst 2 (List.map enc J)] [] (AV.bool true) [],
      ACalls Try.prog 30 [AV.ptr 0 0, AV.nilp] [Obj.vars 62 [AV.row 1 2 (List.length A)], Obj.row 30 2 (List.map enc A)] (AV.ptr 2 0) [Obj.vars 62 [AV.row 1 2 (List.length A)], Obj.row 30 2 (List.map enc A), Obj.vars 62 [AV.row 3 2 (List.length E)], Obj.row 30 2 (List.map enc E)],
      ACalls Try.prog 11 [AV.ptr 0 0] [Obj.vars 62 [AV.row 1 2 (List.length E)], Obj.row 30 2 (List.map enc E)] (AV.row 2 2 (List.length E)) [Obj.vars 62 [AV.row 1 2 (List.length E)], Obj.row 30 2 (List.map enc E), Obj.row 30 2 (List.map enc E)],
      (↑(List.length E) : Int) = (0 : Int),
      ((0 : Int) == (0 : Int)) = true,
      ACalls Try.prog 31 [AV.nilp, AV.ptr 0 0] [Obj.vars 62 [AV.row 1 2 (List.length B)], Obj.row 30 2 (List.map enc B)] (AV.ptr 2 0) [Obj.vars 62 [AV.row 1 2 (List.length B)], Obj.row 30 2 (List.map enc B), Obj.vars 62 [AV.row 3 2 (List.length B)], Obj.row 30 2 (List.map enc B)],
      ACalls Try.prog 11 [AV.ptr 0 0] [Obj.vars 62 [AV.row 1 2 (List.length B)], Obj.row 30 2 (List.map enc B)] (AV.row 2 2 (List.length B)) [Obj.vars 62 [AV.row 1 2 (List.length B)], Obj.row 30 2 (List.map enc B), Obj.row 30 2 (List.map enc B)],
      (↑(List.length B) : Int) = (↑(List.length B) : Int),
      (↑(List.length B) : Int) = (↑(List.length B) : Int),
      ((↑(List.length B) : Int) == (↑(List.length B) : Int)) = true,
      ACalls Try.prog 14 [] [] (AV.bool true) []]) (by kernel_rfl) (by first | exact rfl | exact ⟨rfl, rfl⟩ | (simp [setObjs, setObjs2, hEl]; done) | (first | rfl | omega | (rw [List.map_append]; done) | simp)) ⟨(by first | exact rfl | (simp [setObjs, setObjs2, hEl]; done) | (simp [setObjs, setObjs2, hEl]; omega) | omega | (first | rfl | omega | (rw [List.map_append]; done) | simp)), (by first | exact rfl | (simp [setObjs, setObjs2, hEl]; done) | (simp [setObjs, setObjs2, hEl]; omega) | omega | (first | rfl | omega | (rw [List.map_append]; done) | simp)), (by first | exact rfl | (simp [setObjs, setObjs2, hEl]; done) | (simp [setObjs, setObjs2, hEl]; omega) | omega | (first | rfl | omega | (rw [List.map_append]; done) | simp)), (by first | exact rfl | (simp [setObjs, setObjs2, hEl]; done) | (simp [setObjs, setObjs2, hEl]; omega) | omega | (first | rfl | omega | (rw [List.map_append]; done) | simp)), ?q92_1, ?q92_2, ?q92_3, ?q92_4, ?q92_5, ?q92_6, ?q92_7, ?q92_8, ?q92_9, ?q92_10, ?q92_11, (by first | exact rfl | (simp [setObjs, setObjs2, hEl]; done) | (simp [setObjs, setObjs2, hEl]; omega) | omega | (first | rfl | omega | (rw [List.map_append]; done) | simp)), (by first | exact rfl | (simp [setObjs, setObjs2, hEl]; done) | (simp [setObjs, setObjs2, hEl]; omega) | omega | (first | rfl | omega | (rw [List.map_append]; done) | simp)), ?q92_12, ?q92_13, ?q92_14, ?q92_15, ?q92_16, ?q92_17, (by first | exact rfl | (simp [setObjs, setObjs2, hEl]; done) | (simp [setObjs, setObjs2, hEl]; omega) | omega | (first | rfl | omega | (rw [List.map_append]; done) | simp)), (by first | exact rfl | (simp [setObjs, setObjs2, hEl]; done) | (simp [setObjs, setObjs2, hEl]; omega) | omega | (first | rfl | omega | (rw [List.map_append]; done) | simp)), (by first | exact rfl | (simp [setObjs, setObjs2, hEl]; done) | (simp [setObjs, setObjs2, hEl]; omega) | omega | (first | rfl | omega | (rw [List.map_append]; done) | simp)), (by first | exact rfl | (simp [setObjs, setObjs2, hEl]; done) | (simp [setObjs, setObjs2, hEl]; omega) | omega | (first | rfl | omega | (rw [List.map_append]; done) | simp)), ?q92_18, ?q92_19, ?q92_20, ?q92_21, (by first | exact rfl | (simp [setObjs, setObjs2, hEl]; done) | (simp [setObjs, setObjs2, hEl]; omega) | omega | (first | rfl | omega | (rw [List.map_append]; done) | simp)), (by first | exact rfl | (simp [setObjs, setObjs2, hEl]; done) | (simp [setObjs, setObjs2, hEl]; omega) | omega | (first | rfl | omega | (rw [List.map_append]; done) | simp)), ?q92_22, ?q92_23, (by first | exact rfl | (simp [setObjs, setObjs2, hEl]; done) | (simp [setObjs, setObjs2, hEl]; omega) | omega | (first | rfl | omega | (rw [List.map_append]; done) | simp)), (by first | exact rfl | (simp [setObjs, setObjs2, hEl]; done) | (simp [setObjs, setObjs2, hEl]; omega) | omega | (first | rfl | omega | (rw [List.map_append]; done) | simp)), (by first | exact rfl | (simp [setObjs, setObjs2, hEl]; done) | (simp [setObjs, setObjs2, hEl]; omega) | omega | (first | rfl | omega | (rw [List.map_append]; done) | simp)), ?q92_24, trivial⟩
    · exact qa
    · exact qb
    · exact ta
    · exact na
    · exact tb
    · exact nb
    · exact qM
    · exact qJ
    · exact qo
    · exact ta
    · exact (by simpa [hg] using sa)
    · exact rM
    · exact tM
    · exact qrm
    · exact (by simpa using sM)
    · exact rJ
    · exact tJ
    · exact nJ
    · exact (by simpa using sJ)
    · exact qE
    · exact rE
    · exact qF
    · exact rB
    · exact alive_ac
end Go.Proofs.Ytaphhmefkfhepaa.Run
