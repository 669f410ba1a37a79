/- What a message is (message.Right), at replies without lists: by runs along paths. -/
import Derived.Test.YtidgcfgkcidkiaaChE
namespace Go.Proofs.Ytidgcfgkcidkiaa.Ch
open Go Go.RowKit Go.Proofs.Ytidgcfgkcidkiaa.L Go.Proofs.Ytidgcfgkcidkiaa.X
set_option linter.unusedVariables false
set_option linter.unusedSimpArgs false

def inB (n m : Int) : Bool := decide (0 ≤ n) && decide (n < m)
theorem within_ac (n m : Int) : ACalls Try.prog 58 [.int .i64 n, .int .i64 m] [] (.bool (inB n m)) [] := by
  by_cases h1 : 0 ≤ n
  · by_cases h2 : n < m
    · rw [show inB n m = true by simp [inB, h1, h2]]
      refine acallsK mixed Try.func58 rfl [0, 1, 4] 1000 ([.t, .t]) [] [] (v1 := AV.bool true) (objs1 := []) (ob := [decide (n ≥ (0 : Int)) = true,
      decide (n < m) = true]) (by kernel_rfl) (by first | exact rfl | exact ⟨rfl, rfl⟩ | (simp [h1, h2]; done)) ⟨(by first | exact rfl | (simp [h1, h2]; done) | (simp [h1, h2]; omega) | omega), (by first | exact rfl | (simp [h1, h2]; done) | (simp [h1, h2]; omega) | omega), trivial⟩
    · rw [show inB n m = false by simp [inB, h1, h2]]
      refine acallsK mixed Try.func58 rfl [0, 1, 4] 1000 ([.t, .f]) [] [] (v1 := AV.bool false) (objs1 := []) (ob := [decide (n ≥ (0 : Int)) = true,
      decide (n < m) = false]) (by kernel_rfl) (by first | exact rfl | exact ⟨rfl, rfl⟩ | (simp [h1, h2]; done)) ⟨(by first | exact rfl | (simp [h1, h2]; done) | (simp [h1, h2]; omega) | omega), (by first | exact rfl | (simp [h1, h2]; done) | (simp [h1, h2]; omega) | omega), trivial⟩
  · rw [show inB n m = false by simp [inB, h1]]
    refine acallsK mixed Try.func58 rfl [0, 1, 4] 1000 ([.f]) [] [] (v1 := AV.bool false) (objs1 := []) (ob := [decide (n ≥ (0 : Int)) = false]) (by kernel_rfl) (by first | exact rfl | exact ⟨rfl, rfl⟩ | (simp [h1]; done) | (omega)) ⟨(by first | exact rfl | (simp [h1]; done) | (simp [h1]; omega) | omega | (omega)), trivial⟩
theorem place_unit_ac (n : Int) : ACalls Try.prog 57 [.agg [.int .i64 1, .int .i64 n]] [] (.bool (inB n 32)) [] := by
  have q := within_ac n 32
  refine acallsK mixed Try.func57 rfl [0, 1, 2, 4, 5, 11, 16] 1000 ([.t, .call [] false true (.bool (inB n 32)) []]) [] [] (v1 := AV.bool (inB n 32)) (objs1 := []) (ob := [((1 : Int) == (1 : Int)) = true,
      ACalls Try.prog 58 [AV.int IntKind.i64 n, AV.int IntKind.i64 32] [] (AV.bool (inB n 32)) []]) (by kernel_rfl) (by first | exact rfl | exact ⟨rfl, rfl⟩ | (simp []; done)) ⟨(by first | exact rfl | (simp []; done) | (simp []; omega) | omega), ?q19_1, trivial⟩
  exact q
theorem place_client_ac (n : Int) : ACalls Try.prog 57 [.agg [.int .i64 4, .int .i64 n]] [] (.bool (inB n 4)) [] := by
  have q := within_ac n 4
  refine acallsK mixed Try.func57 rfl [0, 1, 2, 4, 5, 11, 16] 1000 ([.f, .f, .f, .t, .call [] false true (.bool (inB n 4)) []]) [] [] (v1 := AV.bool (inB n 4)) (objs1 := []) (ob := [((4 : Int) == (1 : Int)) = false,
      ((4 : Int) == (2 : Int)) = false,
      ((4 : Int) == (3 : Int)) = false,
      ((4 : Int) == (4 : Int)) = true,
      ACalls Try.prog 58 [AV.int IntKind.i64 n, AV.int IntKind.i64 4] [] (AV.bool (inB n 4)) []]) (by kernel_rfl) (by first | exact rfl | exact ⟨rfl, rfl⟩ | (simp []; done)) ⟨(by first | exact rfl | (simp []; done) | (simp []; omega) | omega), (by first | exact rfl | (simp []; done) | (simp []; omega) | omega), (by first | exact rfl | (simp []; done) | (simp []; omega) | omega), (by first | exact rfl | (simp []; done) | (simp []; omega) | omega), ?q23_1, trivial⟩
  exact q
theorem ballot0_ac : ACalls Try.prog 59 [.agg [.int .i64 0, .int .i64 0]] [] (.bool true) [] := by
  have q1 := within_ac 0 65536
  have q2 := within_ac 0 4
  refine acallsK mixed Try.func59 rfl [0, 1, 2] 1000 ([.call [] false true (.bool (inB 0 65536)) [], .call [] false true (.bool (inB 0 4)) []]) [] [] (v1 := AV.bool (inB 0 4)) (objs1 := []) (ob := [ACalls Try.prog 58 [AV.int IntKind.i64 0, AV.int IntKind.i64 65536] [] (AV.bool (inB 0 65536)) [],
      ACalls Try.prog 58 [AV.int IntKind.i64 0, AV.int IntKind.i64 4] [] (AV.bool (inB 0 4)) []]) (by kernel_rfl) (by first | exact rfl | exact ⟨rfl, rfl⟩ | (simp []; done)) ⟨?q28_1, ?q28_2, trivial⟩
  · exact q1
  · exact q2
theorem index0_ac (v : Int) : ACalls Try.prog 78 [.nils, .fn 83 [.ptr 0 0]] [.vars 3 [.int .i64 v]] (.int .i64 (-1)) [.vars 3 [.int .i64 v]] := by
  refine acallsK mixed Try.func78 rfl [0, 1, 4, 5, 7, 8, 9, 16] 1000 ([.go, .f]) [0] [0] (v1 := AV.int IntKind.i64 (-1)) (objs1 := [Obj.vars 3 [AV.int IntKind.i64 v]]) (ob := [decide ((0 : Int) < (0 : Int)) = false]) (by kernel_rfl) (by first | exact rfl | exact ⟨rfl, rfl⟩ | (simp []; done)) ⟨(by first | exact rfl | (simp []; done) | (simp []; omega) | omega), trivial⟩
theorem contains0_ac (v : Int) : ACalls Try.prog 70 [.nils, .fn 83 [.ptr 0 0]] [.vars 3 [.int .i64 v]] (.bool false) [.vars 3 [.int .i64 v]] := by
  have q := index0_ac v
  refine acallsK mixed Try.func70 rfl [0, 1, 4] 1000 ([.call [0] false false (.int .i64 (-1)) [.vars 3 [.int .i64 v]], .f]) [0] [0] (v1 := AV.bool false) (objs1 := [Obj.vars 3 [AV.int IntKind.i64 v]]) (ob := [ACalls Try.prog 78 [AV.nils, AV.fn 83 [AV.ptr 0 0]] [Obj.vars 3 [AV.int IntKind.i64 v]] (AV.int IntKind.i64 (-1)) [Obj.vars 3 [AV.int IntKind.i64 v]],
      decide ((-1 : Int) ≥ (0 : Int)) = false]) (by kernel_rfl) (by first | exact rfl | exact ⟨rfl, rfl⟩ | (simp []; done)) ⟨?q35_1, (by first | exact rfl | (simp []; done) | (simp []; omega) | omega), trivial⟩
  exact q
theorem rising0_ac : ACalls Try.prog 60 [.nils] [] (.bool true) [] := by
  have q := contains0_ac (-1)
  refine acallsK mixed Try.func60 rfl [0, 2, 3] 1000 ([.call [0] false false (.bool false) [.vars 3 [.int .i64 (-1)]]]) [] [] (v1 := AV.bool !false) (objs1 := []) (ob := [ACalls Try.prog 70 [AV.nils, AV.fn 83 [AV.ptr 0 0]] [Obj.vars 3 [AV.int IntKind.i64 (-1)]] (AV.bool false) [Obj.vars 3 [AV.int IntKind.i64 (-1)]]]) (by kernel_rfl) (by first | exact rfl | exact ⟨rfl, rfl⟩ | (simp []; done)) ⟨?q39_1, trivial⟩
  exact q
theorem backs0_ac : ACalls Try.prog 61 [.nils] [] (.bool true) [] := by
  have q := rising0_ac
  refine acallsK mixed Try.func61 rfl [0, 2, 3, 5, 6, 7, 8, 9, 21] 1000 ([.go, .f, .call [] false true (.bool true) []]) [] [] (v1 := AV.bool true) (objs1 := []) (ob := [decide ((0 : Int) < (0 : Int)) = false,
      ACalls Try.prog 60 [AV.nils] [] (AV.bool true) []]) (by kernel_rfl) (by first | exact rfl | exact ⟨rfl, rfl⟩ | (simp []; done)) ⟨(by first | exact rfl | (simp []; done) | (simp []; omega) | omega), ?q43_1, trivial⟩
  exact q
/-- What looks at nothing. -/
theorem plain_acalls {P : Program} {f : FuncId} {us : List AV} {vs : List Value} (hE : Enters P f) (hus : ∀ K ds, VRs K us ds → ds = vs) (v : AV) (c : Value) (hvc : ∀ K, VR K v c)
    (h : ∀ w, Calls P f vs.toArray w fun e w' => e = .returned c ∧ Keeps (fun _ => False) w w') (objs : List X.Obj) : ACalls P f us objs v objs := by
  refine ⟨hE, fun K w cs hR hcs => ?_⟩
  obtain rfl := hus K cs hcs
  refine (h w).mono ?_
  rintro e w' ⟨rfl, hk⟩
  obtain ⟨r1, r2⟩ := hR.keep0 hk
  exact ⟨K, c, rfl, r1, hvc K, r2 _⟩
theorem nils_inv {K : Ctx} {c : Value} (h : VR K .nils c) : c = .slice none 0 0 := by
  cases h with
  | pure h => cases h; rfl
set_option maxRecDepth 100000 in
theorem bytes0_ac : ACalls Try.prog 64 [.nils, .nils] [] (.bool true) [] := by
  refine plain_acalls (vs := [.slice none 0 0, .slice none 0 0]) ⟨_, Try.func64, rfl, rfl⟩ (fun K ds h => ?_) _ (.bool true) (fun K => .pure (.bool _)) (fun w => ?_) []
  · obtain ⟨c1, cs1, rfl, h1, h2⟩ := h.cons_inv
    obtain ⟨c2, cs2, rfl, h3, h4⟩ := h2.cons_inv
    rw [nils_inv h1, nils_inv h3, h4.nil_inv]
  · go_enter Try.func64, Try.ntmps64
    have hconv : ∀ w : World, (convert 27 9 (.slice none 0 0)).run Try.prog w = .ok (.string ByteArray.empty) w := fun w => by
      rw [run_convert_bytes_string (P := Try.prog) w 27 9 5 none 0 0 Try.underlying27 Try.underlying5 Try.underlying9]
      simp [Conv.bytesToString]
    go_wp2
    go_ret
    exact ⟨rfl, Keeps.refl _ _⟩
theorem equal0_ac : ACalls Try.prog 65 [.nils, .nils] [] (.bool true) [] := by
  refine acallsK mixed Try.func65 rfl [0, 1, 4, 5, 10, 12, 13, 14, 24] 1000 ([.f, .go, .f]) [] [] (v1 := AV.bool true) (objs1 := []) (ob := [((0 : Int) != (0 : Int)) = false,
      decide ((0 : Int) < (0 : Int)) = false]) (by kernel_rfl) (by first | exact rfl | exact ⟨rfl, rfl⟩ | (simp []; done)) ⟨(by first | exact rfl | (simp []; done) | (simp []; omega) | omega), (by first | exact rfl | (simp []; done) | (simp []; omega) | omega), trivial⟩
def nilC : AV := .agg [.int .i64 0, .nils, .nils]
def nilL : AV := .agg [.int .u64 0, .nils, .int .i64 0]
theorem same0_ac : ACalls Try.prog 28 [nilC, nilC] [] (.bool true) [] := by
  have q1 := bytes0_ac
  have q2 := equal0_ac
  refine acallsK mixed Try.func28 rfl [0, 1, 2, 3, 4] 1000 ([.t, .call [] false true (.bool true) [], .call [] false true (.bool true) []]) [] [] (v1 := AV.bool true) (objs1 := []) (ob := [((0 : Int) == (0 : Int)) = true,
      ACalls Try.prog 64 [AV.nils, AV.nils] [] (AV.bool true) [],
      ACalls Try.prog 65 [AV.nils, AV.nils] [] (AV.bool true) []]) (by kernel_rfl) (by first | exact rfl | exact ⟨rfl, rfl⟩ | (simp [nilC]; done)) ⟨(by first | exact rfl | (simp [nilC]; done) | (simp [nilC]; omega) | omega), ?q77_1, ?q77_2, trivial⟩
  · exact q1
  · exact q2
theorem noCell0_ac : ACalls Try.prog 62 [nilC] [] (.bool true) [] := by
  have q := same0_ac
  refine acallsK mixed Try.func62 rfl [0, 1, 2] 1000 ([.call [] false true (.bool true) []]) [] [] (v1 := AV.bool true) (objs1 := []) (ob := [ACalls Try.prog 28 [AV.agg [AV.int IntKind.i64 0, AV.nils, AV.nils], AV.agg [AV.int IntKind.i64 0, AV.nils, AV.nils]] [] (AV.bool true) []]) (by kernel_rfl) (by first | exact rfl | exact ⟨rfl, rfl⟩ | (simp [nilC]; done)) ⟨?q82_1, trivial⟩
  exact q
theorem equalF0_ac (g : FuncId) : ACalls Try.prog 101 [.nils, .nils, .fn g []] [] (.bool true) [] := by
  refine acallsK mixed Try.func101 rfl [0, 1, 2, 6, 7, 8, 9, 14, 15, 16, 17, 18, 30] 1000 ([.f, .go, .f]) [] [] (v1 := AV.bool true) (objs1 := []) (ob := [((0 : Int) != (0 : Int)) = false,
      decide ((0 : Int) < (0 : Int)) = false]) (by kernel_rfl) (by first | exact rfl | exact ⟨rfl, rfl⟩ | (simp []; done)) ⟨(by first | exact rfl | (simp []; done) | (simp []; omega) | omega), (by first | exact rfl | (simp []; done) | (simp []; omega) | omega), trivial⟩
theorem sameL0_ac : ACalls Try.prog 84 [nilL, nilL] [] (.bool true) [] := by
  have q := equalF0_ac 102
  refine acallsK mixed Try.func84 rfl [0, 1, 2, 3, 4] 1000 ([.t, .t, .call [] false true (.bool true) []]) [] [] (v1 := AV.bool true) (objs1 := []) (ob := [((0 : Int) == (0 : Int)) = true,
      ((0 : Int) == (0 : Int)) = true,
      ACalls Try.prog 101 [AV.nils, AV.nils, AV.fn 102 []] [] (AV.bool true) []]) (by kernel_rfl) (by first | exact rfl | exact ⟨rfl, rfl⟩ | (simp [nilL]; done)) ⟨(by first | exact rfl | (simp [nilL]; done) | (simp [nilL]; omega) | omega), (by first | exact rfl | (simp [nilL]; done) | (simp [nilL]; omega) | omega), ?q88_1, trivial⟩
  exact q
theorem noLayout0_ac : ACalls Try.prog 63 [nilL] [] (.bool true) [] := by
  have q := sameL0_ac
  refine acallsK mixed Try.func63 rfl [0, 1, 2] 1000 ([.call [] false true (.bool true) []]) [] [] (v1 := AV.bool true) (objs1 := []) (ob := [ACalls Try.prog 84 [AV.agg [AV.int IntKind.u64 0, AV.nils, AV.int IntKind.i64 0], AV.agg [AV.int IntKind.u64 0, AV.nils, AV.int IntKind.i64 0]] [] (AV.bool true) []]) (by kernel_rfl) (by first | exact rfl | exact ⟨rfl, rfl⟩ | (simp [nilL]; done)) ⟨?q92_1, trivial⟩
  exact q
/-- A reply without lists. -/
def repL (u c id of_ addr err : Int) : List AV := [.int .i64 14, .int .i64 1, .int .i64 u, .int .i64 4, .int .i64 c, .int .i64 id, .int .i64 of_, .int .u64 0, .int .u64 addr, .int .i64 err, .int .i64 0, .nils, .nils, .nils, .nils, .int .i64 0, .int .i64 0, .int .i64 0, .int .i64 0, .int .u64 0, .nils, .int .i64 0]
def repA (u c id of_ addr err : Int) : AV := .agg (repL u c id of_ addr err)
def repB (u c id err : Int) : Bool := inB u 32 && inB c 4 && inB id 1048576 && inB err 256
theorem right_rep (u c id of_ addr err : Int) (h1 : 0 < of_) (h2 : of_ ≤ 13) (h3 : addr ≤ 1048576) : ACalls Try.prog 25 [repA u c id of_ addr err] [] (.bool (repB u c id err)) [] := by
  have q1 := place_unit_ac u
  have q2 := place_client_ac c
  have q3 := within_ac id 1048576
  have q4 := within_ac err 256
  unfold repB
  cases hb1 : inB u 32 with
  | false =>
    rw [hb1] at q1
    refine acallsK mixed Try.func25 rfl [0, 1, 2, 3, 31, 54, 75] 1000 ([.f, .f, .f, .f, .t, .t, .f, .call [] false true (.bool false) []]) [] [] (v1 := AV.bool false) (objs1 := []) (ob := [decide ((14 : Int) < (1 : Int)) = false,
      decide ((14 : Int) > (14 : Int)) = false,
      decide (of_ < (0 : Int)) = false,
      decide (of_ > (13 : Int)) = false,
      ((14 : Int) == (14 : Int)) = true,
      decide (of_ > (0 : Int)) = true,
      (!true == true) = false,
      ACalls Try.prog 57 [AV.agg [AV.int IntKind.i64 1, AV.int IntKind.i64 u]] [] (AV.bool false) []]) (by kernel_rfl) (by first | exact rfl | exact ⟨rfl, rfl⟩ | (simp [repA, repL]; done) | (omega)) ⟨(by first | exact rfl | (simp [repA, repL]; done) | (simp [repA, repL]; omega) | omega | (omega)), (by first | exact rfl | (simp [repA, repL]; done) | (simp [repA, repL]; omega) | omega | (omega)), (by first | exact rfl | (simp [repA, repL]; done) | (simp [repA, repL]; omega) | omega | (omega)), (by first | exact rfl | (simp [repA, repL]; done) | (simp [repA, repL]; omega) | omega | (omega)), (by first | exact rfl | (simp [repA, repL]; done) | (simp [repA, repL]; omega) | omega | (omega)), (by first | exact rfl | (simp [repA, repL]; done) | (simp [repA, repL]; omega) | omega | (omega)), (by first | exact rfl | (simp [repA, repL]; done) | (simp [repA, repL]; omega) | omega | (omega)), ?q107_1, trivial⟩
    exact q1
  | true =>
    rw [hb1] at q1
    cases hb2 : inB c 4 with
    | false =>
      rw [hb2] at q2
      refine acallsK mixed Try.func25 rfl [0, 1, 2, 3, 31, 54, 75] 1000 ([.f, .f, .f, .f, .t, .t, .f, .call [] false true (.bool true) [], .call [] false true (.bool false) []]) [] [] (v1 := AV.bool false) (objs1 := []) (ob := [decide ((14 : Int) < (1 : Int)) = false,
      decide ((14 : Int) > (14 : Int)) = false,
      decide (of_ < (0 : Int)) = false,
      decide (of_ > (13 : Int)) = false,
      ((14 : Int) == (14 : Int)) = true,
      decide (of_ > (0 : Int)) = true,
      (!true == true) = false,
      ACalls Try.prog 57 [AV.agg [AV.int IntKind.i64 1, AV.int IntKind.i64 u]] [] (AV.bool true) [],
      ACalls Try.prog 57 [AV.agg [AV.int IntKind.i64 4, AV.int IntKind.i64 c]] [] (AV.bool false) []]) (by kernel_rfl) (by first | exact rfl | exact ⟨rfl, rfl⟩ | (simp [repA, repL]; done) | (omega)) ⟨(by first | exact rfl | (simp [repA, repL]; done) | (simp [repA, repL]; omega) | omega | (omega)), (by first | exact rfl | (simp [repA, repL]; done) | (simp [repA, repL]; omega) | omega | (omega)), (by first | exact rfl | (simp [repA, repL]; done) | (simp [repA, repL]; omega) | omega | (omega)), (by first | exact rfl | (simp [repA, repL]; done) | (simp [repA, repL]; omega) | omega | (omega)), (by first | exact rfl | (simp [repA, repL]; done) | (simp [repA, repL]; omega) | omega | (omega)), (by first | exact rfl | (simp [repA, repL]; done) | (simp [repA, repL]; omega) | omega | (omega)), (by first | exact rfl | (simp [repA, repL]; done) | (simp [repA, repL]; omega) | omega | (omega)), ?q114_1, ?q114_2, trivial⟩
      · exact q1
      · exact q2
    | true =>
      rw [hb2] at q2
      cases hb3 : inB id 1048576 with
      | false =>
        rw [hb3] at q3
        refine acallsK mixed Try.func25 rfl [0, 1, 2, 3, 31, 54, 75] 1000 ([.f, .f, .f, .f, .t, .t, .f, .call [] false true (.bool true) [], .call [] false true (.bool true) [], .call [] false true (.bool false) []]) [] [] (v1 := AV.bool false) (objs1 := []) (ob := [decide ((14 : Int) < (1 : Int)) = false,
      decide ((14 : Int) > (14 : Int)) = false,
      decide (of_ < (0 : Int)) = false,
      decide (of_ > (13 : Int)) = false,
      ((14 : Int) == (14 : Int)) = true,
      decide (of_ > (0 : Int)) = true,
      (!true == true) = false,
      ACalls Try.prog 57 [AV.agg [AV.int IntKind.i64 1, AV.int IntKind.i64 u]] [] (AV.bool true) [],
      ACalls Try.prog 57 [AV.agg [AV.int IntKind.i64 4, AV.int IntKind.i64 c]] [] (AV.bool true) [],
      ACalls Try.prog 58 [AV.int IntKind.i64 id, AV.int IntKind.i64 1048576] [] (AV.bool false) []]) (by kernel_rfl) (by first | exact rfl | exact ⟨rfl, rfl⟩ | (simp [repA, repL]; done) | (omega)) ⟨(by first | exact rfl | (simp [repA, repL]; done) | (simp [repA, repL]; omega) | omega | (omega)), (by first | exact rfl | (simp [repA, repL]; done) | (simp [repA, repL]; omega) | omega | (omega)), (by first | exact rfl | (simp [repA, repL]; done) | (simp [repA, repL]; omega) | omega | (omega)), (by first | exact rfl | (simp [repA, repL]; done) | (simp [repA, repL]; omega) | omega | (omega)), (by first | exact rfl | (simp [repA, repL]; done) | (simp [repA, repL]; omega) | omega | (omega)), (by first | exact rfl | (simp [repA, repL]; done) | (simp [repA, repL]; omega) | omega | (omega)), (by first | exact rfl | (simp [repA, repL]; done) | (simp [repA, repL]; omega) | omega | (omega)), ?q122_1, ?q122_2, ?q122_3, trivial⟩
        · exact q1
        · exact q2
        · exact q3
      | true =>
        rw [hb3] at q3
        cases hb4 : inB err 256 with
        | false =>
          rw [hb4] at q4
          refine acallsK mixed Try.func25 rfl [0, 1, 2, 3, 31, 54, 75] 1000 ([.f, .f, .f, .f, .t, .t, .f, .call [] false true (.bool true) [], .call [] false true (.bool true) [], .call [] false true (.bool true) [], .call [] false true (.bool false) []]) [] [] (v1 := AV.bool false) (objs1 := []) (ob := [decide ((14 : Int) < (1 : Int)) = false,
      decide ((14 : Int) > (14 : Int)) = false,
      decide (of_ < (0 : Int)) = false,
      decide (of_ > (13 : Int)) = false,
      ((14 : Int) == (14 : Int)) = true,
      decide (of_ > (0 : Int)) = true,
      (!true == true) = false,
      ACalls Try.prog 57 [AV.agg [AV.int IntKind.i64 1, AV.int IntKind.i64 u]] [] (AV.bool true) [],
      ACalls Try.prog 57 [AV.agg [AV.int IntKind.i64 4, AV.int IntKind.i64 c]] [] (AV.bool true) [],
      ACalls Try.prog 58 [AV.int IntKind.i64 id, AV.int IntKind.i64 1048576] [] (AV.bool true) [],
      ACalls Try.prog 58 [AV.int IntKind.i64 err, AV.int IntKind.i64 256] [] (AV.bool false) []]) (by kernel_rfl) (by first | exact rfl | exact ⟨rfl, rfl⟩ | (simp [repA, repL]; done) | (omega)) ⟨(by first | exact rfl | (simp [repA, repL]; done) | (simp [repA, repL]; omega) | omega | (omega)), (by first | exact rfl | (simp [repA, repL]; done) | (simp [repA, repL]; omega) | omega | (omega)), (by first | exact rfl | (simp [repA, repL]; done) | (simp [repA, repL]; omega) | omega | (omega)), (by first | exact rfl | (simp [repA, repL]; done) | (simp [repA, repL]; omega) | omega | (omega)), (by first | exact rfl | (simp [repA, repL]; done) | (simp [repA, repL]; omega) | omega | (omega)), (by first | exact rfl | (simp [repA, repL]; done) | (simp [repA, repL]; omega) | omega | (omega)), (by first | exact rfl | (simp [repA, repL]; done) | (simp [repA, repL]; omega) | omega | (omega)), ?q131_1, ?q131_2, ?q131_3, ?q131_4, trivial⟩
          · exact q1
          · exact q2
          · exact q3
          · exact q4
        | true =>
          rw [hb4] at q4
          refine acallsK mixed Try.func25 rfl [0, 1, 2, 3, 31, 54, 75] 1000 ([.f, .f, .f, .f, .t, .t, .f, .call [] false true (.bool true) [], .call [] false true (.bool true) [], .call [] false true (.bool true) [], .call [] false true (.bool true) [], .f, .f, .call [] false true (.bool true) [], .call [] false true (.bool true) [], .f, .call [] false true (.bool true) [], .call [] false true (.bool true) [], .call [] false true (.bool true) [], .call [] false true (.bool true) []]) [] [] (v1 := AV.bool true) (objs1 := []) (ob := [decide ((14 : Int) < (1 : Int)) = false,
      decide ((14 : Int) > (14 : Int)) = false,
      decide (of_ < (0 : Int)) = false,
      decide (of_ > (13 : Int)) = false,
      ((14 : Int) == (14 : Int)) = true,
      decide (of_ > (0 : Int)) = true,
      (!true == true) = false,
      ACalls Try.prog 57 [AV.agg [AV.int IntKind.i64 1, AV.int IntKind.i64 u]] [] (AV.bool true) [],
      ACalls Try.prog 57 [AV.agg [AV.int IntKind.i64 4, AV.int IntKind.i64 c]] [] (AV.bool true) [],
      ACalls Try.prog 58 [AV.int IntKind.i64 id, AV.int IntKind.i64 1048576] [] (AV.bool true) [],
      ACalls Try.prog 58 [AV.int IntKind.i64 err, AV.int IntKind.i64 256] [] (AV.bool true) [],
      decide ((0 : Int) > (1048576 : Int)) = false,
      decide (addr > (1048576 : Int)) = false,
      ACalls Try.prog 59 [AV.agg [AV.int IntKind.i64 0, AV.int IntKind.i64 0]] [] (AV.bool true) [],
      ACalls Try.prog 59 [AV.agg [AV.int IntKind.i64 0, AV.int IntKind.i64 0]] [] (AV.bool true) [],
      decide ((0 : Int) > (4 : Int)) = false,
      ACalls Try.prog 60 [AV.nils] [] (AV.bool true) [],
      ACalls Try.prog 61 [AV.nils] [] (AV.bool true) [],
      ACalls Try.prog 62 [AV.agg [AV.int IntKind.i64 0, AV.nils, AV.nils]] [] (AV.bool true) [],
      ACalls Try.prog 63 [AV.agg [AV.int IntKind.u64 0, AV.nils, AV.int IntKind.i64 0]] [] (AV.bool true) []]) (by kernel_rfl) (by first | exact rfl | exact ⟨rfl, rfl⟩ | (simp [repA, repL]; done) | (omega)) ⟨(by first | exact rfl | (simp [repA, repL]; done) | (simp [repA, repL]; omega) | omega | (omega)), (by first | exact rfl | (simp [repA, repL]; done) | (simp [repA, repL]; omega) | omega | (omega)), (by first | exact rfl | (simp [repA, repL]; done) | (simp [repA, repL]; omega) | omega | (omega)), (by first | exact rfl | (simp [repA, repL]; done) | (simp [repA, repL]; omega) | omega | (omega)), (by first | exact rfl | (simp [repA, repL]; done) | (simp [repA, repL]; omega) | omega | (omega)), (by first | exact rfl | (simp [repA, repL]; done) | (simp [repA, repL]; omega) | omega | (omega)), (by first | exact rfl | (simp [repA, repL]; done) | (simp [repA, repL]; omega) | omega | (omega)), ?q138_1, ?q138_2, ?q138_3, ?q138_4, (by first | exact rfl | (simp [repA, repL]; done) | (simp [repA, repL]; omega) | omega | (omega)), (by first | exact rfl | (simp [repA, repL]; done) | (simp [repA, repL]; omega) | omega | (omega)), ?q138_5, ?q138_6, (by first | exact rfl | (simp [repA, repL]; done) | (simp [repA, repL]; omega) | omega | (omega)), ?q138_7, ?q138_8, ?q138_9, ?q138_10, trivial⟩
          · exact q1
          · exact q2
          · exact q3
          · exact q4
          · exact ballot0_ac
          · exact ballot0_ac
          · exact rising0_ac
          · exact backs0_ac
          · exact noCell0_ac
          · exact noLayout0_ac
end Go.Proofs.Ytidgcfgkcidkiaa.Ch
