/- chain.New: by runs along paths. -/
import Derived.Test.YtidgcfgkcidkiaaChO
import Derived.Test.YtidgcfgkcidkiaaChG
namespace Go.Proofs.Ytidgcfgkcidkiaa.Ch
open Go Go.RowKit Go.Proofs.Ytidgcfgkcidkiaa.L Go.Proofs.Ytidgcfgkcidkiaa.X
set_option linter.unusedVariables false
set_option linter.unusedSimpArgs false

/-- What New asks. -/
structure Asks (cl id : Int) (l : LayD) (a : Int) (c : CellD) : Prop where
  cl0 : 0 ≤ cl
  cl1 : cl < 4
  id0 : 0 ≤ id
  id1 : id < 1048576
  lay : rightL l = true
  at_ : a < 1048576
  cell : rightC c = true
/-- A settler that is new. -/
def fresh (cl id : Int) (l : LayD) (a : Int) (c : CellD) (u : List Int) : SetD := ⟨cl, id, l.epoch, a, c, u, 0, false, false, 0, 0, 0, []⟩
def LayD.ok (l : LayD) : Prop := (∀ s ∈ l.segs, s.ok ∧ 0 ≤ s.at_) ∧ l.segs.length ≤ 1000000000000
theorem new_yes (cl id : Int) (l : LayD) (a : Int) (c : CellD) (hl : l.ok) (ha : 0 ≤ a) (h1 : c.data.length ≤ 1099511627776) (h2 : c.backs.length ≤ 1099511627776) (h : Asks cl id l a c) :
    ∃ u, chainL l a = some u ∧ Units u ∧ ACalls Try.prog 7 [.int .i64 cl, .int .i64 id, encL l, .int .u64 a, encC c] [] (.tup [.ptr 0 0, .int .i64 0]) (setO (fresh cl id l a c u)) := by
  obtain ⟨u, hu, hU, c1⟩ := chain_yes l a hl.1 hl.2 h.lay ha h.at_
  have c2 := right_ac c
  rw [h.cell] at c2
  have c3 := copied_ac c h1 h2
  have g1 := h.cl0
  have g2 := h.cl1
  have g3 := h.id0
  have g4 := h.id1
  have g5 := hU.pos
  have g6 : ((u.length : Int) == 0) = false := by rw [beq_eq_false_iff_ne]; omega
  refine ⟨u, hu, hU, ?_⟩
  refine acallsK mixed Try.func7 rfl [0, 1, 2, 3, 4, 7, 9, 10, 11, 12, 39] 1000 ([.call [] true false (.row 0 1 u.length) [.row 3 1 (u.map intA)], .f, .f, .f, .f, .n u.length, .f, .call [] false true (.bool true) [], .call [] true false (encC c) [], .mkc 3 14 42 22]) [] [3, 4] (v1 := AV.tup [AV.ptr 0 0, AV.int IntKind.i64 0]) (objs1 := [Obj.vars 71 [AV.int IntKind.i64 cl, AV.int IntKind.i64 id, AV.int IntKind.u64 (LayD.epoch l), AV.int IntKind.u64 a, AV.int IntKind.i64 (CellD.kind c), AV.lst 1 (List.map byteA (CellD.data c)), AV.lst 3 (List.map encB (CellD.backs c)), AV.lst 1 (List.map intA u), AV.int IntKind.i64 0, AV.bool false, AV.bool false, AV.int IntKind.i64 0, AV.int IntKind.i64 0, AV.int IntKind.i64 0, AV.row 1 22 0], Obj.row 42 22 []]) (ob := [ACalls Try.prog 22 [AV.agg [AV.int IntKind.u64 (LayD.epoch l), AV.lst 2 (List.map encS (LayD.segs l)), AV.int IntKind.i64 (LayD.seq l)], AV.int IntKind.u64 a] [] (AV.row 0 1 (List.length u)) [Obj.row 3 1 (List.map intA u)],
      decide (cl < (0 : Int)) = false,
      decide (cl ≥ (4 : Int)) = false,
      decide (id < (0 : Int)) = false,
      decide (id > (1048575 : Int)) = false,
      (↑(List.length (List.map intA u)) : Int) = (↑(List.length u) : Int),
      ((↑(List.length u) : Int) == (0 : Int)) = false,
      ACalls Try.prog 23 [AV.agg [AV.int IntKind.i64 (CellD.kind c), AV.lst 1 (List.map byteA (CellD.data c)), AV.lst 3 (List.map encB (CellD.backs c))]] [] (AV.bool true) [],
      ACalls Try.prog 24 [AV.agg [AV.int IntKind.i64 (CellD.kind c), AV.lst 1 (List.map byteA (CellD.data c)), AV.lst 3 (List.map encB (CellD.backs c))]] [] (AV.agg [AV.int IntKind.i64 (CellD.kind c), AV.lst 1 (List.map byteA (CellD.data c)), AV.lst 3 (List.map encB (CellD.backs c))]) []]) (by kernel_rfl) (by first | exact rfl | exact ⟨rfl, rfl⟩ | (simp [encL, g1, g2, g3, g4, fresh, setO, celS, encC, celC]; done) | (first | omega | exact g6)) ⟨?q33_1, (by first | exact rfl | (simp [encL, g1, g2, g3, g4, fresh, setO, celS, encC, celC]; done) | (simp [encL, g1, g2, g3, g4, fresh, setO, celS, encC, celC]; omega) | omega | (first | omega | exact g6)), (by first | exact rfl | (simp [encL, g1, g2, g3, g4, fresh, setO, celS, encC, celC]; done) | (simp [encL, g1, g2, g3, g4, fresh, setO, celS, encC, celC]; omega) | omega | (first | omega | exact g6)), (by first | exact rfl | (simp [encL, g1, g2, g3, g4, fresh, setO, celS, encC, celC]; done) | (simp [encL, g1, g2, g3, g4, fresh, setO, celS, encC, celC]; omega) | omega | (first | omega | exact g6)), (by first | exact rfl | (simp [encL, g1, g2, g3, g4, fresh, setO, celS, encC, celC]; done) | (simp [encL, g1, g2, g3, g4, fresh, setO, celS, encC, celC]; omega) | omega | (first | omega | exact g6)), (by first | exact rfl | (simp [encL, g1, g2, g3, g4, fresh, setO, celS, encC, celC]; done) | (simp [encL, g1, g2, g3, g4, fresh, setO, celS, encC, celC]; omega) | omega | (first | omega | exact g6)), (by first | exact rfl | (simp [encL, g1, g2, g3, g4, fresh, setO, celS, encC, celC]; done) | (simp [encL, g1, g2, g3, g4, fresh, setO, celS, encC, celC]; omega) | omega | (first | omega | exact g6)), ?q33_2, ?q33_3, trivial⟩
  · exact c1
  · exact c2
  · exact c3
theorem new_no (cl id : Int) (l : LayD) (a : Int) (c : CellD) (hl : l.ok) (ha : 0 ≤ a) (h : ¬ Asks cl id l a c) :
    ACalls Try.prog 7 [.int .i64 cl, .int .i64 id, encL l, .int .u64 a, encC c] [] (.tup [.nilp, .int .i64 1]) [] := by
  by_cases hc : rightL l = true ∧ a < 1048576
  · obtain ⟨u, hu, hU, c1⟩ := chain_yes l a hl.1 hl.2 hc.1 ha hc.2
    have c2 := right_ac c
    have g5 := hU.pos
    have g6 : ((u.length : Int) == 0) = false := by rw [beq_eq_false_iff_ne]; omega
    by_cases h1 : cl < 0
    · refine acallsK mixed Try.func7 rfl [0, 1, 2, 3, 4, 7, 9, 10, 11, 12, 39] 1000 ([.call [] true false (.row 0 1 u.length) [.row 3 1 (u.map intA)], .t]) [] [] (v1 := AV.tup [AV.nilp, AV.int IntKind.i64 1]) (objs1 := []) (ob := [ACalls Try.prog 22 [AV.agg [AV.int IntKind.u64 (LayD.epoch l), AV.lst 2 (List.map encS (LayD.segs l)), AV.int IntKind.i64 (LayD.seq l)], AV.int IntKind.u64 a] [] (AV.row 0 1 (List.length u)) [Obj.row 3 1 (List.map intA u)],
      decide (cl < (0 : Int)) = true]) (by kernel_rfl) (by first | exact rfl | exact ⟨rfl, rfl⟩ | (simp [encL, encC, celC, h1]; done) | (omega)) ⟨?q45_1, (by first | exact rfl | (simp [encL, encC, celC, h1]; done) | (simp [encL, encC, celC, h1]; omega) | omega | (omega)), trivial⟩
      exact c1
    · by_cases h2 : 4 ≤ cl
      · refine acallsK mixed Try.func7 rfl [0, 1, 2, 3, 4, 7, 9, 10, 11, 12, 39] 1000 ([.call [] true false (.row 0 1 u.length) [.row 3 1 (u.map intA)], .f, .t]) [] [] (v1 := AV.tup [AV.nilp, AV.int IntKind.i64 1]) (objs1 := []) (ob := [ACalls Try.prog 22 [AV.agg [AV.int IntKind.u64 (LayD.epoch l), AV.lst 2 (List.map encS (LayD.segs l)), AV.int IntKind.i64 (LayD.seq l)], AV.int IntKind.u64 a] [] (AV.row 0 1 (List.length u)) [Obj.row 3 1 (List.map intA u)],
      decide (cl < (0 : Int)) = false,
      decide (cl ≥ (4 : Int)) = true]) (by kernel_rfl) (by first | exact rfl | exact ⟨rfl, rfl⟩ | (simp [encL, encC, celC, h1, h2]; done) | (omega)) ⟨?q48_1, (by first | exact rfl | (simp [encL, encC, celC, h1, h2]; done) | (simp [encL, encC, celC, h1, h2]; omega) | omega | (omega)), (by first | exact rfl | (simp [encL, encC, celC, h1, h2]; done) | (simp [encL, encC, celC, h1, h2]; omega) | omega | (omega)), trivial⟩
        exact c1
      · by_cases h3 : id < 0
        · refine acallsK mixed Try.func7 rfl [0, 1, 2, 3, 4, 7, 9, 10, 11, 12, 39] 1000 ([.call [] true false (.row 0 1 u.length) [.row 3 1 (u.map intA)], .f, .f, .t]) [] [] (v1 := AV.tup [AV.nilp, AV.int IntKind.i64 1]) (objs1 := []) (ob := [ACalls Try.prog 22 [AV.agg [AV.int IntKind.u64 (LayD.epoch l), AV.lst 2 (List.map encS (LayD.segs l)), AV.int IntKind.i64 (LayD.seq l)], AV.int IntKind.u64 a] [] (AV.row 0 1 (List.length u)) [Obj.row 3 1 (List.map intA u)],
      decide (cl < (0 : Int)) = false,
      decide (cl ≥ (4 : Int)) = false,
      decide (id < (0 : Int)) = true]) (by kernel_rfl) (by first | exact rfl | exact ⟨rfl, rfl⟩ | (simp [encL, encC, celC, h1, h2, h3]; done) | (omega)) ⟨?q51_1, (by first | exact rfl | (simp [encL, encC, celC, h1, h2, h3]; done) | (simp [encL, encC, celC, h1, h2, h3]; omega) | omega | (omega)), (by first | exact rfl | (simp [encL, encC, celC, h1, h2, h3]; done) | (simp [encL, encC, celC, h1, h2, h3]; omega) | omega | (omega)), (by first | exact rfl | (simp [encL, encC, celC, h1, h2, h3]; done) | (simp [encL, encC, celC, h1, h2, h3]; omega) | omega | (omega)), trivial⟩
          exact c1
        · by_cases h4 : 1048576 ≤ id
          · refine acallsK mixed Try.func7 rfl [0, 1, 2, 3, 4, 7, 9, 10, 11, 12, 39] 1000 ([.call [] true false (.row 0 1 u.length) [.row 3 1 (u.map intA)], .f, .f, .f, .t]) [] [] (v1 := AV.tup [AV.nilp, AV.int IntKind.i64 1]) (objs1 := []) (ob := [ACalls Try.prog 22 [AV.agg [AV.int IntKind.u64 (LayD.epoch l), AV.lst 2 (List.map encS (LayD.segs l)), AV.int IntKind.i64 (LayD.seq l)], AV.int IntKind.u64 a] [] (AV.row 0 1 (List.length u)) [Obj.row 3 1 (List.map intA u)],
      decide (cl < (0 : Int)) = false,
      decide (cl ≥ (4 : Int)) = false,
      decide (id < (0 : Int)) = false,
      decide (id > (1048575 : Int)) = true]) (by kernel_rfl) (by first | exact rfl | exact ⟨rfl, rfl⟩ | (simp [encL, encC, celC, h1, h2, h3, h4]; done) | (omega)) ⟨?q54_1, (by first | exact rfl | (simp [encL, encC, celC, h1, h2, h3, h4]; done) | (simp [encL, encC, celC, h1, h2, h3, h4]; omega) | omega | (omega)), (by first | exact rfl | (simp [encL, encC, celC, h1, h2, h3, h4]; done) | (simp [encL, encC, celC, h1, h2, h3, h4]; omega) | omega | (omega)), (by first | exact rfl | (simp [encL, encC, celC, h1, h2, h3, h4]; done) | (simp [encL, encC, celC, h1, h2, h3, h4]; omega) | omega | (omega)), (by first | exact rfl | (simp [encL, encC, celC, h1, h2, h3, h4]; done) | (simp [encL, encC, celC, h1, h2, h3, h4]; omega) | omega | (omega)), trivial⟩
            exact c1
          · have hr : rightC c = false := by
              cases hr : rightC c with
              | false => rfl
              | true => exact absurd ⟨by omega, by omega, by omega, by omega, hc.1, hc.2, hr⟩ h
            rw [hr] at c2
            refine acallsK mixed Try.func7 rfl [0, 1, 2, 3, 4, 7, 9, 10, 11, 12, 39] 1000 ([.call [] true false (.row 0 1 u.length) [.row 3 1 (u.map intA)], .f, .f, .f, .f, .n u.length, .f, .call [] false true (.bool false) []]) [] [] (v1 := AV.tup [AV.nilp, AV.int IntKind.i64 1]) (objs1 := []) (ob := [ACalls Try.prog 22 [AV.agg [AV.int IntKind.u64 (LayD.epoch l), AV.lst 2 (List.map encS (LayD.segs l)), AV.int IntKind.i64 (LayD.seq l)], AV.int IntKind.u64 a] [] (AV.row 0 1 (List.length u)) [Obj.row 3 1 (List.map intA u)],
      decide (cl < (0 : Int)) = false,
      decide (cl ≥ (4 : Int)) = false,
      decide (id < (0 : Int)) = false,
      decide (id > (1048575 : Int)) = false,
      (↑(List.length (List.map intA u)) : Int) = (↑(List.length u) : Int),
      ((↑(List.length u) : Int) == (0 : Int)) = false,
      ACalls Try.prog 23 [AV.agg [AV.int IntKind.i64 (CellD.kind c), AV.lst 1 (List.map byteA (CellD.data c)), AV.lst 3 (List.map encB (CellD.backs c))]] [] (AV.bool false) []]) (by kernel_rfl) (by first | exact rfl | exact ⟨rfl, rfl⟩ | (simp [encL, encC, celC, h1, h2, h3, h4]; done) | (first | omega | exact g6)) ⟨?q61_1, (by first | exact rfl | (simp [encL, encC, celC, h1, h2, h3, h4]; done) | (simp [encL, encC, celC, h1, h2, h3, h4]; omega) | omega | (first | omega | exact g6)), (by first | exact rfl | (simp [encL, encC, celC, h1, h2, h3, h4]; done) | (simp [encL, encC, celC, h1, h2, h3, h4]; omega) | omega | (first | omega | exact g6)), (by first | exact rfl | (simp [encL, encC, celC, h1, h2, h3, h4]; done) | (simp [encL, encC, celC, h1, h2, h3, h4]; omega) | omega | (first | omega | exact g6)), (by first | exact rfl | (simp [encL, encC, celC, h1, h2, h3, h4]; done) | (simp [encL, encC, celC, h1, h2, h3, h4]; omega) | omega | (first | omega | exact g6)), (by first | exact rfl | (simp [encL, encC, celC, h1, h2, h3, h4]; done) | (simp [encL, encC, celC, h1, h2, h3, h4]; omega) | omega | (first | omega | exact g6)), (by first | exact rfl | (simp [encL, encC, celC, h1, h2, h3, h4]; done) | (simp [encL, encC, celC, h1, h2, h3, h4]; omega) | omega | (first | omega | exact g6)), ?q61_2, trivial⟩
            · exact c1
            · exact c2
  · have c1 := chain_no l a (fun s h => (hl.1 s h).1) hl.2 (by
      cases hr : rightL l with
      | false => exact .inl rfl
      | true => exact .inr (Int.not_lt.1 fun h => hc ⟨hr, h⟩))
    by_cases h1 : cl < 0
    · refine acallsK mixed Try.func7 rfl [0, 1, 2, 3, 4, 7, 9, 10, 11, 12, 39] 1000 ([.call [] true false .nils [], .t]) [] [] (v1 := AV.tup [AV.nilp, AV.int IntKind.i64 1]) (objs1 := []) (ob := [ACalls Try.prog 22 [AV.agg [AV.int IntKind.u64 (LayD.epoch l), AV.lst 2 (List.map encS (LayD.segs l)), AV.int IntKind.i64 (LayD.seq l)], AV.int IntKind.u64 a] [] AV.nils [],
      decide (cl < (0 : Int)) = true]) (by kernel_rfl) (by first | exact rfl | exact ⟨rfl, rfl⟩ | (simp [encL, encC, celC, h1]; done) | (omega)) ⟨?q69_1, (by first | exact rfl | (simp [encL, encC, celC, h1]; done) | (simp [encL, encC, celC, h1]; omega) | omega | (omega)), trivial⟩
      exact c1
    · by_cases h2 : 4 ≤ cl
      · refine acallsK mixed Try.func7 rfl [0, 1, 2, 3, 4, 7, 9, 10, 11, 12, 39] 1000 ([.call [] true false .nils [], .f, .t]) [] [] (v1 := AV.tup [AV.nilp, AV.int IntKind.i64 1]) (objs1 := []) (ob := [ACalls Try.prog 22 [AV.agg [AV.int IntKind.u64 (LayD.epoch l), AV.lst 2 (List.map encS (LayD.segs l)), AV.int IntKind.i64 (LayD.seq l)], AV.int IntKind.u64 a] [] AV.nils [],
      decide (cl < (0 : Int)) = false,
      decide (cl ≥ (4 : Int)) = true]) (by kernel_rfl) (by first | exact rfl | exact ⟨rfl, rfl⟩ | (simp [encL, encC, celC, h1, h2]; done) | (omega)) ⟨?q72_1, (by first | exact rfl | (simp [encL, encC, celC, h1, h2]; done) | (simp [encL, encC, celC, h1, h2]; omega) | omega | (omega)), (by first | exact rfl | (simp [encL, encC, celC, h1, h2]; done) | (simp [encL, encC, celC, h1, h2]; omega) | omega | (omega)), trivial⟩
        exact c1
      · by_cases h3 : id < 0
        · refine acallsK mixed Try.func7 rfl [0, 1, 2, 3, 4, 7, 9, 10, 11, 12, 39] 1000 ([.call [] true false .nils [], .f, .f, .t]) [] [] (v1 := AV.tup [AV.nilp, AV.int IntKind.i64 1]) (objs1 := []) (ob := [ACalls Try.prog 22 [AV.agg [AV.int IntKind.u64 (LayD.epoch l), AV.lst 2 (List.map encS (LayD.segs l)), AV.int IntKind.i64 (LayD.seq l)], AV.int IntKind.u64 a] [] AV.nils [],
      decide (cl < (0 : Int)) = false,
      decide (cl ≥ (4 : Int)) = false,
      decide (id < (0 : Int)) = true]) (by kernel_rfl) (by first | exact rfl | exact ⟨rfl, rfl⟩ | (simp [encL, encC, celC, h1, h2, h3]; done) | (omega)) ⟨?q75_1, (by first | exact rfl | (simp [encL, encC, celC, h1, h2, h3]; done) | (simp [encL, encC, celC, h1, h2, h3]; omega) | omega | (omega)), (by first | exact rfl | (simp [encL, encC, celC, h1, h2, h3]; done) | (simp [encL, encC, celC, h1, h2, h3]; omega) | omega | (omega)), (by first | exact rfl | (simp [encL, encC, celC, h1, h2, h3]; done) | (simp [encL, encC, celC, h1, h2, h3]; omega) | omega | (omega)), trivial⟩
          exact c1
        · by_cases h4 : 1048576 ≤ id
          · refine acallsK mixed Try.func7 rfl [0, 1, 2, 3, 4, 7, 9, 10, 11, 12, 39] 1000 ([.call [] true false .nils [], .f, .f, .f, .t]) [] [] (v1 := AV.tup [AV.nilp, AV.int IntKind.i64 1]) (objs1 := []) (ob := [ACalls Try.prog 22 [AV.agg [AV.int IntKind.u64 (LayD.epoch l), AV.lst 2 (List.map encS (LayD.segs l)), AV.int IntKind.i64 (LayD.seq l)], AV.int IntKind.u64 a] [] AV.nils [],
      decide (cl < (0 : Int)) = false,
      decide (cl ≥ (4 : Int)) = false,
      decide (id < (0 : Int)) = false,
      decide (id > (1048575 : Int)) = true]) (by kernel_rfl) (by first | exact rfl | exact ⟨rfl, rfl⟩ | (simp [encL, encC, celC, h1, h2, h3, h4]; done) | (omega)) ⟨?q78_1, (by first | exact rfl | (simp [encL, encC, celC, h1, h2, h3, h4]; done) | (simp [encL, encC, celC, h1, h2, h3, h4]; omega) | omega | (omega)), (by first | exact rfl | (simp [encL, encC, celC, h1, h2, h3, h4]; done) | (simp [encL, encC, celC, h1, h2, h3, h4]; omega) | omega | (omega)), (by first | exact rfl | (simp [encL, encC, celC, h1, h2, h3, h4]; done) | (simp [encL, encC, celC, h1, h2, h3, h4]; omega) | omega | (omega)), (by first | exact rfl | (simp [encL, encC, celC, h1, h2, h3, h4]; done) | (simp [encL, encC, celC, h1, h2, h3, h4]; omega) | omega | (omega)), trivial⟩
            exact c1
          · refine acallsK mixed Try.func7 rfl [0, 1, 2, 3, 4, 7, 9, 10, 11, 12, 39] 1000 ([.call [] true false .nils [], .f, .f, .f, .f, .t]) [] [] (v1 := AV.tup [AV.nilp, AV.int IntKind.i64 1]) (objs1 := []) (ob := [ACalls Try.prog 22 [AV.agg [AV.int IntKind.u64 (LayD.epoch l), AV.lst 2 (List.map encS (LayD.segs l)), AV.int IntKind.i64 (LayD.seq l)], AV.int IntKind.u64 a] [] AV.nils [],
      decide (cl < (0 : Int)) = false,
      decide (cl ≥ (4 : Int)) = false,
      decide (id < (0 : Int)) = false,
      decide (id > (1048575 : Int)) = false,
      ((0 : Int) == (0 : Int)) = true]) (by kernel_rfl) (by first | exact rfl | exact ⟨rfl, rfl⟩ | (simp [encL, encC, celC, h1, h2, h3, h4]; done) | (omega)) ⟨?q80_1, (by first | exact rfl | (simp [encL, encC, celC, h1, h2, h3, h4]; done) | (simp [encL, encC, celC, h1, h2, h3, h4]; omega) | omega | (omega)), (by first | exact rfl | (simp [encL, encC, celC, h1, h2, h3, h4]; done) | (simp [encL, encC, celC, h1, h2, h3, h4]; omega) | omega | (omega)), (by first | exact rfl | (simp [encL, encC, celC, h1, h2, h3, h4]; done) | (simp [encL, encC, celC, h1, h2, h3, h4]; omega) | omega | (omega)), (by first | exact rfl | (simp [encL, encC, celC, h1, h2, h3, h4]; done) | (simp [encL, encC, celC, h1, h2, h3, h4]; omega) | omega | (omega)), (by first | exact rfl | (simp [encL, encC, celC, h1, h2, h3, h4]; done) | (simp [encL, encC, celC, h1, h2, h3, h4]; omega) | omega | (omega)), trivial⟩
            exact c1
end Go.Proofs.Ytidgcfgkcidkiaa.Ch
