/- Layouts: what is fine, what is right: by runs along paths. -/
import Derived.Test.YtidgcfgkcidkiaaChH
import Derived.Test.YtidgcfgkcidkiaaChJ
import Derived.Test.YtidgcfgkcidkiaaChL
namespace Go.Proofs.Ytidgcfgkcidkiaa.Ch
open Go Go.RowKit Go.Proofs.Ytidgcfgkcidkiaa.L Go.Proofs.Ytidgcfgkcidkiaa.X
set_option linter.unusedVariables false
set_option linter.unusedSimpArgs false

def fineB (s : SegD) : Bool := decide (s.at_ < 1048576) && (lenB s.chains.length 4 && (!s.chains.any longB && (!(sortL (catL s.chains)).any outB && decide (((Go.Lib.compact (sortL (catL s.chains))).length : Int) = (catL s.chains).length))))
theorem fine_ac (s : SegD) (hb : (catL s.chains).length ≤ 1000000000000) (hl : s.chains.length ≤ 1000000000000) : ACalls Try.prog 35 [encS s] [] (.bool (fineB s)) [] := by
  have c1 := concat_ac s.chains (by omega) (by omega)
  have c2 := sort_tu (catL s.chains) (by omega)
  have hs : (sortL (catL s.chains)).length = (catL s.chains).length := sortL_length _
  have c3 := within_chains (s.chains.map encU) 4
  rw [List.length_map] at c3
  have c4 := has_chains s.chains hl
  have c5 := has_units (sortL (catL s.chains)) (by omega)
  have c6 := compact_ac (sortL (catL s.chains)) (by omega)
  rw [hs] at c6
  by_cases h1 : s.at_ < 1048576
  · cases h2 : lenB s.chains.length 4 with
    | false =>
      rw [h2] at c3
      rw [show fineB s = false by simp [fineB, h1, h2]]
      refine acallsK mixed Try.func35 rfl [0, 1, 2, 3] 1000 ([.call [] false false (.row 0 1 (catL s.chains).length) [.row 3 1 ((catL s.chains).map intA)], .tu 1 ((sortL (catL s.chains)).map intA) (.tup []), .t, .call [] false true (.bool false) []]) [] [] (v1 := AV.bool false) (objs1 := []) (ob := [ACalls Try.prog 39 [AV.lst 1 (List.map encU (SegD.chains s))] [] (AV.row 0 1 (List.length (catL (SegD.chains s)))) [Obj.row 3 1 (List.map intA (catL (SegD.chains s)))],
      List.length (List.map intA (sortL (catL (SegD.chains s)))) = List.length (List.map intA (catL (SegD.chains s))),
      ATurn Try.prog 40 [AV.row 0 1 (List.length (catL (SegD.chains s)))] 3 1 (List.map intA (catL (SegD.chains s))) (List.map intA (sortL (catL (SegD.chains s)))) (AV.tup []),
      decide (SegD.at_ s < (1048576 : Int)) = true,
      ACalls Try.prog 66 [AV.lst 1 (List.map encU (SegD.chains s)), AV.int IntKind.i64 4] [] (AV.bool false) []]) (by kernel_rfl) (by first | exact rfl | exact ⟨rfl, rfl⟩ | (simp [encS, h1, h2, hs]; done)) ⟨?q25_1, (by first | exact rfl | (simp [encS, h1, h2, hs]; done) | (simp [encS, h1, h2, hs]; omega) | omega), ?q25_2, (by first | exact rfl | (simp [encS, h1, h2, hs]; done) | (simp [encS, h1, h2, hs]; omega) | omega), ?q25_3, trivial⟩
      · exact c1
      · exact c2
      · exact c3
    | true =>
      rw [h2] at c3
      cases h3 : s.chains.any longB with
      | true =>
        rw [h3] at c4
        rw [show fineB s = false by simp [fineB, h1, h2, h3]]
        refine acallsK mixed Try.func35 rfl [0, 1, 2, 3] 1000 ([.call [] false false (.row 0 1 (catL s.chains).length) [.row 3 1 ((catL s.chains).map intA)], .tu 1 ((sortL (catL s.chains)).map intA) (.tup []), .t, .call [] false true (.bool true) [], .call [] false true (.bool true) []]) [] [] (v1 := AV.bool false) (objs1 := []) (ob := [ACalls Try.prog 39 [AV.lst 1 (List.map encU (SegD.chains s))] [] (AV.row 0 1 (List.length (catL (SegD.chains s)))) [Obj.row 3 1 (List.map intA (catL (SegD.chains s)))],
      List.length (List.map intA (sortL (catL (SegD.chains s)))) = List.length (List.map intA (catL (SegD.chains s))),
      ATurn Try.prog 40 [AV.row 0 1 (List.length (catL (SegD.chains s)))] 3 1 (List.map intA (catL (SegD.chains s))) (List.map intA (sortL (catL (SegD.chains s)))) (AV.tup []),
      decide (SegD.at_ s < (1048576 : Int)) = true,
      ACalls Try.prog 66 [AV.lst 1 (List.map encU (SegD.chains s)), AV.int IntKind.i64 4] [] (AV.bool true) [],
      ACalls Try.prog 67 [AV.lst 1 (List.map encU (SegD.chains s)), AV.fn 68 []] [] (AV.bool true) []]) (by kernel_rfl) (by first | exact rfl | exact ⟨rfl, rfl⟩ | (simp [encS, h1, h2, hs]; done)) ⟨?q35_1, (by first | exact rfl | (simp [encS, h1, h2, hs]; done) | (simp [encS, h1, h2, hs]; omega) | omega), ?q35_2, (by first | exact rfl | (simp [encS, h1, h2, hs]; done) | (simp [encS, h1, h2, hs]; omega) | omega), ?q35_3, ?q35_4, trivial⟩
        · exact c1
        · exact c2
        · exact c3
        · exact c4
      | false =>
        rw [h3] at c4
        cases h4 : (sortL (catL s.chains)).any outB with
        | true =>
          rw [h4] at c5
          rw [show fineB s = false by simp only [fineB, h1, h2, h3, h4]; simp]
          refine acallsK mixed Try.func35 rfl [0, 1, 2, 3] 1000 ([.call [] false false (.row 0 1 (catL s.chains).length) [.row 3 1 ((catL s.chains).map intA)], .tu 1 ((sortL (catL s.chains)).map intA) (.tup []), .t, .call [] false true (.bool true) [], .call [] false true (.bool false) [], .call [] false true (.bool true) []]) [] [] (v1 := AV.bool false) (objs1 := []) (ob := [ACalls Try.prog 39 [AV.lst 1 (List.map encU (SegD.chains s))] [] (AV.row 0 1 (List.length (catL (SegD.chains s)))) [Obj.row 3 1 (List.map intA (catL (SegD.chains s)))],
      List.length (List.map intA (sortL (catL (SegD.chains s)))) = List.length (List.map intA (catL (SegD.chains s))),
      ATurn Try.prog 40 [AV.row 0 1 (List.length (catL (SegD.chains s)))] 3 1 (List.map intA (catL (SegD.chains s))) (List.map intA (sortL (catL (SegD.chains s)))) (AV.tup []),
      decide (SegD.at_ s < (1048576 : Int)) = true,
      ACalls Try.prog 66 [AV.lst 1 (List.map encU (SegD.chains s)), AV.int IntKind.i64 4] [] (AV.bool true) [],
      ACalls Try.prog 67 [AV.lst 1 (List.map encU (SegD.chains s)), AV.fn 68 []] [] (AV.bool false) [],
      ACalls Try.prog 70 [AV.lst 1 (List.map intA (sortL (catL (SegD.chains s)))), AV.fn 33 []] [] (AV.bool true) []]) (by kernel_rfl) (by first | exact rfl | exact ⟨rfl, rfl⟩ | (simp [encS, h1, h2, hs]; done)) ⟨?q46_1, (by first | exact rfl | (simp [encS, h1, h2, hs]; done) | (simp [encS, h1, h2, hs]; omega) | omega), ?q46_2, (by first | exact rfl | (simp [encS, h1, h2, hs]; done) | (simp [encS, h1, h2, hs]; omega) | omega), ?q46_3, ?q46_4, ?q46_5, trivial⟩
          · exact c1
          · exact c2
          · exact c3
          · exact c4
          · exact c5
        | false =>
          rw [h4] at c5
          rw [show fineB s = decide (((Go.Lib.compact (sortL (catL s.chains))).length : Int) = (catL s.chains).length) by simp only [fineB, h1, h2, h3, h4]; simp]
          by_cases h5 : ((Go.Lib.compact (sortL (catL s.chains))).length : Int) = (catL s.chains).length
          · rw [show decide (((Go.Lib.compact (sortL (catL s.chains))).length : Int) = (catL s.chains).length) = true by simp only [h5]; simp]
            refine acallsK mixed Try.func35 rfl [0, 1, 2, 3] 1000 ([.call [] false false (.row 0 1 (catL s.chains).length) [.row 3 1 ((catL s.chains).map intA)], .tu 1 ((sortL (catL s.chains)).map intA) (.tup []), .t, .call [] false true (.bool true) [], .call [] false true (.bool false) [], .call [] false true (.bool false) [], .call [1] false false (.row 1 1 (Go.Lib.compact (sortL (catL s.chains))).length) [.gone, .row 3 1 ((Go.Lib.compact (sortL (catL s.chains))).map intA)], .n (Go.Lib.compact (sortL (catL s.chains))).length, .call [] false false (.row 0 1 (catL s.chains).length) [.row 3 1 ((catL s.chains).map intA)], .n (catL s.chains).length, .t]) [] [] (v1 := AV.bool true) (objs1 := []) (ob := [ACalls Try.prog 39 [AV.lst 1 (List.map encU (SegD.chains s))] [] (AV.row 0 1 (List.length (catL (SegD.chains s)))) [Obj.row 3 1 (List.map intA (catL (SegD.chains s)))],
      List.length (List.map intA (sortL (catL (SegD.chains s)))) = List.length (List.map intA (catL (SegD.chains s))),
      ATurn Try.prog 40 [AV.row 0 1 (List.length (catL (SegD.chains s)))] 3 1 (List.map intA (catL (SegD.chains s))) (List.map intA (sortL (catL (SegD.chains s)))) (AV.tup []),
      decide (SegD.at_ s < (1048576 : Int)) = true,
      ACalls Try.prog 66 [AV.lst 1 (List.map encU (SegD.chains s)), AV.int IntKind.i64 4] [] (AV.bool true) [],
      ACalls Try.prog 67 [AV.lst 1 (List.map encU (SegD.chains s)), AV.fn 68 []] [] (AV.bool false) [],
      ACalls Try.prog 70 [AV.lst 1 (List.map intA (sortL (catL (SegD.chains s)))), AV.fn 33 []] [] (AV.bool false) [],
      ACalls Try.prog 41 [AV.row 0 1 (List.length (catL (SegD.chains s)))] [Obj.row 3 1 (List.map intA (sortL (catL (SegD.chains s))))] (AV.row 1 1 (List.length (Lib.compact (sortL (catL (SegD.chains s)))))) [Obj.gone, Obj.row 3 1 (List.map intA (Lib.compact (sortL (catL (SegD.chains s)))))],
      (↑(List.length (Lib.compact (sortL (catL (SegD.chains s))))) : Int) = (↑(List.length (Lib.compact (sortL (catL (SegD.chains s))))) : Int),
      ACalls Try.prog 39 [AV.lst 1 (List.map encU (SegD.chains s))] [] (AV.row 0 1 (List.length (catL (SegD.chains s)))) [Obj.row 3 1 (List.map intA (catL (SegD.chains s)))],
      (↑(List.length (catL (SegD.chains s))) : Int) = (↑(List.length (catL (SegD.chains s))) : Int),
      ((↑(List.length (Lib.compact (sortL (catL (SegD.chains s))))) : Int) == (↑(List.length (catL (SegD.chains s))) : Int)) = true]) (by kernel_rfl) (by first | exact rfl | exact ⟨rfl, rfl⟩ | (simp [encS, h1, h2, hs, h5]; done) | (exact decide_eq_true h5)) ⟨?q57_1, (by first | exact rfl | (simp [encS, h1, h2, hs, h5]; done) | (simp [encS, h1, h2, hs, h5]; omega) | omega | (exact decide_eq_true h5)), ?q57_2, (by first | exact rfl | (simp [encS, h1, h2, hs, h5]; done) | (simp [encS, h1, h2, hs, h5]; omega) | omega | (exact decide_eq_true h5)), ?q57_3, ?q57_4, ?q57_5, ?q57_6, (by first | exact rfl | (simp [encS, h1, h2, hs, h5]; done) | (simp [encS, h1, h2, hs, h5]; omega) | omega | (exact decide_eq_true h5)), ?q57_7, (by first | exact rfl | (simp [encS, h1, h2, hs, h5]; done) | (simp [encS, h1, h2, hs, h5]; omega) | omega | (exact decide_eq_true h5)), (by first | exact rfl | (simp [encS, h1, h2, hs, h5]; done) | (simp [encS, h1, h2, hs, h5]; omega) | omega | (exact decide_eq_true h5)), trivial⟩
            · exact c1
            · exact c2
            · exact c3
            · exact c4
            · exact c5
            · exact c6
            · exact c1
          · rw [show decide (((Go.Lib.compact (sortL (catL s.chains))).length : Int) = (catL s.chains).length) = false from decide_eq_false h5]
            refine acallsK mixed Try.func35 rfl [0, 1, 2, 3] 1000 ([.call [] false false (.row 0 1 (catL s.chains).length) [.row 3 1 ((catL s.chains).map intA)], .tu 1 ((sortL (catL s.chains)).map intA) (.tup []), .t, .call [] false true (.bool true) [], .call [] false true (.bool false) [], .call [] false true (.bool false) [], .call [1] false false (.row 1 1 (Go.Lib.compact (sortL (catL s.chains))).length) [.gone, .row 3 1 ((Go.Lib.compact (sortL (catL s.chains))).map intA)], .n (Go.Lib.compact (sortL (catL s.chains))).length, .call [] false false (.row 0 1 (catL s.chains).length) [.row 3 1 ((catL s.chains).map intA)], .n (catL s.chains).length, .f]) [] [] (v1 := AV.bool false) (objs1 := []) (ob := [ACalls Try.prog 39 [AV.lst 1 (List.map encU (SegD.chains s))] [] (AV.row 0 1 (List.length (catL (SegD.chains s)))) [Obj.row 3 1 (List.map intA (catL (SegD.chains s)))],
      List.length (List.map intA (sortL (catL (SegD.chains s)))) = List.length (List.map intA (catL (SegD.chains s))),
      ATurn Try.prog 40 [AV.row 0 1 (List.length (catL (SegD.chains s)))] 3 1 (List.map intA (catL (SegD.chains s))) (List.map intA (sortL (catL (SegD.chains s)))) (AV.tup []),
      decide (SegD.at_ s < (1048576 : Int)) = true,
      ACalls Try.prog 66 [AV.lst 1 (List.map encU (SegD.chains s)), AV.int IntKind.i64 4] [] (AV.bool true) [],
      ACalls Try.prog 67 [AV.lst 1 (List.map encU (SegD.chains s)), AV.fn 68 []] [] (AV.bool false) [],
      ACalls Try.prog 70 [AV.lst 1 (List.map intA (sortL (catL (SegD.chains s)))), AV.fn 33 []] [] (AV.bool false) [],
      ACalls Try.prog 41 [AV.row 0 1 (List.length (catL (SegD.chains s)))] [Obj.row 3 1 (List.map intA (sortL (catL (SegD.chains s))))] (AV.row 1 1 (List.length (Lib.compact (sortL (catL (SegD.chains s)))))) [Obj.gone, Obj.row 3 1 (List.map intA (Lib.compact (sortL (catL (SegD.chains s)))))],
      (↑(List.length (Lib.compact (sortL (catL (SegD.chains s))))) : Int) = (↑(List.length (Lib.compact (sortL (catL (SegD.chains s))))) : Int),
      ACalls Try.prog 39 [AV.lst 1 (List.map encU (SegD.chains s))] [] (AV.row 0 1 (List.length (catL (SegD.chains s)))) [Obj.row 3 1 (List.map intA (catL (SegD.chains s)))],
      (↑(List.length (catL (SegD.chains s))) : Int) = (↑(List.length (catL (SegD.chains s))) : Int),
      ((↑(List.length (Lib.compact (sortL (catL (SegD.chains s))))) : Int) == (↑(List.length (catL (SegD.chains s))) : Int)) = false]) (by kernel_rfl) (by first | exact rfl | exact ⟨rfl, rfl⟩ | (simp [encS, h1, h2, hs]; done) | (exact decide_eq_false h5)) ⟨?q66_1, (by first | exact rfl | (simp [encS, h1, h2, hs]; done) | (simp [encS, h1, h2, hs]; omega) | omega | (exact decide_eq_false h5)), ?q66_2, (by first | exact rfl | (simp [encS, h1, h2, hs]; done) | (simp [encS, h1, h2, hs]; omega) | omega | (exact decide_eq_false h5)), ?q66_3, ?q66_4, ?q66_5, ?q66_6, (by first | exact rfl | (simp [encS, h1, h2, hs]; done) | (simp [encS, h1, h2, hs]; omega) | omega | (exact decide_eq_false h5)), ?q66_7, (by first | exact rfl | (simp [encS, h1, h2, hs]; done) | (simp [encS, h1, h2, hs]; omega) | omega | (exact decide_eq_false h5)), (by first | exact rfl | (simp [encS, h1, h2, hs]; done) | (simp [encS, h1, h2, hs]; omega) | omega | (exact decide_eq_false h5)), trivial⟩
            · exact c1
            · exact c2
            · exact c3
            · exact c4
            · exact c5
            · exact c6
            · exact c1
  · rw [show fineB s = false by simp [fineB, h1]]
    refine acallsK mixed Try.func35 rfl [0, 1, 2, 3] 1000 ([.call [] false false (.row 0 1 (catL s.chains).length) [.row 3 1 ((catL s.chains).map intA)], .tu 1 ((sortL (catL s.chains)).map intA) (.tup []), .f]) [] [] (v1 := AV.bool false) (objs1 := []) (ob := [ACalls Try.prog 39 [AV.lst 1 (List.map encU (SegD.chains s))] [] (AV.row 0 1 (List.length (catL (SegD.chains s)))) [Obj.row 3 1 (List.map intA (catL (SegD.chains s)))],
      List.length (List.map intA (sortL (catL (SegD.chains s)))) = List.length (List.map intA (catL (SegD.chains s))),
      ATurn Try.prog 40 [AV.row 0 1 (List.length (catL (SegD.chains s)))] 3 1 (List.map intA (catL (SegD.chains s))) (List.map intA (sortL (catL (SegD.chains s)))) (AV.tup []),
      decide (SegD.at_ s < (1048576 : Int)) = false]) (by kernel_rfl) (by first | exact rfl | exact ⟨rfl, rfl⟩ | (simp [encS, h1, hs]; done)) ⟨?q75_1, (by first | exact rfl | (simp [encS, h1, hs]; done) | (simp [encS, h1, hs]; omega) | omega), ?q75_2, (by first | exact rfl | (simp [encS, h1, hs]; done) | (simp [encS, h1, hs]; omega) | omega), trivial⟩
    · exact c1
    · exact c2
end Go.Proofs.Ytidgcfgkcidkiaa.Ch
