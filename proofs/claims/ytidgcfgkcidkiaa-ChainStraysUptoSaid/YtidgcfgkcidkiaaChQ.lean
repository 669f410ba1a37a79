/- The law's guards, and the live question. -/
import Derived.Test.YtidgcfgkcidkiaaChP
namespace Go.Proofs.Ytidgcfgkcidkiaa.Ch
open Go Go.RowKit Go.Proofs.Ytidgcfgkcidkiaa.L Go.Proofs.Ytidgcfgkcidkiaa.X
set_option linter.unusedVariables false
set_option linter.unusedSimpArgs false

def ofA (cl id : Int) (l : LayD) (a : Int) (c : CellD) : AV := .agg ([.int .i64 cl, .int .i64 id] ++ celL l ++ [.int .u64 a] ++ celC c)
theorem offits_ac (cl id : Int) (l : LayD) (a : Int) (c : CellD) : ∃ b, ACalls Try.prog 5 [ofA cl id l a c] [] (.bool b) [] := by
  obtain ⟨b1, c1⟩ := fits09_ac l
  obtain ⟨b2, c2⟩ := fits07_ac c
  cases b1 with
  | false =>
    refine ⟨false, ?_⟩
    refine acallsK mixed Try.func5 rfl [0, 1, 2, 3, 4] 1000 ([.call [] false true (.bool false) [], .call [] false true (.bool b2) []]) [] [] (v1 := AV.bool false) (objs1 := []) (ob := [ACalls Try.prog 13 [AV.agg [AV.int IntKind.u64 (LayD.epoch l), AV.lst 2 (List.map encS (LayD.segs l)), AV.int IntKind.i64 (LayD.seq l)]] [] (AV.bool false) [],
      ACalls Try.prog 21 [AV.agg [AV.int IntKind.i64 (CellD.kind c), AV.lst 1 (List.map byteA (CellD.data c)), AV.lst 3 (List.map encB (CellD.backs c))]] [] (AV.bool b2) []]) (by kernel_rfl) (by first | exact rfl | exact ⟨rfl, rfl⟩ | (simp [ofA]; done)) ⟨?q14_1, ?q14_2, trivial⟩
    · exact c1
    · exact c2
  | true =>
    cases b2 with
    | false =>
      refine ⟨false, ?_⟩
      refine acallsK mixed Try.func5 rfl [0, 1, 2, 3, 4] 1000 ([.call [] false true (.bool true) [], .call [] false true (.bool false) []]) [] [] (v1 := AV.bool false) (objs1 := []) (ob := [ACalls Try.prog 13 [AV.agg [AV.int IntKind.u64 (LayD.epoch l), AV.lst 2 (List.map encS (LayD.segs l)), AV.int IntKind.i64 (LayD.seq l)]] [] (AV.bool true) [],
      ACalls Try.prog 21 [AV.agg [AV.int IntKind.i64 (CellD.kind c), AV.lst 1 (List.map byteA (CellD.data c)), AV.lst 3 (List.map encB (CellD.backs c))]] [] (AV.bool false) []]) (by kernel_rfl) (by first | exact rfl | exact ⟨rfl, rfl⟩ | (simp [ofA]; done)) ⟨?q21_1, ?q21_2, trivial⟩
      · exact c1
      · exact c2
    | true =>
      refine ⟨true, ?_⟩
      refine acallsK mixed Try.func5 rfl [0, 1, 2, 3, 4] 1000 ([.call [] false true (.bool true) [], .call [] false true (.bool true) []]) [] [] (v1 := AV.bool true) (objs1 := []) (ob := [ACalls Try.prog 13 [AV.agg [AV.int IntKind.u64 (LayD.epoch l), AV.lst 2 (List.map encS (LayD.segs l)), AV.int IntKind.i64 (LayD.seq l)]] [] (AV.bool true) [],
      ACalls Try.prog 21 [AV.agg [AV.int IntKind.i64 (CellD.kind c), AV.lst 1 (List.map byteA (CellD.data c)), AV.lst 3 (List.map encB (CellD.backs c))]] [] (AV.bool true) []]) (by kernel_rfl) (by first | exact rfl | exact ⟨rfl, rfl⟩ | (simp [ofA]; done)) ⟨?q26_1, ?q26_2, trivial⟩
      · exact c1
      · exact c2
theorem fits10_ac (m : MsgD) : ∃ b, ACalls Try.prog 6 [encM m] [] (.bool b) [] := by
  obtain ⟨b1, c1⟩ := fits07_ac m.cell
  obtain ⟨b2, c2⟩ := fits09_ac m.lay
  cases b1 with
  | false =>
    refine ⟨false, ?_⟩
    refine acallsK mixed Try.func6 rfl [0, 1, 2, 3, 4] 1000 ([.call [] false true (.bool false) [], .call [] false true (.bool b2) []]) [] [] (v1 := AV.bool false) (objs1 := []) (ob := [ACalls Try.prog 21 [AV.agg [AV.int IntKind.i64 (CellD.kind (MsgD.cell m)), AV.lst 1 (List.map byteA (CellD.data (MsgD.cell m))), AV.lst 3 (List.map encB (CellD.backs (MsgD.cell m)))]] [] (AV.bool false) [],
      ACalls Try.prog 13 [AV.agg [AV.int IntKind.u64 (LayD.epoch (MsgD.lay m)), AV.lst 2 (List.map encS (LayD.segs (MsgD.lay m))), AV.int IntKind.i64 (LayD.seq (MsgD.lay m))]] [] (AV.bool b2) []]) (by kernel_rfl) (by first | exact rfl | exact ⟨rfl, rfl⟩ | (simp [encM]; done)) ⟨?q35_1, ?q35_2, trivial⟩
    · exact c1
    · exact c2
  | true =>
    cases b2 with
    | false =>
      refine ⟨false, ?_⟩
      refine acallsK mixed Try.func6 rfl [0, 1, 2, 3, 4] 1000 ([.call [] false true (.bool true) [], .call [] false true (.bool false) []]) [] [] (v1 := AV.bool false) (objs1 := []) (ob := [ACalls Try.prog 21 [AV.agg [AV.int IntKind.i64 (CellD.kind (MsgD.cell m)), AV.lst 1 (List.map byteA (CellD.data (MsgD.cell m))), AV.lst 3 (List.map encB (CellD.backs (MsgD.cell m)))]] [] (AV.bool true) [],
      ACalls Try.prog 13 [AV.agg [AV.int IntKind.u64 (LayD.epoch (MsgD.lay m)), AV.lst 2 (List.map encS (LayD.segs (MsgD.lay m))), AV.int IntKind.i64 (LayD.seq (MsgD.lay m))]] [] (AV.bool false) []]) (by kernel_rfl) (by first | exact rfl | exact ⟨rfl, rfl⟩ | (simp [encM]; done)) ⟨?q42_1, ?q42_2, trivial⟩
      · exact c1
      · exact c2
    | true =>
      by_cases h1 : m.streams.length ≤ 30
      · by_cases h2 : m.backs.length ≤ 30
        · refine ⟨true, ?_⟩
          refine acallsK mixed Try.func6 rfl [0, 1, 2, 3, 4] 1000 ([.call [] false true (.bool true) [], .call [] false true (.bool true) [], .n m.streams.length, .t, .n m.backs.length, .t]) [] [] (v1 := AV.bool true) (objs1 := []) (ob := [ACalls Try.prog 21 [AV.agg [AV.int IntKind.i64 (CellD.kind (MsgD.cell m)), AV.lst 1 (List.map byteA (CellD.data (MsgD.cell m))), AV.lst 3 (List.map encB (CellD.backs (MsgD.cell m)))]] [] (AV.bool true) [],
      ACalls Try.prog 13 [AV.agg [AV.int IntKind.u64 (LayD.epoch (MsgD.lay m)), AV.lst 2 (List.map encS (LayD.segs (MsgD.lay m))), AV.int IntKind.i64 (LayD.seq (MsgD.lay m))]] [] (AV.bool true) [],
      (↑(List.length (List.map intA (MsgD.streams m))) : Int) = (↑(List.length (MsgD.streams m)) : Int),
      decide ((↑(List.length (MsgD.streams m)) : Int) ≤ (30 : Int)) = true,
      (↑(List.length (List.map encB (MsgD.backs m))) : Int) = (↑(List.length (MsgD.backs m)) : Int),
      decide ((↑(List.length (MsgD.backs m)) : Int) ≤ (30 : Int)) = true]) (by kernel_rfl) (by first | exact rfl | exact ⟨rfl, rfl⟩ | (simp [encM, h1, h2]; done) | (omega)) ⟨?q49_1, ?q49_2, (by first | exact rfl | (simp [encM, h1, h2]; done) | (simp [encM, h1, h2]; omega) | omega | (omega)), (by first | exact rfl | (simp [encM, h1, h2]; done) | (simp [encM, h1, h2]; omega) | omega | (omega)), (by first | exact rfl | (simp [encM, h1, h2]; done) | (simp [encM, h1, h2]; omega) | omega | (omega)), (by first | exact rfl | (simp [encM, h1, h2]; done) | (simp [encM, h1, h2]; omega) | omega | (omega)), trivial⟩
          · exact c1
          · exact c2
        · refine ⟨false, ?_⟩
          refine acallsK mixed Try.func6 rfl [0, 1, 2, 3, 4] 1000 ([.call [] false true (.bool true) [], .call [] false true (.bool true) [], .n m.streams.length, .t, .n m.backs.length, .f]) [] [] (v1 := AV.bool false) (objs1 := []) (ob := [ACalls Try.prog 21 [AV.agg [AV.int IntKind.i64 (CellD.kind (MsgD.cell m)), AV.lst 1 (List.map byteA (CellD.data (MsgD.cell m))), AV.lst 3 (List.map encB (CellD.backs (MsgD.cell m)))]] [] (AV.bool true) [],
      ACalls Try.prog 13 [AV.agg [AV.int IntKind.u64 (LayD.epoch (MsgD.lay m)), AV.lst 2 (List.map encS (LayD.segs (MsgD.lay m))), AV.int IntKind.i64 (LayD.seq (MsgD.lay m))]] [] (AV.bool true) [],
      (↑(List.length (List.map intA (MsgD.streams m))) : Int) = (↑(List.length (MsgD.streams m)) : Int),
      decide ((↑(List.length (MsgD.streams m)) : Int) ≤ (30 : Int)) = true,
      (↑(List.length (List.map encB (MsgD.backs m))) : Int) = (↑(List.length (MsgD.backs m)) : Int),
      decide ((↑(List.length (MsgD.backs m)) : Int) ≤ (30 : Int)) = false]) (by kernel_rfl) (by first | exact rfl | exact ⟨rfl, rfl⟩ | (simp [encM, h1, h2]; done) | (omega)) ⟨?q53_1, ?q53_2, (by first | exact rfl | (simp [encM, h1, h2]; done) | (simp [encM, h1, h2]; omega) | omega | (omega)), (by first | exact rfl | (simp [encM, h1, h2]; done) | (simp [encM, h1, h2]; omega) | omega | (omega)), (by first | exact rfl | (simp [encM, h1, h2]; done) | (simp [encM, h1, h2]; omega) | omega | (omega)), (by first | exact rfl | (simp [encM, h1, h2]; done) | (simp [encM, h1, h2]; omega) | omega | (omega)), trivial⟩
          · exact c1
          · exact c2
      · refine ⟨false, ?_⟩
        refine acallsK mixed Try.func6 rfl [0, 1, 2, 3, 4] 1000 ([.call [] false true (.bool true) [], .call [] false true (.bool true) [], .n m.streams.length, .f]) [] [] (v1 := AV.bool false) (objs1 := []) (ob := [ACalls Try.prog 21 [AV.agg [AV.int IntKind.i64 (CellD.kind (MsgD.cell m)), AV.lst 1 (List.map byteA (CellD.data (MsgD.cell m))), AV.lst 3 (List.map encB (CellD.backs (MsgD.cell m)))]] [] (AV.bool true) [],
      ACalls Try.prog 13 [AV.agg [AV.int IntKind.u64 (LayD.epoch (MsgD.lay m)), AV.lst 2 (List.map encS (LayD.segs (MsgD.lay m))), AV.int IntKind.i64 (LayD.seq (MsgD.lay m))]] [] (AV.bool true) [],
      (↑(List.length (List.map intA (MsgD.streams m))) : Int) = (↑(List.length (MsgD.streams m)) : Int),
      decide ((↑(List.length (MsgD.streams m)) : Int) ≤ (30 : Int)) = false]) (by kernel_rfl) (by first | exact rfl | exact ⟨rfl, rfl⟩ | (simp [encM, h1]; done) | (omega)) ⟨?q57_1, ?q57_2, (by first | exact rfl | (simp [encM, h1]; done) | (simp [encM, h1]; omega) | omega | (omega)), (by first | exact rfl | (simp [encM, h1]; done) | (simp [encM, h1]; omega) | omega | (omega)), trivial⟩
        · exact c1
        · exact c2
def nextS (s : SetD) (u : Int) : SetD := wrote { s with at_ := s.at_ + 1, writes := 0 } u
theorem next_ac (s : SetD) {u : Int} (hu : s.chain[s.at_ + 1]? = some u) (hb : s.chain.length ≤ 1000000000000) (h1 : s.cell.data.length ≤ 1099511627776) (h2 : s.cell.backs.length ≤ 1099511627776) (h3 : s.out.length ≤ 1000) : ACalls Try.prog 30 [.ptr 0 0] (setO s) (.tup []) (setO (nextS s u)) := by
  have hl : s.at_ + 1 < s.chain.length := (List.getElem?_eq_some_iff.1 hu).1
  have q := write_ac { s with at_ := s.at_ + 1, writes := 0 } hu h1 h2 h3 (by simp) (by simp)
  refine acallsK mixed Try.func30 rfl [0, 18] 1000 ([.n ((s.at_ + 1 : Nat) : Int), .n s.chain.length, .f, .call [0, 1] false false (.tup []) (setO (nextS s u))]) [] [0, 3] (v1 := AV.tup []) (objs1 := [Obj.vars 71 [AV.int IntKind.i64 (SetD.client (nextS s u)), AV.int IntKind.i64 (SetD.id (nextS s u)), AV.int IntKind.u64 (SetD.epoch (nextS s u)), AV.int IntKind.u64 (SetD.a (nextS s u)), AV.int IntKind.i64 (CellD.kind (SetD.cell (nextS s u))), AV.lst 1 (List.map byteA (CellD.data (SetD.cell (nextS s u)))), AV.lst 3 (List.map encB (CellD.backs (SetD.cell (nextS s u)))), AV.lst 1 (List.map intA (SetD.chain (nextS s u))), AV.int IntKind.i64 (↑(SetD.at_ (nextS s u)) : Int), AV.bool (SetD.started (nextS s u)), AV.bool (SetD.over (nextS s u)), AV.int IntKind.i64 (SetD.e (nextS s u)), AV.int IntKind.i64 (SetD.ticks (nextS s u)), AV.int IntKind.i64 (SetD.writes (nextS s u)), AV.row 1 22 (List.length (SetD.out (nextS s u)))], Obj.row 42 22 (SetD.out (nextS s u))]) (ob := [IntKind.wrap IntKind.i64 ((↑(SetD.at_ s) : Int) + (1 : Int)) = (↑(SetD.at_ s + (1 : Nat)) : Int),
      (↑(List.length (List.map intA (SetD.chain s))) : Int) = (↑(List.length (SetD.chain s)) : Int),
      ((↑(SetD.at_ s + (1 : Nat)) : Int) == (↑(List.length (SetD.chain s)) : Int)) = false,
      ACalls Try.prog 31 [AV.ptr 0 0] [Obj.vars 71 [AV.int IntKind.i64 (SetD.client s), AV.int IntKind.i64 (SetD.id s), AV.int IntKind.u64 (SetD.epoch s), AV.int IntKind.u64 (SetD.a s), AV.int IntKind.i64 (CellD.kind (SetD.cell s)), AV.lst 1 (List.map byteA (CellD.data (SetD.cell s))), AV.lst 3 (List.map encB (CellD.backs (SetD.cell s))), AV.lst 1 (List.map intA (SetD.chain s)), AV.int IntKind.i64 (↑(SetD.at_ s + 1) : Int), AV.bool (SetD.started s), AV.bool (SetD.over s), AV.int IntKind.i64 (SetD.e s), AV.int IntKind.i64 (SetD.ticks s), AV.int IntKind.i64 0, AV.row 1 22 (List.length (SetD.out s))], Obj.row 42 22 (SetD.out s)] (AV.tup []) [Obj.vars 71 [AV.int IntKind.i64 (SetD.client (nextS s u)), AV.int IntKind.i64 (SetD.id (nextS s u)), AV.int IntKind.u64 (SetD.epoch (nextS s u)), AV.int IntKind.u64 (SetD.a (nextS s u)), AV.int IntKind.i64 (CellD.kind (SetD.cell (nextS s u))), AV.lst 1 (List.map byteA (CellD.data (SetD.cell (nextS s u)))), AV.lst 3 (List.map encB (CellD.backs (SetD.cell (nextS s u)))), AV.lst 1 (List.map intA (SetD.chain (nextS s u))), AV.int IntKind.i64 (↑(SetD.at_ (nextS s u)) : Int), AV.bool (SetD.started (nextS s u)), AV.bool (SetD.over (nextS s u)), AV.int IntKind.i64 (SetD.e (nextS s u)), AV.int IntKind.i64 (SetD.ticks (nextS s u)), AV.int IntKind.i64 (SetD.writes (nextS s u)), AV.row 1 22 (List.length (SetD.out (nextS s u)))], Obj.row 42 22 (SetD.out (nextS s u))]]) (by kernel_rfl) (by first | exact rfl | exact ⟨rfl, rfl⟩ | (simp [celS, setO, nextS, wrote]; done) | (first | omega | exact wrap64 (by omega))) ⟨(by first | exact rfl | (simp [celS, setO, nextS, wrote]; done) | (simp [celS, setO, nextS, wrote]; omega) | omega | (first | omega | exact wrap64 (by omega))), (by first | exact rfl | (simp [celS, setO, nextS, wrote]; done) | (simp [celS, setO, nextS, wrote]; omega) | omega | (first | omega | exact wrap64 (by omega))), (by first | exact rfl | (simp [celS, setO, nextS, wrote]; done) | (simp [celS, setO, nextS, wrote]; omega) | omega | (first | omega | exact wrap64 (by omega))), ?q64_1, trivial⟩
  · exact q
end Go.Proofs.Ytidgcfgkcidkiaa.Ch
