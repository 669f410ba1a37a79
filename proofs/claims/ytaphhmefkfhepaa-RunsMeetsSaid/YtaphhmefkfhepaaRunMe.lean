/- The law RunsMeets: by runs along paths. -/
import Derived.Test.YtaphhmefkfhepaaRunMv
import Derived.Test.YtaphhmefkfhepaaRunX
namespace Go.Proofs.Ytaphhmefkfhepaa.Run
open Go Go.RowKit Go.Proofs.Ytaphhmefkfhepaa.L Go.Proofs.Ytaphhmefkfhepaa.X
set_option linter.unusedVariables false
set_option linter.unusedSimpArgs false

/-- Three sets. -/
def thr (a b c : List Rn) : List X.Obj := [.vars 62 [.row 1 2 a.length], .row 30 2 (a.map enc), .vars 62 [.row 3 2 b.length], .row 30 2 (b.map enc), .vars 62 [.row 5 2 c.length], .row 30 2 (c.map enc)]
/-- The law's loop: the runs of y are taken out of x. -/
theorem me_drop (S l J : List Rn) (hS : Good S) (hS2 : S.length ≤ 60) (h64 : All64 l) (hl : l.length ≤ 60) : ∀ (n k : Nat), l.length = k + n →
    ALoop Try.prog 0 Try.f8.ntmps (loopB Try.f8 0) ⟨[(15, .int .i64 k), (14, .lst 2 (l.map enc)), (7, .ptr 0 0), (8, .ptr 2 0), (10, .ptr 4 0), (11, .bool true), (12, .bool true), (13, .bool true)], thr (cutAll S (l.take k)) l J⟩ (.exit 0) ⟨[(7, .ptr 0 0), (8, .ptr 2 0), (10, .ptr 4 0), (11, .bool true), (12, .bool true), (13, .bool true)], thr (cutAll S l) l J⟩
  | 0, k, hk => by
    have e : cutAll S (l.take k) = cutAll S l := by rw [List.take_of_length_le (by omega)]
    rw [e]
    refine aloopK mixed [0, 1, 2, 6, 7, 8, 9, 10, 11, 12, 13, 14, 15, 59, 92] 1000 ([.go, .n l.length, .f]) [7, 8, 10, 11, 12, 13] [0, 1, 2, 3, 4, 5] (S1 := { env := [(7, AV.ptr 0 0), (8, AV.ptr 2 0), (10, AV.ptr 4 0), (11, AV.bool true), (12, AV.bool true), (13, AV.bool true)], objs := [Obj.vars 62 [AV.row 1 2 (List.length (cutAll S l))], Obj.row 30 2 (List.map enc (cutAll S l)), Obj.vars 62 [AV.row 3 2 (List.length l)], Obj.row 30 2 (List.map enc l), Obj.vars 62 [AV.row 5 2 (List.length J)], Obj.row 30 2 (List.map enc J)] }) (ob := [(↑(List.length (List.map enc l)) : Int) = (↑(List.length l) : Int),
      decide ((↑k : Int) < (↑(List.length l) : Int)) = false]) (by kernel_rfl) (by first | exact rfl | exact ⟨rfl, rfl⟩ | (simp [thr]; done)) ⟨(by first | exact rfl | (simp [thr]; done) | (simp [thr]; omega) | omega), (by first | exact rfl | (simp [thr]; done) | (simp [thr]; omega) | omega), trivial⟩
  | n + 1, k, hk => by
    obtain ⟨x, hx⟩ := get_of (l := l) (k := k) (by omega)
    have ih := me_drop S l J hS hS2 h64 hl n (k + 1) (by omega)
    have hg := cutAll_spec (l.take k) S hS (h64.take k)
    have e := cut_step hx S
    have ha := drop_ac hg.1 (h64 x (List.mem_of_getElem? hx)) (by have := hg.2.2; simp at this; omega)
    rw [← e] at ha
    refine aloopK mixed [0, 1, 2, 6, 7, 8, 9, 10, 11, 12, 13, 14, 15, 59, 92] 1000 ([.go, .n l.length, .t, .ix k, .el (enc x), .call [0, 1] false false (.int .u64 (countL (cutAll S (l.take k)) - countL (cutAll S (l.take (k + 1))))) (setObjs (cutAll S (l.take (k + 1)))), .n ((k+1:Nat):Int), .lp [15, 14, 7, 8, 10, 11, 12, 13] [0, 7, 2, 3, 4, 5] (.exit 0) ⟨[(7, .ptr 0 0), (8, .ptr 2 0), (10, .ptr 4 0), (11, .bool true), (12, .bool true), (13, .bool true)], thr (cutAll S l) l J⟩]) [7, 8, 10, 11, 12, 13] [0, 1, 2, 3, 4, 5] (S1 := { env := [(7, AV.ptr 0 0), (8, AV.ptr 2 0), (10, AV.ptr 4 0), (11, AV.bool true), (12, AV.bool true), (13, AV.bool true)], objs := [Obj.vars 62 [AV.row 1 2 (List.length (cutAll S l))], Obj.row 30 2 (List.map enc (cutAll S l)), Obj.vars 62 [AV.row 3 2 (List.length l)], Obj.row 30 2 (List.map enc l), Obj.vars 62 [AV.row 5 2 (List.length J)], Obj.row 30 2 (List.map enc J)] }) (ob := [(↑(List.length (List.map enc l)) : Int) = (↑(List.length l) : Int),
      decide ((↑k : Int) < (↑(List.length l) : Int)) = true,
      k < List.length (List.map enc l),
      (↑k : Int) = (↑k : Int),
      (List.map enc l)[k]? = some (AV.agg [AV.int IntKind.u64 (Rn.f x), AV.int IntKind.u64 (Rn.t x)]),
      ACalls Try.prog 18 [AV.ptr 0 0, AV.agg [AV.int IntKind.u64 (Rn.f x), AV.int IntKind.u64 (Rn.t x)]] [Obj.vars 62 [AV.row 1 2 (List.length (cutAll S (List.take k l)))], Obj.row 30 2 (List.map enc (cutAll S (List.take k l)))] (AV.int IntKind.u64 (countL (cutAll S (List.take k l)) - countL (cutAll S (List.take (k + 1) l)))) [Obj.vars 62 [AV.row 1 2 (List.length (cutAll S (List.take (k + 1) l)))], Obj.row 30 2 (List.map enc (cutAll S (List.take (k + 1) l)))],
      IntKind.wrap IntKind.i64 ((↑k : Int) + (1 : Int)) = (↑(k + (1 : Nat)) : Int),
      ALoop Try.prog 0 128 (loopB Try.f8 0) { env := [(15, AV.int IntKind.i64 (↑(k + 1) : Int)), (14, AV.lst 2 (List.map enc l)), (7, AV.ptr 0 0), (8, AV.ptr 2 0), (10, AV.ptr 4 0), (11, AV.bool true), (12, AV.bool true), (13, AV.bool true)], objs := [Obj.vars 62 [AV.row 1 2 (List.length (cutAll S (List.take (k + 1) l)))], Obj.row 30 2 (List.map enc (cutAll S (List.take (k + 1) l))), Obj.vars 62 [AV.row 3 2 (List.length l)], Obj.row 30 2 (List.map enc l), Obj.vars 62 [AV.row 5 2 (List.length J)], Obj.row 30 2 (List.map enc J)] } (Ex.exit 0) { env := [(7, AV.ptr 0 0), (8, AV.ptr 2 0), (10, AV.ptr 4 0), (11, AV.bool true), (12, AV.bool true), (13, AV.bool true)], objs := [Obj.vars 62 [AV.row 1 2 (List.length (cutAll S l))], Obj.row 30 2 (List.map enc (cutAll S l)), Obj.vars 62 [AV.row 3 2 (List.length l)], Obj.row 30 2 (List.map enc l), Obj.vars 62 [AV.row 5 2 (List.length J)], Obj.row 30 2 (List.map enc J)] }]) (by kernel_rfl) (by first | exact rfl | exact ⟨rfl, rfl⟩ | (simp [hx, enc, setObjs, thr]; done) | (exact wrap64 (by omega))) ⟨(by first | exact rfl | (simp [hx, enc, setObjs, thr]; done) | (simp [hx, enc, setObjs, thr]; omega) | omega | (exact wrap64 (by omega))), (by first | exact rfl | (simp [hx, enc, setObjs, thr]; done) | (simp [hx, enc, setObjs, thr]; omega) | omega | (exact wrap64 (by omega))), (by first | exact rfl | (simp [hx, enc, setObjs, thr]; done) | (simp [hx, enc, setObjs, thr]; omega) | omega | (exact wrap64 (by omega))), (by first | exact rfl | (simp [hx, enc, setObjs, thr]; done) | (simp [hx, enc, setObjs, thr]; omega) | omega | (exact wrap64 (by omega))), (by first | exact rfl | (simp [hx, enc, setObjs, thr]; done) | (simp [hx, enc, setObjs, thr]; omega) | omega | (exact wrap64 (by omega))), ?q24_1, (by first | exact rfl | (simp [hx, enc, setObjs, thr]; done) | (simp [hx, enc, setObjs, thr]; omega) | omega | (exact wrap64 (by omega))), ?q24_2, trivial⟩
    · exact ha
    · exact ih
theorem has_ac' {l : List Rn} (h : Good l) {n : Int} {b : Bool} (hb : b = true ↔ Mem l n) : ACalls Try.prog 27 [.ptr 0 0, .int .u64 n] (setObjs l) (.bool b) (setObjs l) := hasO_of h hb

theorem me_ac (a b : List Rn) (n : Int) (ha : All64 a) (hb : All64 b) (hn : InK .u64 n) : ACalls Try.prog 8 [.lst 2 (a.map enc), .lst 2 (b.map enc), .int .u64 n] [] (.bool true) [] := by
  obtain ⟨gA, _, lA⟩ := build_spec ha
  obtain ⟨gB, _, lB⟩ := build_spec hb
  have qa := built_ac a ha
  have qb := built_ac b hb
  generalize buildL a = A at gA lA qa
  generalize buildL b = B at gB lB qb
  obtain ⟨gM, eM, lM⟩ := met_spec gA gB gA.all gB.all
  obtain ⟨gJ, eJ, lJ⟩ := join_spec gA.all gB.all
  obtain ⟨gM2, eM2, lM2⟩ := met_spec gB gA gB.all gA.all
  obtain ⟨gJ2, eJ2, lJ2⟩ := join_spec gB.all gA.all
  obtain ⟨gS, eS, lS⟩ := met_spec gA gA gA.all gA.all
  have qM := meet_two gA gB (by omega) (by omega)
  have qJ := join_two gA gB (by omega) (by omega)
  have qM2 := meet_two gB gA (by omega) (by omega)
  have qJ2 := join_two gB gA (by omega) (by omega)
  have qS := meet_self gA (by omega)
  have iM : metL B A = metL A B := good_unique gM2 gM fun n _ => by rw [eM, eM2]; exact And.comm
  have iJ : joinL B A = joinL A B := good_unique gJ2 gJ fun n _ => by rw [eJ, eJ2]; exact Or.comm
  have iS : metL A A = A := good_unique gS gA fun n _ => by rw [eS]; exact ⟨fun h => h.1, fun h => ⟨h, h⟩⟩
  rw [iM] at qM2
  rw [iJ] at qJ2
  rw [iS] at qS
  obtain ⟨gD, eD, lD⟩ := cutAll_spec B A gA gB.all
  have qL := me_drop A B (joinL A B) gA lA gB.all lB B.length 0 (by omega)
  rw [List.take_zero] at qL
  have e0 : cutAll A [] = A := rfl
  rw [e0] at qL
  generalize cutAll A B = D at gD eD lD qL
  obtain ⟨gE, eE, lE⟩ := met_spec gD gB gD.all gB.all
  obtain ⟨gF, eF, lF⟩ := join_spec gD.all gB.all
  have qE := meet_two gD gB (by omega) (by omega)
  have qDJ := join_two gD gB (by omega) (by omega)
  have iE : metL D B = [] := good_unique gE good_nil fun n _ => by
    rw [eE, eD]
    exact ⟨fun h => absurd ((any_mem B n).2 h.2) h.1.2, fun h => absurd h (mem_nil n)⟩
  have iF : joinL D B = joinL A B := good_unique gF gJ fun n _ => by
    rw [eF, eD, eJ, any_mem]
    by_cases hB : Mem B n <;> simp [hB]
  obtain ⟨E, hE0⟩ : ∃ E : List Rn, E = [] := ⟨[], rfl⟩
  rw [iE, ← hE0] at qE
  rw [iF] at qDJ
  generalize metL A B = M at gM eM lM qM qM2
  generalize joinL A B = J at gJ eJ lJ qJ qJ2 qL qDJ
  clear gM2 eM2 lM2 gJ2 eJ2 lJ2 gS eS lS iM iJ iS gE eE lE gF eF lF iE iF
  have rM := runs_ac gM (by omega)
  have tM := told_ac M (by omega)
  have sM := same_ac M M (by omega)
  have rJ := runs_ac gJ (by omega)
  have tJ := told_ac J (by omega)
  have sJ := same_ac J J (by omega)
  have rA := runs_ac gA (by omega)
  have tA := told_ac A (by omega)
  have sA := same_ac A A (by omega)
  have rB := runs_ac gB (by omega)
  have gE0 : Good E := by rw [hE0]; exact good_nil
  have hEl : E.length = 0 := by rw [hE0]; rfl
  have rE := runs_ac gE0 (by omega)
  have cJ := count_ac gJ (by omega)
  have pA := has_iff gA n
  have pB := has_iff gB n
  have hA0 := has_ac gA n
  have hB0 := has_ac gB n
  generalize Run.hasO (findR A n) n = vA at pA hA0
  generalize Run.hasO (findR B n) n = vB at pB hB0
  have hM0 := has_ac' gM (n := n) (b := vA && vB) (by rw [Bool.and_eq_true, eM, pA, pB])
  have hJ0 := has_ac' gJ (n := n) (b := vA || vB) (by rw [Bool.or_eq_true, eJ, pA, pB])
  cases vA <;> cases vB
  · -- False False
    refine acallsK mixed Try.func8 rfl [0, 1, 2, 6, 7, 8, 9, 10, 11, 12, 13, 14, 15, 59, 92] 1000 ([.call [] false false (.ptr 0 0) (setObjs A), .call [] false false (.ptr 0 0) (setObjs B), .call [0, 1, 2, 3] false false (.ptr 4 0) (setObjs2 A B ++ [.vars 62 [.row 5 2 M.length], .row 30 2 (M.map enc)]), .call [0, 5, 2, 7] false false (.ptr 4 0) (setObjs2 A B ++ [.vars 62 [.row 5 2 J.length], .row 30 2 (J.map enc)]), .call [8, 9] false false (.bool false) (setObjs M), .call [0, 11] false false (.bool false) (setObjs A), .f, .call [14, 15] false false (.bool false) (setObjs J), .call [0, 19] false false (.bool false) (setObjs A), .call [2, 13] false false (.bool false) (setObjs B), .f, .call [2, 25, 0, 23] false false (.ptr 4 0) (setObjs2 B A ++ [.vars 62 [.row 5 2 M.length], .row 30 2 (M.map enc)]), .call [30, 31] false false (.row 2 2 M.length) (setObjs M ++ [.row 30 2 (M.map enc)]), .call [] false false (.row 0 2 M.length) [.row 39 2 (M.map enc)], .call [8, 17] false false (.row 2 2 M.length) (setObjs M ++ [.row 30 2 (M.map enc)]), .call [] false false (.row 0 2 M.length) [.row 39 2 (M.map enc)], .call [] false true (.bool true) [], .call [2, 27, 0, 29] false false (.ptr 4 0) (setObjs2 B A ++ [.vars 62 [.row 5 2 J.length], .row 30 2 (J.map enc)]), .call [44, 45] false false (.row 2 2 J.length) (setObjs J ++ [.row 30 2 (J.map enc)]), .call [] false false (.row 0 2 J.length) [.row 39 2 (J.map enc)], .call [14, 21] false false (.row 2 2 J.length) (setObjs J ++ [.row 30 2 (J.map enc)]), .call [] false false (.row 0 2 J.length) [.row 39 2 (J.map enc)], .call [] false true (.bool true) [], .call [0, 43] false false (.ptr 2 0) (setObjs A ++ [.vars 62 [.row 3 2 A.length], .row 30 2 (A.map enc)]), .call [56, 57] false false (.row 2 2 A.length) (setObjs A ++ [.row 30 2 (A.map enc)]), .call [] false false (.row 0 2 A.length) [.row 39 2 (A.map enc)], .call [0, 55] false false (.row 2 2 A.length) (setObjs A ++ [.row 30 2 (A.map enc)]), .call [] false false (.row 0 2 A.length) [.row 39 2 (A.map enc)], .call [] false true (.bool true) [], .call [2, 41] false false (.row 2 2 B.length) (setObjs B ++ [.row 30 2 (B.map enc)]), .fz [68], .lp [15, 14, 7, 8, 10, 11, 12, 13] [0, 63, 2, 67, 14, 51] (.exit 0) ⟨[(7, .ptr 0 0), (8, .ptr 2 0), (10, .ptr 4 0), (11, .bool true), (12, .bool true), (13, .bool true)], thr D B J⟩, .call [] false true (.bool true) [], .call [0, 1, 2, 3] false false (.ptr 4 0) (setObjs2 D B ++ [.vars 62 [.row 5 2 E.length], .row 30 2 (E.map enc)]), .call [10, 11] false false (.row 2 2 E.length) (setObjs E ++ [.row 30 2 (E.map enc)]), .n 0, .t, .call [0, 7, 2, 9] false false (.ptr 4 0) (setObjs2 D B ++ [.vars 62 [.row 5 2 J.length], .row 30 2 (J.map enc)]), .call [19, 20] false false (.int .u64 (countL J)) (setObjs J), .call [4, 5] false false (.int .u64 (countL J)) (setObjs J), .t]) [] [] (v1 := AV.bool true) (objs1 := []) (ob := [ACalls Try.prog 10 [AV.lst 2 (List.map enc a)] [] (AV.ptr 0 0) [Obj.vars 62 [AV.row 1 2 (List.length A)], Obj.row 30 2 (List.map enc A)],
      ACalls Try.prog 10 [AV.lst 2 (List.map enc b)] [] (AV.ptr 0 0) [Obj.vars 62 [AV.row 1 2 (List.length B)], Obj.row 30 2 (List.map enc B)],
      ACalls Try.prog 30 [AV.ptr 0 0, AV.ptr 2 0] [Obj.vars 62 [AV.row 1 2 (List.length A)], Obj.row 30 2 (List.map enc A), Obj.vars 62 [AV.row 3 2 (List.length B)], Obj.row 30 2 (List.map enc B)] (AV.ptr 4 0) [Obj.vars 62 [AV.row 1 2 (List.length A)], Obj.row 30 2 (List.map enc A), Obj.vars 62 [AV.row 3 2 (List.length B)], Obj.row 30 2 (List.map enc B), Obj.vars 62 [AV.row 5 2 (List.length M)], Obj.row 30 2 (List.map enc M)],
      ACalls Try.prog 31 [AV.ptr 0 0, AV.ptr 2 0] [Obj.vars 62 [AV.row 1 2 (List.length A)], Obj.row 30 2 (List.map enc A), Obj.vars 62 [AV.row 3 2 (List.length B)], Obj.row 30 2 (List.map enc B)] (AV.ptr 4 0) [Obj.vars 62 [AV.row 1 2 (List.length A)], Obj.row 30 2 (List.map enc A), Obj.vars 62 [AV.row 3 2 (List.length B)], Obj.row 30 2 (List.map enc B), Obj.vars 62 [AV.row 5 2 (List.length J)], Obj.row 30 2 (List.map enc J)],
      ACalls Try.prog 27 [AV.ptr 0 0, AV.int IntKind.u64 n] [Obj.vars 62 [AV.row 1 2 (List.length M)], Obj.row 30 2 (List.map enc M)] (AV.bool false) [Obj.vars 62 [AV.row 1 2 (List.length M)], Obj.row 30 2 (List.map enc M)],
      ACalls Try.prog 27 [AV.ptr 0 0, AV.int IntKind.u64 n] [Obj.vars 62 [AV.row 1 2 (List.length A)], Obj.row 30 2 (List.map enc A)] (AV.bool false) [Obj.vars 62 [AV.row 1 2 (List.length A)], Obj.row 30 2 (List.map enc A)],
      (!false == false) = false,
      ACalls Try.prog 27 [AV.ptr 0 0, AV.int IntKind.u64 n] [Obj.vars 62 [AV.row 1 2 (List.length J)], Obj.row 30 2 (List.map enc J)] (AV.bool false) [Obj.vars 62 [AV.row 1 2 (List.length J)], Obj.row 30 2 (List.map enc J)],
      ACalls Try.prog 27 [AV.ptr 0 0, AV.int IntKind.u64 n] [Obj.vars 62 [AV.row 1 2 (List.length A)], Obj.row 30 2 (List.map enc A)] (AV.bool false) [Obj.vars 62 [AV.row 1 2 (List.length A)], Obj.row 30 2 (List.map enc A)],
      ACalls Try.prog 27 [AV.ptr 0 0, AV.int IntKind.u64 n] [Obj.vars 62 [AV.row 1 2 (List.length B)], Obj.row 30 2 (List.map enc B)] (AV.bool false) [Obj.vars 62 [AV.row 1 2 (List.length B)], Obj.row 30 2 (List.map enc B)],
      (!false == false) = false,
      ACalls Try.prog 30 [AV.ptr 0 0, AV.ptr 2 0] [Obj.vars 62 [AV.row 1 2 (List.length B)], Obj.row 30 2 (List.map enc B), Obj.vars 62 [AV.row 3 2 (List.length A)], Obj.row 30 2 (List.map enc A)] (AV.ptr 4 0) [Obj.vars 62 [AV.row 1 2 (List.length B)], Obj.row 30 2 (List.map enc B), Obj.vars 62 [AV.row 3 2 (List.length A)], Obj.row 30 2 (List.map enc A), Obj.vars 62 [AV.row 5 2 (List.length M)], Obj.row 30 2 (List.map enc M)],
      ACalls Try.prog 11 [AV.ptr 0 0] [Obj.vars 62 [AV.row 1 2 (List.length M)], Obj.row 30 2 (List.map enc M)] (AV.row 2 2 (List.length M)) [Obj.vars 62 [AV.row 1 2 (List.length M)], Obj.row 30 2 (List.map enc M), Obj.row 30 2 (List.map enc M)],
      ACalls Try.prog 24 [AV.lst 2 (List.map enc M)] [] (AV.row 0 2 (List.length M)) [Obj.row 39 2 (List.map enc M)],
      ACalls Try.prog 11 [AV.ptr 0 0] [Obj.vars 62 [AV.row 1 2 (List.length M)], Obj.row 30 2 (List.map enc M)] (AV.row 2 2 (List.length M)) [Obj.vars 62 [AV.row 1 2 (List.length M)], Obj.row 30 2 (List.map enc M), Obj.row 30 2 (List.map enc M)],
      ACalls Try.prog 24 [AV.lst 2 (List.map enc M)] [] (AV.row 0 2 (List.length M)) [Obj.row 39 2 (List.map enc M)],
      ACalls Try.prog 23 [AV.lst 2 (List.map enc M), AV.lst 2 (List.map enc M)] [] (AV.bool true) [],
      ACalls Try.prog 31 [AV.ptr 0 0, AV.ptr 2 0] [Obj.vars 62 [AV.row 1 2 (List.length B)], Obj.row 30 2 (List.map enc B), Obj.vars 62 [AV.row 3 2 (List.length A)], Obj.row 30 2 (List.map enc A)] (AV.ptr 4 0) [Obj.vars 62 [AV.row 1 2 (List.length B)], Obj.row 30 2 (List.map enc B), Obj.vars 62 [AV.row 3 2 (List.length A)], Obj.row 30 2 (List.map enc A), Obj.vars 62 [AV.row 5 2 (List.length J)], Obj.row 30 2 (List.map enc J)],
      ACalls Try.prog 11 [AV.ptr 0 0] [Obj.vars 62 [AV.row 1 2 (List.length J)], Obj.row 30 2 (List.map enc J)] (AV.row 2 2 (List.length J)) [Obj.vars 62 [AV.row 1 2 (List.length J)], Obj.row 30 2 (List.map enc J), Obj.row 30 2 (List.map enc J)],
      ACalls Try.prog 24 [AV.lst 2 (List.map enc J)] [] (AV.row 0 2 (List.length J)) [Obj.row 39 2 (List.map enc J)],
      ACalls Try.prog 11 [AV.ptr 0 0] [Obj.vars 62 [AV.row 1 2 (List.length J)], Obj.row 30 2 (List.map enc J)] (AV.row 2 2 (List.length J)) [Obj.vars 62 [AV.row 1 2 (List.length J)], Obj.row 30 2 (List.map enc J), Obj.row 30 2 (List.map enc J)],
      ACalls Try.prog 24 [AV.lst 2 (List.map enc J)] [] (AV.row 0 2 (List.length J)) [Obj.row 39 2 (List.map enc J)],
      ACalls Try.prog 23 [AV.lst 2 (List.map enc J), AV.lst 2 (List.map enc J)] [] (AV.bool true) [],
      ACalls Try.prog 30 [AV.ptr 0 0, AV.ptr 0 0] [Obj.vars 62 [AV.row 1 2 (List.length A)], Obj.row 30 2 (List.map enc A)] (AV.ptr 2 0) [Obj.vars 62 [AV.row 1 2 (List.length A)], Obj.row 30 2 (List.map enc A), Obj.vars 62 [AV.row 3 2 (List.length A)], Obj.row 30 2 (List.map enc A)],
      ACalls Try.prog 11 [AV.ptr 0 0] [Obj.vars 62 [AV.row 1 2 (List.length A)], Obj.row 30 2 (List.map enc A)] (AV.row 2 2 (List.length A)) [Obj.vars 62 [AV.row 1 2 (List.length A)], Obj.row 30 2 (List.map enc A), Obj.row 30 2 (List.map enc A)],
      ACalls Try.prog 24 [AV.lst 2 (List.map enc A)] [] (AV.row 0 2 (List.length A)) [Obj.row 39 2 (List.map enc A)],
      ACalls Try.prog 11 [AV.ptr 0 0] [Obj.vars 62 [AV.row 1 2 (List.length A)], Obj.row 30 2 (List.map enc A)] (AV.row 2 2 (List.length A)) [Obj.vars 62 [AV.row 1 2 (List.length A)], Obj.row 30 2 (List.map enc A), Obj.row 30 2 (List.map enc A)],
      ACalls Try.prog 24 [AV.lst 2 (List.map enc A)] [] (AV.row 0 2 (List.length A)) [Obj.row 39 2 (List.map enc A)],
      ACalls Try.prog 23 [AV.lst 2 (List.map enc A), AV.lst 2 (List.map enc A)] [] (AV.bool true) [],
      ACalls Try.prog 11 [AV.ptr 0 0] [Obj.vars 62 [AV.row 1 2 (List.length B)], Obj.row 30 2 (List.map enc B)] (AV.row 2 2 (List.length B)) [Obj.vars 62 [AV.row 1 2 (List.length B)], Obj.row 30 2 (List.map enc B), Obj.row 30 2 (List.map enc B)],
      ALoop Try.prog 0 128 (loopB Try.f8 0) { env := [(15, AV.int IntKind.i64 0), (14, AV.lst 2 (List.map enc B)), (7, AV.ptr 0 0), (8, AV.ptr 2 0), (10, AV.ptr 4 0), (11, AV.bool true), (12, AV.bool true), (13, AV.bool true)], objs := [Obj.vars 62 [AV.row 1 2 (List.length A)], Obj.row 30 2 (List.map enc A), Obj.vars 62 [AV.row 3 2 (List.length B)], Obj.row 30 2 (List.map enc B), Obj.vars 62 [AV.row 5 2 (List.length J)], Obj.row 30 2 (List.map enc J)] } (Ex.exit 0) { env := [(7, AV.ptr 0 0), (8, AV.ptr 2 0), (10, AV.ptr 4 0), (11, AV.bool true), (12, AV.bool true), (13, AV.bool true)], objs := [Obj.vars 62 [AV.row 1 2 (List.length D)], Obj.row 30 2 (List.map enc D), Obj.vars 62 [AV.row 3 2 (List.length B)], Obj.row 30 2 (List.map enc B), Obj.vars 62 [AV.row 5 2 (List.length J)], Obj.row 30 2 (List.map enc J)] },
      ACalls Try.prog 14 [] [] (AV.bool true) [],
      ACalls Try.prog 30 [AV.ptr 0 0, AV.ptr 2 0] [Obj.vars 62 [AV.row 1 2 (List.length D)], Obj.row 30 2 (List.map enc D), Obj.vars 62 [AV.row 3 2 (List.length B)], Obj.row 30 2 (List.map enc B)] (AV.ptr 4 0) [Obj.vars 62 [AV.row 1 2 (List.length D)], Obj.row 30 2 (List.map enc D), Obj.vars 62 [AV.row 3 2 (List.length B)], Obj.row 30 2 (List.map enc B), Obj.vars 62 [AV.row 5 2 (List.length E)], Obj.row 30 2 (List.map enc E)],
      ACalls Try.prog 11 [AV.ptr 0 0] [Obj.vars 62 [AV.row 1 2 (List.length E)], Obj.row 30 2 (List.map enc E)] (AV.row 2 2 (List.length E)) [Obj.vars 62 [AV.row 1 2 (List.length E)], Obj.row 30 2 (List.map enc E), Obj.row 30 2 (List.map enc E)],
      (↑(List.length E) : Int) = (0 : Int),
      ((0 : Int) == (0 : Int)) = true,
      ACalls Try.prog 31 [AV.ptr 0 0, AV.ptr 2 0] [Obj.vars 62 [AV.row 1 2 (List.length D)], Obj.row 30 2 (List.map enc D), Obj.vars 62 [AV.row 3 2 (List.length B)], Obj.row 30 2 (List.map enc B)] (AV.ptr 4 0) [Obj.vars 62 [AV.row 1 2 (List.length D)], Obj.row 30 2 (List.map enc D), Obj.vars 62 [AV.row 3 2 (List.length B)], Obj.row 30 2 (List.map enc B), Obj.vars 62 [AV.row 5 2 (List.length J)], Obj.row 30 2 (List.map enc J)],
      ACalls Try.prog 25 [AV.ptr 0 0] [Obj.vars 62 [AV.row 1 2 (List.length J)], Obj.row 30 2 (List.map enc J)] (AV.int IntKind.u64 (countL J)) [Obj.vars 62 [AV.row 1 2 (List.length J)], Obj.row 30 2 (List.map enc J)],
      ACalls Try.prog 25 [AV.ptr 0 0] [Obj.vars 62 [AV.row 1 2 (List.length J)], Obj.row 30 2 (List.map enc J)] (AV.int IntKind.u64 (countL J)) [Obj.vars 62 [AV.row 1 2 (List.length J)], Obj.row 30 2 (List.map enc J)],
      (countL J == countL J) = true]) (by kernel_rfl) (by first | exact rfl | exact ⟨rfl, rfl⟩ | (simp [setObjs, setObjs2, thr, hEl]; done) | (first | rfl | omega | simp)) ⟨?q98_1, ?q98_2, ?q98_3, ?q98_4, ?q98_5, ?q98_6, (by first | exact rfl | (simp [setObjs, setObjs2, thr, hEl]; done) | (simp [setObjs, setObjs2, thr, hEl]; omega) | omega | (first | rfl | omega | simp)), ?q98_7, ?q98_8, ?q98_9, (by first | exact rfl | (simp [setObjs, setObjs2, thr, hEl]; done) | (simp [setObjs, setObjs2, thr, hEl]; omega) | omega | (first | rfl | omega | simp)), ?q98_10, ?q98_11, ?q98_12, ?q98_13, ?q98_14, ?q98_15, ?q98_16, ?q98_17, ?q98_18, ?q98_19, ?q98_20, ?q98_21, ?q98_22, ?q98_23, ?q98_24, ?q98_25, ?q98_26, ?q98_27, ?q98_28, ?q98_29, ?q98_30, ?q98_31, ?q98_32, (by first | exact rfl | (simp [setObjs, setObjs2, thr, hEl]; done) | (simp [setObjs, setObjs2, thr, hEl]; omega) | omega | (first | rfl | omega | simp)), (by first | exact rfl | (simp [setObjs, setObjs2, thr, hEl]; done) | (simp [setObjs, setObjs2, thr, hEl]; omega) | omega | (first | rfl | omega | simp)), ?q98_33, ?q98_34, ?q98_35, (by first | exact rfl | (simp [setObjs, setObjs2, thr, hEl]; done) | (simp [setObjs, setObjs2, thr, hEl]; omega) | omega | (first | rfl | omega | simp)), trivial⟩
    · exact qa
    · exact qb
    · exact qM
    · exact qJ
    · exact hM0
    · exact hA0
    · exact hJ0
    · exact hA0
    · exact hB0
    · exact qM2
    · exact rM
    · exact tM
    · exact rM
    · exact tM
    · exact (by simpa using sM)
    · exact qJ2
    · exact rJ
    · exact tJ
    · exact rJ
    · exact tJ
    · exact (by simpa using sJ)
    · exact qS
    · exact rA
    · exact tA
    · exact rA
    · exact tA
    · exact (by simpa using sA)
    · exact rB
    · exact qL
    · exact alive_ac
    · exact qE
    · exact rE
    · exact qDJ
    · exact cJ
    · exact cJ
  · -- False True
    refine acallsK mixed Try.func8 rfl [0, 1, 2, 6, 7, 8, 9, 10, 11, 12, 13, 14, 15, 59, 92] 1000 ([.call [] false false (.ptr 0 0) (setObjs A), .call [] false false (.ptr 0 0) (setObjs B), .call [0, 1, 2, 3] false false (.ptr 4 0) (setObjs2 A B ++ [.vars 62 [.row 5 2 M.length], .row 30 2 (M.map enc)]), .call [0, 5, 2, 7] false false (.ptr 4 0) (setObjs2 A B ++ [.vars 62 [.row 5 2 J.length], .row 30 2 (J.map enc)]), .call [8, 9] false false (.bool false) (setObjs M), .call [0, 11] false false (.bool false) (setObjs A), .f, .call [14, 15] false false (.bool true) (setObjs J), .call [0, 19] false false (.bool false) (setObjs A), .call [2, 13] false false (.bool true) (setObjs B), .f, .call [2, 25, 0, 23] false false (.ptr 4 0) (setObjs2 B A ++ [.vars 62 [.row 5 2 M.length], .row 30 2 (M.map enc)]), .call [30, 31] false false (.row 2 2 M.length) (setObjs M ++ [.row 30 2 (M.map enc)]), .call [] false false (.row 0 2 M.length) [.row 39 2 (M.map enc)], .call [8, 17] false false (.row 2 2 M.length) (setObjs M ++ [.row 30 2 (M.map enc)]), .call [] false false (.row 0 2 M.length) [.row 39 2 (M.map enc)], .call [] false true (.bool true) [], .call [2, 27, 0, 29] false false (.ptr 4 0) (setObjs2 B A ++ [.vars 62 [.row 5 2 J.length], .row 30 2 (J.map enc)]), .call [44, 45] false false (.row 2 2 J.length) (setObjs J ++ [.row 30 2 (J.map enc)]), .call [] false false (.row 0 2 J.length) [.row 39 2 (J.map enc)], .call [14, 21] false false (.row 2 2 J.length) (setObjs J ++ [.row 30 2 (J.map enc)]), .call [] false false (.row 0 2 J.length) [.row 39 2 (J.map enc)], .call [] false true (.bool true) [], .call [0, 43] false false (.ptr 2 0) (setObjs A ++ [.vars 62 [.row 3 2 A.length], .row 30 2 (A.map enc)]), .call [56, 57] false false (.row 2 2 A.length) (setObjs A ++ [.row 30 2 (A.map enc)]), .call [] false false (.row 0 2 A.length) [.row 39 2 (A.map enc)], .call [0, 55] false false (.row 2 2 A.length) (setObjs A ++ [.row 30 2 (A.map enc)]), .call [] false false (.row 0 2 A.length) [.row 39 2 (A.map enc)], .call [] false true (.bool true) [], .call [2, 41] false false (.row 2 2 B.length) (setObjs B ++ [.row 30 2 (B.map enc)]), .fz [68], .lp [15, 14, 7, 8, 10, 11, 12, 13] [0, 63, 2, 67, 14, 51] (.exit 0) ⟨[(7, .ptr 0 0), (8, .ptr 2 0), (10, .ptr 4 0), (11, .bool true), (12, .bool true), (13, .bool true)], thr D B J⟩, .call [] false true (.bool true) [], .call [0, 1, 2, 3] false false (.ptr 4 0) (setObjs2 D B ++ [.vars 62 [.row 5 2 E.length], .row 30 2 (E.map enc)]), .call [10, 11] false false (.row 2 2 E.length) (setObjs E ++ [.row 30 2 (E.map enc)]), .n 0, .t, .call [0, 7, 2, 9] false false (.ptr 4 0) (setObjs2 D B ++ [.vars 62 [.row 5 2 J.length], .row 30 2 (J.map enc)]), .call [19, 20] false false (.int .u64 (countL J)) (setObjs J), .call [4, 5] false false (.int .u64 (countL J)) (setObjs J), .t]) [] [] (v1 := AV.bool true) (objs1 := []) (ob := [ACalls Try.prog 10 [AV.lst 2 (List.map enc a)] [] (AV.ptr 0 0) [Obj.vars 62 [AV.row 1 2 (List.length A)], Obj.row 30 2 (List.map enc A)],
      ACalls Try.prog 10 [AV.lst 2 (List.map enc b)] [] (AV.ptr 0 0) [Obj.vars 62 [AV.row 1 2 (List.length B)], Obj.row 30 2 (List.map enc B)],
      ACalls Try.prog 30 [AV.ptr 0 0, AV.ptr 2 0] [Obj.vars 62 [AV.row 1 2 (List.length A)], Obj.row 30 2 (List.map enc A), Obj.vars 62 [AV.row 3 2 (List.length B)], Obj.row 30 2 (List.map enc B)] (AV.ptr 4 0) [Obj.vars 62 [AV.row 1 2 (List.length A)], Obj.row 30 2 (List.map enc A), Obj.vars 62 [AV.row 3 2 (List.length B)], Obj.row 30 2 (List.map enc B), Obj.vars 62 [AV.row 5 2 (List.length M)], Obj.row 30 2 (List.map enc M)],
      ACalls Try.prog 31 [AV.ptr 0 0, AV.ptr 2 0] [Obj.vars 62 [AV.row 1 2 (List.length A)], Obj.row 30 2 (List.map enc A), Obj.vars 62 [AV.row 3 2 (List.length B)], Obj.row 30 2 (List.map enc B)] (AV.ptr 4 0) [Obj.vars 62 [AV.row 1 2 (List.length A)], Obj.row 30 2 (List.map enc A), Obj.vars 62 [AV.row 3 2 (List.length B)], Obj.row 30 2 (List.map enc B), Obj.vars 62 [AV.row 5 2 (List.length J)], Obj.row 30 2 (List.map enc J)],
      ACalls Try.prog 27 [AV.ptr 0 0, AV.int IntKind.u64 n] [Obj.vars 62 [AV.row 1 2 (List.length M)], Obj.row 30 2 (List.map enc M)] (AV.bool false) [Obj.vars 62 [AV.row 1 2 (List.length M)], Obj.row 30 2 (List.map enc M)],
      ACalls Try.prog 27 [AV.ptr 0 0, AV.int IntKind.u64 n] [Obj.vars 62 [AV.row 1 2 (List.length A)], Obj.row 30 2 (List.map enc A)] (AV.bool false) [Obj.vars 62 [AV.row 1 2 (List.length A)], Obj.row 30 2 (List.map enc A)],
      (!false == false) = false,
      ACalls Try.prog 27 [AV.ptr 0 0, AV.int IntKind.u64 n] [Obj.vars 62 [AV.row 1 2 (List.length J)], Obj.row 30 2 (List.map enc J)] (AV.bool true) [Obj.vars 62 [AV.row 1 2 (List.length J)], Obj.row 30 2 (List.map enc J)],
      ACalls Try.prog 27 [AV.ptr 0 0, AV.int IntKind.u64 n] [Obj.vars 62 [AV.row 1 2 (List.length A)], Obj.row 30 2 (List.map enc A)] (AV.bool false) [Obj.vars 62 [AV.row 1 2 (List.length A)], Obj.row 30 2 (List.map enc A)],
      ACalls Try.prog 27 [AV.ptr 0 0, AV.int IntKind.u64 n] [Obj.vars 62 [AV.row 1 2 (List.length B)], Obj.row 30 2 (List.map enc B)] (AV.bool true) [Obj.vars 62 [AV.row 1 2 (List.length B)], Obj.row 30 2 (List.map enc B)],
      (!true == true) = false,
      ACalls Try.prog 30 [AV.ptr 0 0, AV.ptr 2 0] [Obj.vars 62 [AV.row 1 2 (List.length B)], Obj.row 30 2 (List.map enc B), Obj.vars 62 [AV.row 3 2 (List.length A)], Obj.row 30 2 (List.map enc A)] (AV.ptr 4 0) [Obj.vars 62 [AV.row 1 2 (List.length B)], Obj.row 30 2 (List.map enc B), Obj.vars 62 [AV.row 3 2 (List.length A)], Obj.row 30 2 (List.map enc A), Obj.vars 62 [AV.row 5 2 (List.length M)], Obj.row 30 2 (List.map enc M)],
      ACalls Try.prog 11 [AV.ptr 0 0] [Obj.vars 62 [AV.row 1 2 (List.length M)], Obj.row 30 2 (List.map enc M)] (AV.row 2 2 (List.length M)) [Obj.vars 62 [AV.row 1 2 (List.length M)], Obj.row 30 2 (List.map enc M), Obj.row 30 2 (List.map enc M)],
      ACalls Try.prog 24 [AV.lst 2 (List.map enc M)] [] (AV.row 0 2 (List.length M)) [Obj.row 39 2 (List.map enc M)],
      ACalls Try.prog 11 [AV.ptr 0 0] [Obj.vars 62 [AV.row 1 2 (List.length M)], Obj.row 30 2 (List.map enc M)] (AV.row 2 2 (List.length M)) [Obj.vars 62 [AV.row 1 2 (List.length M)], Obj.row 30 2 (List.map enc M), Obj.row 30 2 (List.map enc M)],
      ACalls Try.prog 24 [AV.lst 2 (List.map enc M)] [] (AV.row 0 2 (List.length M)) [Obj.row 39 2 (List.map enc M)],
      ACalls Try.prog 23 [AV.lst 2 (List.map enc M), AV.lst 2 (List.map enc M)] [] (AV.bool true) [],
      ACalls Try.prog 31 [AV.ptr 0 0, AV.ptr 2 0] [Obj.vars 62 [AV.row 1 2 (List.length B)], Obj.row 30 2 (List.map enc B), Obj.vars 62 [AV.row 3 2 (List.length A)], Obj.row 30 2 (List.map enc A)] (AV.ptr 4 0) [Obj.vars 62 [AV.row 1 2 (List.length B)], Obj.row 30 2 (List.map enc B), Obj.vars 62 [AV.row 3 2 (List.length A)], Obj.row 30 2 (List.map enc A), Obj.vars 62 [AV.row 5 2 (List.length J)], Obj.row 30 2 (List.map enc J)],
      ACalls Try.prog 11 [AV.ptr 0 0] [Obj.vars 62 [AV.row 1 2 (List.length J)], Obj.row 30 2 (List.map enc J)] (AV.row 2 2 (List.length J)) [Obj.vars 62 [AV.row 1 2 (List.length J)], Obj.row 30 2 (List.map enc J), Obj.row 30 2 (List.map enc J)],
      ACalls Try.prog 24 [AV.lst 2 (List.map enc J)] [] (AV.row 0 2 (List.length J)) [Obj.row 39 2 (List.map enc J)],
      ACalls Try.prog 11 [AV.ptr 0 0] [Obj.vars 62 [AV.row 1 2 (List.length J)], Obj.row 30 2 (List.map enc J)] (AV.row 2 2 (List.length J)) [Obj.vars 62 [AV.row 1 2 (List.length J)], Obj.row 30 2 (List.map enc J), Obj.row 30 2 (List.map enc J)],
      ACalls Try.prog 24 [AV.lst 2 (List.map enc J)] [] (AV.row 0 2 (List.length J)) [Obj.row 39 2 (List.map enc J)],
      ACalls Try.prog 23 [AV.lst 2 (List.map enc J), AV.lst 2 (List.map enc J)] [] (AV.bool true) [],
      ACalls Try.prog 30 [AV.ptr 0 0, AV.ptr 0 0] [Obj.vars 62 [AV.row 1 2 (List.length A)], Obj.row 30 2 (List.map enc A)] (AV.ptr 2 0) [Obj.vars 62 [AV.row 1 2 (List.length A)], Obj.row 30 2 (List.map enc A), Obj.vars 62 [AV.row 3 2 (List.length A)], Obj.row 30 2 (List.map enc A)],
      ACalls Try.prog 11 [AV.ptr 0 0] [Obj.vars 62 [AV.row 1 2 (List.length A)], Obj.row 30 2 (List.map enc A)] (AV.row 2 2 (List.length A)) [Obj.vars 62 [AV.row 1 2 (List.length A)], Obj.row 30 2 (List.map enc A), Obj.row 30 2 (List.map enc A)],
      ACalls Try.prog 24 [AV.lst 2 (List.map enc A)] [] (AV.row 0 2 (List.length A)) [Obj.row 39 2 (List.map enc A)],
      ACalls Try.prog 11 [AV.ptr 0 0] [Obj.vars 62 [AV.row 1 2 (List.length A)], Obj.row 30 2 (List.map enc A)] (AV.row 2 2 (List.length A)) [Obj.vars 62 [AV.row 1 2 (List.length A)], Obj.row 30 2 (List.map enc A), Obj.row 30 2 (List.map enc A)],
      ACalls Try.prog 24 [AV.lst 2 (List.map enc A)] [] (AV.row 0 2 (List.length A)) [Obj.row 39 2 (List.map enc A)],
      ACalls Try.prog 23 [AV.lst 2 (List.map enc A), AV.lst 2 (List.map enc A)] [] (AV.bool true) [],
      ACalls Try.prog 11 [AV.ptr 0 0] [Obj.vars 62 [AV.row 1 2 (List.length B)], Obj.row 30 2 (List.map enc B)] (AV.row 2 2 (List.length B)) [Obj.vars 62 [AV.row 1 2 (List.length B)], Obj.row 30 2 (List.map enc B), Obj.row 30 2 (List.map enc B)],
      ALoop Try.prog 0 128 (loopB Try.f8 0) { env := [(15, AV.int IntKind.i64 0), (14, AV.lst 2 (List.map enc B)), (7, AV.ptr 0 0), (8, AV.ptr 2 0), (10, AV.ptr 4 0), (11, AV.bool true), (12, AV.bool true), (13, AV.bool true)], objs := [Obj.vars 62 [AV.row 1 2 (List.length A)], Obj.row 30 2 (List.map enc A), Obj.vars 62 [AV.row 3 2 (List.length B)], Obj.row 30 2 (List.map enc B), Obj.vars 62 [AV.row 5 2 (List.length J)], Obj.row 30 2 (List.map enc J)] } (Ex.exit 0) { env := [(7, AV.ptr 0 0), (8, AV.ptr 2 0), (10, AV.ptr 4 0), (11, AV.bool true), (12, AV.bool true), (13, AV.bool true)], objs := [Obj.vars 62 [AV.row 1 2 (List.length D)], Obj.row 30 2 (List.map enc D), Obj.vars 62 [AV.row 3 2 (List.length B)], Obj.row 30 2 (List.map enc B), Obj.vars 62 [AV.row 5 2 (List.length J)], Obj.row 30 2 (List.map enc J)] },
      ACalls Try.prog 14 [] [] (AV.bool true) [],
      ACalls Try.prog 30 [AV.ptr 0 0, AV.ptr 2 0] [Obj.vars 62 [AV.row 1 2 (List.length D)], Obj.row 30 2 (List.map enc D), Obj.vars 62 [AV.row 3 2 (List.length B)], Obj.row 30 2 (List.map enc B)] (AV.ptr 4 0) [Obj.vars 62 [AV.row 1 2 (List.length D)], Obj.row 30 2 (List.map enc D), Obj.vars 62 [AV.row 3 2 (List.length B)], Obj.row 30 2 (List.map enc B), Obj.vars 62 [AV.row 5 2 (List.length E)], Obj.row 30 2 (List.map enc E)],
      ACalls Try.prog 11 [AV.ptr 0 0] [Obj.vars 62 [AV.row 1 2 (List.length E)], Obj.row 30 2 (List.map enc E)] (AV.row 2 2 (List.length E)) [Obj.vars 62 [AV.row 1 2 (List.length E)], Obj.row 30 2 (List.map enc E), Obj.row 30 2 (List.map enc E)],
      (↑(List.length E) : Int) = (0 : Int),
      ((0 : Int) == (0 : Int)) = true,
      ACalls Try.prog 31 [AV.ptr 0 0, AV.ptr 2 0] [Obj.vars 62 [AV.row 1 2 (List.length D)], Obj.row 30 2 (List.map enc D), Obj.vars 62 [AV.row 3 2 (List.length B)], Obj.row 30 2 (List.map enc B)] (AV.ptr 4 0) [Obj.vars 62 [AV.row 1 2 (List.length D)], Obj.row 30 2 (List.map enc D), Obj.vars 62 [AV.row 3 2 (List.length B)], Obj.row 30 2 (List.map enc B), Obj.vars 62 [AV.row 5 2 (List.length J)], Obj.row 30 2 (List.map enc J)],
      ACalls Try.prog 25 [AV.ptr 0 0] [Obj.vars 62 [AV.row 1 2 (List.length J)], Obj.row 30 2 (List.map enc J)] (AV.int IntKind.u64 (countL J)) [Obj.vars 62 [AV.row 1 2 (List.length J)], Obj.row 30 2 (List.map enc J)],
      ACalls Try.prog 25 [AV.ptr 0 0] [Obj.vars 62 [AV.row 1 2 (List.length J)], Obj.row 30 2 (List.map enc J)] (AV.int IntKind.u64 (countL J)) [Obj.vars 62 [AV.row 1 2 (List.length J)], Obj.row 30 2 (List.map enc J)],
      (countL J == countL J) = true]) (by kernel_rfl) (by first | exact rfl | exact ⟨rfl, rfl⟩ | (simp [setObjs, setObjs2, thr, hEl]; done) | (first | rfl | omega | simp)) ⟨?q135_1, ?q135_2, ?q135_3, ?q135_4, ?q135_5, ?q135_6, (by first | exact rfl | (simp [setObjs, setObjs2, thr, hEl]; done) | (simp [setObjs, setObjs2, thr, hEl]; omega) | omega | (first | rfl | omega | simp)), ?q135_7, ?q135_8, ?q135_9, (by first | exact rfl | (simp [setObjs, setObjs2, thr, hEl]; done) | (simp [setObjs, setObjs2, thr, hEl]; omega) | omega | (first | rfl | omega | simp)), ?q135_10, ?q135_11, ?q135_12, ?q135_13, ?q135_14, ?q135_15, ?q135_16, ?q135_17, ?q135_18, ?q135_19, ?q135_20, ?q135_21, ?q135_22, ?q135_23, ?q135_24, ?q135_25, ?q135_26, ?q135_27, ?q135_28, ?q135_29, ?q135_30, ?q135_31, ?q135_32, (by first | exact rfl | (simp [setObjs, setObjs2, thr, hEl]; done) | (simp [setObjs, setObjs2, thr, hEl]; omega) | omega | (first | rfl | omega | simp)), (by first | exact rfl | (simp [setObjs, setObjs2, thr, hEl]; done) | (simp [setObjs, setObjs2, thr, hEl]; omega) | omega | (first | rfl | omega | simp)), ?q135_33, ?q135_34, ?q135_35, (by first | exact rfl | (simp [setObjs, setObjs2, thr, hEl]; done) | (simp [setObjs, setObjs2, thr, hEl]; omega) | omega | (first | rfl | omega | simp)), trivial⟩
    · exact qa
    · exact qb
    · exact qM
    · exact qJ
    · exact hM0
    · exact hA0
    · exact hJ0
    · exact hA0
    · exact hB0
    · exact qM2
    · exact rM
    · exact tM
    · exact rM
    · exact tM
    · exact (by simpa using sM)
    · exact qJ2
    · exact rJ
    · exact tJ
    · exact rJ
    · exact tJ
    · exact (by simpa using sJ)
    · exact qS
    · exact rA
    · exact tA
    · exact rA
    · exact tA
    · exact (by simpa using sA)
    · exact rB
    · exact qL
    · exact alive_ac
    · exact qE
    · exact rE
    · exact qDJ
    · exact cJ
    · exact cJ
  · -- True False
    refine acallsK mixed Try.func8 rfl [0, 1, 2, 6, 7, 8, 9, 10, 11, 12, 13, 14, 15, 59, 92] 1000 ([.call [] false false (.ptr 0 0) (setObjs A), .call [] false false (.ptr 0 0) (setObjs B), .call [0, 1, 2, 3] false false (.ptr 4 0) (setObjs2 A B ++ [.vars 62 [.row 5 2 M.length], .row 30 2 (M.map enc)]), .call [0, 5, 2, 7] false false (.ptr 4 0) (setObjs2 A B ++ [.vars 62 [.row 5 2 J.length], .row 30 2 (J.map enc)]), .call [8, 9] false false (.bool false) (setObjs M), .call [0, 11] false false (.bool true) (setObjs A), .call [2, 13] false false (.bool false) (setObjs B), .f, .call [14, 15] false false (.bool true) (setObjs J), .call [0, 19] false false (.bool true) (setObjs A), .f, .call [2, 21, 0, 25] false false (.ptr 4 0) (setObjs2 B A ++ [.vars 62 [.row 5 2 M.length], .row 30 2 (M.map enc)]), .call [30, 31] false false (.row 2 2 M.length) (setObjs M ++ [.row 30 2 (M.map enc)]), .call [] false false (.row 0 2 M.length) [.row 39 2 (M.map enc)], .call [8, 17] false false (.row 2 2 M.length) (setObjs M ++ [.row 30 2 (M.map enc)]), .call [] false false (.row 0 2 M.length) [.row 39 2 (M.map enc)], .call [] false true (.bool true) [], .call [2, 27, 0, 29] false false (.ptr 4 0) (setObjs2 B A ++ [.vars 62 [.row 5 2 J.length], .row 30 2 (J.map enc)]), .call [44, 45] false false (.row 2 2 J.length) (setObjs J ++ [.row 30 2 (J.map enc)]), .call [] false false (.row 0 2 J.length) [.row 39 2 (J.map enc)], .call [14, 23] false false (.row 2 2 J.length) (setObjs J ++ [.row 30 2 (J.map enc)]), .call [] false false (.row 0 2 J.length) [.row 39 2 (J.map enc)], .call [] false true (.bool true) [], .call [0, 43] false false (.ptr 2 0) (setObjs A ++ [.vars 62 [.row 3 2 A.length], .row 30 2 (A.map enc)]), .call [56, 57] false false (.row 2 2 A.length) (setObjs A ++ [.row 30 2 (A.map enc)]), .call [] false false (.row 0 2 A.length) [.row 39 2 (A.map enc)], .call [0, 55] false false (.row 2 2 A.length) (setObjs A ++ [.row 30 2 (A.map enc)]), .call [] false false (.row 0 2 A.length) [.row 39 2 (A.map enc)], .call [] false true (.bool true) [], .call [2, 41] false false (.row 2 2 B.length) (setObjs B ++ [.row 30 2 (B.map enc)]), .fz [68], .lp [15, 14, 7, 8, 10, 11, 12, 13] [0, 63, 2, 67, 14, 51] (.exit 0) ⟨[(7, .ptr 0 0), (8, .ptr 2 0), (10, .ptr 4 0), (11, .bool true), (12, .bool true), (13, .bool true)], thr D B J⟩, .call [] false true (.bool true) [], .call [0, 1, 2, 3] false false (.ptr 4 0) (setObjs2 D B ++ [.vars 62 [.row 5 2 E.length], .row 30 2 (E.map enc)]), .call [10, 11] false false (.row 2 2 E.length) (setObjs E ++ [.row 30 2 (E.map enc)]), .n 0, .t, .call [0, 7, 2, 9] false false (.ptr 4 0) (setObjs2 D B ++ [.vars 62 [.row 5 2 J.length], .row 30 2 (J.map enc)]), .call [19, 20] false false (.int .u64 (countL J)) (setObjs J), .call [4, 5] false false (.int .u64 (countL J)) (setObjs J), .t]) [] [] (v1 := AV.bool true) (objs1 := []) (ob := [ACalls Try.prog 10 [AV.lst 2 (List.map enc a)] [] (AV.ptr 0 0) [Obj.vars 62 [AV.row 1 2 (List.length A)], Obj.row 30 2 (List.map enc A)],
      ACalls Try.prog 10 [AV.lst 2 (List.map enc b)] [] (AV.ptr 0 0) [Obj.vars 62 [AV.row 1 2 (List.length B)], Obj.row 30 2 (List.map enc B)],
      ACalls Try.prog 30 [AV.ptr 0 0, AV.ptr 2 0] [Obj.vars 62 [AV.row 1 2 (List.length A)], Obj.row 30 2 (List.map enc A), Obj.vars 62 [AV.row 3 2 (List.length B)], Obj.row 30 2 (List.map enc B)] (AV.ptr 4 0) [Obj.vars 62 [AV.row 1 2 (List.length A)], Obj.row 30 2 (List.map enc A), Obj.vars 62 [AV.row 3 2 (List.length B)], Obj.row 30 2 (List.map enc B), Obj.vars 62 [AV.row 5 2 (List.length M)], Obj.row 30 2 (List.map enc M)],
      ACalls Try.prog 31 [AV.ptr 0 0, AV.ptr 2 0] [Obj.vars 62 [AV.row 1 2 (List.length A)], Obj.row 30 2 (List.map enc A), Obj.vars 62 [AV.row 3 2 (List.length B)], Obj.row 30 2 (List.map enc B)] (AV.ptr 4 0) [Obj.vars 62 [AV.row 1 2 (List.length A)], Obj.row 30 2 (List.map enc A), Obj.vars 62 [AV.row 3 2 (List.length B)], Obj.row 30 2 (List.map enc B), Obj.vars 62 [AV.row 5 2 (List.length J)], Obj.row 30 2 (List.map enc J)],
      ACalls Try.prog 27 [AV.ptr 0 0, AV.int IntKind.u64 n] [Obj.vars 62 [AV.row 1 2 (List.length M)], Obj.row 30 2 (List.map enc M)] (AV.bool false) [Obj.vars 62 [AV.row 1 2 (List.length M)], Obj.row 30 2 (List.map enc M)],
      ACalls Try.prog 27 [AV.ptr 0 0, AV.int IntKind.u64 n] [Obj.vars 62 [AV.row 1 2 (List.length A)], Obj.row 30 2 (List.map enc A)] (AV.bool true) [Obj.vars 62 [AV.row 1 2 (List.length A)], Obj.row 30 2 (List.map enc A)],
      ACalls Try.prog 27 [AV.ptr 0 0, AV.int IntKind.u64 n] [Obj.vars 62 [AV.row 1 2 (List.length B)], Obj.row 30 2 (List.map enc B)] (AV.bool false) [Obj.vars 62 [AV.row 1 2 (List.length B)], Obj.row 30 2 (List.map enc B)],
      (!false == false) = false,
      ACalls Try.prog 27 [AV.ptr 0 0, AV.int IntKind.u64 n] [Obj.vars 62 [AV.row 1 2 (List.length J)], Obj.row 30 2 (List.map enc J)] (AV.bool true) [Obj.vars 62 [AV.row 1 2 (List.length J)], Obj.row 30 2 (List.map enc J)],
      ACalls Try.prog 27 [AV.ptr 0 0, AV.int IntKind.u64 n] [Obj.vars 62 [AV.row 1 2 (List.length A)], Obj.row 30 2 (List.map enc A)] (AV.bool true) [Obj.vars 62 [AV.row 1 2 (List.length A)], Obj.row 30 2 (List.map enc A)],
      (!true == true) = false,
      ACalls Try.prog 30 [AV.ptr 0 0, AV.ptr 2 0] [Obj.vars 62 [AV.row 1 2 (List.length B)], Obj.row 30 2 (List.map enc B), Obj.vars 62 [AV.row 3 2 (List.length A)], Obj.row 30 2 (List.map enc A)] (AV.ptr 4 0) [Obj.vars 62 [AV.row 1 2 (List.length B)], Obj.row 30 2 (List.map enc B), Obj.vars 62 [AV.row 3 2 (List.length A)], Obj.row 30 2 (List.map enc A), Obj.vars 62 [AV.row 5 2 (List.length M)], Obj.row 30 2 (List.map enc M)],
      ACalls Try.prog 11 [AV.ptr 0 0] [Obj.vars 62 [AV.row 1 2 (List.length M)], Obj.row 30 2 (List.map enc M)] (AV.row 2 2 (List.length M)) [Obj.vars 62 [AV.row 1 2 (List.length M)], Obj.row 30 2 (List.map enc M), Obj.row 30 2 (List.map enc M)],
      ACalls Try.prog 24 [AV.lst 2 (List.map enc M)] [] (AV.row 0 2 (List.length M)) [Obj.row 39 2 (List.map enc M)],
      ACalls Try.prog 11 [AV.ptr 0 0] [Obj.vars 62 [AV.row 1 2 (List.length M)], Obj.row 30 2 (List.map enc M)] (AV.row 2 2 (List.length M)) [Obj.vars 62 [AV.row 1 2 (List.length M)], Obj.row 30 2 (List.map enc M), Obj.row 30 2 (List.map enc M)],
      ACalls Try.prog 24 [AV.lst 2 (List.map enc M)] [] (AV.row 0 2 (List.length M)) [Obj.row 39 2 (List.map enc M)],
      ACalls Try.prog 23 [AV.lst 2 (List.map enc M), AV.lst 2 (List.map enc M)] [] (AV.bool true) [],
      ACalls Try.prog 31 [AV.ptr 0 0, AV.ptr 2 0] [Obj.vars 62 [AV.row 1 2 (List.length B)], Obj.row 30 2 (List.map enc B), Obj.vars 62 [AV.row 3 2 (List.length A)], Obj.row 30 2 (List.map enc A)] (AV.ptr 4 0) [Obj.vars 62 [AV.row 1 2 (List.length B)], Obj.row 30 2 (List.map enc B), Obj.vars 62 [AV.row 3 2 (List.length A)], Obj.row 30 2 (List.map enc A), Obj.vars 62 [AV.row 5 2 (List.length J)], Obj.row 30 2 (List.map enc J)],
      ACalls Try.prog 11 [AV.ptr 0 0] [Obj.vars 62 [AV.row 1 2 (List.length J)], Obj.row 30 2 (List.map enc J)] (AV.row 2 2 (List.length J)) [Obj.vars 62 [AV.row 1 2 (List.length J)], Obj.row 30 2 (List.map enc J), Obj.row 30 2 (List.map enc J)],
      ACalls Try.prog 24 [AV.lst 2 (List.map enc J)] [] (AV.row 0 2 (List.length J)) [Obj.row 39 2 (List.map enc J)],
      ACalls Try.prog 11 [AV.ptr 0 0] [Obj.vars 62 [AV.row 1 2 (List.length J)], Obj.row 30 2 (List.map enc J)] (AV.row 2 2 (List.length J)) [Obj.vars 62 [AV.row 1 2 (List.length J)], Obj.row 30 2 (List.map enc J), Obj.row 30 2 (List.map enc J)],
      ACalls Try.prog 24 [AV.lst 2 (List.map enc J)] [] (AV.row 0 2 (List.length J)) [Obj.row 39 2 (List.map enc J)],
      ACalls Try.prog 23 [AV.lst 2 (List.map enc J), AV.lst 2 (List.map enc J)] [] (AV.bool true) [],
      ACalls Try.prog 30 [AV.ptr 0 0, AV.ptr 0 0] [Obj.vars 62 [AV.row 1 2 (List.length A)], Obj.row 30 2 (List.map enc A)] (AV.ptr 2 0) [Obj.vars 62 [AV.row 1 2 (List.length A)], Obj.row 30 2 (List.map enc A), Obj.vars 62 [AV.row 3 2 (List.length A)], Obj.row 30 2 (List.map enc A)],
      ACalls Try.prog 11 [AV.ptr 0 0] [Obj.vars 62 [AV.row 1 2 (List.length A)], Obj.row 30 2 (List.map enc A)] (AV.row 2 2 (List.length A)) [Obj.vars 62 [AV.row 1 2 (List.length A)], Obj.row 30 2 (List.map enc A), Obj.row 30 2 (List.map enc A)],
      ACalls Try.prog 24 [AV.lst 2 (List.map enc A)] [] (AV.row 0 2 (List.length A)) [Obj.row 39 2 (List.map enc A)],
      ACalls Try.prog 11 [AV.ptr 0 0] [Obj.vars 62 [AV.row 1 2 (List.length A)], Obj.row 30 2 (List.map enc A)] (AV.row 2 2 (List.length A)) [Obj.vars 62 [AV.row 1 2 (List.length A)], Obj.row 30 2 (List.map enc A), Obj.row 30 2 (List.map enc A)],
      ACalls Try.prog 24 [AV.lst 2 (List.map enc A)] [] (AV.row 0 2 (List.length A)) [Obj.row 39 2 (List.map enc A)],
      ACalls Try.prog 23 [AV.lst 2 (List.map enc A), AV.lst 2 (List.map enc A)] [] (AV.bool true) [],
      ACalls Try.prog 11 [AV.ptr 0 0] [Obj.vars 62 [AV.row 1 2 (List.length B)], Obj.row 30 2 (List.map enc B)] (AV.row 2 2 (List.length B)) [Obj.vars 62 [AV.row 1 2 (List.length B)], Obj.row 30 2 (List.map enc B), Obj.row 30 2 (List.map enc B)],
      ALoop Try.prog 0 128 (loopB Try.f8 0) { env := [(15, AV.int IntKind.i64 0), (14, AV.lst 2 (List.map enc B)), (7, AV.ptr 0 0), (8, AV.ptr 2 0), (10, AV.ptr 4 0), (11, AV.bool true), (12, AV.bool true), (13, AV.bool true)], objs := [Obj.vars 62 [AV.row 1 2 (List.length A)], Obj.row 30 2 (List.map enc A), Obj.vars 62 [AV.row 3 2 (List.length B)], Obj.row 30 2 (List.map enc B), Obj.vars 62 [AV.row 5 2 (List.length J)], Obj.row 30 2 (List.map enc J)] } (Ex.exit 0) { env := [(7, AV.ptr 0 0), (8, AV.ptr 2 0), (10, AV.ptr 4 0), (11, AV.bool true), (12, AV.bool true), (13, AV.bool true)], objs := [Obj.vars 62 [AV.row 1 2 (List.length D)], Obj.row 30 2 (List.map enc D), Obj.vars 62 [AV.row 3 2 (List.length B)], Obj.row 30 2 (List.map enc B), Obj.vars 62 [AV.row 5 2 (List.length J)], Obj.row 30 2 (List.map enc J)] },
      ACalls Try.prog 14 [] [] (AV.bool true) [],
      ACalls Try.prog 30 [AV.ptr 0 0, AV.ptr 2 0] [Obj.vars 62 [AV.row 1 2 (List.length D)], Obj.row 30 2 (List.map enc D), Obj.vars 62 [AV.row 3 2 (List.length B)], Obj.row 30 2 (List.map enc B)] (AV.ptr 4 0) [Obj.vars 62 [AV.row 1 2 (List.length D)], Obj.row 30 2 (List.map enc D), Obj.vars 62 [AV.row 3 2 (List.length B)], Obj.row 30 2 (List.map enc B), Obj.vars 62 [AV.row 5 2 (List.length E)], Obj.row 30 2 (List.map enc E)],
      ACalls Try.prog 11 [AV.ptr 0 0] [Obj.vars 62 [AV.row 1 2 (List.length E)], Obj.row 30 2 (List.map enc E)] (AV.row 2 2 (List.length E)) [Obj.vars 62 [AV.row 1 2 (List.length E)], Obj.row 30 2 (List.map enc E), Obj.row 30 2 (List.map enc E)],
      (↑(List.length E) : Int) = (0 : Int),
      ((0 : Int) == (0 : Int)) = true,
      ACalls Try.prog 31 [AV.ptr 0 0, AV.ptr 2 0] [Obj.vars 62 [AV.row 1 2 (List.length D)], Obj.row 30 2 (List.map enc D), Obj.vars 62 [AV.row 3 2 (List.length B)], Obj.row 30 2 (List.map enc B)] (AV.ptr 4 0) [Obj.vars 62 [AV.row 1 2 (List.length D)], Obj.row 30 2 (List.map enc D), Obj.vars 62 [AV.row 3 2 (List.length B)], Obj.row 30 2 (List.map enc B), Obj.vars 62 [AV.row 5 2 (List.length J)], Obj.row 30 2 (List.map enc J)],
      ACalls Try.prog 25 [AV.ptr 0 0] [Obj.vars 62 [AV.row 1 2 (List.length J)], Obj.row 30 2 (List.map enc J)] (AV.int IntKind.u64 (countL J)) [Obj.vars 62 [AV.row 1 2 (List.length J)], Obj.row 30 2 (List.map enc J)],
      ACalls Try.prog 25 [AV.ptr 0 0] [Obj.vars 62 [AV.row 1 2 (List.length J)], Obj.row 30 2 (List.map enc J)] (AV.int IntKind.u64 (countL J)) [Obj.vars 62 [AV.row 1 2 (List.length J)], Obj.row 30 2 (List.map enc J)],
      (countL J == countL J) = true]) (by kernel_rfl) (by first | exact rfl | exact ⟨rfl, rfl⟩ | (simp [setObjs, setObjs2, thr, hEl]; done) | (first | rfl | omega | simp)) ⟨?q172_1, ?q172_2, ?q172_3, ?q172_4, ?q172_5, ?q172_6, ?q172_7, (by first | exact rfl | (simp [setObjs, setObjs2, thr, hEl]; done) | (simp [setObjs, setObjs2, thr, hEl]; omega) | omega | (first | rfl | omega | simp)), ?q172_8, ?q172_9, (by first | exact rfl | (simp [setObjs, setObjs2, thr, hEl]; done) | (simp [setObjs, setObjs2, thr, hEl]; omega) | omega | (first | rfl | omega | simp)), ?q172_10, ?q172_11, ?q172_12, ?q172_13, ?q172_14, ?q172_15, ?q172_16, ?q172_17, ?q172_18, ?q172_19, ?q172_20, ?q172_21, ?q172_22, ?q172_23, ?q172_24, ?q172_25, ?q172_26, ?q172_27, ?q172_28, ?q172_29, ?q172_30, ?q172_31, ?q172_32, (by first | exact rfl | (simp [setObjs, setObjs2, thr, hEl]; done) | (simp [setObjs, setObjs2, thr, hEl]; omega) | omega | (first | rfl | omega | simp)), (by first | exact rfl | (simp [setObjs, setObjs2, thr, hEl]; done) | (simp [setObjs, setObjs2, thr, hEl]; omega) | omega | (first | rfl | omega | simp)), ?q172_33, ?q172_34, ?q172_35, (by first | exact rfl | (simp [setObjs, setObjs2, thr, hEl]; done) | (simp [setObjs, setObjs2, thr, hEl]; omega) | omega | (first | rfl | omega | simp)), trivial⟩
    · exact qa
    · exact qb
    · exact qM
    · exact qJ
    · exact hM0
    · exact hA0
    · exact hB0
    · exact hJ0
    · exact hA0
    · exact qM2
    · exact rM
    · exact tM
    · exact rM
    · exact tM
    · exact (by simpa using sM)
    · exact qJ2
    · exact rJ
    · exact tJ
    · exact rJ
    · exact tJ
    · exact (by simpa using sJ)
    · exact qS
    · exact rA
    · exact tA
    · exact rA
    · exact tA
    · exact (by simpa using sA)
    · exact rB
    · exact qL
    · exact alive_ac
    · exact qE
    · exact rE
    · exact qDJ
    · exact cJ
    · exact cJ
  · -- True True
    refine acallsK mixed Try.func8 rfl [0, 1, 2, 6, 7, 8, 9, 10, 11, 12, 13, 14, 15, 59, 92] 1000 ([.call [] false false (.ptr 0 0) (setObjs A), .call [] false false (.ptr 0 0) (setObjs B), .call [0, 1, 2, 3] false false (.ptr 4 0) (setObjs2 A B ++ [.vars 62 [.row 5 2 M.length], .row 30 2 (M.map enc)]), .call [0, 5, 2, 7] false false (.ptr 4 0) (setObjs2 A B ++ [.vars 62 [.row 5 2 J.length], .row 30 2 (J.map enc)]), .call [8, 9] false false (.bool true) (setObjs M), .call [0, 11] false false (.bool true) (setObjs A), .call [2, 13] false false (.bool true) (setObjs B), .f, .call [14, 15] false false (.bool true) (setObjs J), .call [0, 19] false false (.bool true) (setObjs A), .f, .call [2, 21, 0, 25] false false (.ptr 4 0) (setObjs2 B A ++ [.vars 62 [.row 5 2 M.length], .row 30 2 (M.map enc)]), .call [30, 31] false false (.row 2 2 M.length) (setObjs M ++ [.row 30 2 (M.map enc)]), .call [] false false (.row 0 2 M.length) [.row 39 2 (M.map enc)], .call [8, 17] false false (.row 2 2 M.length) (setObjs M ++ [.row 30 2 (M.map enc)]), .call [] false false (.row 0 2 M.length) [.row 39 2 (M.map enc)], .call [] false true (.bool true) [], .call [2, 27, 0, 29] false false (.ptr 4 0) (setObjs2 B A ++ [.vars 62 [.row 5 2 J.length], .row 30 2 (J.map enc)]), .call [44, 45] false false (.row 2 2 J.length) (setObjs J ++ [.row 30 2 (J.map enc)]), .call [] false false (.row 0 2 J.length) [.row 39 2 (J.map enc)], .call [14, 23] false false (.row 2 2 J.length) (setObjs J ++ [.row 30 2 (J.map enc)]), .call [] false false (.row 0 2 J.length) [.row 39 2 (J.map enc)], .call [] false true (.bool true) [], .call [0, 43] false false (.ptr 2 0) (setObjs A ++ [.vars 62 [.row 3 2 A.length], .row 30 2 (A.map enc)]), .call [56, 57] false false (.row 2 2 A.length) (setObjs A ++ [.row 30 2 (A.map enc)]), .call [] false false (.row 0 2 A.length) [.row 39 2 (A.map enc)], .call [0, 55] false false (.row 2 2 A.length) (setObjs A ++ [.row 30 2 (A.map enc)]), .call [] false false (.row 0 2 A.length) [.row 39 2 (A.map enc)], .call [] false true (.bool true) [], .call [2, 41] false false (.row 2 2 B.length) (setObjs B ++ [.row 30 2 (B.map enc)]), .fz [68], .lp [15, 14, 7, 8, 10, 11, 12, 13] [0, 63, 2, 67, 14, 51] (.exit 0) ⟨[(7, .ptr 0 0), (8, .ptr 2 0), (10, .ptr 4 0), (11, .bool true), (12, .bool true), (13, .bool true)], thr D B J⟩, .call [] false true (.bool true) [], .call [0, 1, 2, 3] false false (.ptr 4 0) (setObjs2 D B ++ [.vars 62 [.row 5 2 E.length], .row 30 2 (E.map enc)]), .call [10, 11] false false (.row 2 2 E.length) (setObjs E ++ [.row 30 2 (E.map enc)]), .n 0, .t, .call [0, 7, 2, 9] false false (.ptr 4 0) (setObjs2 D B ++ [.vars 62 [.row 5 2 J.length], .row 30 2 (J.map enc)]), .call [19, 20] false false (.int .u64 (countL J)) (setObjs J), .call [4, 5] false false (.int .u64 (countL J)) (setObjs J), .t]) [] [] (v1 := AV.bool true) (objs1 := []) (ob := [ACalls Try.prog 10 [AV.lst 2 (List.map enc a)] [] (AV.ptr 0 0) [Obj.vars 62 [AV.row 1 2 (List.length A)], Obj.row 30 2 (List.map enc A)],
      ACalls Try.prog 10 [AV.lst 2 (List.map enc b)] [] (AV.ptr 0 0) [Obj.vars 62 [AV.row 1 2 (List.length B)], Obj.row 30 2 (List.map enc B)],
      ACalls Try.prog 30 [AV.ptr 0 0, AV.ptr 2 0] [Obj.vars 62 [AV.row 1 2 (List.length A)], Obj.row 30 2 (List.map enc A), Obj.vars 62 [AV.row 3 2 (List.length B)], Obj.row 30 2 (List.map enc B)] (AV.ptr 4 0) [Obj.vars 62 [AV.row 1 2 (List.length A)], Obj.row 30 2 (List.map enc A), Obj.vars 62 [AV.row 3 2 (List.length B)], Obj.row 30 2 (List.map enc B), Obj.vars 62 [AV.row 5 2 (List.length M)], Obj.row 30 2 (List.map enc M)],
      ACalls Try.prog 31 [AV.ptr 0 0, AV.ptr 2 0] [Obj.vars 62 [AV.row 1 2 (List.length A)], Obj.row 30 2 (List.map enc A), Obj.vars 62 [AV.row 3 2 (List.length B)], Obj.row 30 2 (List.map enc B)] (AV.ptr 4 0) [Obj.vars 62 [AV.row 1 2 (List.length A)], Obj.row 30 2 (List.map enc A), Obj.vars 62 [AV.row 3 2 (List.length B)], Obj.row 30 2 (List.map enc B), Obj.vars 62 [AV.row 5 2 (List.length J)], Obj.row 30 2 (List.map enc J)],
      ACalls Try.prog 27 [AV.ptr 0 0, AV.int IntKind.u64 n] [Obj.vars 62 [AV.row 1 2 (List.length M)], Obj.row 30 2 (List.map enc M)] (AV.bool true) [Obj.vars 62 [AV.row 1 2 (List.length M)], Obj.row 30 2 (List.map enc M)],
      ACalls Try.prog 27 [AV.ptr 0 0, AV.int IntKind.u64 n] [Obj.vars 62 [AV.row 1 2 (List.length A)], Obj.row 30 2 (List.map enc A)] (AV.bool true) [Obj.vars 62 [AV.row 1 2 (List.length A)], Obj.row 30 2 (List.map enc A)],
      ACalls Try.prog 27 [AV.ptr 0 0, AV.int IntKind.u64 n] [Obj.vars 62 [AV.row 1 2 (List.length B)], Obj.row 30 2 (List.map enc B)] (AV.bool true) [Obj.vars 62 [AV.row 1 2 (List.length B)], Obj.row 30 2 (List.map enc B)],
      (!true == true) = false,
      ACalls Try.prog 27 [AV.ptr 0 0, AV.int IntKind.u64 n] [Obj.vars 62 [AV.row 1 2 (List.length J)], Obj.row 30 2 (List.map enc J)] (AV.bool true) [Obj.vars 62 [AV.row 1 2 (List.length J)], Obj.row 30 2 (List.map enc J)],
      ACalls Try.prog 27 [AV.ptr 0 0, AV.int IntKind.u64 n] [Obj.vars 62 [AV.row 1 2 (List.length A)], Obj.row 30 2 (List.map enc A)] (AV.bool true) [Obj.vars 62 [AV.row 1 2 (List.length A)], Obj.row 30 2 (List.map enc A)],
      (!true == true) = false,
      ACalls Try.prog 30 [AV.ptr 0 0, AV.ptr 2 0] [Obj.vars 62 [AV.row 1 2 (List.length B)], Obj.row 30 2 (List.map enc B), Obj.vars 62 [AV.row 3 2 (List.length A)], Obj.row 30 2 (List.map enc A)] (AV.ptr 4 0) [Obj.vars 62 [AV.row 1 2 (List.length B)], Obj.row 30 2 (List.map enc B), Obj.vars 62 [AV.row 3 2 (List.length A)], Obj.row 30 2 (List.map enc A), Obj.vars 62 [AV.row 5 2 (List.length M)], Obj.row 30 2 (List.map enc M)],
      ACalls Try.prog 11 [AV.ptr 0 0] [Obj.vars 62 [AV.row 1 2 (List.length M)], Obj.row 30 2 (List.map enc M)] (AV.row 2 2 (List.length M)) [Obj.vars 62 [AV.row 1 2 (List.length M)], Obj.row 30 2 (List.map enc M), Obj.row 30 2 (List.map enc M)],
      ACalls Try.prog 24 [AV.lst 2 (List.map enc M)] [] (AV.row 0 2 (List.length M)) [Obj.row 39 2 (List.map enc M)],
      ACalls Try.prog 11 [AV.ptr 0 0] [Obj.vars 62 [AV.row 1 2 (List.length M)], Obj.row 30 2 (List.map enc M)] (AV.row 2 2 (List.length M)) [Obj.vars 62 [AV.row 1 2 (List.length M)], Obj.row 30 2 (List.map enc M), Obj.row 30 2 (List.map enc M)],
      ACalls Try.prog 24 [AV.lst 2 (List.map enc M)] [] (AV.row 0 2 (List.length M)) [Obj.row 39 2 (List.map enc M)],
      ACalls Try.prog 23 [AV.lst 2 (List.map enc M), AV.lst 2 (List.map enc M)] [] (AV.bool true) [],
      ACalls Try.prog 31 [AV.ptr 0 0, AV.ptr 2 0] [Obj.vars 62 [AV.row 1 2 (List.length B)], Obj.row 30 2 (List.map enc B), Obj.vars 62 [AV.row 3 2 (List.length A)], Obj.row 30 2 (List.map enc A)] (AV.ptr 4 0) [Obj.vars 62 [AV.row 1 2 (List.length B)], Obj.row 30 2 (List.map enc B), Obj.vars 62 [AV.row 3 2 (List.length A)], Obj.row 30 2 (List.map enc A), Obj.vars 62 [AV.row 5 2 (List.length J)], Obj.row 30 2 (List.map enc J)],
      ACalls Try.prog 11 [AV.ptr 0 0] [Obj.vars 62 [AV.row 1 2 (List.length J)], Obj.row 30 2 (List.map enc J)] (AV.row 2 2 (List.length J)) [Obj.vars 62 [AV.row 1 2 (List.length J)], Obj.row 30 2 (List.map enc J), Obj.row 30 2 (List.map enc J)],
      ACalls Try.prog 24 [AV.lst 2 (List.map enc J)] [] (AV.row 0 2 (List.length J)) [Obj.row 39 2 (List.map enc J)],
      ACalls Try.prog 11 [AV.ptr 0 0] [Obj.vars 62 [AV.row 1 2 (List.length J)], Obj.row 30 2 (List.map enc J)] (AV.row 2 2 (List.length J)) [Obj.vars 62 [AV.row 1 2 (List.length J)], Obj.row 30 2 (List.map enc J), Obj.row 30 2 (List.map enc J)],
      ACalls Try.prog 24 [AV.lst 2 (List.map enc J)] [] (AV.row 0 2 (List.length J)) [Obj.row 39 2 (List.map enc J)],
      ACalls Try.prog 23 [AV.lst 2 (List.map enc J), AV.lst 2 (List.map enc J)] [] (AV.bool true) [],
      ACalls Try.prog 30 [AV.ptr 0 0, AV.ptr 0 0] [Obj.vars 62 [AV.row 1 2 (List.length A)], Obj.row 30 2 (List.map enc A)] (AV.ptr 2 0) [Obj.vars 62 [AV.row 1 2 (List.length A)], Obj.row 30 2 (List.map enc A), Obj.vars 62 [AV.row 3 2 (List.length A)], Obj.row 30 2 (List.map enc A)],
      ACalls Try.prog 11 [AV.ptr 0 0] [Obj.vars 62 [AV.row 1 2 (List.length A)], Obj.row 30 2 (List.map enc A)] (AV.row 2 2 (List.length A)) [Obj.vars 62 [AV.row 1 2 (List.length A)], Obj.row 30 2 (List.map enc A), Obj.row 30 2 (List.map enc A)],
      ACalls Try.prog 24 [AV.lst 2 (List.map enc A)] [] (AV.row 0 2 (List.length A)) [Obj.row 39 2 (List.map enc A)],
      ACalls Try.prog 11 [AV.ptr 0 0] [Obj.vars 62 [AV.row 1 2 (List.length A)], Obj.row 30 2 (List.map enc A)] (AV.row 2 2 (List.length A)) [Obj.vars 62 [AV.row 1 2 (List.length A)], Obj.row 30 2 (List.map enc A), Obj.row 30 2 (List.map enc A)],
      ACalls Try.prog 24 [AV.lst 2 (List.map enc A)] [] (AV.row 0 2 (List.length A)) [Obj.row 39 2 (List.map enc A)],
      ACalls Try.prog 23 [AV.lst 2 (List.map enc A), AV.lst 2 (List.map enc A)] [] (AV.bool true) [],
      ACalls Try.prog 11 [AV.ptr 0 0] [Obj.vars 62 [AV.row 1 2 (List.length B)], Obj.row 30 2 (List.map enc B)] (AV.row 2 2 (List.length B)) [Obj.vars 62 [AV.row 1 2 (List.length B)], Obj.row 30 2 (List.map enc B), Obj.row 30 2 (List.map enc B)],
      ALoop Try.prog 0 128 (loopB Try.f8 0) { env := [(15, AV.int IntKind.i64 0), (14, AV.lst 2 (List.map enc B)), (7, AV.ptr 0 0), (8, AV.ptr 2 0), (10, AV.ptr 4 0), (11, AV.bool true), (12, AV.bool true), (13, AV.bool true)], objs := [Obj.vars 62 [AV.row 1 2 (List.length A)], Obj.row 30 2 (List.map enc A), Obj.vars 62 [AV.row 3 2 (List.length B)], Obj.row 30 2 (List.map enc B), Obj.vars 62 [AV.row 5 2 (List.length J)], Obj.row 30 2 (List.map enc J)] } (Ex.exit 0) { env := [(7, AV.ptr 0 0), (8, AV.ptr 2 0), (10, AV.ptr 4 0), (11, AV.bool true), (12, AV.bool true), (13, AV.bool true)], objs := [Obj.vars 62 [AV.row 1 2 (List.length D)], Obj.row 30 2 (List.map enc D), Obj.vars 62 [AV.row 3 2 (List.length B)], Obj.row 30 2 (List.map enc B), Obj.vars 62 [AV.row 5 2 (List.length J)], Obj.row 30 2 (List.map enc J)] },
      ACalls Try.prog 14 [] [] (AV.bool true) [],
      ACalls Try.prog 30 [AV.ptr 0 0, AV.ptr 2 0] [Obj.vars 62 [AV.row 1 2 (List.length D)], Obj.row 30 2 (List.map enc D), Obj.vars 62 [AV.row 3 2 (List.length B)], Obj.row 30 2 (List.map enc B)] (AV.ptr 4 0) [Obj.vars 62 [AV.row 1 2 (List.length D)], Obj.row 30 2 (List.map enc D), Obj.vars 62 [AV.row 3 2 (List.length B)], Obj.row 30 2 (List.map enc B), Obj.vars 62 [AV.row 5 2 (List.length E)], Obj.row 30 2 (List.map enc E)],
      ACalls Try.prog 11 [AV.ptr 0 0] [Obj.vars 62 [AV.row 1 2 (List.length E)], Obj.row 30 2 (List.map enc E)] (AV.row 2 2 (List.length E)) [Obj.vars 62 [AV.row 1 2 (List.length E)], Obj.row 30 2 (List.map enc E), Obj.row 30 2 (List.map enc E)],
      (↑(List.length E) : Int) = (0 : Int),
      ((0 : Int) == (0 : Int)) = true,
      ACalls Try.prog 31 [AV.ptr 0 0, AV.ptr 2 0] [Obj.vars 62 [AV.row 1 2 (List.length D)], Obj.row 30 2 (List.map enc D), Obj.vars 62 [AV.row 3 2 (List.length B)], Obj.row 30 2 (List.map enc B)] (AV.ptr 4 0) [Obj.vars 62 [AV.row 1 2 (List.length D)], Obj.row 30 2 (List.map enc D), Obj.vars 62 [AV.row 3 2 (List.length B)], Obj.row 30 2 (List.map enc B), Obj.vars 62 [AV.row 5 2 (List.length J)], Obj.row 30 2 (List.map enc J)],
      ACalls Try.prog 25 [AV.ptr 0 0] [Obj.vars 62 [AV.row 1 2 (List.length J)], Obj.row 30 2 (List.map enc J)] (AV.int IntKind.u64 (countL J)) [Obj.vars 62 [AV.row 1 2 (List.length J)], Obj.row 30 2 (List.map enc J)],
      ACalls Try.prog 25 [AV.ptr 0 0] [Obj.vars 62 [AV.row 1 2 (List.length J)], Obj.row 30 2 (List.map enc J)] (AV.int IntKind.u64 (countL J)) [Obj.vars 62 [AV.row 1 2 (List.length J)], Obj.row 30 2 (List.map enc J)],
      (countL J == countL J) = true]) (by kernel_rfl) (by first | exact rfl | exact ⟨rfl, rfl⟩ | (simp [setObjs, setObjs2, thr, hEl]; done) | (first | rfl | omega | simp)) ⟨?q209_1, ?q209_2, ?q209_3, ?q209_4, ?q209_5, ?q209_6, ?q209_7, (by first | exact rfl | (simp [setObjs, setObjs2, thr, hEl]; done) | (simp [setObjs, setObjs2, thr, hEl]; omega) | omega | (first | rfl | omega | simp)), ?q209_8, ?q209_9, (by first | exact rfl | (simp [setObjs, setObjs2, thr, hEl]; done) | (simp [setObjs, setObjs2, thr, hEl]; omega) | omega | (first | rfl | omega | simp)), ?q209_10, ?q209_11, ?q209_12, ?q209_13, ?q209_14, ?q209_15, ?q209_16, ?q209_17, ?q209_18, ?q209_19, ?q209_20, ?q209_21, ?q209_22, ?q209_23, ?q209_24, ?q209_25, ?q209_26, ?q209_27, ?q209_28, ?q209_29, ?q209_30, ?q209_31, ?q209_32, (by first | exact rfl | (simp [setObjs, setObjs2, thr, hEl]; done) | (simp [setObjs, setObjs2, thr, hEl]; omega) | omega | (first | rfl | omega | simp)), (by first | exact rfl | (simp [setObjs, setObjs2, thr, hEl]; done) | (simp [setObjs, setObjs2, thr, hEl]; omega) | omega | (first | rfl | omega | simp)), ?q209_33, ?q209_34, ?q209_35, (by first | exact rfl | (simp [setObjs, setObjs2, thr, hEl]; done) | (simp [setObjs, setObjs2, thr, hEl]; omega) | omega | (first | rfl | omega | simp)), trivial⟩
    · exact qa
    · exact qb
    · exact qM
    · exact qJ
    · exact hM0
    · exact hA0
    · exact hB0
    · exact hJ0
    · exact hA0
    · exact qM2
    · exact rM
    · exact tM
    · exact rM
    · exact tM
    · exact (by simpa using sM)
    · exact qJ2
    · exact rJ
    · exact tJ
    · exact rJ
    · exact tJ
    · exact (by simpa using sJ)
    · exact qS
    · exact rA
    · exact tA
    · exact rA
    · exact tA
    · exact (by simpa using sA)
    · exact rB
    · exact qL
    · exact alive_ac
    · exact qE
    · exact rE
    · exact qDJ
    · exact cJ
    · exact cJ
end Go.Proofs.Ytaphhmefkfhepaa.Run
