/- Layouts: what is right: by runs along paths. -/
import Derived.Test.YtidgcfgkcidkiaaChM
namespace Go.Proofs.Ytidgcfgkcidkiaa.Ch
open Go Go.RowKit Go.Proofs.Ytidgcfgkcidkiaa.L Go.Proofs.Ytidgcfgkcidkiaa.X
set_option linter.unusedVariables false
set_option linter.unusedSimpArgs false

def restB : Option Int → List SegD → Bool
  | _, [] => true
  | none, s :: r => fineB s && restB (some s.at_) r
  | some a, s :: r => fineB s && (!decide (s.at_ ≤ a) && restB (some s.at_) r)
def prevL (l : LayD) : Nat → Option Int
  | 0 => none
  | k + 1 => (l.segs[k]?).map (·.at_)
def SegD.ok (s : SegD) : Prop := (catL s.chains).length ≤ 1000000000000 ∧ s.chains.length ≤ 1000000000000
theorem segs_loop (l : LayD) (hs : ∀ s ∈ l.segs, s.ok) (hb : l.segs.length ≤ 1000000000000) : ∀ (n k : Nat), l.segs.length = k + n →
    (restB (prevL l k) (l.segs.drop k) = true ∧ ALoop Try.prog 0 Try.f14.ntmps (loopB Try.f14 0) ⟨[(35, .int .i64 k), (34, .int .i64 l.segs.length), (33, .lst 2 (l.segs.map encS)), (1, .ptr 0 0)], [.vars 25 (celL l)]⟩ (.exit 0) ⟨[], []⟩) ∨
    (restB (prevL l k) (l.segs.drop k) = false ∧ ALoop Try.prog 0 Try.f14.ntmps (loopB Try.f14 0) ⟨[(35, .int .i64 k), (34, .int .i64 l.segs.length), (33, .lst 2 (l.segs.map encS)), (1, .ptr 0 0)], [.vars 25 (celL l)]⟩ .ret ⟨[(2, .bool false)], []⟩)
  | 0, k, h => by
    refine .inl ⟨by rw [List.drop_of_length_le (by omega)]; cases prevL l k <;> rfl, ?_⟩
    refine aloopK mixed [0, 1, 2, 3, 4, 31, 33, 34, 35, 36, 58] 1000 ([.go, .f]) [] [] (S1 := { env := [], objs := [] }) (ob := [decide ((↑k : Int) < (↑(List.length (LayD.segs l)) : Int)) = false]) (by kernel_rfl) (by first | exact rfl | exact ⟨rfl, rfl⟩ | (simp []; done)) ⟨(by first | exact rfl | (simp []; done) | (simp []; omega) | omega), trivial⟩
  | n + 1, k, h => by
    obtain ⟨s, hx⟩ := get_of (l := l.segs) (k := k) (by omega)
    have hf := fine_ac s (hs s (List.mem_of_getElem? hx)).1 (hs s (List.mem_of_getElem? hx)).2
    rw [drop_of hx]
    have hp : prevL l (k + 1) = some s.at_ := by simp [prevL, hx]
    have ih := segs_loop l hs hb n (k + 1) (by omega)
    rw [hp] at ih
    cases h1 : fineB s with
    | false =>
      rw [h1] at hf
      refine .inr ⟨by cases prevL l k <;> simp [restB, h1], ?_⟩
      refine aloopK mixed [0, 1, 2, 3, 4, 31, 33, 34, 35, 36, 58] 1000 ([.go, .t, .ix k, .el (encS s), .call [] false true (.bool false) []]) [2] [] (S1 := { env := [(2, AV.bool false)], objs := [] }) (ob := [decide ((↑k : Int) < (↑(List.length (LayD.segs l)) : Int)) = true,
      k < List.length (List.map encS (LayD.segs l)),
      (↑k : Int) = (↑k : Int),
      (List.map encS (LayD.segs l))[k]? = some (AV.agg [AV.int IntKind.u64 (SegD.at_ s), AV.lst (nat_lit 1) (List.map encU (SegD.chains s))]),
      ACalls Try.prog 35 [AV.agg [AV.int IntKind.u64 (SegD.at_ s), AV.lst 1 (List.map encU (SegD.chains s))]] [] (AV.bool false) []]) (by kernel_rfl) (by first | exact rfl | exact ⟨rfl, rfl⟩ | (simp [hx, encS]; done)) ⟨(by first | exact rfl | (simp [hx, encS]; done) | (simp [hx, encS]; omega) | omega), (by first | exact rfl | (simp [hx, encS]; done) | (simp [hx, encS]; omega) | omega), (by first | exact rfl | (simp [hx, encS]; done) | (simp [hx, encS]; omega) | omega), (by first | exact rfl | (simp [hx, encS]; done) | (simp [hx, encS]; omega) | omega), ?q32_1, trivial⟩
      exact hf
    | true =>
      rw [h1] at hf
      by_cases hk : k = 0
      · subst hk
        rw [show prevL l 0 = none from rfl, show restB none (s :: l.segs.drop (0 + 1)) = restB (some s.at_) (l.segs.drop (0 + 1)) by simp [restB, h1]]
        obtain ⟨i1, i2⟩ | ⟨i1, i2⟩ := ih
        · refine .inl ⟨i1, ?_⟩
          refine aloopK mixed [0, 1, 2, 3, 4, 31, 33, 34, 35, 36, 58] 1000 ([.go, .t, .ix 0, .el (encS s), .call [] false true (.bool true) [], .f, .n ((0 + 1 : Nat) : Int), .lp [35, 34, 33, 1] [0] (.exit 0) ⟨[], []⟩]) [] [] (S1 := { env := [], objs := [] }) (ob := [decide ((↑(0 : Nat) : Int) < (↑(List.length (LayD.segs l)) : Int)) = true,
      nat_lit 0 < List.length (List.map encS (LayD.segs l)),
      (↑(0 : Nat) : Int) = (↑(nat_lit 0) : Int),
      (List.map encS (LayD.segs l))[nat_lit 0]? = some (AV.agg [AV.int IntKind.u64 (SegD.at_ s), AV.lst (nat_lit 1) (List.map encU (SegD.chains s))]),
      ACalls Try.prog 35 [AV.agg [AV.int IntKind.u64 (SegD.at_ s), AV.lst 1 (List.map encU (SegD.chains s))]] [] (AV.bool true) [],
      decide ((↑(0 : Nat) : Int) > (0 : Int)) = false,
      IntKind.wrap IntKind.i64 ((↑(0 : Nat) : Int) + (1 : Int)) = (↑((0 : Nat) + (1 : Nat)) : Int),
      ALoop Try.prog 0 60 (loopB Try.f14 0) { env := [(35, AV.int IntKind.i64 (↑(0 + 1) : Int)), (34, AV.int IntKind.i64 (↑(List.length (LayD.segs l)) : Int)), (33, AV.lst 2 (List.map encS (LayD.segs l))), (1, AV.ptr 0 0)], objs := [Obj.vars 25 [AV.int IntKind.u64 (LayD.epoch l), AV.lst 2 (List.map encS (LayD.segs l)), AV.int IntKind.i64 (LayD.seq l)]] } (Ex.exit 0) { env := [], objs := [] }]) (by kernel_rfl) (by first | exact rfl | exact ⟨rfl, rfl⟩ | (simp [hx, encS]; done)) ⟨(by first | exact rfl | (simp [hx, encS]; done) | (simp [hx, encS]; omega) | omega), (by first | exact rfl | (simp [hx, encS]; done) | (simp [hx, encS]; omega) | omega), (by first | exact rfl | (simp [hx, encS]; done) | (simp [hx, encS]; omega) | omega), (by first | exact rfl | (simp [hx, encS]; done) | (simp [hx, encS]; omega) | omega), ?q41_1, (by first | exact rfl | (simp [hx, encS]; done) | (simp [hx, encS]; omega) | omega), (by first | exact rfl | (simp [hx, encS]; done) | (simp [hx, encS]; omega) | omega), ?q41_2, trivial⟩
          · exact hf
          · exact i2
        · refine .inr ⟨i1, ?_⟩
          refine aloopK mixed [0, 1, 2, 3, 4, 31, 33, 34, 35, 36, 58] 1000 ([.go, .t, .ix 0, .el (encS s), .call [] false true (.bool true) [], .f, .n ((0 + 1 : Nat) : Int), .lp [35, 34, 33, 1] [0] .ret ⟨[(2, .bool false)], []⟩]) [2] [] (S1 := { env := [(2, AV.bool false)], objs := [] }) (ob := [decide ((↑(0 : Nat) : Int) < (↑(List.length (LayD.segs l)) : Int)) = true,
      nat_lit 0 < List.length (List.map encS (LayD.segs l)),
      (↑(0 : Nat) : Int) = (↑(nat_lit 0) : Int),
      (List.map encS (LayD.segs l))[nat_lit 0]? = some (AV.agg [AV.int IntKind.u64 (SegD.at_ s), AV.lst (nat_lit 1) (List.map encU (SegD.chains s))]),
      ACalls Try.prog 35 [AV.agg [AV.int IntKind.u64 (SegD.at_ s), AV.lst 1 (List.map encU (SegD.chains s))]] [] (AV.bool true) [],
      decide ((↑(0 : Nat) : Int) > (0 : Int)) = false,
      IntKind.wrap IntKind.i64 ((↑(0 : Nat) : Int) + (1 : Int)) = (↑((0 : Nat) + (1 : Nat)) : Int),
      ALoop Try.prog 0 60 (loopB Try.f14 0) { env := [(35, AV.int IntKind.i64 (↑(0 + 1) : Int)), (34, AV.int IntKind.i64 (↑(List.length (LayD.segs l)) : Int)), (33, AV.lst 2 (List.map encS (LayD.segs l))), (1, AV.ptr 0 0)], objs := [Obj.vars 25 [AV.int IntKind.u64 (LayD.epoch l), AV.lst 2 (List.map encS (LayD.segs l)), AV.int IntKind.i64 (LayD.seq l)]] } Ex.ret { env := [(2, AV.bool false)], objs := [] }]) (by kernel_rfl) (by first | exact rfl | exact ⟨rfl, rfl⟩ | (simp [hx, encS]; done)) ⟨(by first | exact rfl | (simp [hx, encS]; done) | (simp [hx, encS]; omega) | omega), (by first | exact rfl | (simp [hx, encS]; done) | (simp [hx, encS]; omega) | omega), (by first | exact rfl | (simp [hx, encS]; done) | (simp [hx, encS]; omega) | omega), (by first | exact rfl | (simp [hx, encS]; done) | (simp [hx, encS]; omega) | omega), ?q45_1, (by first | exact rfl | (simp [hx, encS]; done) | (simp [hx, encS]; omega) | omega), (by first | exact rfl | (simp [hx, encS]; done) | (simp [hx, encS]; omega) | omega), ?q45_2, trivial⟩
          · exact hf
          · exact i2
      · obtain ⟨j, rfl⟩ : ∃ j, k = j + 1 := ⟨k - 1, by omega⟩
        obtain ⟨s1, hy⟩ := get_of (l := l.segs) (k := j) (by omega)
        have hq : prevL l (j + 1) = some s1.at_ := by simp [prevL, hy]
        rw [hq]
        have hw : IntKind.wrap .i64 (((j + 1 : Nat) : Int) - 1) = (j : Int) := by
          have : (j : Int) ≤ 1000000000000 := by omega
          simp [IntKind.wrap, IntKind.bits, IntKind.signed]; omega
        by_cases h2 : s.at_ ≤ s1.at_
        · refine .inr ⟨by simp [restB, h1, h2], ?_⟩
          refine aloopK mixed [0, 1, 2, 3, 4, 31, 33, 34, 35, 36, 58] 1000 ([.go, .t, .ix (j + 1), .el (encS s), .call [] false true (.bool true) [], .t, .n (j : Int), .ix j, .el (encS s1), .t]) [2] [] (S1 := { env := [(2, AV.bool false)], objs := [] }) (ob := [decide ((↑(j + (1 : Nat)) : Int) < (↑(List.length (LayD.segs l)) : Int)) = true,
      j + (1 : Nat) < List.length (List.map encS (LayD.segs l)),
      (↑(j + (1 : Nat)) : Int) = (↑(j + (1 : Nat)) : Int),
      (List.map encS (LayD.segs l))[j + (1 : Nat)]? = some (AV.agg [AV.int IntKind.u64 (SegD.at_ s), AV.lst (nat_lit 1) (List.map encU (SegD.chains s))]),
      ACalls Try.prog 35 [AV.agg [AV.int IntKind.u64 (SegD.at_ s), AV.lst 1 (List.map encU (SegD.chains s))]] [] (AV.bool true) [],
      decide ((↑(j + (1 : Nat)) : Int) > (0 : Int)) = true,
      IntKind.wrap IntKind.i64 ((↑(j + (1 : Nat)) : Int) - (1 : Int)) = (↑j : Int),
      j < List.length (List.map encS (LayD.segs l)),
      (↑j : Int) = (↑j : Int),
      (List.map encS (LayD.segs l))[j]? = some (AV.agg [AV.int IntKind.u64 (SegD.at_ s1), AV.lst (nat_lit 1) (List.map encU (SegD.chains s1))]),
      decide (SegD.at_ s ≤ SegD.at_ s1) = true]) (by kernel_rfl) (by first | exact rfl | exact ⟨rfl, rfl⟩ | (simp [hx, hy, encS, h2]; done) | (first | exact hw | omega)) ⟨(by first | exact rfl | (simp [hx, hy, encS, h2]; done) | (simp [hx, hy, encS, h2]; omega) | omega | (first | exact hw | omega)), (by first | exact rfl | (simp [hx, hy, encS, h2]; done) | (simp [hx, hy, encS, h2]; omega) | omega | (first | exact hw | omega)), (by first | exact rfl | (simp [hx, hy, encS, h2]; done) | (simp [hx, hy, encS, h2]; omega) | omega | (first | exact hw | omega)), (by first | exact rfl | (simp [hx, hy, encS, h2]; done) | (simp [hx, hy, encS, h2]; omega) | omega | (first | exact hw | omega)), ?q57_1, (by first | exact rfl | (simp [hx, hy, encS, h2]; done) | (simp [hx, hy, encS, h2]; omega) | omega | (first | exact hw | omega)), (by first | exact rfl | (simp [hx, hy, encS, h2]; done) | (simp [hx, hy, encS, h2]; omega) | omega | (first | exact hw | omega)), (by first | exact rfl | (simp [hx, hy, encS, h2]; done) | (simp [hx, hy, encS, h2]; omega) | omega | (first | exact hw | omega)), (by first | exact rfl | (simp [hx, hy, encS, h2]; done) | (simp [hx, hy, encS, h2]; omega) | omega | (first | exact hw | omega)), (by first | exact rfl | (simp [hx, hy, encS, h2]; done) | (simp [hx, hy, encS, h2]; omega) | omega | (first | exact hw | omega)), (by first | exact rfl | (simp [hx, hy, encS, h2]; done) | (simp [hx, hy, encS, h2]; omega) | omega | (first | exact hw | omega)), trivial⟩
          exact hf
        · rw [show restB (some s1.at_) (s :: l.segs.drop (j + 1 + 1)) = restB (some s.at_) (l.segs.drop (j + 1 + 1)) by simp [restB, h1, h2]]
          obtain ⟨i1, i2⟩ | ⟨i1, i2⟩ := ih
          · refine .inl ⟨i1, ?_⟩
            refine aloopK mixed [0, 1, 2, 3, 4, 31, 33, 34, 35, 36, 58] 1000 ([.go, .t, .ix (j + 1), .el (encS s), .call [] false true (.bool true) [], .t, .n (j : Int), .ix j, .el (encS s1), .f, .n ((j + 1 + 1 : Nat) : Int), .lp [35, 34, 33, 1] [0] (.exit 0) ⟨[], []⟩]) [] [] (S1 := { env := [], objs := [] }) (ob := [decide ((↑(j + (1 : Nat)) : Int) < (↑(List.length (LayD.segs l)) : Int)) = true,
      j + (1 : Nat) < List.length (List.map encS (LayD.segs l)),
      (↑(j + (1 : Nat)) : Int) = (↑(j + (1 : Nat)) : Int),
      (List.map encS (LayD.segs l))[j + (1 : Nat)]? = some (AV.agg [AV.int IntKind.u64 (SegD.at_ s), AV.lst (nat_lit 1) (List.map encU (SegD.chains s))]),
      ACalls Try.prog 35 [AV.agg [AV.int IntKind.u64 (SegD.at_ s), AV.lst 1 (List.map encU (SegD.chains s))]] [] (AV.bool true) [],
      decide ((↑(j + (1 : Nat)) : Int) > (0 : Int)) = true,
      IntKind.wrap IntKind.i64 ((↑(j + (1 : Nat)) : Int) - (1 : Int)) = (↑j : Int),
      j < List.length (List.map encS (LayD.segs l)),
      (↑j : Int) = (↑j : Int),
      (List.map encS (LayD.segs l))[j]? = some (AV.agg [AV.int IntKind.u64 (SegD.at_ s1), AV.lst (nat_lit 1) (List.map encU (SegD.chains s1))]),
      decide (SegD.at_ s ≤ SegD.at_ s1) = false,
      IntKind.wrap IntKind.i64 ((↑(j + (1 : Nat)) : Int) + (1 : Int)) = (↑(j + (1 : Nat) + (1 : Nat)) : Int),
      ALoop Try.prog 0 60 (loopB Try.f14 0) { env := [(35, AV.int IntKind.i64 (↑(j + 1 + 1) : Int)), (34, AV.int IntKind.i64 (↑(List.length (LayD.segs l)) : Int)), (33, AV.lst 2 (List.map encS (LayD.segs l))), (1, AV.ptr 0 0)], objs := [Obj.vars 25 [AV.int IntKind.u64 (LayD.epoch l), AV.lst 2 (List.map encS (LayD.segs l)), AV.int IntKind.i64 (LayD.seq l)]] } (Ex.exit 0) { env := [], objs := [] }]) (by kernel_rfl) (by first | exact rfl | exact ⟨rfl, rfl⟩ | (simp [hx, hy, encS, h2]; done) | (first | exact hw | omega | exact wrap64 (by omega))) ⟨(by first | exact rfl | (simp [hx, hy, encS, h2]; done) | (simp [hx, hy, encS, h2]; omega) | omega | (first | exact hw | omega | exact wrap64 (by omega))), (by first | exact rfl | (simp [hx, hy, encS, h2]; done) | (simp [hx, hy, encS, h2]; omega) | omega | (first | exact hw | omega | exact wrap64 (by omega))), (by first | exact rfl | (simp [hx, hy, encS, h2]; done) | (simp [hx, hy, encS, h2]; omega) | omega | (first | exact hw | omega | exact wrap64 (by omega))), (by first | exact rfl | (simp [hx, hy, encS, h2]; done) | (simp [hx, hy, encS, h2]; omega) | omega | (first | exact hw | omega | exact wrap64 (by omega))), ?q62_1, (by first | exact rfl | (simp [hx, hy, encS, h2]; done) | (simp [hx, hy, encS, h2]; omega) | omega | (first | exact hw | omega | exact wrap64 (by omega))), (by first | exact rfl | (simp [hx, hy, encS, h2]; done) | (simp [hx, hy, encS, h2]; omega) | omega | (first | exact hw | omega | exact wrap64 (by omega))), (by first | exact rfl | (simp [hx, hy, encS, h2]; done) | (simp [hx, hy, encS, h2]; omega) | omega | (first | exact hw | omega | exact wrap64 (by omega))), (by first | exact rfl | (simp [hx, hy, encS, h2]; done) | (simp [hx, hy, encS, h2]; omega) | omega | (first | exact hw | omega | exact wrap64 (by omega))), (by first | exact rfl | (simp [hx, hy, encS, h2]; done) | (simp [hx, hy, encS, h2]; omega) | omega | (first | exact hw | omega | exact wrap64 (by omega))), (by first | exact rfl | (simp [hx, hy, encS, h2]; done) | (simp [hx, hy, encS, h2]; omega) | omega | (first | exact hw | omega | exact wrap64 (by omega))), (by first | exact rfl | (simp [hx, hy, encS, h2]; done) | (simp [hx, hy, encS, h2]; omega) | omega | (first | exact hw | omega | exact wrap64 (by omega))), ?q62_2, trivial⟩
            · exact hf
            · exact i2
          · refine .inr ⟨i1, ?_⟩
            refine aloopK mixed [0, 1, 2, 3, 4, 31, 33, 34, 35, 36, 58] 1000 ([.go, .t, .ix (j + 1), .el (encS s), .call [] false true (.bool true) [], .t, .n (j : Int), .ix j, .el (encS s1), .f, .n ((j + 1 + 1 : Nat) : Int), .lp [35, 34, 33, 1] [0] .ret ⟨[(2, .bool false)], []⟩]) [2] [] (S1 := { env := [(2, AV.bool false)], objs := [] }) (ob := [decide ((↑(j + (1 : Nat)) : Int) < (↑(List.length (LayD.segs l)) : Int)) = true,
      j + (1 : Nat) < List.length (List.map encS (LayD.segs l)),
      (↑(j + (1 : Nat)) : Int) = (↑(j + (1 : Nat)) : Int),
      (List.map encS (LayD.segs l))[j + (1 : Nat)]? = some (AV.agg [AV.int IntKind.u64 (SegD.at_ s), AV.lst (nat_lit 1) (List.map encU (SegD.chains s))]),
      ACalls Try.prog 35 [AV.agg [AV.int IntKind.u64 (SegD.at_ s), AV.lst 1 (List.map encU (SegD.chains s))]] [] (AV.bool true) [],
      decide ((↑(j + (1 : Nat)) : Int) > (0 : Int)) = true,
      IntKind.wrap IntKind.i64 ((↑(j + (1 : Nat)) : Int) - (1 : Int)) = (↑j : Int),
      j < List.length (List.map encS (LayD.segs l)),
      (↑j : Int) = (↑j : Int),
      (List.map encS (LayD.segs l))[j]? = some (AV.agg [AV.int IntKind.u64 (SegD.at_ s1), AV.lst (nat_lit 1) (List.map encU (SegD.chains s1))]),
      decide (SegD.at_ s ≤ SegD.at_ s1) = false,
      IntKind.wrap IntKind.i64 ((↑(j + (1 : Nat)) : Int) + (1 : Int)) = (↑(j + (1 : Nat) + (1 : Nat)) : Int),
      ALoop Try.prog 0 60 (loopB Try.f14 0) { env := [(35, AV.int IntKind.i64 (↑(j + 1 + 1) : Int)), (34, AV.int IntKind.i64 (↑(List.length (LayD.segs l)) : Int)), (33, AV.lst 2 (List.map encS (LayD.segs l))), (1, AV.ptr 0 0)], objs := [Obj.vars 25 [AV.int IntKind.u64 (LayD.epoch l), AV.lst 2 (List.map encS (LayD.segs l)), AV.int IntKind.i64 (LayD.seq l)]] } Ex.ret { env := [(2, AV.bool false)], objs := [] }]) (by kernel_rfl) (by first | exact rfl | exact ⟨rfl, rfl⟩ | (simp [hx, hy, encS, h2]; done) | (first | exact hw | omega | exact wrap64 (by omega))) ⟨(by first | exact rfl | (simp [hx, hy, encS, h2]; done) | (simp [hx, hy, encS, h2]; omega) | omega | (first | exact hw | omega | exact wrap64 (by omega))), (by first | exact rfl | (simp [hx, hy, encS, h2]; done) | (simp [hx, hy, encS, h2]; omega) | omega | (first | exact hw | omega | exact wrap64 (by omega))), (by first | exact rfl | (simp [hx, hy, encS, h2]; done) | (simp [hx, hy, encS, h2]; omega) | omega | (first | exact hw | omega | exact wrap64 (by omega))), (by first | exact rfl | (simp [hx, hy, encS, h2]; done) | (simp [hx, hy, encS, h2]; omega) | omega | (first | exact hw | omega | exact wrap64 (by omega))), ?q66_1, (by first | exact rfl | (simp [hx, hy, encS, h2]; done) | (simp [hx, hy, encS, h2]; omega) | omega | (first | exact hw | omega | exact wrap64 (by omega))), (by first | exact rfl | (simp [hx, hy, encS, h2]; done) | (simp [hx, hy, encS, h2]; omega) | omega | (first | exact hw | omega | exact wrap64 (by omega))), (by first | exact rfl | (simp [hx, hy, encS, h2]; done) | (simp [hx, hy, encS, h2]; omega) | omega | (first | exact hw | omega | exact wrap64 (by omega))), (by first | exact rfl | (simp [hx, hy, encS, h2]; done) | (simp [hx, hy, encS, h2]; omega) | omega | (first | exact hw | omega | exact wrap64 (by omega))), (by first | exact rfl | (simp [hx, hy, encS, h2]; done) | (simp [hx, hy, encS, h2]; omega) | omega | (first | exact hw | omega | exact wrap64 (by omega))), (by first | exact rfl | (simp [hx, hy, encS, h2]; done) | (simp [hx, hy, encS, h2]; omega) | omega | (first | exact hw | omega | exact wrap64 (by omega))), (by first | exact rfl | (simp [hx, hy, encS, h2]; done) | (simp [hx, hy, encS, h2]; omega) | omega | (first | exact hw | omega | exact wrap64 (by omega))), ?q66_2, trivial⟩
            · exact hf
            · exact i2

def firstB : List SegD → Bool
  | [] => false
  | s :: _ => decide (s.at_ = 0)
def rightL (l : LayD) : Bool := decide (1 ≤ l.epoch) && (decide (l.epoch ≤ 1048576) && (!outB l.seq && (lenB l.segs.length 4 && (firstB l.segs && restB none l.segs))))
theorem rightL_ac (l : LayD) (hs : ∀ s ∈ l.segs, s.ok) (hb : l.segs.length ≤ 1000000000000) : ACalls Try.prog 14 [encL l] [] (.bool (rightL l)) [] := by
  have c1 := outside_ac l.seq
  have c2 := within_seg (l.segs.map encS) 4
  rw [List.length_map] at c2
  have c3 := segs_loop l hs hb l.segs.length 0 (by omega)
  rw [List.drop_zero, show prevL l 0 = none from rfl] at c3
  by_cases h1 : l.epoch < 1
  · rw [show rightL l = false by simp [rightL]; omega]
    refine acallsK mixed Try.func14 rfl [0, 1, 2, 3, 4, 31, 33, 34, 35, 36, 58] 1000 ([.t]) [] [] (v1 := AV.bool false) (objs1 := []) (ob := [decide (LayD.epoch l < (1 : Int)) = true]) (by kernel_rfl) (by first | exact rfl | exact ⟨rfl, rfl⟩ | (simp [encL, h1]; done)) ⟨(by first | exact rfl | (simp [encL, h1]; done) | (simp [encL, h1]; omega) | omega), trivial⟩
  · by_cases h2 : l.epoch ≤ 1048576
    · cases h3 : outB l.seq with
      | true =>
        rw [h3] at c1
        rw [show rightL l = false by simp [rightL, h3]]
        refine acallsK mixed Try.func14 rfl [0, 1, 2, 3, 4, 31, 33, 34, 35, 36, 58] 1000 ([.f, .f, .call [] false true (.bool true) []]) [] [] (v1 := AV.bool false) (objs1 := []) (ob := [decide (LayD.epoch l < (1 : Int)) = false,
      decide (LayD.epoch l > (1048576 : Int)) = false,
      ACalls Try.prog 33 [AV.int IntKind.i64 (LayD.seq l)] [] (AV.bool true) []]) (by kernel_rfl) (by first | exact rfl | exact ⟨rfl, rfl⟩ | (simp [encL, h1, h2]; done) | (omega)) ⟨(by first | exact rfl | (simp [encL, h1, h2]; done) | (simp [encL, h1, h2]; omega) | omega | (omega)), (by first | exact rfl | (simp [encL, h1, h2]; done) | (simp [encL, h1, h2]; omega) | omega | (omega)), ?q88_1, trivial⟩
        exact c1
      | false =>
        rw [h3] at c1
        cases h4 : lenB l.segs.length 4 with
        | false =>
          rw [h4] at c2
          rw [show rightL l = false by simp [rightL, h4]]
          refine acallsK mixed Try.func14 rfl [0, 1, 2, 3, 4, 31, 33, 34, 35, 36, 58] 1000 ([.f, .f, .call [] false true (.bool false) [], .call [] false true (.bool false) []]) [] [] (v1 := AV.bool false) (objs1 := []) (ob := [decide (LayD.epoch l < (1 : Int)) = false,
      decide (LayD.epoch l > (1048576 : Int)) = false,
      ACalls Try.prog 33 [AV.int IntKind.i64 (LayD.seq l)] [] (AV.bool false) [],
      ACalls Try.prog 34 [AV.lst 2 (List.map encS (LayD.segs l)), AV.int IntKind.i64 4] [] (AV.bool false) []]) (by kernel_rfl) (by first | exact rfl | exact ⟨rfl, rfl⟩ | (simp [encL, h1, h2]; done) | (omega)) ⟨(by first | exact rfl | (simp [encL, h1, h2]; done) | (simp [encL, h1, h2]; omega) | omega | (omega)), (by first | exact rfl | (simp [encL, h1, h2]; done) | (simp [encL, h1, h2]; omega) | omega | (omega)), ?q96_1, ?q96_2, trivial⟩
          · exact c1
          · exact c2
        | true =>
          rw [h4] at c2
          have hpos : 0 < l.segs.length := by simp [lenB] at h4; exact h4.1
          obtain ⟨s0, hx⟩ := get_of hpos
          have hfB : firstB l.segs = decide (s0.at_ = 0) := by
            cases hl : l.segs with
            | nil => rw [hl] at hx; cases hx
            | cons a r => rw [hl] at hx; injection hx with hx; rw [← hx]; rfl
          by_cases h5 : s0.at_ = 0
          · rw [show rightL l = restB none l.segs by simp [rightL, h3, h4, hfB, h5, h2]; omega]
            obtain ⟨i1, i2⟩ | ⟨i1, i2⟩ := c3
            · rw [i1]
              refine acallsK mixed Try.func14 rfl [0, 1, 2, 3, 4, 31, 33, 34, 35, 36, 58] 1000 ([.f, .f, .call [] false true (.bool false) [], .call [] false true (.bool true) [], .ix 0, .el (encS s0), .f, .n l.segs.length, .lp [35, 34, 33, 1] [0] (.exit 0) ⟨[], []⟩]) [] [] (v1 := AV.bool true) (objs1 := []) (ob := [decide (LayD.epoch l < (1 : Int)) = false,
      decide (LayD.epoch l > (1048576 : Int)) = false,
      ACalls Try.prog 33 [AV.int IntKind.i64 (LayD.seq l)] [] (AV.bool false) [],
      ACalls Try.prog 34 [AV.lst 2 (List.map encS (LayD.segs l)), AV.int IntKind.i64 4] [] (AV.bool true) [],
      nat_lit 0 < List.length (List.map encS (LayD.segs l)),
      (0 : Int) = (↑(nat_lit 0) : Int),
      (List.map encS (LayD.segs l))[nat_lit 0]? = some (AV.agg [AV.int IntKind.u64 (SegD.at_ s0), AV.lst (nat_lit 1) (List.map encU (SegD.chains s0))]),
      (SegD.at_ s0 != (0 : Int)) = false,
      (↑(List.length (List.map encS (LayD.segs l))) : Int) = (↑(List.length (LayD.segs l)) : Int),
      ALoop Try.prog 0 60 (loopB Try.f14 0) { env := [(35, AV.int IntKind.i64 0), (34, AV.int IntKind.i64 (↑(List.length (LayD.segs l)) : Int)), (33, AV.lst 2 (List.map encS (LayD.segs l))), (1, AV.ptr 0 0)], objs := [Obj.vars 25 [AV.int IntKind.u64 (LayD.epoch l), AV.lst 2 (List.map encS (LayD.segs l)), AV.int IntKind.i64 (LayD.seq l)]] } (Ex.exit 0) { env := [], objs := [] }]) (by kernel_rfl) (by first | exact rfl | exact ⟨rfl, rfl⟩ | (simp [encL, h1, h2, hx, encS, h5]; done) | (omega)) ⟨(by first | exact rfl | (simp [encL, h1, h2, hx, encS, h5]; done) | (simp [encL, h1, h2, hx, encS, h5]; omega) | omega | (omega)), (by first | exact rfl | (simp [encL, h1, h2, hx, encS, h5]; done) | (simp [encL, h1, h2, hx, encS, h5]; omega) | omega | (omega)), ?q111_1, ?q111_2, (by first | exact rfl | (simp [encL, h1, h2, hx, encS, h5]; done) | (simp [encL, h1, h2, hx, encS, h5]; omega) | omega | (omega)), (by first | exact rfl | (simp [encL, h1, h2, hx, encS, h5]; done) | (simp [encL, h1, h2, hx, encS, h5]; omega) | omega | (omega)), (by first | exact rfl | (simp [encL, h1, h2, hx, encS, h5]; done) | (simp [encL, h1, h2, hx, encS, h5]; omega) | omega | (omega)), (by first | exact rfl | (simp [encL, h1, h2, hx, encS, h5]; done) | (simp [encL, h1, h2, hx, encS, h5]; omega) | omega | (omega)), (by first | exact rfl | (simp [encL, h1, h2, hx, encS, h5]; done) | (simp [encL, h1, h2, hx, encS, h5]; omega) | omega | (omega)), ?q111_3, trivial⟩
              · exact c1
              · exact c2
              · exact i2
            · rw [i1]
              refine acallsK mixed Try.func14 rfl [0, 1, 2, 3, 4, 31, 33, 34, 35, 36, 58] 1000 ([.f, .f, .call [] false true (.bool false) [], .call [] false true (.bool true) [], .ix 0, .el (encS s0), .f, .n l.segs.length, .lp [35, 34, 33, 1] [0] .ret ⟨[(2, .bool false)], []⟩]) [] [] (v1 := AV.bool false) (objs1 := []) (ob := [decide (LayD.epoch l < (1 : Int)) = false,
      decide (LayD.epoch l > (1048576 : Int)) = false,
      ACalls Try.prog 33 [AV.int IntKind.i64 (LayD.seq l)] [] (AV.bool false) [],
      ACalls Try.prog 34 [AV.lst 2 (List.map encS (LayD.segs l)), AV.int IntKind.i64 4] [] (AV.bool true) [],
      nat_lit 0 < List.length (List.map encS (LayD.segs l)),
      (0 : Int) = (↑(nat_lit 0) : Int),
      (List.map encS (LayD.segs l))[nat_lit 0]? = some (AV.agg [AV.int IntKind.u64 (SegD.at_ s0), AV.lst (nat_lit 1) (List.map encU (SegD.chains s0))]),
      (SegD.at_ s0 != (0 : Int)) = false,
      (↑(List.length (List.map encS (LayD.segs l))) : Int) = (↑(List.length (LayD.segs l)) : Int),
      ALoop Try.prog 0 60 (loopB Try.f14 0) { env := [(35, AV.int IntKind.i64 0), (34, AV.int IntKind.i64 (↑(List.length (LayD.segs l)) : Int)), (33, AV.lst 2 (List.map encS (LayD.segs l))), (1, AV.ptr 0 0)], objs := [Obj.vars 25 [AV.int IntKind.u64 (LayD.epoch l), AV.lst 2 (List.map encS (LayD.segs l)), AV.int IntKind.i64 (LayD.seq l)]] } Ex.ret { env := [(2, AV.bool false)], objs := [] }]) (by kernel_rfl) (by first | exact rfl | exact ⟨rfl, rfl⟩ | (simp [encL, h1, h2, hx, encS, h5]; done) | (omega)) ⟨(by first | exact rfl | (simp [encL, h1, h2, hx, encS, h5]; done) | (simp [encL, h1, h2, hx, encS, h5]; omega) | omega | (omega)), (by first | exact rfl | (simp [encL, h1, h2, hx, encS, h5]; done) | (simp [encL, h1, h2, hx, encS, h5]; omega) | omega | (omega)), ?q116_1, ?q116_2, (by first | exact rfl | (simp [encL, h1, h2, hx, encS, h5]; done) | (simp [encL, h1, h2, hx, encS, h5]; omega) | omega | (omega)), (by first | exact rfl | (simp [encL, h1, h2, hx, encS, h5]; done) | (simp [encL, h1, h2, hx, encS, h5]; omega) | omega | (omega)), (by first | exact rfl | (simp [encL, h1, h2, hx, encS, h5]; done) | (simp [encL, h1, h2, hx, encS, h5]; omega) | omega | (omega)), (by first | exact rfl | (simp [encL, h1, h2, hx, encS, h5]; done) | (simp [encL, h1, h2, hx, encS, h5]; omega) | omega | (omega)), (by first | exact rfl | (simp [encL, h1, h2, hx, encS, h5]; done) | (simp [encL, h1, h2, hx, encS, h5]; omega) | omega | (omega)), ?q116_3, trivial⟩
              · exact c1
              · exact c2
              · exact i2
          · rw [show rightL l = false by simp [rightL, hfB, h5]]
            refine acallsK mixed Try.func14 rfl [0, 1, 2, 3, 4, 31, 33, 34, 35, 36, 58] 1000 ([.f, .f, .call [] false true (.bool false) [], .call [] false true (.bool true) [], .ix 0, .el (encS s0), .t]) [] [] (v1 := AV.bool false) (objs1 := []) (ob := [decide (LayD.epoch l < (1 : Int)) = false,
      decide (LayD.epoch l > (1048576 : Int)) = false,
      ACalls Try.prog 33 [AV.int IntKind.i64 (LayD.seq l)] [] (AV.bool false) [],
      ACalls Try.prog 34 [AV.lst 2 (List.map encS (LayD.segs l)), AV.int IntKind.i64 4] [] (AV.bool true) [],
      nat_lit 0 < List.length (List.map encS (LayD.segs l)),
      (0 : Int) = (↑(nat_lit 0) : Int),
      (List.map encS (LayD.segs l))[nat_lit 0]? = some (AV.agg [AV.int IntKind.u64 (SegD.at_ s0), AV.lst (nat_lit 1) (List.map encU (SegD.chains s0))]),
      (SegD.at_ s0 != (0 : Int)) = true]) (by kernel_rfl) (by first | exact rfl | exact ⟨rfl, rfl⟩ | (simp [encL, h1, h2, hx, encS, h5]; done) | (omega)) ⟨(by first | exact rfl | (simp [encL, h1, h2, hx, encS, h5]; done) | (simp [encL, h1, h2, hx, encS, h5]; omega) | omega | (omega)), (by first | exact rfl | (simp [encL, h1, h2, hx, encS, h5]; done) | (simp [encL, h1, h2, hx, encS, h5]; omega) | omega | (omega)), ?q121_1, ?q121_2, (by first | exact rfl | (simp [encL, h1, h2, hx, encS, h5]; done) | (simp [encL, h1, h2, hx, encS, h5]; omega) | omega | (omega)), (by first | exact rfl | (simp [encL, h1, h2, hx, encS, h5]; done) | (simp [encL, h1, h2, hx, encS, h5]; omega) | omega | (omega)), (by first | exact rfl | (simp [encL, h1, h2, hx, encS, h5]; done) | (simp [encL, h1, h2, hx, encS, h5]; omega) | omega | (omega)), (by first | exact rfl | (simp [encL, h1, h2, hx, encS, h5]; done) | (simp [encL, h1, h2, hx, encS, h5]; omega) | omega | (omega)), trivial⟩
            · exact c1
            · exact c2
    · rw [show rightL l = false by simp [rightL]; omega]
      refine acallsK mixed Try.func14 rfl [0, 1, 2, 3, 4, 31, 33, 34, 35, 36, 58] 1000 ([.f, .t]) [] [] (v1 := AV.bool false) (objs1 := []) (ob := [decide (LayD.epoch l < (1 : Int)) = false,
      decide (LayD.epoch l > (1048576 : Int)) = true]) (by kernel_rfl) (by first | exact rfl | exact ⟨rfl, rfl⟩ | (simp [encL, h1]; done) | (omega)) ⟨(by first | exact rfl | (simp [encL, h1]; done) | (simp [encL, h1]; omega) | omega | (omega)), (by first | exact rfl | (simp [encL, h1]; done) | (simp [encL, h1]; omega) | omega | (omega)), trivial⟩
end Go.Proofs.Ytidgcfgkcidkiaa.Ch
