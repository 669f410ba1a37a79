/- Texts of one proof, laid together: ChA, ChC, LibF, Gu, Gw, ChD, Gy, ChE, ChF, ChH, ChI, ChJ, ChG, Gv, ChR, Eb, Gz, Gdf. -/
import Derived.Test.YtidgcfgkcidkiaaGreatS02
import Derived.Test.YtidgcfgkcidkiaaGreatProg
import Derived.Test.YtidgcfgkcidkiaaGreatRows
import Derived.OpenShut
import Derived.Defers
namespace Go.Proofs.YtidgcfgkcidkiaaGreat.Ch
open Go Go.RowKit Go.Proofs.YtidgcfgkcidkiaaGreat.L Go.Proofs.YtidgcfgkcidkiaaGreat.X
set_option linter.unusedVariables false
set_option linter.unusedSimpArgs false
theorem mixed : Tryz.prog.follows .mixedOrders = true := by kernel_rfl
theorem get_of {α : Type} {l : List α} {k : Nat} (h : k < l.length) : ∃ x, l[k]? = some x := ⟨_, List.getElem?_eq_getElem h⟩
theorem wrap64 {n : Nat} (h : n < 9223372036854775807) : IntKind.i64.wrap ((n : Int) + 1) = ((n + 1 : Nat) : Int) := by
  simp [IntKind.wrap, IntKind.bits, IntKind.signed]; omega

structure BackD where
  s : Int
  a : Int
  b : Int
structure CellD where
  kind : Int
  data : List Int
  backs : List BackD
structure SegD where
  at_ : Int
  chains : List (List Int)
structure LayD where
  epoch : Int
  segs : List SegD
  seq : Int
def encB (x : BackD) : AV := .agg [.int .i64 x.s, .int .u64 x.a, .int .u64 x.b]
def byteA (n : Int) : AV := .int .u8 n
def intA (n : Int) : AV := .int .i64 n
def encU (u : List Int) : AV := .lst 1 (u.map intA)
def encS (x : SegD) : AV := .agg [.int .u64 x.at_, .lst 1 (x.chains.map encU)]
def celC (c : CellD) : List AV := [.int .i64 c.kind, .lst 1 (c.data.map byteA), .lst 3 (c.backs.map encB)]
def celL (l : LayD) : List AV := [.int .u64 l.epoch, .lst 2 (l.segs.map encS), .int .i64 l.seq]
def encC (c : CellD) : AV := .agg (celC c)
def encL (l : LayD) : AV := .agg (celL l)
structure MsgD where
  kind : Int
  fr : Int
  fn : Int
  tr : Int
  tn : Int
  id : Int
  of_ : Int
  epoch : Int
  addr : Int
  err : Int
  cell : CellD
  streams : List Int
  backs : List BackD
  br : Int
  bc : Int
  pr : Int
  pc : Int
  lay : LayD
def celM (m : MsgD) : List AV := [.int .i64 m.kind, .int .i64 m.fr, .int .i64 m.fn, .int .i64 m.tr, .int .i64 m.tn, .int .i64 m.id, .int .i64 m.of_, .int .u64 m.epoch, .int .u64 m.addr, .int .i64 m.err] ++ celC m.cell ++ [.lst 1 (m.streams.map intA), .lst 3 (m.backs.map encB), .int .i64 m.br, .int .i64 m.bc, .int .i64 m.pr, .int .i64 m.pc] ++ celL m.lay
def encM (m : MsgD) : AV := .agg (celM m)

theorem fits07_ac (c : CellD) : ∃ b, ACalls Tryz.prog 24 [encC c] [] (.bool b) [] := by
  by_cases h1 : c.data.length ≤ 400
  · by_cases h2 : c.backs.length ≤ 30
    · refine ⟨true, ?_⟩
      refine acallsK mixed Tryz.func24 rfl [0, 1, 2] 1000 ([.n c.data.length, .t, .n c.backs.length, .t]) [] [] (ob := [((List.map byteA c.data).length : Int) = (c.data.length : Int),
 decide ((c.data.length : Int) ≤ (400 : Int)) = true,
 ((List.map encB c.backs).length : Int) = (c.backs.length : Int),
 decide ((c.backs.length : Int) ≤ (30 : Int)) = true]) (by kernel_rfl) ⟨rfl, rfl⟩ ⟨?z0, ?z1, ?z2, ?z3, trivial⟩
      case z0|z1|z2|z3 => first | exact rfl | (simp [h1, h2] <;> omega) | omega
    · refine ⟨false, ?_⟩
      refine acallsK mixed Tryz.func24 rfl [0, 1, 2] 1000 ([.n c.data.length, .t, .n c.backs.length, .f]) [] [] (ob := [((List.map byteA c.data).length : Int) = (c.data.length : Int),
 decide ((c.data.length : Int) ≤ (400 : Int)) = true,
 ((List.map encB c.backs).length : Int) = (c.backs.length : Int),
 decide ((c.backs.length : Int) ≤ (30 : Int)) = false]) (by kernel_rfl) ⟨rfl, rfl⟩ ⟨?z4, ?z5, ?z6, ?z7, trivial⟩
      case z4|z5|z6|z7 => first | exact rfl | (simp [h1, h2] <;> omega) | omega | (omega)
  · refine ⟨false, ?_⟩
    refine acallsK mixed Tryz.func24 rfl [0, 1, 2] 1000 ([.n c.data.length, .f]) [] [] (ob := [((List.map byteA c.data).length : Int) = (c.data.length : Int),
 decide ((c.data.length : Int) ≤ (400 : Int)) = false]) (by kernel_rfl) ⟨rfl, rfl⟩ ⟨?z8, ?z9, trivial⟩
    case z8|z9 => first | exact rfl | (simp [h1] <;> omega) | omega | (omega)
theorem chains_loop (l : List (List Int)) : ∀ (n k : Nat), l.length = k + n → k ≤ 10 →
    ALoop Tryz.prog 0 Tryz.f65.ntmps (loopB Tryz.f65 0) ⟨[(3, .int .i64 k), (0, .lst 1 (l.map encU))], []⟩ (.exit 0) ⟨[], []⟩ ∨
    ALoop Tryz.prog 0 Tryz.f65.ntmps (loopB Tryz.f65 0) ⟨[(3, .int .i64 k), (0, .lst 1 (l.map encU))], []⟩ .ret ⟨[(2, .bool false)], []⟩
  | 0, k, h, hk => by
    refine .inl ?_
    refine aloopK mixed [0, 2, 3, 7, 19] 1000 ([.go, .n l.length, .f]) [] [] (S1 := { env := [], objs := [] }) (ob := [((List.map encU l).length : Int) = (l.length : Int),
 decide ((↑k : Int) < (l.length : Int)) = false]) (by kernel_rfl) (by first | exact rfl | exact ⟨rfl, rfl⟩ | (simp []; done)) ⟨?z0, ?z1, trivial⟩
    case z0|z1 => first | exact rfl | (simp [] <;> omega) | omega
  | n + 1, k, h, hk => by
    obtain ⟨x, hx⟩ := get_of (l := l) (k := k) (by omega)
    by_cases h10 : k = 10
    · refine .inr ?_
      refine aloopK mixed [0, 2, 3, 7, 19] 1000 ([.go, .n l.length, .t, .t]) [2] [] (S1 := { env := [(2, .bool false)], objs := [] }) (ob := [((List.map encU l).length : Int) = (l.length : Int),
 decide ((↑k : Int) < (l.length : Int)) = true,
 ((↑k : Int) == (10 : Int)) = true]) (by kernel_rfl) (by first | exact rfl | exact ⟨rfl, rfl⟩ | (simp [h10]; done)) ⟨?z2, ?z3, ?z4, trivial⟩
      case z2|z3|z4 => first | exact rfl | (simp [h10] <;> omega) | omega
    · by_cases hu : x.length ≤ 10
      · rcases chains_loop l n (k + 1) (by omega) (by omega) with ih | ih
        · refine .inl ?_
          refine aloopK mixed [0, 2, 3, 7, 19] 1000 ([.go, .n l.length, .t, .f, .ix k, .el (encU x), .n x.length, .f, .n ((k + 1 : Nat) : Int), .lp [3, 0] [] (.exit 0) ⟨[], []⟩]) [] [] (S1 := { env := [], objs := [] }) (ob := [((List.map encU l).length : Int) = (l.length : Int),
 decide ((↑k : Int) < (l.length : Int)) = true,
 ((↑k : Int) == (10 : Int)) = false,
 k < List.length (List.map encU l),
 (↑k : Int) = (↑k : Int),
 (List.map encU l)[k]? = some (.lst (nat_lit 1) (List.map intA x)),
 ((List.map intA x).length : Int) = (x.length : Int),
 decide ((x.length : Int) > (10 : Int)) = false,
 IntKind.i64.wrap ((↑k : Int) + (1 : Int)) = (↑(k + (1 : Nat)) : Int),
 ALoop Tryz.prog 0 20 (loopB Tryz.f65 0) { env := [(3, .int .i64 (↑(k + 1) : Int)), (0, .lst 1 (List.map encU l))], objs := [] } (Ex.exit 0) { env := [], objs := [] }]) (by kernel_rfl) (by first | exact rfl | exact ⟨rfl, rfl⟩ | (simp [hx, h10, encU]; done) | (first | omega | exact wrap64 (by omega))) ⟨?z5, ?z6, ?z7, ?z8, ?z9, ?z10, ?z11, ?z12, ?z13, ?q82_1, trivial⟩
          case z5|z6|z7|z8|z9|z10|z11|z12|z13 => first | exact rfl | (simp [hx, h10, encU] <;> omega) | omega | (first | omega | exact wrap64 (by omega))
          exact ih
        · refine .inr ?_
          refine aloopK mixed [0, 2, 3, 7, 19] 1000 ([.go, .n l.length, .t, .f, .ix k, .el (encU x), .n x.length, .f, .n ((k + 1 : Nat) : Int), .lp [3, 0] [] .ret ⟨[(2, .bool false)], []⟩]) [2] [] (S1 := { env := [(2, .bool false)], objs := [] }) (ob := [((List.map encU l).length : Int) = (l.length : Int),
 decide ((↑k : Int) < (l.length : Int)) = true,
 ((↑k : Int) == (10 : Int)) = false,
 k < List.length (List.map encU l),
 (↑k : Int) = (↑k : Int),
 (List.map encU l)[k]? = some (.lst (nat_lit 1) (List.map intA x)),
 ((List.map intA x).length : Int) = (x.length : Int),
 decide ((x.length : Int) > (10 : Int)) = false,
 IntKind.i64.wrap ((↑k : Int) + (1 : Int)) = (↑(k + (1 : Nat)) : Int),
 ALoop Tryz.prog 0 20 (loopB Tryz.f65 0) { env := [(3, .int .i64 (↑(k + 1) : Int)), (0, .lst 1 (List.map encU l))], objs := [] } Ex.ret { env := [(2, .bool false)], objs := [] }]) (by kernel_rfl) (by first | exact rfl | exact ⟨rfl, rfl⟩ | (simp [hx, h10, encU]; done) | (first | omega | exact wrap64 (by omega))) ⟨?z14, ?z15, ?z16, ?z17, ?z18, ?z19, ?z20, ?z21, ?z22, ?q85_1, trivial⟩
          case z14|z15|z16|z17|z18|z19|z20|z21|z22 => first | exact rfl | (simp [hx, h10, encU] <;> omega) | omega | (first | omega | exact wrap64 (by omega))
          exact ih
      · refine .inr ?_
        refine aloopK mixed [0, 2, 3, 7, 19] 1000 ([.go, .n l.length, .t, .f, .ix k, .el (encU x), .n x.length, .t]) [2] [] (S1 := { env := [(2, .bool false)], objs := [] }) (ob := [((List.map encU l).length : Int) = (l.length : Int),
 decide ((↑k : Int) < (l.length : Int)) = true,
 ((↑k : Int) == (10 : Int)) = false,
 k < List.length (List.map encU l),
 (↑k : Int) = (↑k : Int),
 (List.map encU l)[k]? = some (.lst (nat_lit 1) (List.map intA x)),
 ((List.map intA x).length : Int) = (x.length : Int),
 decide ((x.length : Int) > (10 : Int)) = true]) (by kernel_rfl) (by first | exact rfl | exact ⟨rfl, rfl⟩ | (simp [hx, h10, encU]; done) | (omega)) ⟨?z23, ?z24, ?z25, ?z26, ?z27, ?z28, ?z29, ?z30, trivial⟩
        case z23|z24|z25|z26|z27|z28|z29|z30 => first | exact rfl | (simp [hx, h10, encU] <;> omega) | omega | (omega)
theorem chains_ac (l : List (List Int)) : ∃ b, ACalls Tryz.prog 65 [.lst 1 (l.map encU)] [] (.bool b) [] := by
  rcases chains_loop l l.length 0 (by omega) (by omega) with h | h
  · refine ⟨true, ?_⟩
    refine acallsK mixed Tryz.func65 rfl [0, 2, 3, 7, 19] 1000 ([.lp [3, 0] [] (.exit 0) ⟨[], []⟩]) [] [] (ob := [_]) (by kernel_rfl) ⟨rfl, rfl⟩ ⟨h, trivial⟩
  · refine ⟨false, ?_⟩
    refine acallsK mixed Tryz.func65 rfl [0, 2, 3, 7, 19] 1000 ([.lp [3, 0] [] .ret ⟨[(2, .bool false)], []⟩]) [] [] (ob := [_]) (by kernel_rfl) ⟨rfl, rfl⟩ ⟨h, trivial⟩
theorem fits09_loop (y : LayD) : ∀ (n k : Nat), y.segs.length = k + n → k ≤ 10 →
    ALoop Tryz.prog 0 Tryz.f28.ntmps (loopB Tryz.f28 0) ⟨[(3, .int .i64 k), (1, .ptr 0 0)], [.vars 25 (celL y)]⟩ (.exit 0) ⟨[], []⟩ ∨
    ALoop Tryz.prog 0 Tryz.f28.ntmps (loopB Tryz.f28 0) ⟨[(3, .int .i64 k), (1, .ptr 0 0)], [.vars 25 (celL y)]⟩ .ret ⟨[(2, .bool false)], []⟩
  | 0, k, h, hk => by
    refine .inl ?_
    refine aloopK mixed [0, 1, 2, 3, 4, 9, 24] 1000 ([.go, .n y.segs.length, .f]) [] [] (S1 := { env := [], objs := [] }) (ob := [((List.map encS y.segs).length : Int) = (y.segs.length : Int),
 decide ((↑k : Int) < (y.segs.length : Int)) = false]) (by kernel_rfl) (by first | exact rfl | exact ⟨rfl, rfl⟩ | (simp []; done)) ⟨?z0, ?z1, trivial⟩
    case z0|z1 => first | exact rfl | (simp [] <;> omega) | omega
  | n + 1, k, h, hk => by
    obtain ⟨x, hx⟩ := get_of (l := y.segs) (k := k) (by omega)
    obtain ⟨b, hb⟩ := chains_ac x.chains
    cases b with
    | false =>
      refine .inr ?_
      refine aloopK mixed [0, 1, 2, 3, 4, 9, 24] 1000 ([.go, .n y.segs.length, .t, .ix k, .el (encS x), .call [] false true (.bool false) []]) [2] [] (S1 := { env := [(2, .bool false)], objs := [] }) (ob := [((List.map encS y.segs).length : Int) = (y.segs.length : Int),
 decide ((↑k : Int) < (y.segs.length : Int)) = true,
 k < List.length (List.map encS y.segs),
 (↑k : Int) = (↑k : Int),
 (List.map encS y.segs)[k]? = some (.agg [.int .u64 x.at_, .lst (nat_lit 1) (List.map encU x.chains)]),
 ACalls Tryz.prog 65 [.lst 1 (List.map encU x.chains)] [] (.bool false) []]) (by kernel_rfl) (by first | exact rfl | exact ⟨rfl, rfl⟩ | (simp [hx, encS]; done)) ⟨?z2, ?z3, ?z4, ?z5, ?z6, ?q109_1, trivial⟩
      case z2|z3|z4|z5|z6 => first | exact rfl | (simp [hx, encS] <;> omega) | omega
      exact hb
    | true =>
      by_cases h10 : k = 10
      · subst h10
        refine .inr ?_
        refine aloopK mixed [0, 1, 2, 3, 4, 9, 24] 1000 ([.go, .n y.segs.length, .t, .ix 10, .el (encS x), .call [] false true (.bool true) [], .t]) [2] [] (S1 := { env := [(2, .bool false)], objs := [] }) (ob := [((List.map encS y.segs).length : Int) = (y.segs.length : Int),
 decide ((↑(10 : Nat) : Int) < (y.segs.length : Int)) = true,
 nat_lit 10 < List.length (List.map encS y.segs),
 (↑(10 : Nat) : Int) = (↑(nat_lit 10) : Int),
 (List.map encS y.segs)[nat_lit 10]? = some (.agg [.int .u64 x.at_, .lst (nat_lit 1) (List.map encU x.chains)]),
 ACalls Tryz.prog 65 [.lst 1 (List.map encU x.chains)] [] (.bool true) [],
 ((↑(10 : Nat) : Int) == (10 : Int)) = true]) (by kernel_rfl) (by first | exact rfl | exact ⟨rfl, rfl⟩ | (simp [hx, encS]; done)) ⟨?z7, ?z8, ?z9, ?z10, ?z11, ?q115_1, ?z12, trivial⟩
        case z7|z8|z9|z10|z11|z12 => first | exact rfl | (simp [hx, encS] <;> omega) | omega
        exact hb
      · rcases fits09_loop y n (k + 1) (by omega) (by omega) with ih | ih
        · refine .inl ?_
          refine aloopK mixed [0, 1, 2, 3, 4, 9, 24] 1000 ([.go, .n y.segs.length, .t, .ix k, .el (encS x), .call [] false true (.bool true) [], .f, .n ((k + 1 : Nat) : Int), .lp [3, 1] [0] (.exit 0) ⟨[], []⟩]) [] [] (S1 := { env := [], objs := [] }) (ob := [((List.map encS y.segs).length : Int) = (y.segs.length : Int),
 decide ((↑k : Int) < (y.segs.length : Int)) = true,
 k < List.length (List.map encS y.segs),
 (↑k : Int) = (↑k : Int),
 (List.map encS y.segs)[k]? = some (.agg [.int .u64 x.at_, .lst (nat_lit 1) (List.map encU x.chains)]),
 ACalls Tryz.prog 65 [.lst 1 (List.map encU x.chains)] [] (.bool true) [],
 ((↑k : Int) == (10 : Int)) = false,
 IntKind.i64.wrap ((↑k : Int) + (1 : Int)) = (↑(k + (1 : Nat)) : Int),
 ALoop Tryz.prog 0 25 (loopB Tryz.f28 0) { env := [(3, .int .i64 (↑(k + 1) : Int)), (1, .ptr 0 0)], objs := [.vars 25 [.int .u64 y.epoch, .lst 2 (List.map encS y.segs), .int .i64 y.seq]] } (Ex.exit 0) { env := [], objs := [] }]) (by kernel_rfl) (by first | exact rfl | exact ⟨rfl, rfl⟩ | (simp [hx, encS, h10]; done) | (first | omega | exact wrap64 (by omega))) ⟨?z13, ?z14, ?z15, ?z16, ?z17, ?q119_1, ?z18, ?z19, ?q119_2, trivial⟩
          case z13|z14|z15|z16|z17|z18|z19 => first | exact rfl | (simp [hx, encS, h10] <;> omega) | omega | (first | omega | exact wrap64 (by omega))
          · exact hb
          · exact ih
        · refine .inr ?_
          refine aloopK mixed [0, 1, 2, 3, 4, 9, 24] 1000 ([.go, .n y.segs.length, .t, .ix k, .el (encS x), .call [] false true (.bool true) [], .f, .n ((k + 1 : Nat) : Int), .lp [3, 1] [0] .ret ⟨[(2, .bool false)], []⟩]) [2] [] (S1 := { env := [(2, .bool false)], objs := [] }) (ob := [((List.map encS y.segs).length : Int) = (y.segs.length : Int),
 decide ((↑k : Int) < (y.segs.length : Int)) = true,
 k < List.length (List.map encS y.segs),
 (↑k : Int) = (↑k : Int),
 (List.map encS y.segs)[k]? = some (.agg [.int .u64 x.at_, .lst (nat_lit 1) (List.map encU x.chains)]),
 ACalls Tryz.prog 65 [.lst 1 (List.map encU x.chains)] [] (.bool true) [],
 ((↑k : Int) == (10 : Int)) = false,
 IntKind.i64.wrap ((↑k : Int) + (1 : Int)) = (↑(k + (1 : Nat)) : Int),
 ALoop Tryz.prog 0 25 (loopB Tryz.f28 0) { env := [(3, .int .i64 (↑(k + 1) : Int)), (1, .ptr 0 0)], objs := [.vars 25 [.int .u64 y.epoch, .lst 2 (List.map encS y.segs), .int .i64 y.seq]] } Ex.ret { env := [(2, .bool false)], objs := [] }]) (by kernel_rfl) (by first | exact rfl | exact ⟨rfl, rfl⟩ | (simp [hx, encS, h10]; done) | (first | omega | exact wrap64 (by omega))) ⟨?z20, ?z21, ?z22, ?z23, ?z24, ?q123_1, ?z25, ?z26, ?q123_2, trivial⟩
          case z20|z21|z22|z23|z24|z25|z26 => first | exact rfl | (simp [hx, encS, h10] <;> omega) | omega | (first | omega | exact wrap64 (by omega))
          · exact hb
          · exact ih
theorem fits09_ac (y : LayD) : ∃ b, ACalls Tryz.prog 28 [encL y] [] (.bool b) [] := by
  rcases fits09_loop y y.segs.length 0 (by omega) (by omega) with h | h
  · refine ⟨true, ?_⟩
    refine acallsK mixed Tryz.func28 rfl [0, 1, 2, 3, 4, 9, 24] 1000 ([.lp [3, 1] [0] (.exit 0) ⟨[], []⟩]) [] [] (ob := [_]) (by kernel_rfl) ⟨rfl, rfl⟩ ⟨h, trivial⟩
  · refine ⟨false, ?_⟩
    refine acallsK mixed Tryz.func28 rfl [0, 1, 2, 3, 4, 9, 24] 1000 ([.lp [3, 1] [0] .ret ⟨[(2, .bool false)], []⟩]) [] [] (ob := [_]) (by kernel_rfl) ⟨rfl, rfl⟩ ⟨h, trivial⟩
end Go.Proofs.YtidgcfgkcidkiaaGreat.Ch
namespace Go.Proofs.YtidgcfgkcidkiaaGreat.Ch
open Go Go.RowKit Go.Proofs.YtidgcfgkcidkiaaGreat.L Go.Proofs.YtidgcfgkcidkiaaGreat.X
set_option linter.unusedVariables false
set_option linter.unusedSimpArgs false
def lastB (a b : Int) : Bool := (decide (a = 18446744073709551615) || decide (a < 1048576)) && (decide (b = 18446744073709551615) || (decide (b < 1048576) && !decide (a = 18446744073709551615) && decide (b < a)))
theorem lasting_ac (a b : Int) : ACalls Tryz.prog 82 [.agg [.int .u64 a, .int .u64 b]] [] (.bool (lastB a b)) [] := by
  by_cases h1 : a = 18446744073709551615
  · by_cases h2 : b = 18446744073709551615
    · rw [show lastB a b = true by simp [lastB, h1, h2]]
      refine acallsK mixed Tryz.func82 rfl [0, 1, 2, 3, 4, 5, 6, 7, 10, 17] 1000 ([.go, .t, .ix 0, .f, .f, .n 1, .go, .t, .ix 1, .f, .t, .f, .n 2, .go, .f]) [] [] (ob := [decide ((0 : Int) < (2 : Int)) = true,
 nat_lit 0 < (2 : Nat),
 (0 : Int) = (↑(nat_lit 0) : Int),
 (a != (18446744073709551615 : Int)) = false,
 decide ((0 : Int) > (0 : Int)) = false,
 IntKind.i64.wrap ((0 : Int) + (1 : Int)) = (1 : Int),
 decide ((1 : Int) < (2 : Int)) = true,
 nat_lit 1 < (2 : Nat),
 (1 : Int) = (↑(nat_lit 1) : Int),
 (b != (18446744073709551615 : Int)) = false,
 decide ((1 : Int) > (0 : Int)) = true,
 (b != (18446744073709551615 : Int)) = false,
 IntKind.i64.wrap ((1 : Int) + (1 : Int)) = (2 : Int),
 decide ((2 : Int) < (2 : Int)) = false]) (by kernel_rfl) ⟨rfl, rfl⟩ ⟨?z0, ?z1, ?z2, ?z3, ?z4, ?z5, ?z6, ?z7, ?z8, ?z9, ?z10, ?z11, ?z12, ?z13, trivial⟩
      case z0|z1|z2|z3|z4|z5|z6|z7|z8|z9|z10|z11|z12|z13 => first | exact rfl | (simp [h1, h2] <;> omega) | omega | (omega)
    · by_cases h3 : b < 1048576
      · rw [show lastB a b = false by simp [lastB, h1, h2, h3]]
        refine acallsK mixed Tryz.func82 rfl [0, 1, 2, 3, 4, 5, 6, 7, 10, 17] 1000 ([.go, .t, .ix 0, .f, .f, .n 1, .go, .t, .ix 1, .t, .f, .t, .t, .n 0, .ix 0, .t]) [] [] (ob := [decide ((0 : Int) < (2 : Int)) = true,
 nat_lit 0 < (2 : Nat),
 (0 : Int) = (↑(nat_lit 0) : Int),
 (a != (18446744073709551615 : Int)) = false,
 decide ((0 : Int) > (0 : Int)) = false,
 IntKind.i64.wrap ((0 : Int) + (1 : Int)) = (1 : Int),
 decide ((1 : Int) < (2 : Int)) = true,
 nat_lit 1 < (2 : Nat),
 (1 : Int) = (↑(nat_lit 1) : Int),
 (b != (18446744073709551615 : Int)) = true,
 decide (b ≥ (1048576 : Int)) = false,
 decide ((1 : Int) > (0 : Int)) = true,
 (b != (18446744073709551615 : Int)) = true,
 IntKind.i64.wrap ((1 : Int) - (1 : Int)) = (0 : Int),
 nat_lit 0 < (2 : Nat),
 (0 : Int) = (↑(nat_lit 0) : Int),
 (a == (18446744073709551615 : Int)) = true]) (by kernel_rfl) ⟨rfl, rfl⟩ ⟨?z14, ?z15, ?z16, ?z17, ?z18, ?z19, ?z20, ?z21, ?z22, ?z23, ?z24, ?z25, ?z26, ?z27, ?z28, ?z29, ?z30, trivial⟩
        case z14|z15|z16|z17|z18|z19|z20|z21|z22|z23|z24|z25|z26|z27|z28|z29|z30 => first | exact rfl | (simp [h1, h2, h3] <;> omega) | omega | (omega)
      · rw [show lastB a b = false by simp [lastB, h1, h2, h3]]
        refine acallsK mixed Tryz.func82 rfl [0, 1, 2, 3, 4, 5, 6, 7, 10, 17] 1000 ([.go, .t, .ix 0, .f, .f, .n 1, .go, .t, .ix 1, .t, .t]) [] [] (ob := [decide ((0 : Int) < (2 : Int)) = true,
 nat_lit 0 < (2 : Nat),
 (0 : Int) = (↑(nat_lit 0) : Int),
 (a != (18446744073709551615 : Int)) = false,
 decide ((0 : Int) > (0 : Int)) = false,
 IntKind.i64.wrap ((0 : Int) + (1 : Int)) = (1 : Int),
 decide ((1 : Int) < (2 : Int)) = true,
 nat_lit 1 < (2 : Nat),
 (1 : Int) = (↑(nat_lit 1) : Int),
 (b != (18446744073709551615 : Int)) = true,
 decide (b ≥ (1048576 : Int)) = true]) (by kernel_rfl) ⟨rfl, rfl⟩ ⟨?z31, ?z32, ?z33, ?z34, ?z35, ?z36, ?z37, ?z38, ?z39, ?z40, ?z41, trivial⟩
        case z31|z32|z33|z34|z35|z36|z37|z38|z39|z40|z41 => first | exact rfl | (simp [h1, h2, h3] <;> omega) | omega | (omega)
  · by_cases h4 : a < 1048576
    · by_cases h2 : b = 18446744073709551615
      · rw [show lastB a b = true by simp [lastB, h1, h2, h4]]
        refine acallsK mixed Tryz.func82 rfl [0, 1, 2, 3, 4, 5, 6, 7, 10, 17] 1000 ([.go, .t, .ix 0, .t, .f, .f, .n 1, .go, .t, .ix 1, .f, .t, .f, .n 2, .go, .f]) [] [] (ob := [decide ((0 : Int) < (2 : Int)) = true,
 nat_lit 0 < (2 : Nat),
 (0 : Int) = (↑(nat_lit 0) : Int),
 (a != (18446744073709551615 : Int)) = true,
 decide (a ≥ (1048576 : Int)) = false,
 decide ((0 : Int) > (0 : Int)) = false,
 IntKind.i64.wrap ((0 : Int) + (1 : Int)) = (1 : Int),
 decide ((1 : Int) < (2 : Int)) = true,
 nat_lit 1 < (2 : Nat),
 (1 : Int) = (↑(nat_lit 1) : Int),
 (b != (18446744073709551615 : Int)) = false,
 decide ((1 : Int) > (0 : Int)) = true,
 (b != (18446744073709551615 : Int)) = false,
 IntKind.i64.wrap ((1 : Int) + (1 : Int)) = (2 : Int),
 decide ((2 : Int) < (2 : Int)) = false]) (by kernel_rfl) ⟨rfl, rfl⟩ ⟨?z42, ?z43, ?z44, ?z45, ?z46, ?z47, ?z48, ?z49, ?z50, ?z51, ?z52, ?z53, ?z54, ?z55, ?z56, trivial⟩
        case z42|z43|z44|z45|z46|z47|z48|z49|z50|z51|z52|z53|z54|z55|z56 => first | exact rfl | (simp [h1, h2, h4] <;> omega) | omega | (omega)
      · by_cases h3 : b < 1048576
        · by_cases h5 : b < a
          · rw [show lastB a b = true by simp [lastB, h1, h2, h3, h4, h5]]
            refine acallsK mixed Tryz.func82 rfl [0, 1, 2, 3, 4, 5, 6, 7, 10, 17] 1000 ([.go, .t, .ix 0, .t, .f, .f, .n 1, .go, .t, .ix 1, .t, .f, .t, .t, .n 0, .ix 0, .f, .n 0, .ix 0, .f, .n 2, .go, .f]) [] [] (ob := [decide ((0 : Int) < (2 : Int)) = true,
 nat_lit 0 < (2 : Nat),
 (0 : Int) = (↑(nat_lit 0) : Int),
 (a != (18446744073709551615 : Int)) = true,
 decide (a ≥ (1048576 : Int)) = false,
 decide ((0 : Int) > (0 : Int)) = false,
 IntKind.i64.wrap ((0 : Int) + (1 : Int)) = (1 : Int),
 decide ((1 : Int) < (2 : Int)) = true,
 nat_lit 1 < (2 : Nat),
 (1 : Int) = (↑(nat_lit 1) : Int),
 (b != (18446744073709551615 : Int)) = true,
 decide (b ≥ (1048576 : Int)) = false,
 decide ((1 : Int) > (0 : Int)) = true,
 (b != (18446744073709551615 : Int)) = true,
 IntKind.i64.wrap ((1 : Int) - (1 : Int)) = (0 : Int),
 nat_lit 0 < (2 : Nat),
 (0 : Int) = (↑(nat_lit 0) : Int),
 (a == (18446744073709551615 : Int)) = false,
 IntKind.i64.wrap ((1 : Int) - (1 : Int)) = (0 : Int),
 nat_lit 0 < (2 : Nat),
 (0 : Int) = (↑(nat_lit 0) : Int),
 decide (b ≥ a) = false,
 IntKind.i64.wrap ((1 : Int) + (1 : Int)) = (2 : Int),
 decide ((2 : Int) < (2 : Int)) = false]) (by kernel_rfl) ⟨rfl, rfl⟩ ⟨?z57, ?z58, ?z59, ?z60, ?z61, ?z62, ?z63, ?z64, ?z65, ?z66, ?z67, ?z68, ?z69, ?z70, ?z71, ?z72, ?z73, ?z74, ?z75, ?z76, ?z77, ?z78, ?z79, ?z80, trivial⟩
            case z57|z58|z59|z60|z61|z62|z63|z64|z65|z66|z67|z68|z69|z70|z71|z72|z73|z74|z75|z76|z77|z78|z79|z80 => first | exact rfl | (simp [h1, h2, h3, h4, h5] <;> omega) | omega | (omega)
          · rw [show lastB a b = false by simp [lastB, h1, h2, h3, h4, h5]]
            refine acallsK mixed Tryz.func82 rfl [0, 1, 2, 3, 4, 5, 6, 7, 10, 17] 1000 ([.go, .t, .ix 0, .t, .f, .f, .n 1, .go, .t, .ix 1, .t, .f, .t, .t, .n 0, .ix 0, .f, .n 0, .ix 0, .t]) [] [] (ob := [decide ((0 : Int) < (2 : Int)) = true,
 nat_lit 0 < (2 : Nat),
 (0 : Int) = (↑(nat_lit 0) : Int),
 (a != (18446744073709551615 : Int)) = true,
 decide (a ≥ (1048576 : Int)) = false,
 decide ((0 : Int) > (0 : Int)) = false,
 IntKind.i64.wrap ((0 : Int) + (1 : Int)) = (1 : Int),
 decide ((1 : Int) < (2 : Int)) = true,
 nat_lit 1 < (2 : Nat),
 (1 : Int) = (↑(nat_lit 1) : Int),
 (b != (18446744073709551615 : Int)) = true,
 decide (b ≥ (1048576 : Int)) = false,
 decide ((1 : Int) > (0 : Int)) = true,
 (b != (18446744073709551615 : Int)) = true,
 IntKind.i64.wrap ((1 : Int) - (1 : Int)) = (0 : Int),
 nat_lit 0 < (2 : Nat),
 (0 : Int) = (↑(nat_lit 0) : Int),
 (a == (18446744073709551615 : Int)) = false,
 IntKind.i64.wrap ((1 : Int) - (1 : Int)) = (0 : Int),
 nat_lit 0 < (2 : Nat),
 (0 : Int) = (↑(nat_lit 0) : Int),
 decide (b ≥ a) = true]) (by kernel_rfl) ⟨rfl, rfl⟩ ⟨?z81, ?z82, ?z83, ?z84, ?z85, ?z86, ?z87, ?z88, ?z89, ?z90, ?z91, ?z92, ?z93, ?z94, ?z95, ?z96, ?z97, ?z98, ?z99, ?z100, ?z101, ?z102, trivial⟩
            case z81|z82|z83|z84|z85|z86|z87|z88|z89|z90|z91|z92|z93|z94|z95|z96|z97|z98|z99|z100|z101|z102 => first | exact rfl | (simp [h1, h2, h3, h4, h5] <;> omega) | omega | (omega)
        · rw [show lastB a b = false by simp [lastB, h1, h2, h3, h4]]
          refine acallsK mixed Tryz.func82 rfl [0, 1, 2, 3, 4, 5, 6, 7, 10, 17] 1000 ([.go, .t, .ix 0, .t, .f, .f, .n 1, .go, .t, .ix 1, .t, .t]) [] [] (ob := [decide ((0 : Int) < (2 : Int)) = true,
 nat_lit 0 < (2 : Nat),
 (0 : Int) = (↑(nat_lit 0) : Int),
 (a != (18446744073709551615 : Int)) = true,
 decide (a ≥ (1048576 : Int)) = false,
 decide ((0 : Int) > (0 : Int)) = false,
 IntKind.i64.wrap ((0 : Int) + (1 : Int)) = (1 : Int),
 decide ((1 : Int) < (2 : Int)) = true,
 nat_lit 1 < (2 : Nat),
 (1 : Int) = (↑(nat_lit 1) : Int),
 (b != (18446744073709551615 : Int)) = true,
 decide (b ≥ (1048576 : Int)) = true]) (by kernel_rfl) ⟨rfl, rfl⟩ ⟨?z103, ?z104, ?z105, ?z106, ?z107, ?z108, ?z109, ?z110, ?z111, ?z112, ?z113, ?z114, trivial⟩
          case z103|z104|z105|z106|z107|z108|z109|z110|z111|z112|z113|z114 => first | exact rfl | (simp [h1, h2, h3, h4] <;> omega) | omega | (omega)
    · rw [show lastB a b = false by simp [lastB, h1, h4]]
      refine acallsK mixed Tryz.func82 rfl [0, 1, 2, 3, 4, 5, 6, 7, 10, 17] 1000 ([.go, .t, .ix 0, .t, .t]) [] [] (ob := [decide ((0 : Int) < (2 : Int)) = true,
 nat_lit 0 < (2 : Nat),
 (0 : Int) = (↑(nat_lit 0) : Int),
 (a != (18446744073709551615 : Int)) = true,
 decide (a ≥ (1048576 : Int)) = true]) (by kernel_rfl) ⟨rfl, rfl⟩ ⟨?z115, ?z116, ?z117, ?z118, ?z119, trivial⟩
      case z115|z116|z117|z118|z119 => first | exact rfl | (simp [h1, h4] <;> omega) | omega | (omega)

/-- A Back that is wrong behind another. -/
def badB (last : Int) (x : BackD) : Bool := decide (x.s ≤ last) || decide (16 ≤ x.s) || !lastB x.a x.b
theorem right1_ac (last : Int) (x : BackD) : ACalls Tryz.prog 81 [encB x, .ptr 0 0] [.vars 3 [.int .i64 last]] (.bool (badB last x)) [.vars 3 [.int .i64 x.s]] := by
  have hl := lasting_ac x.a x.b
  by_cases h1 : x.s ≤ last
  · rw [show badB last x = true by simp [badB, h1]]
    refine acallsK mixed Tryz.func81 rfl [0, 1, 2, 3, 4] 1000 ([.t]) [] [0] (v1 := .bool true) (objs1 := [.vars 3 [.int .i64 x.s]]) (ob := [decide (x.s ≤ last) = true]) (by kernel_rfl) (by first | exact rfl | exact ⟨rfl, rfl⟩ | (simp [h1]; done)) ⟨(by first | exact rfl | (simp [h1]; done) | (simp [h1]; omega) | omega), trivial⟩
  · by_cases h2 : 16 ≤ x.s
    · rw [show badB last x = true by simp [badB, h2]]
      refine acallsK mixed Tryz.func81 rfl [0, 1, 2, 3, 4] 1000 ([.f, .t]) [] [0] (v1 := .bool true) (objs1 := [.vars 3 [.int .i64 x.s]]) (ob := [decide (x.s ≤ last) = false,
 decide (x.s ≥ (16 : Int)) = true]) (by kernel_rfl) (by first | exact rfl | exact ⟨rfl, rfl⟩ | (simp [h1, h2]; done) | (omega)) ⟨?z0, ?z1, trivial⟩
      case z0|z1 => first | exact rfl | (simp [h1, h2] <;> omega) | omega | (omega)
    · rw [show badB last x = !lastB x.a x.b by simp [badB, h1, h2]]
      refine acallsK mixed Tryz.func81 rfl [0, 1, 2, 3, 4] 1000 ([.f, .f, .call [] false true (.bool (lastB x.a x.b)) []]) [] [0] (v1 := .bool !lastB x.a x.b) (objs1 := [.vars 3 [.int .i64 x.s]]) (ob := [decide (x.s ≤ last) = false,
 decide (x.s ≥ (16 : Int)) = false,
 ACalls Tryz.prog 82 [.agg [.int .u64 x.a, .int .u64 x.b]] [] (.bool (lastB x.a x.b)) []]) (by kernel_rfl) (by first | exact rfl | exact ⟨rfl, rfl⟩ | (simp [h1, h2]; done) | (omega)) ⟨?z2, ?z3, ?q44_1, trivial⟩
      case z2|z3 => first | exact rfl | (simp [h1, h2] <;> omega) | omega | (omega)
      exact hl
/-- Is one wrong? -/
def scanB : Int → List BackD → Bool
  | v, [] => false
  | v, x :: l => badB v x || scanB x.s l
theorem drop_of {α : Type} {l : List α} {k : Nat} {x : α} (h : l[k]? = some x) : l.drop k = x :: l.drop (k + 1) := by
  obtain ⟨hk, rfl⟩ := List.getElem?_eq_some_iff.1 h
  exact List.drop_eq_getElem_cons hk
def right1V (b : Nat) : AV := .fn 81 [.ptr b 0]
theorem index_loop (l : List BackD) (hb : l.length ≤ 1000000000000) : ∀ (n k : Nat) (v : Int), l.length = k + n → ∃ w,
    (scanB v (l.drop k) = false ∧ ALoop Tryz.prog 1 Tryz.f118.ntmps (loopB Tryz.f118 0) ⟨[(8, .int .i64 k), (7, .int .i64 l.length), (0, .lst 3 (l.map encB)), (1, right1V 0)], [.vars 3 [.int .i64 v]]⟩ (.exit 0) ⟨[], [.vars 3 [.int .i64 w]]⟩) ∨
    (scanB v (l.drop k) = true ∧ ∃ i : Nat, ALoop Tryz.prog 1 Tryz.f118.ntmps (loopB Tryz.f118 0) ⟨[(8, .int .i64 k), (7, .int .i64 l.length), (0, .lst 3 (l.map encB)), (1, right1V 0)], [.vars 3 [.int .i64 v]]⟩ .ret ⟨[(4, .int .i64 i)], [.vars 3 [.int .i64 w]]⟩)
  | 0, k, v, h => by
    refine ⟨v, .inl ⟨by rw [List.drop_of_length_le (by omega)]; rfl, ?_⟩⟩
    refine aloopK mixed [0, 1, 4, 5, 7, 8, 9, 16] 1000 ([.go, .f]) [] [0] (S1 := { env := [], objs := [.vars 3 [.int .i64 v]] }) (ob := [decide ((↑k : Int) < (l.length : Int)) = false]) (by kernel_rfl) (by first | exact rfl | exact ⟨rfl, rfl⟩ | (simp []; done)) ⟨(by first | exact rfl | (simp []; done) | (simp []; omega) | omega), trivial⟩
  | n + 1, k, v, h => by
    obtain ⟨x, hx⟩ := get_of (l := l) (k := k) (by omega)
    have hc := right1_ac v x
    rw [drop_of hx]
    cases hbad : badB v x with
    | true =>
      rw [hbad] at hc
      refine ⟨x.s, .inr ⟨by simp [scanB, hbad], k, ?_⟩⟩
      refine aloopK mixed [0, 1, 4, 5, 7, 8, 9, 16] 1000 ([.go, .t, .ix k, .el (encB x), .call [0] false false (.bool true) [.vars 3 [.int .i64 x.s]]]) [4] [0] (S1 := { env := [(4, .int .i64 (↑k : Int))], objs := [.vars 3 [.int .i64 x.s]] }) (ob := [decide ((↑k : Int) < (l.length : Int)) = true,
 k < List.length (List.map encB l),
 (↑k : Int) = (↑k : Int),
 (List.map encB l)[k]? = some (.agg [.int .i64 x.s, .int .u64 x.a, .int .u64 x.b]),
 ACalls Tryz.prog 81 [.agg [.int .i64 x.s, .int .u64 x.a, .int .u64 x.b], .ptr 0 0] [.vars 3 [.int .i64 v]] (.bool true) [.vars 3 [.int .i64 x.s]]]) (by kernel_rfl) (by first | exact rfl | exact ⟨rfl, rfl⟩ | (simp [hx, encB]; done)) ⟨?z0, ?z1, ?z2, ?z3, ?q68_1, trivial⟩
      case z0|z1|z2|z3 => first | exact rfl | (simp [hx, encB] <;> omega) | omega
      exact hc
    | false =>
      rw [hbad] at hc
      obtain ⟨w, ⟨ih1, ih⟩ | ⟨ih1, i, ih⟩⟩ := index_loop l hb n (k + 1) x.s (by omega)
      · refine ⟨w, .inl ⟨by simp [scanB, hbad, ih1], ?_⟩⟩
        refine aloopK mixed [0, 1, 4, 5, 7, 8, 9, 16] 1000 ([.go, .t, .ix k, .el (encB x), .call [0] false false (.bool false) [.vars 3 [.int .i64 x.s]], .n ((k + 1 : Nat) : Int), .lp [8, 7, 0, 1] [0] (.exit 0) ⟨[], [.vars 3 [.int .i64 w]]⟩]) [] [0] (S1 := { env := [], objs := [.vars 3 [.int .i64 w]] }) (ob := [decide ((↑k : Int) < (l.length : Int)) = true,
 k < List.length (List.map encB l),
 (↑k : Int) = (↑k : Int),
 (List.map encB l)[k]? = some (.agg [.int .i64 x.s, .int .u64 x.a, .int .u64 x.b]),
 ACalls Tryz.prog 81 [.agg [.int .i64 x.s, .int .u64 x.a, .int .u64 x.b], .ptr 0 0] [.vars 3 [.int .i64 v]] (.bool false) [.vars 3 [.int .i64 x.s]],
 IntKind.i64.wrap ((↑k : Int) + (1 : Int)) = (↑(k + (1 : Nat)) : Int),
 ALoop Tryz.prog 1 19 (loopB Tryz.f118 0) { env := [(8, .int .i64 (↑(k + 1) : Int)), (7, .int .i64 (l.length : Int)), (0, .lst 3 (List.map encB l)), (1, .fn 81 [.ptr 0 0])], objs := [.vars 3 [.int .i64 x.s]] } (Ex.exit 0) { env := [], objs := [.vars 3 [.int .i64 w]] }]) (by kernel_rfl) (by first | exact rfl | exact ⟨rfl, rfl⟩ | (simp [hx, encB]; done) | (first | omega | exact wrap64 (by omega))) ⟨?z4, ?z5, ?z6, ?z7, ?q74_1, ?z8, ?q74_2, trivial⟩
        case z4|z5|z6|z7|z8 => first | exact rfl | (simp [hx, encB] <;> omega) | omega | (first | omega | exact wrap64 (by omega))
        · exact hc
        · exact ih
      · refine ⟨w, .inr ⟨by simp [scanB, hbad, ih1], i, ?_⟩⟩
        refine aloopK mixed [0, 1, 4, 5, 7, 8, 9, 16] 1000 ([.go, .t, .ix k, .el (encB x), .call [0] false false (.bool false) [.vars 3 [.int .i64 x.s]], .n ((k + 1 : Nat) : Int), .lp [8, 7, 0, 1] [0] .ret ⟨[(4, .int .i64 i)], [.vars 3 [.int .i64 w]]⟩]) [4] [0] (S1 := { env := [(4, .int .i64 (↑i : Int))], objs := [.vars 3 [.int .i64 w]] }) (ob := [decide ((↑k : Int) < (l.length : Int)) = true,
 k < List.length (List.map encB l),
 (↑k : Int) = (↑k : Int),
 (List.map encB l)[k]? = some (.agg [.int .i64 x.s, .int .u64 x.a, .int .u64 x.b]),
 ACalls Tryz.prog 81 [.agg [.int .i64 x.s, .int .u64 x.a, .int .u64 x.b], .ptr 0 0] [.vars 3 [.int .i64 v]] (.bool false) [.vars 3 [.int .i64 x.s]],
 IntKind.i64.wrap ((↑k : Int) + (1 : Int)) = (↑(k + (1 : Nat)) : Int),
 ALoop Tryz.prog 1 19 (loopB Tryz.f118 0) { env := [(8, .int .i64 (↑(k + 1) : Int)), (7, .int .i64 (l.length : Int)), (0, .lst 3 (List.map encB l)), (1, .fn 81 [.ptr 0 0])], objs := [.vars 3 [.int .i64 x.s]] } Ex.ret { env := [(4, .int .i64 (↑i : Int))], objs := [.vars 3 [.int .i64 w]] }]) (by kernel_rfl) (by first | exact rfl | exact ⟨rfl, rfl⟩ | (simp [hx, encB]; done) | (first | omega | exact wrap64 (by omega))) ⟨?z9, ?z10, ?z11, ?z12, ?q78_1, ?z13, ?q78_2, trivial⟩
        case z9|z10|z11|z12|z13 => first | exact rfl | (simp [hx, encB] <;> omega) | omega | (first | omega | exact wrap64 (by omega))
        · exact hc
        · exact ih
theorem contains_ac (l : List BackD) (hb : l.length ≤ 1000000000000) (v : Int) : ∃ w, ACalls Tryz.prog 80 [.lst 3 (l.map encB), right1V 0] [.vars 3 [.int .i64 v]] (.bool (scanB v l)) [.vars 3 [.int .i64 w]] := by
  obtain ⟨w, ⟨ih1, ih⟩ | ⟨ih1, i, ih⟩⟩ := index_loop l hb l.length 0 v (by omega)
  · rw [List.drop_zero] at ih1
    have hi : ACalls Tryz.prog 118 [.lst 3 (l.map encB), right1V 0] [.vars 3 [.int .i64 v]] (.int .i64 (-1)) [.vars 3 [.int .i64 w]] := by
      refine acallsK mixed Tryz.func118 rfl [0, 1, 4, 5, 7, 8, 9, 16] 1000 ([.n l.length, .lp [8, 7, 0, 1] [0] (.exit 0) ⟨[], [.vars 3 [.int .i64 w]]⟩]) [0] [0] (v1 := .int .i64 (-1)) (objs1 := [.vars 3 [.int .i64 w]]) (ob := [((List.map encB l).length : Int) = (l.length : Int),
 ALoop Tryz.prog 1 19 (loopB Tryz.f118 0) { env := [(8, .int .i64 0), (7, .int .i64 (l.length : Int)), (0, .lst 3 (List.map encB l)), (1, .fn 81 [.ptr 0 0])], objs := [.vars 3 [.int .i64 v]] } (Ex.exit 0) { env := [], objs := [.vars 3 [.int .i64 w]] }]) (by kernel_rfl) (by first | exact rfl | exact ⟨rfl, rfl⟩ | (simp []; done)) ⟨(by first | exact rfl | (simp []; done) | (simp []; omega) | omega), ?q85_1, trivial⟩
      exact ih
    refine ⟨w, ?_⟩
    rw [ih1]
    refine acallsK mixed Tryz.func80 rfl [0, 1, 4] 1000 ([.call [0] false false (.int .i64 (-1)) [.vars 3 [.int .i64 w]], .f]) [0] [0] (v1 := .bool false) (objs1 := [.vars 3 [.int .i64 w]]) (ob := [ACalls Tryz.prog 118 [.lst 3 (List.map encB l), .fn 81 [.ptr 0 0]] [.vars 3 [.int .i64 v]] (.int .i64 (-1)) [.vars 3 [.int .i64 w]],
 decide ((-1 : Int) ≥ (0 : Int)) = false]) (by kernel_rfl) (by first | exact rfl | exact ⟨rfl, rfl⟩ | (simp []; done)) ⟨?q89_1, (by first | exact rfl | (simp []; done) | (simp []; omega) | omega), trivial⟩
    exact hi
  · rw [List.drop_zero] at ih1
    have hi : ACalls Tryz.prog 118 [.lst 3 (l.map encB), right1V 0] [.vars 3 [.int .i64 v]] (.int .i64 i) [.vars 3 [.int .i64 w]] := by
      refine acallsK mixed Tryz.func118 rfl [0, 1, 4, 5, 7, 8, 9, 16] 1000 ([.n l.length, .lp [8, 7, 0, 1] [0] .ret ⟨[(4, .int .i64 i)], [.vars 3 [.int .i64 w]]⟩]) [0] [0] (v1 := .int .i64 (↑i : Int)) (objs1 := [.vars 3 [.int .i64 w]]) (ob := [((List.map encB l).length : Int) = (l.length : Int),
 ALoop Tryz.prog 1 19 (loopB Tryz.f118 0) { env := [(8, .int .i64 0), (7, .int .i64 (l.length : Int)), (0, .lst 3 (List.map encB l)), (1, .fn 81 [.ptr 0 0])], objs := [.vars 3 [.int .i64 v]] } Ex.ret { env := [(4, .int .i64 (↑i : Int))], objs := [.vars 3 [.int .i64 w]] }]) (by kernel_rfl) (by first | exact rfl | exact ⟨rfl, rfl⟩ | (simp []; done)) ⟨(by first | exact rfl | (simp []; done) | (simp []; omega) | omega), ?q93_1, trivial⟩
      exact ih
    refine ⟨w, ?_⟩
    rw [ih1]
    refine acallsK mixed Tryz.func80 rfl [0, 1, 4] 1000 ([.call [0] false false (.int .i64 i) [.vars 3 [.int .i64 w]], .t]) [0] [0] (v1 := .bool true) (objs1 := [.vars 3 [.int .i64 w]]) (ob := [ACalls Tryz.prog 118 [.lst 3 (List.map encB l), .fn 81 [.ptr 0 0]] [.vars 3 [.int .i64 v]] (.int .i64 (↑i : Int)) [.vars 3 [.int .i64 w]],
 decide ((↑i : Int) ≥ (0 : Int)) = true]) (by kernel_rfl) (by first | exact rfl | exact ⟨rfl, rfl⟩ | (simp []; done)) ⟨?q97_1, (by first | exact rfl | (simp []; done) | (simp []; omega) | omega), trivial⟩
    exact hi
def rightC (c : CellD) : Bool :=
  if c.kind = 2 then decide (c.data.length = 0) && decide (c.backs.length = 0)
  else if c.kind = 1 ∧ c.data.length ≤ 100 ∧ c.backs.length ≤ 4 then !scanB (-1) c.backs else false
theorem right_ac (c : CellD) : ACalls Tryz.prog 44 [encC c] [] (.bool (rightC c)) [] := by
  by_cases h1 : c.kind = 2
  · by_cases h2 : c.data.length = 0
    · by_cases h3 : c.backs.length = 0
      · rw [show rightC c = true by simp only [rightC, h1, h2, h3]; rfl]
        refine acallsK mixed Tryz.func44 rfl [0, 1, 2, 3, 6, 31] 1000 ([.t, .n c.data.length, .t, .n c.backs.length, .t]) [] [] (v1 := .bool true) (objs1 := []) (ob := [(c.kind == (2 : Int)) = true,
 ((List.map byteA c.data).length : Int) = (c.data.length : Int),
 ((c.data.length : Int) == (0 : Int)) = true,
 ((List.map encB c.backs).length : Int) = (c.backs.length : Int),
 ((c.backs.length : Int) == (0 : Int)) = true]) (by kernel_rfl) (by first | exact rfl | exact ⟨rfl, rfl⟩ | (simp [h1, h2, h3]; done) | (omega)) ⟨?z0, ?z1, ?z2, ?z3, ?z4, trivial⟩
        case z0|z1|z2|z3|z4 => first | exact rfl | (simp [h1, h2, h3] <;> omega) | omega | (omega)
      · rw [show rightC c = false by simp only [rightC, h1, h2, h3]; rfl]
        refine acallsK mixed Tryz.func44 rfl [0, 1, 2, 3, 6, 31] 1000 ([.t, .n c.data.length, .t, .n c.backs.length, .f]) [] [] (v1 := .bool false) (objs1 := []) (ob := [(c.kind == (2 : Int)) = true,
 ((List.map byteA c.data).length : Int) = (c.data.length : Int),
 ((c.data.length : Int) == (0 : Int)) = true,
 ((List.map encB c.backs).length : Int) = (c.backs.length : Int),
 ((c.backs.length : Int) == (0 : Int)) = false]) (by kernel_rfl) (by first | exact rfl | exact ⟨rfl, rfl⟩ | (simp [h1, h2, h3]; done) | (omega)) ⟨?z5, ?z6, ?z7, ?z8, ?z9, trivial⟩
        case z5|z6|z7|z8|z9 => first | exact rfl | (simp [h1, h2, h3] <;> omega) | omega | (omega)
    · rw [show rightC c = false by simp only [rightC, h1, h2]; rfl]
      refine acallsK mixed Tryz.func44 rfl [0, 1, 2, 3, 6, 31] 1000 ([.t, .n c.data.length, .f]) [] [] (v1 := .bool false) (objs1 := []) (ob := [(c.kind == (2 : Int)) = true,
 ((List.map byteA c.data).length : Int) = (c.data.length : Int),
 ((c.data.length : Int) == (0 : Int)) = false]) (by kernel_rfl) (by first | exact rfl | exact ⟨rfl, rfl⟩ | (simp [h1, h2]; done) | (omega)) ⟨?z10, ?z11, ?z12, trivial⟩
      case z10|z11|z12 => first | exact rfl | (simp [h1, h2] <;> omega) | omega | (omega)
  · by_cases h2 : c.kind = 1
    · by_cases h3 : c.data.length ≤ 100
      · by_cases h4 : c.backs.length ≤ 4
        · rw [show rightC c = !scanB (-1) c.backs by simp [rightC, h2, h3, h4]]
          obtain ⟨w, hw⟩ := contains_ac c.backs (by omega) (-1)
          refine acallsK mixed Tryz.func44 rfl [0, 1, 2, 3, 6, 31] 1000 ([.f, .f, .n c.data.length, .f, .n c.backs.length, .f, .call [1] false false (.bool (scanB (-1) c.backs)) [.vars 3 [.int .i64 w]]]) [] [] (v1 := .bool !scanB (-1) c.backs) (objs1 := []) (ob := [(c.kind == (2 : Int)) = false,
 (c.kind != (1 : Int)) = false,
 ((List.map byteA c.data).length : Int) = (c.data.length : Int),
 decide ((c.data.length : Int) > (100 : Int)) = false,
 ((List.map encB c.backs).length : Int) = (c.backs.length : Int),
 decide ((c.backs.length : Int) > (4 : Int)) = false,
 ACalls Tryz.prog 80 [.lst 3 (List.map encB c.backs), .fn 81 [.ptr 0 0]] [.vars 3 [.int .i64 (-1)]] (.bool (scanB (-1) c.backs)) [.vars 3 [.int .i64 w]]]) (by kernel_rfl) (by first | exact rfl | exact ⟨rfl, rfl⟩ | (simp [h1, h2, h3, h4]; done) | (omega)) ⟨?z13, ?z14, ?z15, ?z16, ?z17, ?z18, ?q117_1, trivial⟩
          case z13|z14|z15|z16|z17|z18 => first | exact rfl | (simp [h1, h2, h3, h4] <;> omega) | omega | (omega)
          exact hw
        · rw [show rightC c = false by simp [rightC, h2, h3, h4]]
          refine acallsK mixed Tryz.func44 rfl [0, 1, 2, 3, 6, 31] 1000 ([.f, .f, .n c.data.length, .f, .n c.backs.length, .t]) [] [] (v1 := .bool false) (objs1 := []) (ob := [(c.kind == (2 : Int)) = false,
 (c.kind != (1 : Int)) = false,
 ((List.map byteA c.data).length : Int) = (c.data.length : Int),
 decide ((c.data.length : Int) > (100 : Int)) = false,
 ((List.map encB c.backs).length : Int) = (c.backs.length : Int),
 decide ((c.backs.length : Int) > (4 : Int)) = true]) (by kernel_rfl) (by first | exact rfl | exact ⟨rfl, rfl⟩ | (simp [h1, h2, h3, h4]; done) | (omega)) ⟨?z19, ?z20, ?z21, ?z22, ?z23, ?z24, trivial⟩
          case z19|z20|z21|z22|z23|z24 => first | exact rfl | (simp [h1, h2, h3, h4] <;> omega) | omega | (omega)
      · rw [show rightC c = false by simp [rightC, h2, h3]]
        refine acallsK mixed Tryz.func44 rfl [0, 1, 2, 3, 6, 31] 1000 ([.f, .f, .n c.data.length, .t]) [] [] (v1 := .bool false) (objs1 := []) (ob := [(c.kind == (2 : Int)) = false,
 (c.kind != (1 : Int)) = false,
 ((List.map byteA c.data).length : Int) = (c.data.length : Int),
 decide ((c.data.length : Int) > (100 : Int)) = true]) (by kernel_rfl) (by first | exact rfl | exact ⟨rfl, rfl⟩ | (simp [h1, h2, h3]; done) | (omega)) ⟨?z25, ?z26, ?z27, ?z28, trivial⟩
        case z25|z26|z27|z28 => first | exact rfl | (simp [h1, h2, h3] <;> omega) | omega | (omega)
    · rw [show rightC c = false by simp [rightC, h1, h2]]
      refine acallsK mixed Tryz.func44 rfl [0, 1, 2, 3, 6, 31] 1000 ([.f, .t]) [] [] (v1 := .bool false) (objs1 := []) (ob := [(c.kind == (2 : Int)) = false,
 (c.kind != (1 : Int)) = true]) (by kernel_rfl) (by first | exact rfl | exact ⟨rfl, rfl⟩ | (simp [h1, h2]; done) | (omega)) ⟨?z29, ?z30, trivial⟩
      case z29|z30 => first | exact rfl | (simp [h1, h2] <;> omega) | omega | (omega)
end Go.Proofs.YtidgcfgkcidkiaaGreat.Ch
namespace Go.Proofs.YtidgcfgkcidkiaaGreat.L
open Go Go.RowKit Go.ChangeShapes Go.WideShapes Go.ChangeAt
set_option linter.unusedVariables false
set_option linter.unusedSimpArgs false
section
variable {P : Program}
end
end Go.Proofs.YtidgcfgkcidkiaaGreat.L
namespace Go.Proofs.YtidgcfgkcidkiaaGreat.X
open Go Go.Proofs.YtidgcfgkcidkiaaGreat.L Go.RowKit Go.ChangeShapes Go.WideShapes Go.ChangeAt
set_option linter.unusedVariables false
set_option linter.unusedSimpArgs false
/-- All cells that stand in memory stay. -/
def memOf (w : World) (b o : Nat) : Option Value :=
  match w.cell? ⟨b, o, none⟩ with
  | some v => if v.oneCell' = true then some v else none
  | none => none
def ctx0 (w : World) : Ctx := ⟨memOf w, fun _ => 0, fun _ => 0, fun _ => 0, fun _ => .hole⟩
theorem memOf_some {w : World} {b o : Nat} {v : Value} (h : w.cell? ⟨b, o, none⟩ = some v) (h1 : v.oneCell' = true) : memOf w b o = some v := by
  unfold memOf; rw [h]; simp [h1]
theorem ctx0_rel (w : World) : Rel (ctx0 w) (getO []) w := by
  have ho : ∀ i, ¬ (ctx0 w).own i := fun i h => h
  refine ⟨fun i => rfl, fun b o v h => ?_, fun i => trivial, fun i j h => (ho i h).elim, fun i o h => (ho i h).elim⟩
  simp only [ctx0, memOf] at h
  split at h
  · rename_i u hu
    split at h
    · rename_i h1; injection h with h; subst h; exact ⟨hu, h1⟩
    · cases h
  · cases h
/-- What is read is an abstract value's cells. -/
def Reads {α : Type} (R : Rep α) (dec : α → AV) : Prop :=
  ∀ (A : Nat → Prop) (w : World) (cs : List Value) (x : α), R.K A w cs x → (dec x).cells.length = cs.length ∧ ∀ (j : Nat) (u : AV), (dec x).cells[j]? = some u → ∃ d, cs[j]? = some d ∧ PR (memOf w) u d
theorem reads_num (k : IntKind) : Reads (L.num k) (.int k ·) := by
  rintro A w cs x ⟨rfl, _⟩
  refine ⟨rfl, fun j u hu => ?_⟩
  match j, hu with
  | 0, hu => cases hu; exact ⟨_, rfl, .int _ _⟩
  | j + 1, hu => simp [AV.cells] at hu
theorem reads_bool : Reads boolR .bool := by
  rintro A w cs x ⟨rfl, _⟩
  refine ⟨rfl, fun j u hu => ?_⟩
  match j, hu with
  | 0, hu => cases hu; exact ⟨_, rfl, .bool _⟩
  | j + 1, hu => simp [AV.cells] at hu
theorem reads_pair {α β : Type} {R : Rep α} {S : Rep β} {f : α → AV} {g : β → AV} (hR : Reads R f) (hS : Reads S g) : Reads (pair R S) fun x => .agg ((f x.1).cells ++ (g x.2).cells) := by
  rintro A w cs x ⟨c1, c2, rfl, h1, h2⟩
  obtain ⟨l1, q1⟩ := hR A w c1 _ h1
  obtain ⟨l2, q2⟩ := hS A w c2 _ h2
  refine ⟨by show ((f x.1).cells ++ (g x.2).cells).length = _; rw [List.length_append, List.length_append, l1, l2], fun j u hu => ?_⟩
  replace hu : ((f x.1).cells ++ (g x.2).cells)[j]? = some u := hu
  by_cases hj : j < c1.length
  · rw [List.getElem?_append_left (by omega)] at hu
    obtain ⟨d, k1, k2⟩ := q1 j u hu
    exact ⟨d, by rw [List.getElem?_append_left hj]; exact k1, k2⟩
  · rw [List.getElem?_append_right (by omega), l1] at hu
    obtain ⟨d, k1, k2⟩ := q2 _ u hu
    exact ⟨d, by rw [List.getElem?_append_right (by omega)]; exact k1, k2⟩
theorem reads_iso {α β : Type} {R : Rep α} {f : α → AV} (h : β → α) (hR : Reads R f) : Reads (iso R h) fun x => f (h x) := fun A w cs x hK => hR A w cs (h x) hK
theorem reads_of {α : Type} {R : Rep α} {f g : α → AV} (hR : Reads R f) (h : ∀ x, f x = g x) : Reads R g := by
  have : f = g := funext h
  rwa [this] at hR
theorem reads_slice {α : Type} {R : Rep α} {dec : α → AV} (hpos : 0 < R.sz) (hR : Reads R dec) {A : Nat → Prop} {w : World} {v : Value} {l : List α} (h : SliceK R A w v l) : PR (memOf w) (.lst R.sz (l.map dec)) v := by
  obtain ⟨ad, c, rfl, h1, h2, h3⟩ := h
  have key : ∃ (b o : Nat) (f : Nat → Nat → Value), (l.map dec = [] ∨ ad = some ⟨b, o, none⟩) ∧ (∀ (i : Nat) x, (l.map dec)[i]? = some x → x.cells.length = R.sz) ∧
      ∀ (i : Nat) x (j : Nat) u, (l.map dec)[i]? = some x → x.cells[j]? = some u → memOf w b (o + i * R.sz + j) = some (f i j) ∧ PR (memOf w) u (f i j) := by
    rcases h3 with rfl | ⟨b, pre, live, rest, T, fz, rfl, _, hb, hc⟩
    · exact ⟨0, 0, fun _ _ => undef, .inl rfl, by simp, by simp⟩
    · have hel : ∀ (i : Nat) x, (l.map dec)[i]? = some x → ∃ y cs, l[i]? = some y ∧ x = dec y ∧ R.K A w cs y ∧ ∀ j u, cs[j]? = some u → live[i * R.sz + j]? = some u := by
        intro i x hx
        rw [List.getElem?_map] at hx
        cases hy : l[i]? with
        | none => rw [hy] at hx; cases hx
        | some y =>
          rw [hy] at hx; injection hx with hx; subst hx
          obtain ⟨cs, k1, k2⟩ := hc.get hy
          exact ⟨y, cs, rfl, rfl, k1, k2⟩
      refine ⟨b, pre.length, fun i j => (live[i * R.sz + j]?).getD undef, .inr rfl, fun i x hx => ?_, fun i x j u hx hu => ?_⟩
      · obtain ⟨y, cs, _, rfl, k1, _⟩ := hel i x hx
        rw [(hR A w cs y k1).1, R.len k1]
      · obtain ⟨y, cs, _, rfl, k1, k2⟩ := hel i x hx
        obtain ⟨d, k3, k4⟩ := (hR A w cs y k1).2 j u hu
        have k5 := k2 j d k3
        simp only [k5, Option.getD_some]
        refine ⟨memOf_some (cellOf hb _ ?_) (hc.one d (List.mem_of_getElem? k5)), k4⟩
        have hj := (List.getElem?_eq_some_iff.1 k5).1
        simp only [List.getElem?_toArray]
        rw [Nat.add_assoc, List.append_assoc, List.getElem?_append_right (by omega), Nat.add_sub_cancel_left, List.getElem?_append_left hj]; exact k5
  obtain ⟨b, o, f, k1, k2, k3⟩ := key
  have := PR.lst (M := memOf w) R.sz (l.map dec) ad c b o f hpos (by simpa using h1) h2 k1 k2 (fun i x j u hx hu => (k3 i x j u hx hu).1) (fun i x j u hx hu => (k3 i x j u hx hu).2)
  simpa using this
theorem reads_lst {α : Type} {R : Rep α} {dec : α → AV} (hpos : 0 < R.sz) (hR : Reads R dec) : Reads (slice R) fun l => .lst R.sz (l.map dec) := by
  rintro A w cs l ⟨v, rfl, h⟩
  refine ⟨rfl, fun j u hu => ?_⟩
  match j, hu with
  | 0, hu => cases hu; exact ⟨_, rfl, reads_slice hpos hR h⟩
  | j + 1, hu => simp [AV.cells] at hu
theorem reads_agg {α : Type} {R : Rep α} {dec : α → AV} (hR : Reads R dec) {A : Nat → Prop} {w : World} {cs : List AV} {vs : List Value} {x : α} (h : R.K A w vs x) (hd : dec x = .agg cs) : VR (ctx0 w) (dec x) (.agg vs.toArray) := by
  obtain ⟨h1, h2⟩ := hR A w vs x h
  rw [hd] at h1 h2 ⊢
  refine VR.mkAgg ⟨h1, fun i u d hu hd' => ?_⟩
  obtain ⟨d2, k1, k2⟩ := h2 i u hu
  rw [k1] at hd'
  injection hd' with hd'; subst hd'
  exact .pure k2
/-- A law that answers true. -/
theorem law_calls {P : Program} {f : FuncId} {us : List AV} {objs' : List Obj} (h : ACalls P f us [] (.bool true) objs') {w : World} {args : List Value} (ha : VRs (ctx0 w) us args) : Calls P f args.toArray w fun e w' => e = .returned (.bool true) ∧ Keeps (fun _ => False) w w' := by
  refine (h.2 (ctx0 w) w args (ctx0_rel w) ha).mono ?_
  rintro e w' ⟨K', c, rfl, h1, h2, h3⟩
  refine ⟨by rw [h2.bool_inv], h3.keeps.mono fun k _ hk => ?_⟩
  obtain ⟨id, h4, _⟩ := hk
  exact h4
end Go.Proofs.YtidgcfgkcidkiaaGreat.X
namespace Go.Proofs.YtidgcfgkcidkiaaGreat.X
open Go Go.Proofs.YtidgcfgkcidkiaaGreat.L Go.RowKit
set_option linter.unusedVariables false
set_option linter.unusedSimpArgs false
def nowhere : Nat → Prop := fun _ => False
/-- A reading of elements that stand in their cells whole. -/
structure FlatOf {α : Type} (R : Rep α) (dec : α → AV) (ev : α → List Value) : Prop where
  K : ∀ A w cs x, R.K A w cs x ↔ cs = ev x
  pos : 0 < R.sz
  cells : ∀ x, (dec x).cells.length = R.sz
  at_ : ∀ x (j : Nat) u, (dec x).cells[j]? = some u → ∃ d, (ev x)[j]? = some d ∧ ∀ M d', PR M u d' ↔ d' = d
section
variable {α : Type} {R : Rep α} {dec : α → AV} {ev : α → List Value} (F : FlatOf R dec ev)
theorem FlatOf.len (F : FlatOf R dec ev) (x : α) : (ev x).length = R.sz := R.len ((F.K (fun _ => False) default _ x).2 rfl)
theorem FlatOf.run (F : FlatOf R dec ev) {A : Nat → Prop} {w : World} : ∀ (l : List α) (D : List Value), (∀ (i : Nat) x, l[i]? = some x → ∀ (j : Nat) d, (ev x)[j]? = some d → D[i * R.sz + j]? = some d) → Cells R A w (D.take (l.length * R.sz)) l
  | [], D, h => by simp; exact .nil
  | x :: l, D, h => by
    have h0 := h 0 x rfl
    simp only [Nat.zero_mul, Nat.zero_add] at h0
    have hd : D.take R.sz = ev x := by
      apply List.ext_getElem?
      intro j
      rw [List.getElem?_take]
      split
      · rename_i hj
        have hj' : j < (ev x).length := by rw [F.len]; exact hj
        rw [List.getElem?_eq_getElem hj']
        exact h0 j _ (List.getElem?_eq_getElem hj')
      · rw [List.getElem?_eq_none (by rw [F.len]; omega)]
    have e : (x :: l).length * R.sz = R.sz + l.length * R.sz := by simp [Nat.succ_mul, Nat.add_comm]
    rw [e, List.take_add, hd]
    refine .cons ((F.K _ _ _ _).2 rfl) (F.run l (D.drop R.sz) fun i y hy j d hd => ?_)
    have := h (i + 1) y (by simpa using hy) j d hd
    rw [List.getElem?_drop]
    rw [Nat.succ_mul] at this
    rw [← this]; congr 1; omega
theorem FlatOf.prows (F : FlatOf R dec ev) {A : Nat → Prop} {w : World} {M : Nat → Nat → Option Value} {l : List α} {cs rest : List Value} (h : Cells R A w cs l) : PRows M R.sz (l.map dec) (cs ++ rest) := by
  intro i x hx
  rw [List.getElem?_map] at hx
  cases hr : l[i]? with
  | none => rw [hr] at hx; cases hx
  | some r =>
    rw [hr] at hx; injection hx with hx; subst hx
    obtain ⟨c, hk, hc⟩ := h.get hr
    obtain rfl := (F.K _ _ _ _).1 hk
    refine ⟨F.cells r, fun j u hu => ?_⟩
    obtain ⟨d, h1, h2⟩ := F.at_ r j u hu
    have := hc j d h1
    have hl := (List.getElem?_eq_some_iff.1 this).1
    exact ⟨d, by rw [List.getElem?_append_left hl]; exact this, (h2 M d).2 rfl⟩
theorem FlatOf.down (F : FlatOf R dec ev) {K : Ctx} {get : Nat → X.Obj} {w : World} (hR : Rel K get w) {l : List α} {c : Value} (hv : VR K (.lst R.sz (l.map dec)) c) : SliceK R anyA w c l := by
  cases hv with
  | pure h =>
    cases h with
    | lst sz xs ad cp b o f hsz hc hm had hl hM hp =>
      simp only [List.length_map] at hc ⊢
      refine ⟨ad, cp, rfl, hc, hm, ?_⟩
      by_cases h0 : l = []
      · exact .inl h0
      · obtain rfl := had.resolve_left (by simp [h0])
        have cell : ∀ (i : Nat) r, l[i]? = some r → ∀ (j : Nat) d, (ev r)[j]? = some d → w.cell? ⟨b, o + i * R.sz + j, none⟩ = some d := by
          intro i r hr j d hd
          have e : (l.map dec)[i]? = some (dec r) := by simp [hr]
          have hj : j < (dec r).cells.length := by rw [F.cells, ← F.len r]; exact (List.getElem?_eq_some_iff.1 hd).1
          obtain ⟨u, hu⟩ : ∃ u, (dec r).cells[j]? = some u := ⟨_, List.getElem?_eq_getElem hj⟩
          obtain ⟨d', h1, h2⟩ := F.at_ r j u hu
          rw [hd] at h1; injection h1 with h1; subst h1
          have k1 := hM i _ j u e hu
          have q1 := (h2 _ _).1 (hp i _ j u e hu)
          rw [q1] at k1
          exact (hR.mem _ _ _ k1).1
        have hpos := List.length_pos_iff.2 h0
        have lst : ∀ i, i < l.length → ∀ j, j < R.sz → ∃ d, w.cell? ⟨b, o + i * R.sz + j, none⟩ = some d := fun i hi j hj => by
          have hr : l[i]? = some l[i] := List.getElem?_eq_getElem hi
          have hj' : j < (ev l[i]).length := by rw [F.len]; exact hj
          exact ⟨_, cell i _ hr j _ (List.getElem?_eq_getElem hj')⟩
        obtain ⟨d0, hd0⟩ := lst 0 hpos 0 F.pos
        obtain ⟨cs, T, fz, hb, _⟩ := cell_block hd0
        have hat : ∀ (j : Nat) v, w.cell? ⟨b, o + j, none⟩ = some v → (cs.toList.drop o)[j]? = some v := by
          intro j v hv
          rw [cell_of_row w _ _ cs T fz hb] at hv
          rw [List.getElem?_drop]; simpa using hv
        have hlen : o + l.length * R.sz ≤ cs.size := by
          obtain ⟨d, hd⟩ := lst (l.length - 1) (by omega) (R.sz - 1) (by have := F.pos; omega)
          rw [cell_of_row w _ _ cs T fz hb] at hd
          have h1 := (Array.getElem?_eq_some_iff.1 hd).1
          have h2 : l.length * R.sz = (l.length - 1) * R.sz + R.sz := by
            conv => lhs; rw [show l.length = (l.length - 1) + 1 by omega, Nat.succ_mul]
          have := F.pos
          omega
        refine .inr ⟨b, cs.toList.take o, (cs.toList.drop o).take (l.length * R.sz), (cs.toList.drop o).drop (l.length * R.sz), T, fz, ?_, trivial, ?_, ?_⟩
        · rw [List.length_take, Array.length_toList, Nat.min_eq_left (by omega)]
        · rw [hb, List.append_assoc, List.take_append_drop, List.take_append_drop]
        · exact F.run l _ fun i r hr j d hd => hat _ _ (by have := cell i r hr j d hd; rw [Nat.add_assoc] at this; exact this)
theorem FlatOf.up (F : FlatOf R dec ev) {w : World} {T : TypeId} {l : List α} {v : Value} (h : Own R T nowhere w v l) (B : Nat) : ∃ b cp o, (∀ k, rowOf v = some k ↔ cp ≠ 0 ∧ b = k) ∧ (cp = 0 → b = B) ∧
    ∀ (K : Ctx) (id : Nat), K.kind id = .row R.sz l.length → K.cap id = cp → K.blk id = b → K.off id = o → OR K w id (.row T R.sz (l.map dec)) ∧ VR K (.row id R.sz l.length) v := by
  obtain ⟨ad, cp, rfl, h1, h2, h3⟩ := h
  by_cases h0 : cp = 0
  · subst h0
    refine ⟨B, 0, 0, fun k => ?_, fun _ => rfl, fun K id k1 k2 k3 k4 => ⟨⟨F.pos, by rw [k2]; simpa using h1, by rw [k2]; exact h2, fun hn => absurd k2 hn⟩, .row _ _ _ _ (by rw [k1]; simp) (.inr ⟨.inl k1, ad, by rw [k2], fun hn => absurd k2 hn⟩) ⟨ad, 0, rfl, h1, h2, fun hn => absurd rfl hn⟩⟩⟩
    cases ad <;> simp [rowOf]
  · obtain ⟨b, pre, live, dead, rfl, hh, hd, hc⟩ := h3.resolve_left h0
    refine ⟨b, cp, pre.length, fun k => ?_, fun hn => absurd hn h0, fun K id k1 k2 k3 k4 => ⟨⟨F.pos, by rw [k2]; simpa using h1, by rw [k2]; exact h2, fun hn => ⟨_, by rw [k3]; exact hh, ?_, ?_⟩⟩, .row _ _ _ _ (by rw [k1]; simp) (.inr ⟨.inl k1, some ⟨b, pre.length, none⟩, by rw [k2], fun hn => by rw [k3, k4]⟩) ⟨_, cp, rfl, h1, h2, fun hn => ⟨_, rfl⟩⟩⟩⟩
    · simp [rowOf, h0]
    · have hl := hc.length
      rw [k2, k4]
      simp only [List.size_toArray, List.length_append, hl, hd]
      rw [Nat.add_assoc, ← Nat.add_mul]
      congr 2; omega
    · rw [k4]
      show PRows _ _ _ (List.drop _ (pre ++ live ++ dead))
      rw [List.append_assoc, List.drop_left]
      exact F.prows hc
/-- What answers a new row. -/
theorem FlatOf.newrow (F : FlatOf R dec ev) {P : Program} {f : FuncId} {us : List AV} {T : TypeId} {l : List α} (hE : Enters P f)
    (h : ∀ K w (cs : List Value), Rel K (getO []) w → VRs K us cs → Calls P f cs.toArray w fun e w' => ∃ v', e = .returned v' ∧ Own R T nowhere w' v' l ∧ (∀ b, rowOf v' = some b → w.heap.size ≤ b) ∧ Keeps (fun _ => False) w w') :
    ACalls P f us [] (.row 0 R.sz l.length) [.row T R.sz (l.map dec)] := by
  refine ⟨hE, fun K w cs hR hcs => ?_⟩
  refine (h K w cs hR hcs).mono ?_
  rintro e w' ⟨v', rfl, ho, hn, hk⟩
  obtain ⟨b, cp, o, h1, h3, hup⟩ := F.up ho w.heap.size
  let o1 : X.Obj := .row T R.sz (l.map dec)
  obtain ⟨u1, u2⟩ := hup (K.put 0 o1.kind b cp o) 0 (by rw [put_kind]; simp [o1, Obj.kind]) put_cap put_blk put_off
  have hhole : K.kind 0 = .hole := by rw [hR.kinds]; rfl
  obtain ⟨r1, r2⟩ := hR.change (K' := K.put 0 o1.kind b cp o) (get' := getO [o1]) (w' := w') (fun i => i = 0) ⟨fun _ _ _ h => h, fun i hi => by
      by_cases h0 : i = 0
      · subst h0; exact absurd hhole hi
      · exact .inr (by simp [Ctx.put, h0])⟩ (fun i hi => ⟨by simp [Ctx.put, hi], by simp [Ctx.put, hi], by simp [Ctx.put, hi], by simp [Ctx.put, hi], by
        match i, hi with
        | 0, hi => exact absurd rfl hi
        | n + 1, _ => simp [getO]⟩) (hk.mono fun _ _ h => h.elim) (by rintro i rfl; rw [put_kind]; rfl) (by rintro i rfl hv; rw [hhole] at hv; cases hv) (by rintro i rfl; exact u1) (by
      rintro i rfl ho
      have hc : cp ≠ 0 := by unfold Ctx.own at ho; rw [put_kind, put_cap] at ho; simpa [o1, Obj.kind] using ho
      rw [put_blk]
      exact .inr (hn b ((h1 b).2 ⟨hc, rfl⟩))) (by rintro i j rfl rfl; intros; rfl) (fun b o v h => .inl h)
  exact ⟨_, _, rfl, r1, u2, (r2 _).toC⟩
end
/-- Numbers as elements. -/
def numE (k : IntKind) : Rep Int := flat 1 (fun x => [.int k x]) (fun _ => True) (fun _ => rfl) (by intro x u hu; simp at hu; subst hu; rfl)
theorem numE_flat (k : IntKind) : FlatOf (numE k) (.int k ·) (fun x => [.int k x]) where
  K := fun A w cs x => ⟨fun h => h.1, fun h => ⟨h, trivial⟩⟩
  pos := Nat.one_pos
  cells := fun x => rfl
  at_ := by
    intro x j u hu
    match j, hu with
    | 0, hu => cases hu; exact ⟨_, rfl, fun M d => ⟨fun h => by cases h; rfl, fun h => by subst h; exact .int _ _⟩⟩
    | j + 1, hu => simp [AV.cells] at hu
theorem Own.toFlat {α : Type} {R : Rep α} {dec : α → AV} {ev : α → List Value} (F : FlatOf R dec ev) {T : TypeId} {A : Nat → Prop} {w : World} {v : Value} {l : List α} (h : Own R T A w v l) : Own R T nowhere w v l := by
  obtain ⟨ad, c, rfl, h1, h2, h3⟩ := h
  refine ⟨ad, c, rfl, h1, h2, ?_⟩
  rcases h3 with h3 | ⟨b, pre, live, dead, rfl, hh, hd, hc⟩
  · exact .inl h3
  · refine .inr ⟨b, pre, live, dead, rfl, hh, hd, ?_⟩
    clear hh hd h1 h2
    induction hc with
    | nil => exact .nil
    | cons h _ ih => exact .cons ((F.K _ _ _ _).2 ((F.K _ _ _ _).1 h)) ih
end Go.Proofs.YtidgcfgkcidkiaaGreat.X
namespace Go.Proofs.YtidgcfgkcidkiaaGreat.Ch
open Go Go.RowKit Go.Proofs.YtidgcfgkcidkiaaGreat.L Go.Proofs.YtidgcfgkcidkiaaGreat.X
set_option linter.unusedVariables false
set_option linter.unusedSimpArgs false
def evB (x : BackD) : List Value := [.int .i64 x.s, .int .u64 x.a, .int .u64 x.b]
def BackR : Rep BackD := flat 3 evB (fun _ => True) (fun _ => rfl) (by intro x u hu; simp [evB] at hu; rcases hu with rfl | rfl | rfl <;> rfl)
theorem BackR_flat : FlatOf BackR encB evB where
  K := fun A w cs x => ⟨fun h => h.1, fun h => ⟨h, trivial⟩⟩
  pos := Nat.succ_pos _
  cells := fun x => rfl
  at_ := by
    intro x j u hu
    match j, hu with
    | 0, hu => cases hu; exact ⟨_, rfl, fun M d => ⟨fun h => by cases h; rfl, fun h => by subst h; exact .int _ _⟩⟩
    | 1, hu => cases hu; exact ⟨_, rfl, fun M d => ⟨fun h => by cases h; rfl, fun h => by subst h; exact .int _ _⟩⟩
    | 2, hu => cases hu; exact ⟨_, rfl, fun M d => ⟨fun h => by cases h; rfl, fun h => by subst h; exact .int _ _⟩⟩
    | j + 3, hu => simp [encB, AV.cells] at hu

theorem info_byte : (Tryz.prog.info? 5).map (fun i => (i.zero, i.size, i.bytes)) = some (some (.int .u8 0), 1, 1) := by kernel_rfl
theorem elem_byte : Elem Tryz.prog 27 5 (numE .u8).sz 1 (.int .u8 0) := by
  obtain ⟨i, hi, h0, h1, h2⟩ := info_parts info_byte
  exact ⟨Tryz.underlying27, ⟨i, hi, h0, h1, h2⟩, rfl, Nat.succ_pos _⟩
set_option maxHeartbeats 400000 in
theorem clone_byte (v : Value) (l : List Int) (A : Nat → Prop) (w : World) (hs : SliceK (numE .u8) A w v l) (hb : l.length ≤ 1099511627776) :
    Calls Tryz.prog 76 #[v] w fun e w' => ∃ v', e = .returned v' ∧ Own (numE .u8) 5 nowhere w' v' l ∧ (∀ b, rowOf v' = some b → w.heap.size ≤ b) ∧ Keeps (fun _ => False) w w' := by
  obtain ⟨ad, c, rfl, hc1, hc2⟩ := hs.form
  have h1 : ∀ ad n c w, (binOp .eql 27 (.slice ad n c) (.slice none 0 0)).run Tryz.prog w = .ok (.bool ad.isNone) w := fun ad n c w => Lib.run_eql_slice_nil w _ 5 _ _ _ _ _ Tryz.underlying27
  cases ad with
  | none =>
    obtain ⟨rfl, _⟩ := hs.nil_none
    go_enter Tryz.func76, Tryz.ntmps76
    go_wp2_with fail
    go_ret
    exact ⟨_, rfl, own_nil _ _ _ _, by simp [rowOf], Keeps.refl _ _⟩
  | some a =>
    go_enter Tryz.func76, Tryz.ntmps76
    go_wp2_with (at_builtin; refine wpList_append_any (α := Int) (R := numE .u8) (A := A) (B := A) (xs := []) (ys := l) rfl _ _ rfl elem_byte (.slice (some ⟨w.heap.size, 0, none⟩) 0 0) (.slice (some a) l.length c) rfl rfl (own_zero _ _ _ _ _) (hs.alloc _) (fun _ h => h) (by rw [rowOf_zero]; simp) (by simp; omega) (by simp; exact Nat.le_trans hc1 hc2) ?_; intro v' w' hown hk hr)
    go_ret
    refine ⟨v', rfl, ?_, ?_, ?_⟩
    · exact Go.Proofs.YtidgcfgkcidkiaaGreat.X.Own.toFlat (numE_flat .u8) hown
    · intro b hb; rcases hr b hb with h | h
      · rw [rowOf_zero] at h; cases h
      · simp at h; omega
    · exact ((Keeps.refl _ _).alloc _).trans hk (by intro b _ h; rw [rowOf_zero] at h; cases h)
theorem clone_byte_ac (l : List Int) (hb : l.length ≤ 1099511627776) : ACalls Tryz.prog 76 [.lst 1 (l.map byteA)] [] (.row 0 1 l.length) [.row 5 1 (l.map byteA)] :=
  FlatOf.newrow (numE_flat .u8) ⟨_, Tryz.func76, rfl, rfl⟩ fun K w cs hR hcs => by
    obtain ⟨v, vs, rfl, hv, hvs⟩ := hcs.cons_inv
    obtain rfl := hvs.nil_inv
    exact clone_byte v l anyA w (FlatOf.down (numE_flat .u8) hR hv) hb

theorem info_back : (Tryz.prog.info? 94).map (fun i => (i.zero, i.size, i.bytes)) = some (some (.agg #[.int .i64 0, .int .u64 0, .int .u64 0]), 3, 24) := by kernel_rfl
theorem elem_back : Elem Tryz.prog 28 94 (BackR).sz 24 (.agg #[.int .i64 0, .int .u64 0, .int .u64 0]) := by
  obtain ⟨i, hi, h0, h1, h2⟩ := info_parts info_back
  exact ⟨Tryz.underlying28, ⟨i, hi, h0, h1, h2⟩, rfl, Nat.succ_pos _⟩
set_option maxHeartbeats 400000 in
theorem clone_back (v : Value) (l : List BackD) (A : Nat → Prop) (w : World) (hs : SliceK (BackR) A w v l) (hb : l.length ≤ 1099511627776) :
    Calls Tryz.prog 77 #[v] w fun e w' => ∃ v', e = .returned v' ∧ Own (BackR) 94 nowhere w' v' l ∧ (∀ b, rowOf v' = some b → w.heap.size ≤ b) ∧ Keeps (fun _ => False) w w' := by
  obtain ⟨ad, c, rfl, hc1, hc2⟩ := hs.form
  have h1 : ∀ ad n c w, (binOp .eql 28 (.slice ad n c) (.slice none 0 0)).run Tryz.prog w = .ok (.bool ad.isNone) w := fun ad n c w => Lib.run_eql_slice_nil w _ 94 _ _ _ _ _ Tryz.underlying28
  cases ad with
  | none =>
    obtain ⟨rfl, _⟩ := hs.nil_none
    go_enter Tryz.func77, Tryz.ntmps77
    go_wp2_with fail
    go_ret
    exact ⟨_, rfl, own_nil _ _ _ _, by simp [rowOf], Keeps.refl _ _⟩
  | some a =>
    go_enter Tryz.func77, Tryz.ntmps77
    go_wp2_with (at_builtin; refine wpList_append_any (α := BackD) (R := BackR) (A := A) (B := A) (xs := []) (ys := l) rfl _ _ rfl elem_back (.slice (some ⟨w.heap.size, 0, none⟩) 0 0) (.slice (some a) l.length c) rfl rfl (own_zero _ _ _ _ _) (hs.alloc _) (fun _ h => h) (by rw [rowOf_zero]; simp) (by simp; omega) (by simp; exact Nat.le_trans hc1 hc2) ?_; intro v' w' hown hk hr)
    go_ret
    refine ⟨v', rfl, ?_, ?_, ?_⟩
    · exact Go.Proofs.YtidgcfgkcidkiaaGreat.X.Own.toFlat BackR_flat hown
    · intro b hb; rcases hr b hb with h | h
      · rw [rowOf_zero] at h; cases h
      · simp at h; omega
    · exact ((Keeps.refl _ _).alloc _).trans hk (by intro b _ h; rw [rowOf_zero] at h; cases h)
theorem clone_back_ac (l : List BackD) (hb : l.length ≤ 1099511627776) : ACalls Tryz.prog 77 [.lst 3 (l.map encB)] [] (.row 0 3 l.length) [.row 94 3 (l.map encB)] :=
  FlatOf.newrow BackR_flat ⟨_, Tryz.func77, rfl, rfl⟩ fun K w cs hR hcs => by
    obtain ⟨v, vs, rfl, hv, hvs⟩ := hcs.cons_inv
    obtain rfl := hvs.nil_inv
    exact clone_back v l anyA w (FlatOf.down BackR_flat hR hv) hb

theorem info_int : (Tryz.prog.info? 3).map (fun i => (i.zero, i.size, i.bytes)) = some (some (.int .i64 0), 1, 8) := by kernel_rfl
theorem elem_int : Elem Tryz.prog 46 3 (numE .i64).sz 8 (.int .i64 0) := by
  obtain ⟨i, hi, h0, h1, h2⟩ := info_parts info_int
  exact ⟨Tryz.underlying46, ⟨i, hi, h0, h1, h2⟩, rfl, Nat.succ_pos _⟩
set_option maxHeartbeats 400000 in
theorem clone_int (v : Value) (l : List Int) (A : Nat → Prop) (w : World) (hs : SliceK (numE .i64) A w v l) (hb : l.length ≤ 1099511627776) :
    Calls Tryz.prog 79 #[v] w fun e w' => ∃ v', e = .returned v' ∧ Own (numE .i64) 3 nowhere w' v' l ∧ (∀ b, rowOf v' = some b → w.heap.size ≤ b) ∧ Keeps (fun _ => False) w w' := by
  obtain ⟨ad, c, rfl, hc1, hc2⟩ := hs.form
  have h1 : ∀ ad n c w, (binOp .eql 46 (.slice ad n c) (.slice none 0 0)).run Tryz.prog w = .ok (.bool ad.isNone) w := fun ad n c w => Lib.run_eql_slice_nil w _ 3 _ _ _ _ _ Tryz.underlying46
  cases ad with
  | none =>
    obtain ⟨rfl, _⟩ := hs.nil_none
    go_enter Tryz.func79, Tryz.ntmps79
    go_wp2_with fail
    go_ret
    exact ⟨_, rfl, own_nil _ _ _ _, by simp [rowOf], Keeps.refl _ _⟩
  | some a =>
    go_enter Tryz.func79, Tryz.ntmps79
    go_wp2_with (at_builtin; refine wpList_append_any (α := Int) (R := numE .i64) (A := A) (B := A) (xs := []) (ys := l) rfl _ _ rfl elem_int (.slice (some ⟨w.heap.size, 0, none⟩) 0 0) (.slice (some a) l.length c) rfl rfl (own_zero _ _ _ _ _) (hs.alloc _) (fun _ h => h) (by rw [rowOf_zero]; simp) (by simp; omega) (by simp; exact Nat.le_trans hc1 hc2) ?_; intro v' w' hown hk hr)
    go_ret
    refine ⟨v', rfl, ?_, ?_, ?_⟩
    · exact Go.Proofs.YtidgcfgkcidkiaaGreat.X.Own.toFlat (numE_flat .i64) hown
    · intro b hb; rcases hr b hb with h | h
      · rw [rowOf_zero] at h; cases h
      · simp at h; omega
    · exact ((Keeps.refl _ _).alloc _).trans hk (by intro b _ h; rw [rowOf_zero] at h; cases h)
theorem clone_int_ac (l : List Int) (hb : l.length ≤ 1099511627776) : ACalls Tryz.prog 79 [.lst 1 (l.map intA)] [] (.row 0 1 l.length) [.row 3 1 (l.map intA)] :=
  FlatOf.newrow (numE_flat .i64) ⟨_, Tryz.func79, rfl, rfl⟩ fun K w cs hR hcs => by
    obtain ⟨v, vs, rfl, hv, hvs⟩ := hcs.cons_inv
    obtain rfl := hvs.nil_inv
    exact clone_int v l anyA w (FlatOf.down (numE_flat .i64) hR hv) hb
end Go.Proofs.YtidgcfgkcidkiaaGreat.Ch
namespace Go.Proofs.YtidgcfgkcidkiaaGreat.X
open Go Go.Proofs.YtidgcfgkcidkiaaGreat.L Go.RowKit
set_option linter.unusedVariables false
set_option linter.unusedSimpArgs false
/-- What is a value by itself. -/
def pureB : AV → Bool
  | .bool _ | .int _ _ | .str _ | .nilp | .nils | .lst _ _ | .mapn | .nilf => true
  | _ => false
theorem pureB_PR {K : Ctx} {u : AV} {d : Value} (hu : pureB u = true) (h : VR K u d) : PR K.M u d := by
  cases h with
  | pure h => exact h
  | _ => cases hu
theorem Rel.toMem {K : Ctx} {get : Nat → Obj} {w : World} (hR : Rel K get w) : ∀ b o v, K.M b o = some v → memOf w b o = some v := fun b o v h => by
  obtain ⟨h1, h2⟩ := hR.mem b o v h
  exact memOf_some h1 h2
/-- A call that only reads, by a run over memory that stays. -/
theorem areads_of {P : Program} {f : FuncId} {args args' : List AV} {objs objs' : List Obj} {v : AV} (hv : ∀ K K' c, VR K v c → VR K' v c) (h : ACalls P f args' [] v objs') (ha : ∀ K w (cs : List Value), Rel K (getO objs) w → VRs K args cs → VRs (ctx0 w) args' cs) : AReads P f args objs v := by
  refine ⟨h.1, fun K w cs hR hcs => ?_⟩
  refine (h.2 (ctx0 w) w cs (ctx0_rel w) (ha K w cs hR hcs)).mono ?_
  rintro e w' ⟨K', c, rfl, h1, h2, h3⟩
  refine ⟨c, rfl, h3.keeps.mono fun k _ hk => ?_, fun K2 => hv K' K2 c h2⟩
  obtain ⟨id, h4, _⟩ := hk
  exact h4
theorem lst_of_row {K : Ctx} {get : Nat → Obj} {w : World} (hR : Rel K get w) {id T sz : Nat} {xs : List AV} (hg : get id = .row T sz xs) {d : Value} (hd : VR K (.row id sz xs.length) d) : PR (memOf w) (.lst sz xs) d := by
  have ho := hR.obj id
  rw [hg] at ho
  obtain ⟨hs, h1, h2, h3⟩ := ho
  cases hd with
  | pure h => cases h
  | row id sz len c hk h hp =>
    have hk' : K.kind id = .row sz xs.length := by rw [hR.kinds, hg]; rfl
    rw [hk'] at h
    obtain ⟨_, ad, rfl, ha⟩ := h.resolve_left (by simp)
    by_cases h0 : xs = []
    · subst h0
      refine .lst sz [] ad _ 0 0 (fun _ _ => undef) hs h1 h2 (.inl rfl) (by simp) (by simp) (by simp)
    · have hc : K.cap id ≠ 0 := by have := List.length_pos_iff.2 h0; omega
      obtain rfl := ha hc
      obtain ⟨ds, h4, h5, h6⟩ := h3 hc
      refine .lst sz xs _ _ (K.blk id) (K.off id) (fun i j => (ds.toList.drop (K.off id))[i * sz + j]?.getD undef) hs h1 h2 (.inr rfl) (fun i x hx => (h6 i x hx).1) (fun i x j u hx hu => ?_) (fun i x j u hx hu => ?_)
      · obtain ⟨d, q1, q2⟩ := (h6 i x hx).2 j u hu
        rw [q1]
        refine memOf_some ?_ q2.one
        rw [List.getElem?_drop] at q1
        refine cellOf h4 _ ?_
        rw [Nat.add_assoc]; simpa using q1
      · obtain ⟨d, q1, q2⟩ := (h6 i x hx).2 j u hu
        rw [q1]
        exact q2.mono hR.toMem
/-- A struct whose last part is a row, read where it stands. -/
theorem read_vars {K : Ctx} {w : World} {T T2 sz : Nat} {pre xs : List AV} (hpre : pre.all pureB = true) (hR : Rel K (getO [.vars T (pre ++ [.row 1 sz xs.length]), .row T2 sz xs]) w) {c : Value} (hc : VR K (.ptr 0 0) c) :
    VR (ctx0 w) (.lpt (pre.length + 1) [.agg (pre ++ [.lst sz xs])] 0 0) c := by
  have ho := hR.obj 0
  obtain ⟨ds, h1, h2, h3⟩ := ho
  have hp' : c = .pointer (some ⟨K.blk 0, 0, none⟩) := by
    cases hc with
    | pure h => cases h
    | ptr id off c hk h hp => exact h.resolve_left (by rw [hR.kinds]; simp [getO, Obj.kind])
  subst hp'
  have hlen : ds.toList.length = pre.length + 1 := by rw [← h2.1]; simp
  have hx : PR (memOf w) (.lst (pre.length + 1) [.agg (pre ++ [.lst sz xs])]) (.slice (some ⟨K.blk 0, 0, none⟩) 1 1) := by
    refine .lst (pre.length + 1) [.agg (pre ++ [.lst sz xs])] (some ⟨K.blk 0, 0, none⟩) 1 (K.blk 0) 0 (fun _ j => ds.toList[j]?.getD undef) (Nat.succ_pos _) (Nat.le_refl _) (by decide) (.inr rfl) (fun i x hx => ?_) (fun i x j u hx hu => ?_) (fun i x j u hx hu => ?_)
    · match i, hx with
      | 0, hx => cases hx; simp [AV.cells]
    · match i, hx with
      | 0, hx =>
        cases hx
        have hj : j < pre.length + 1 := by have := (List.getElem?_eq_some_iff.1 hu).1; simpa [AV.cells] using this
        have hd : ds.toList[j]? = some (ds.toList[j]'(by omega)) := List.getElem?_eq_getElem _
        rw [hd]
        refine memOf_some (cellOf h1 _ (by simp)) (h3 _ (List.getElem_mem _))
    · match i, hx with
      | 0, hx =>
        cases hx
        replace hu : (pre ++ [.lst sz xs])[j]? = some u := hu
        have hj : j < pre.length + 1 := by have := (List.getElem?_eq_some_iff.1 hu).1; simpa using this
        have hd : ds.toList[j]? = some (ds.toList[j]'(by omega)) := List.getElem?_eq_getElem _
        rw [hd]
        by_cases hjp : j < pre.length
        · rw [List.getElem?_append_left hjp] at hu
          have hv := h2.2 j u _ (by rw [List.getElem?_append_left hjp]; exact hu) hd
          exact (pureB_PR (List.all_eq_true.1 hpre u (List.mem_of_getElem? hu)) hv).mono hR.toMem
        · obtain rfl : j = pre.length := by omega
          rw [List.getElem?_append_right (Nat.le_refl _), Nat.sub_self] at hu
          cases hu
          have hv := h2.2 pre.length (.row 1 sz xs.length) _ (by rw [List.getElem?_append_right (Nat.le_refl _), Nat.sub_self]; rfl) hd
          exact lst_of_row hR (id := 1) (T := T2) rfl hv
  have hx' : PR (ctx0 w).M (.lst (pre.length + 1) [.agg (pre ++ [.lst sz xs])]) (.slice (some ⟨K.blk 0, 0, none⟩) 1 1) := hx
  have := VR.lpt (K := ctx0 w) (pre.length + 1) [AV.agg (pre ++ [AV.lst sz xs])] 0 0 ⟨K.blk 0, 0, none⟩ 1 1 hx' (by simp)
  simpa using this
end Go.Proofs.YtidgcfgkcidkiaaGreat.X
namespace Go.Proofs.YtidgcfgkcidkiaaGreat.Ch
open Go Go.RowKit Go.Proofs.YtidgcfgkcidkiaaGreat.L Go.Proofs.YtidgcfgkcidkiaaGreat.X
set_option linter.unusedVariables false
set_option linter.unusedSimpArgs false
theorem wrap_i {x : Int} (h0 : -1000000000000 ≤ x) (h1 : x ≤ 1000000000000) : IntKind.i64.wrap x = x := by
  simp [IntKind.wrap, IntKind.bits, IntKind.signed]; omega
/-- A cell as a settler keeps it: its kind, its lists (nil or not). -/
structure KeptC where
  kind : Int
  data : AV
  backs : AV
def KeptC.ok (c : KeptC) : Prop := (∃ d : List Int, d.length ≤ 1099511627776 ∧ c.data = .lst 1 (d.map byteA)) ∧ (∃ b : List BackD, b.length ≤ 1099511627776 ∧ c.backs = .lst 3 (b.map encB)) ∨ (c.data = .nils ∧ c.backs = .nils)
theorem copied_ac (c : CellD) (h1 : c.data.length ≤ 1099511627776) (h2 : c.backs.length ≤ 1099511627776) : ACalls Tryz.prog 45 [encC c] [] (encC c) [] := by
  have q1 := clone_byte_ac c.data h1
  have q2 := clone_back_ac c.backs h2
  refine acallsK mixed Tryz.func45 rfl [0, 1, 2] 1000 ([.call [] false false (.row 0 1 c.data.length) [.row 5 1 (c.data.map byteA)], .call [] false false (.row 0 3 c.backs.length) [.row 94 3 (c.backs.map encB)]]) [2, 3] [] (ob := [_,
 _]) (by kernel_rfl) ⟨rfl, rfl⟩ ⟨q1, q2, trivial⟩
/-- A settler: what it holds; its messages as abstract values. -/
structure SetD where
  client : Int
  id : Int
  epoch : Int
  a : Int
  cell : CellD
  chain : List Int
  at_ : Nat
  started : Bool
  over : Bool
  e : Int
  ticks : Int
  writes : Int
  out : List AV
def celS (s : SetD) : List AV := [.int .i64 s.client, .int .i64 s.id, .int .u64 s.epoch, .int .u64 s.a, .int .i64 s.cell.kind, .lst 1 (s.cell.data.map byteA), .lst 3 (s.cell.backs.map encB), .lst 1 (s.chain.map intA), .int .i64 s.at_, .bool s.started, .bool s.over, .int .i64 s.e, .int .i64 s.ticks, .int .i64 s.writes]
def setO (s : SetD) : List X.Obj := [.vars 86 (celS s ++ [.row 1 22 s.out.length]), .row 50 22 s.out]
def readV (s : SetD) : AV := .lpt 15 [.agg (celS s ++ [.lst 22 s.out])] 0 0
theorem read_set {K : Ctx} {w : World} (s : SetD) (hR : Rel K (getO (setO s)) w) {c : Value} (hc : VR K (.ptr 0 0) c) : VR (ctx0 w) (readV s) c :=
  read_vars (T := 86) (T2 := 50) (pre := celS s) (xs := s.out) (sz := 22) rfl hR hc
theorem reads_set {f : FuncId} {s : SetD} {v : AV} {objs' : List X.Obj} (hv : flatB v = true) (h : ACalls Tryz.prog f [readV s] [] v objs') : AReads Tryz.prog f [.ptr 0 0] (setO s) v :=
  areads_of (fun K K' c => flat_VR hv) h fun K w cs hR hcs => by
    obtain ⟨c, cs', rfl, h1, h2⟩ := hcs.cons_inv
    rw [h2.nil_inv]
    exact .cons (read_set s hR h1) .nil
theorem self_rd (s : SetD) : AReads Tryz.prog 52 [.ptr 0 0] (setO s) (.agg [.int .i64 4, .int .i64 s.client]) := by
  refine reads_set (objs' := []) rfl ?_
  refine acallsK mixed Tryz.func52 rfl [0, 2] 1000 ([.el (.agg (celS s ++ [.lst 22 s.out]))]) [] [] (ob := [[AV.agg [AV.int IntKind.i64 (SetD.client s), AV.int IntKind.i64 (SetD.id s), AV.int IntKind.u64 (SetD.epoch s), AV.int IntKind.u64 (SetD.a s), AV.int IntKind.i64 (CellD.kind (SetD.cell s)), AV.lst (nat_lit 1) (List.map byteA (CellD.data (SetD.cell s))), AV.lst (nat_lit 3) (List.map encB (CellD.backs (SetD.cell s))), AV.lst (nat_lit 1) (List.map intA (SetD.chain s)), AV.int IntKind.i64 (↑(SetD.at_ s) : Int), AV.bool (SetD.started s), AV.bool (SetD.over s), AV.int IntKind.i64 (SetD.e s), AV.int IntKind.i64 (SetD.ticks s), AV.int IntKind.i64 (SetD.writes s), AV.lst (nat_lit 22) (SetD.out s)]][nat_lit 0]? = some (AV.agg [AV.int IntKind.i64 (SetD.client s), AV.int IntKind.i64 (SetD.id s), AV.int IntKind.u64 (SetD.epoch s), AV.int IntKind.u64 (SetD.a s), AV.int IntKind.i64 (CellD.kind (SetD.cell s)), AV.lst (nat_lit 1) (List.map byteA (CellD.data (SetD.cell s))), AV.lst (nat_lit 3) (List.map encB (CellD.backs (SetD.cell s))), AV.lst (nat_lit 1) (List.map intA (SetD.chain s)), AV.int IntKind.i64 (↑(SetD.at_ s) : Int), AV.bool (SetD.started s), AV.bool (SetD.over s), AV.int IntKind.i64 (SetD.e s), AV.int IntKind.i64 (SetD.ticks s), AV.int IntKind.i64 (SetD.writes s), AV.lst (nat_lit 22) (SetD.out s)])]) (by kernel_rfl) ⟨rfl, rfl⟩ ⟨(by first | exact rfl | (simp [celS]; done) | (simp [celS]; omega) | omega), trivial⟩
theorem unit_rd (s : SetD) {u : Int} (hu : s.chain[s.at_]? = some u) : AReads Tryz.prog 53 [.ptr 0 0] (setO s) (.agg [.int .i64 1, .int .i64 u]) := by
  have hat : s.at_ < s.chain.length := (List.getElem?_eq_some_iff.1 hu).1
  refine reads_set (objs' := []) rfl ?_
  refine acallsK mixed Tryz.func53 rfl [0, 2] 1000 ([.el (.agg (celS s ++ [.lst 22 s.out])), .el (.agg (celS s ++ [.lst 22 s.out])), .ix s.at_, .el (intA u)]) [] [] (ob := [[AV.agg [AV.int IntKind.i64 (SetD.client s), AV.int IntKind.i64 (SetD.id s), AV.int IntKind.u64 (SetD.epoch s), AV.int IntKind.u64 (SetD.a s), AV.int IntKind.i64 (CellD.kind (SetD.cell s)), AV.lst (nat_lit 1) (List.map byteA (CellD.data (SetD.cell s))), AV.lst (nat_lit 3) (List.map encB (CellD.backs (SetD.cell s))), AV.lst (nat_lit 1) (List.map intA (SetD.chain s)), AV.int IntKind.i64 (↑(SetD.at_ s) : Int), AV.bool (SetD.started s), AV.bool (SetD.over s), AV.int IntKind.i64 (SetD.e s), AV.int IntKind.i64 (SetD.ticks s), AV.int IntKind.i64 (SetD.writes s), AV.lst (nat_lit 22) (SetD.out s)]][nat_lit 0]? = some (AV.agg [AV.int IntKind.i64 (SetD.client s), AV.int IntKind.i64 (SetD.id s), AV.int IntKind.u64 (SetD.epoch s), AV.int IntKind.u64 (SetD.a s), AV.int IntKind.i64 (CellD.kind (SetD.cell s)), AV.lst (nat_lit 1) (List.map byteA (CellD.data (SetD.cell s))), AV.lst (nat_lit 3) (List.map encB (CellD.backs (SetD.cell s))), AV.lst (nat_lit 1) (List.map intA (SetD.chain s)), AV.int IntKind.i64 (↑(SetD.at_ s) : Int), AV.bool (SetD.started s), AV.bool (SetD.over s), AV.int IntKind.i64 (SetD.e s), AV.int IntKind.i64 (SetD.ticks s), AV.int IntKind.i64 (SetD.writes s), AV.lst (nat_lit 22) (SetD.out s)]),
 [AV.agg [AV.int IntKind.i64 (SetD.client s), AV.int IntKind.i64 (SetD.id s), AV.int IntKind.u64 (SetD.epoch s), AV.int IntKind.u64 (SetD.a s), AV.int IntKind.i64 (CellD.kind (SetD.cell s)), AV.lst (nat_lit 1) (List.map byteA (CellD.data (SetD.cell s))), AV.lst (nat_lit 3) (List.map encB (CellD.backs (SetD.cell s))), AV.lst (nat_lit 1) (List.map intA (SetD.chain s)), AV.int IntKind.i64 (↑(SetD.at_ s) : Int), AV.bool (SetD.started s), AV.bool (SetD.over s), AV.int IntKind.i64 (SetD.e s), AV.int IntKind.i64 (SetD.ticks s), AV.int IntKind.i64 (SetD.writes s), AV.lst (nat_lit 22) (SetD.out s)]][nat_lit 0]? = some (AV.agg [AV.int IntKind.i64 (SetD.client s), AV.int IntKind.i64 (SetD.id s), AV.int IntKind.u64 (SetD.epoch s), AV.int IntKind.u64 (SetD.a s), AV.int IntKind.i64 (CellD.kind (SetD.cell s)), AV.lst (nat_lit 1) (List.map byteA (CellD.data (SetD.cell s))), AV.lst (nat_lit 3) (List.map encB (CellD.backs (SetD.cell s))), AV.lst (nat_lit 1) (List.map intA (SetD.chain s)), AV.int IntKind.i64 (↑(SetD.at_ s) : Int), AV.bool (SetD.started s), AV.bool (SetD.over s), AV.int IntKind.i64 (SetD.e s), AV.int IntKind.i64 (SetD.ticks s), AV.int IntKind.i64 (SetD.writes s), AV.lst (nat_lit 22) (SetD.out s)]),
 s.at_ < List.length (List.map intA s.chain),
 (↑s.at_ : Int) = (↑s.at_ : Int),
 (List.map intA s.chain)[s.at_]? = some (.int .i64 u)]) (by kernel_rfl) ⟨rfl, rfl⟩ ⟨?z0, ?z1, ?z2, ?z3, ?z4, trivial⟩
  case z0|z1|z2|z3|z4 => first | exact rfl | (simp [celS, hu, intA] <;> omega) | omega
/-- The message that a settler writes. -/
def wrM (s : SetD) (u : Int) : AV := .agg [.int .i64 1, .int .i64 4, .int .i64 s.client, .int .i64 1, .int .i64 u, .int .i64 s.id, .int .i64 0, .int .u64 s.epoch, .int .u64 s.a, .int .i64 0,
  .int .i64 s.cell.kind, .lst 1 (s.cell.data.map byteA), .lst 3 (s.cell.backs.map encB), .nils, .nils, .int .i64 0, .int .i64 0, .int .i64 0, .int .i64 0, .int .u64 0, .nils, .int .i64 0]
def wrote (s : SetD) (u : Int) : SetD := { s with out := s.out ++ [wrM s u], ticks := 0, writes := s.writes + 1 }
theorem write_ac (s : SetD) {u : Int} (hu : s.chain[s.at_]? = some u) (h1 : s.cell.data.length ≤ 1099511627776) (h2 : s.cell.backs.length ≤ 1099511627776) (h3 : s.out.length ≤ 1000) (h4 : 0 ≤ s.writes) (h5 : s.writes ≤ 1000) :
    ACalls Tryz.prog 49 [.ptr 0 0] (setO s) (.tup []) (setO (wrote s u)) := by
  have q1 := self_rd s
  have q2 := unit_rd s hu
  have q3 := copied_ac s.cell h1 h2
  refine acallsK mixed Tryz.func49 rfl [0] 1000 ([.rd [0, 1] (.agg [.int .i64 4, .int .i64 s.client]), .rd [0, 1] (.agg [.int .i64 1, .int .i64 u]), .call [] false false (encC s.cell) [], .ls (s.out ++ [wrM s u]), .n (s.writes + 1)]) [] [0, 3] (ob := [_,
 _,
 _,
 (List.length s.out + (1 : Nat)) * (256 : Nat) ≤ (140737488355328 : Nat),
 s.out ++ [.agg [.int .i64 (1 : Int), .int .i64 (4 : Int), .int .i64 s.client, .int .i64 (1 : Int), .int .i64 u, .int .i64 s.id, .int .i64 (0 : Int), .int .u64 s.epoch, .int .u64 s.a, .int .i64 (0 : Int), .int .i64 s.cell.kind, .lst (nat_lit 1) (List.map byteA s.cell.data), .lst (nat_lit 3) (List.map encB s.cell.backs), .nils, .nils, .int .i64 (0 : Int), .int .i64 (0 : Int), .int .i64 (0 : Int), .int .i64 (0 : Int), .int .u64 (0 : Int), .nils, .int .i64 (0 : Int)]] = s.out ++ [wrM s u],
 IntKind.i64.wrap (s.writes + (1 : Int)) = s.writes + (1 : Int)]) (by kernel_rfl) ⟨rfl, rfl⟩ ⟨q1, q2, q3, ?z0, ?z1, ?z2, trivial⟩
  case z0|z1|z2 => first | exact rfl | (simp [celS, wrote, wrM, setO] <;> omega) | omega | (exact wrap_i (by omega) (by omega))
def startS (s : SetD) (u : Int) : SetD := wrote { s with started := true } u
theorem start_ac (s : SetD) {u : Int} (hs : s.started = false) (hu : s.chain[s.at_]? = some u) (h1 : s.cell.data.length ≤ 1099511627776) (h2 : s.cell.backs.length ≤ 1099511627776) (h3 : s.out.length ≤ 1000) (h4 : 0 ≤ s.writes) (h5 : s.writes ≤ 1000) :
    ACalls Tryz.prog 11 [.ptr 0 0] (setO s) (.int .i64 0) (setO (startS s u)) := by
  have q := write_ac { s with started := true } hu h1 h2 h3 h4 h5
  refine acallsK mixed Tryz.func11 rfl [0, 2, 3, 6] 1000 ([.f, .call [0, 1] false false (.tup []) (setO (startS s u))]) [] [0, 3] (ob := [s.started = false,
 _]) (by kernel_rfl) ⟨rfl, rfl⟩ ⟨(by first | exact rfl | (simp [hs, celS, setO]; done) | (simp [hs, celS, setO]; omega) | omega), q, trivial⟩
def emptied (s : SetD) : SetD := { s with out := [] }
theorem out_ac (s : SetD) : ACalls Tryz.prog 19 [.ptr 0 0] (setO s) (.row 2 22 s.out.length) (setO (emptied s) ++ [.row 50 22 s.out]) := by
  refine acallsK mixed Tryz.func19 rfl [0, 2, 3, 5] 1000 ([.mkc 0 14 50 22]) [] [0, 2, 1] (ob := []) (by kernel_rfl) ⟨rfl, rfl⟩ trivial
def ended (s : SetD) (e : Int) : SetD := { s with over := true, e := e, cell := if e = 0 then s.cell else ⟨0, [], []⟩ }
/-- What end leaves: the cell is nothing, its lists nil. -/
def setN (s : SetD) (e : Int) : List X.Obj := [.vars 86 [.int .i64 s.client, .int .i64 s.id, .int .u64 s.epoch, .int .u64 s.a, .int .i64 0, .nils, .nils, .lst 1 (s.chain.map intA), .int .i64 s.at_, .bool s.started, .bool true, .int .i64 e, .int .i64 s.ticks, .int .i64 s.writes, .row 1 22 s.out.length], .row 50 22 s.out]
theorem end_ac (s : SetD) (e : Int) (he : e ≠ 0) : ACalls Tryz.prog 55 [.ptr 0 0, .int .i64 e] (setO s) (.tup []) (setN s e) := by
  refine acallsK mixed Tryz.func55 rfl [0, 1, 12] 1000 ([.t]) [] [0, 1] (ob := [(e != (0 : Int)) = true]) (by kernel_rfl) ⟨rfl, rfl⟩ ⟨(by first | exact rfl | (simp [celS, setO, setN, he]; done) | (simp [celS, setO, setN, he]; omega) | omega), trivial⟩
end Go.Proofs.YtidgcfgkcidkiaaGreat.Ch
namespace Go.Proofs.YtidgcfgkcidkiaaGreat.Ch
open Go Go.RowKit Go.Proofs.YtidgcfgkcidkiaaGreat.L Go.Proofs.YtidgcfgkcidkiaaGreat.X
set_option linter.unusedVariables false
set_option linter.unusedSimpArgs false
def inB (n m : Int) : Bool := decide (0 ≤ n) && decide (n < m)
theorem within_ac (n m : Int) : ACalls Tryz.prog 87 [.int .i64 n, .int .i64 m] [] (.bool (inB n m)) [] := by
  by_cases h1 : 0 ≤ n
  · by_cases h2 : n < m
    · rw [show inB n m = true by simp [inB, h1, h2]]
      refine acallsK mixed Tryz.func87 rfl [0, 1, 4] 1000 ([.t, .t]) [] [] (ob := [decide (n ≥ (0 : Int)) = true,
 decide (n < m) = true]) (by kernel_rfl) ⟨rfl, rfl⟩ ⟨?z0, ?z1, trivial⟩
      case z0|z1 => first | exact rfl | (simp [h1, h2] <;> omega) | omega
    · rw [show inB n m = false by simp [inB, h1, h2]]
      refine acallsK mixed Tryz.func87 rfl [0, 1, 4] 1000 ([.t, .f]) [] [] (ob := [decide (n ≥ (0 : Int)) = true,
 decide (n < m) = false]) (by kernel_rfl) ⟨rfl, rfl⟩ ⟨?z2, ?z3, trivial⟩
      case z2|z3 => first | exact rfl | (simp [h1, h2] <;> omega) | omega
  · rw [show inB n m = false by simp [inB, h1]]
    refine acallsK mixed Tryz.func87 rfl [0, 1, 4] 1000 ([.f]) [] [] (ob := [decide (n ≥ (0 : Int)) = false]) (by kernel_rfl) ⟨rfl, rfl⟩ ⟨(by first | exact rfl | (simp [h1]; done) | (simp [h1]; omega) | omega | (omega)), trivial⟩
theorem nils_inv {K : Ctx} {c : Value} (h : VR K .nils c) : c = .slice none 0 0 := by
  cases h with
  | pure h => cases h; rfl
def nilC : AV := .agg [.int .i64 0, .nils, .nils]
def nilL : AV := .agg [.int .u64 0, .nils, .int .i64 0]
end Go.Proofs.YtidgcfgkcidkiaaGreat.Ch
namespace Go.Proofs.YtidgcfgkcidkiaaGreat.Ch
open Go Go.RowKit Go.Proofs.YtidgcfgkcidkiaaGreat.L Go.Proofs.YtidgcfgkcidkiaaGreat.X
set_option linter.unusedVariables false
set_option linter.unusedSimpArgs false
def outB (n : Int) : Bool := !inB n 32
theorem outside_ac (n : Int) : ACalls Tryz.prog 123 [.int .i64 n] [] (.bool (outB n)) [] := by
  by_cases h1 : n < 0
  · rw [show outB n = true by simp [outB, inB]; omega]
    refine acallsK mixed Tryz.func123 rfl [0, 2] 1000 ([.t]) [] [] (ob := [decide (n < (0 : Int)) = true]) (by kernel_rfl) ⟨rfl, rfl⟩ ⟨(by first | exact rfl | (simp [h1]; done) | (simp [h1]; omega) | omega), trivial⟩
  · by_cases h2 : 32 ≤ n
    · rw [show outB n = true by simp [outB, inB]; omega]
      refine acallsK mixed Tryz.func123 rfl [0, 2] 1000 ([.f, .t]) [] [] (ob := [decide (n < (0 : Int)) = false,
 decide (n ≥ (32 : Int)) = true]) (by kernel_rfl) ⟨rfl, rfl⟩ ⟨?z0, ?z1, trivial⟩
      case z0|z1 => first | exact rfl | (simp [h1, h2] <;> omega) | omega | (omega)
    · rw [show outB n = false by simp [outB, inB]; omega]
      refine acallsK mixed Tryz.func123 rfl [0, 2] 1000 ([.f, .f]) [] [] (ob := [decide (n < (0 : Int)) = false,
 decide (n ≥ (32 : Int)) = false]) (by kernel_rfl) ⟨rfl, rfl⟩ ⟨?z2, ?z3, trivial⟩
      case z2|z3 => first | exact rfl | (simp [h1, h2] <;> omega) | omega | (omega)
def lenB (n : Nat) (m : Int) : Bool := decide (0 < n) && decide ((n : Int) ≤ m)
theorem within_seg (l : List AV) (m : Int) : ACalls Tryz.prog 124 [.lst 2 l, .int .i64 m] [] (.bool (lenB l.length m)) [] := by
  by_cases h1 : 0 < l.length
  · by_cases h2 : (l.length : Int) ≤ m
    · rw [show lenB l.length m = true by simp [lenB, h1, h2]]
      refine acallsK mixed Tryz.func124 rfl [0, 1, 4] 1000 ([.n l.length, .t, .n l.length, .t]) [] [] (ob := [(l.length : Int) = (l.length : Int),
 decide ((l.length : Int) > (0 : Int)) = true,
 (l.length : Int) = (l.length : Int),
 decide ((l.length : Int) ≤ m) = true]) (by kernel_rfl) ⟨rfl, rfl⟩ ⟨?z0, ?z1, ?z2, ?z3, trivial⟩
      case z0|z1|z2|z3 => first | exact rfl | (simp [h1, h2] <;> omega) | omega
    · rw [show lenB l.length m = false by simp [lenB, h2]]
      refine acallsK mixed Tryz.func124 rfl [0, 1, 4] 1000 ([.n l.length, .t, .n l.length, .f]) [] [] (ob := [(l.length : Int) = (l.length : Int),
 decide ((l.length : Int) > (0 : Int)) = true,
 (l.length : Int) = (l.length : Int),
 decide ((l.length : Int) ≤ m) = false]) (by kernel_rfl) ⟨rfl, rfl⟩ ⟨?z4, ?z5, ?z6, ?z7, trivial⟩
      case z4|z5|z6|z7 => first | exact rfl | (simp [h1, h2] <;> omega) | omega
  · rw [show lenB l.length m = false by simp [lenB]; omega]
    refine acallsK mixed Tryz.func124 rfl [0, 1, 4] 1000 ([.n l.length, .f]) [] [] (ob := [(l.length : Int) = (l.length : Int),
 decide ((l.length : Int) > (0 : Int)) = false]) (by kernel_rfl) ⟨rfl, rfl⟩ ⟨?z8, ?z9, trivial⟩
    case z8|z9 => first | exact rfl | (simp [h1] <;> omega) | omega | (omega)
theorem within_chains (l : List AV) (m : Int) : ACalls Tryz.prog 145 [.lst 1 l, .int .i64 m] [] (.bool (lenB l.length m)) [] := by
  by_cases h1 : 0 < l.length
  · by_cases h2 : (l.length : Int) ≤ m
    · rw [show lenB l.length m = true by simp [lenB, h1, h2]]
      refine acallsK mixed Tryz.func145 rfl [0, 1, 4] 1000 ([.n l.length, .t, .n l.length, .t]) [] [] (ob := [(l.length : Int) = (l.length : Int),
 decide ((l.length : Int) > (0 : Int)) = true,
 (l.length : Int) = (l.length : Int),
 decide ((l.length : Int) ≤ m) = true]) (by kernel_rfl) ⟨rfl, rfl⟩ ⟨?z0, ?z1, ?z2, ?z3, trivial⟩
      case z0|z1|z2|z3 => first | exact rfl | (simp [h1, h2] <;> omega) | omega
    · rw [show lenB l.length m = false by simp [lenB, h2]]
      refine acallsK mixed Tryz.func145 rfl [0, 1, 4] 1000 ([.n l.length, .t, .n l.length, .f]) [] [] (ob := [(l.length : Int) = (l.length : Int),
 decide ((l.length : Int) > (0 : Int)) = true,
 (l.length : Int) = (l.length : Int),
 decide ((l.length : Int) ≤ m) = false]) (by kernel_rfl) ⟨rfl, rfl⟩ ⟨?z4, ?z5, ?z6, ?z7, trivial⟩
      case z4|z5|z6|z7 => first | exact rfl | (simp [h1, h2] <;> omega) | omega
  · rw [show lenB l.length m = false by simp [lenB]; omega]
    refine acallsK mixed Tryz.func145 rfl [0, 1, 4] 1000 ([.n l.length, .f]) [] [] (ob := [(l.length : Int) = (l.length : Int),
 decide ((l.length : Int) > (0 : Int)) = false]) (by kernel_rfl) ⟨rfl, rfl⟩ ⟨?z8, ?z9, trivial⟩
    case z8|z9 => first | exact rfl | (simp [h1] <;> omega) | omega | (omega)
theorem within_units (l : List AV) (m : Int) : ACalls Tryz.prog 148 [.lst 1 l, .int .i64 m] [] (.bool (lenB l.length m)) [] := by
  by_cases h1 : 0 < l.length
  · by_cases h2 : (l.length : Int) ≤ m
    · rw [show lenB l.length m = true by simp [lenB, h1, h2]]
      refine acallsK mixed Tryz.func148 rfl [0, 1, 4] 1000 ([.n l.length, .t, .n l.length, .t]) [] [] (ob := [(l.length : Int) = (l.length : Int),
 decide ((l.length : Int) > (0 : Int)) = true,
 (l.length : Int) = (l.length : Int),
 decide ((l.length : Int) ≤ m) = true]) (by kernel_rfl) ⟨rfl, rfl⟩ ⟨?z0, ?z1, ?z2, ?z3, trivial⟩
      case z0|z1|z2|z3 => first | exact rfl | (simp [h1, h2] <;> omega) | omega
    · rw [show lenB l.length m = false by simp [lenB, h2]]
      refine acallsK mixed Tryz.func148 rfl [0, 1, 4] 1000 ([.n l.length, .t, .n l.length, .f]) [] [] (ob := [(l.length : Int) = (l.length : Int),
 decide ((l.length : Int) > (0 : Int)) = true,
 (l.length : Int) = (l.length : Int),
 decide ((l.length : Int) ≤ m) = false]) (by kernel_rfl) ⟨rfl, rfl⟩ ⟨?z4, ?z5, ?z6, ?z7, trivial⟩
      case z4|z5|z6|z7 => first | exact rfl | (simp [h1, h2] <;> omega) | omega
  · rw [show lenB l.length m = false by simp [lenB]; omega]
    refine acallsK mixed Tryz.func148 rfl [0, 1, 4] 1000 ([.n l.length, .f]) [] [] (ob := [(l.length : Int) = (l.length : Int),
 decide ((l.length : Int) > (0 : Int)) = false]) (by kernel_rfl) ⟨rfl, rfl⟩ ⟨?z8, ?z9, trivial⟩
    case z8|z9 => first | exact rfl | (simp [h1] <;> omega) | omega | (omega)
def longB (c : List Int) : Bool := !lenB c.length 4
theorem long_ac (c : List Int) : ACalls Tryz.prog 147 [encU c] [] (.bool (longB c)) [] := by
  have q := within_units (c.map intA) 4
  rw [List.length_map] at q
  refine acallsK mixed Tryz.func147 rfl [0, 2] 1000 ([.call [] false true (.bool (lenB c.length 4)) []]) [] [] (ob := [_]) (by kernel_rfl) ⟨rfl, rfl⟩ ⟨q, trivial⟩

theorem idx_units (l : List Int) (hb : l.length ≤ 1000000000000) : ∀ (n k : Nat), l.length = k + n →
    ((l.drop k).any outB = false ∧ ALoop Tryz.prog 0 Tryz.f127.ntmps (loopB Tryz.f127 0) ⟨[(8, .int .i64 k), (7, .int .i64 l.length), (0, .lst 1 (l.map intA)), (1, .fn 123 [])], []⟩ (.exit 0) ⟨[], []⟩) ∨
    ((l.drop k).any outB = true ∧ ∃ i : Nat, ALoop Tryz.prog 0 Tryz.f127.ntmps (loopB Tryz.f127 0) ⟨[(8, .int .i64 k), (7, .int .i64 l.length), (0, .lst 1 (l.map intA)), (1, .fn 123 [])], []⟩ .ret ⟨[(4, .int .i64 i)], []⟩)
  | 0, k, h => by
    refine .inl ⟨by rw [List.drop_of_length_le (by omega)]; rfl, ?_⟩
    refine aloopK mixed [0, 1, 4, 5, 7, 8, 9, 16] 1000 ([.go, .f]) [] [] (S1 := { env := [], objs := [] }) (ob := [decide ((↑k : Int) < (l.length : Int)) = false]) (by kernel_rfl) (by first | exact rfl | exact ⟨rfl, rfl⟩ | (simp []; done)) ⟨(by first | exact rfl | (simp []; done) | (simp []; omega) | omega), trivial⟩
  | n + 1, k, h => by
    obtain ⟨x, hx⟩ := get_of (l := l) (k := k) (by omega)
    have hc := outside_ac x
    rw [drop_of hx, List.any_cons]
    cases hbad : outB x with
    | true =>
      rw [hbad] at hc
      refine .inr ⟨by simp, k, ?_⟩
      refine aloopK mixed [0, 1, 4, 5, 7, 8, 9, 16] 1000 ([.go, .t, .ix k, .el (intA x), .call [] false true (.bool true) []]) [4] [] (S1 := { env := [(4, .int .i64 (↑k : Int))], objs := [] }) (ob := [decide ((↑k : Int) < (l.length : Int)) = true,
 k < List.length (List.map intA l),
 (↑k : Int) = (↑k : Int),
 (List.map intA l)[k]? = some (.int .i64 x),
 ACalls Tryz.prog 123 [.int .i64 x] [] (.bool true) []]) (by kernel_rfl) (by first | exact rfl | exact ⟨rfl, rfl⟩ | (simp [hx, intA]; done)) ⟨?z0, ?z1, ?z2, ?z3, ?q66_1, trivial⟩
      case z0|z1|z2|z3 => first | exact rfl | (simp [hx, intA] <;> omega) | omega
      exact hc
    | false =>
      rw [hbad] at hc
      obtain ⟨ih1, ih⟩ | ⟨ih1, i, ih⟩ := idx_units l hb n (k + 1) (by omega)
      · refine .inl ⟨by simp [ih1], ?_⟩
        refine aloopK mixed [0, 1, 4, 5, 7, 8, 9, 16] 1000 ([.go, .t, .ix k, .el (intA x), .call [] false true (.bool false) [], .n ((k + 1 : Nat) : Int), .lp [8, 7, 0, 1] [] (.exit 0) ⟨[], []⟩]) [] [] (S1 := { env := [], objs := [] }) (ob := [decide ((↑k : Int) < (l.length : Int)) = true,
 k < List.length (List.map intA l),
 (↑k : Int) = (↑k : Int),
 (List.map intA l)[k]? = some (.int .i64 x),
 ACalls Tryz.prog 123 [.int .i64 x] [] (.bool false) [],
 IntKind.i64.wrap ((↑k : Int) + (1 : Int)) = (↑(k + (1 : Nat)) : Int),
 ALoop Tryz.prog 0 19 (loopB Tryz.f127 0) { env := [(8, .int .i64 (↑(k + 1) : Int)), (7, .int .i64 (l.length : Int)), (0, .lst 1 (List.map intA l)), (1, .fn 123 [])], objs := [] } (Ex.exit 0) { env := [], objs := [] }]) (by kernel_rfl) (by first | exact rfl | exact ⟨rfl, rfl⟩ | (simp [hx, intA]; done) | (first | omega | exact wrap64 (by omega))) ⟨?z4, ?z5, ?z6, ?z7, ?q72_1, ?z8, ?q72_2, trivial⟩
        case z4|z5|z6|z7|z8 => first | exact rfl | (simp [hx, intA] <;> omega) | omega | (first | omega | exact wrap64 (by omega))
        · exact hc
        · exact ih
      · refine .inr ⟨by simp [ih1], i, ?_⟩
        refine aloopK mixed [0, 1, 4, 5, 7, 8, 9, 16] 1000 ([.go, .t, .ix k, .el (intA x), .call [] false true (.bool false) [], .n ((k + 1 : Nat) : Int), .lp [8, 7, 0, 1] [] .ret ⟨[(4, .int .i64 i)], []⟩]) [4] [] (S1 := { env := [(4, .int .i64 (↑i : Int))], objs := [] }) (ob := [decide ((↑k : Int) < (l.length : Int)) = true,
 k < List.length (List.map intA l),
 (↑k : Int) = (↑k : Int),
 (List.map intA l)[k]? = some (.int .i64 x),
 ACalls Tryz.prog 123 [.int .i64 x] [] (.bool false) [],
 IntKind.i64.wrap ((↑k : Int) + (1 : Int)) = (↑(k + (1 : Nat)) : Int),
 ALoop Tryz.prog 0 19 (loopB Tryz.f127 0) { env := [(8, .int .i64 (↑(k + 1) : Int)), (7, .int .i64 (l.length : Int)), (0, .lst 1 (List.map intA l)), (1, .fn 123 [])], objs := [] } Ex.ret { env := [(4, .int .i64 (↑i : Int))], objs := [] }]) (by kernel_rfl) (by first | exact rfl | exact ⟨rfl, rfl⟩ | (simp [hx, intA]; done) | (first | omega | exact wrap64 (by omega))) ⟨?z9, ?z10, ?z11, ?z12, ?q76_1, ?z13, ?q76_2, trivial⟩
        case z9|z10|z11|z12|z13 => first | exact rfl | (simp [hx, intA] <;> omega) | omega | (first | omega | exact wrap64 (by omega))
        · exact hc
        · exact ih
theorem has_units (l : List Int) (hb : l.length ≤ 1000000000000) : ACalls Tryz.prog 104 [.lst 1 (l.map intA), .fn 123 []] [] (.bool (l.any outB)) [] := by
  obtain ⟨ih1, ih⟩ | ⟨ih1, i, ih⟩ := idx_units l hb l.length 0 (by omega)
  · rw [List.drop_zero] at ih1
    have hi : ACalls Tryz.prog 127 [.lst 1 (l.map intA), .fn 123 []] [] (.int .i64 (-1)) [] := by
      refine acallsK mixed Tryz.func127 rfl [0, 1, 4, 5, 7, 8, 9, 16] 1000 ([.n l.length, .lp [8, 7, 0, 1] [] (.exit 0) ⟨[], []⟩]) [] [] (v1 := .int .i64 (-1)) (objs1 := []) (ob := [((List.map intA l).length : Int) = (l.length : Int),
 ALoop Tryz.prog 0 19 (loopB Tryz.f127 0) { env := [(8, .int .i64 0), (7, .int .i64 (l.length : Int)), (0, .lst 1 (List.map intA l)), (1, .fn 123 [])], objs := [] } (Ex.exit 0) { env := [], objs := [] }]) (by kernel_rfl) (by first | exact rfl | exact ⟨rfl, rfl⟩ | (simp []; done)) ⟨(by first | exact rfl | (simp []; done) | (simp []; omega) | omega), ?q83_1, trivial⟩
      exact ih
    rw [ih1]
    refine acallsK mixed Tryz.func104 rfl [0, 1, 4] 1000 ([.call [] false true (.int .i64 (-1)) [], .f]) [] [] (v1 := .bool false) (objs1 := []) (ob := [ACalls Tryz.prog 127 [.lst 1 (List.map intA l), .fn 123 []] [] (.int .i64 (-1)) [],
 decide ((-1 : Int) ≥ (0 : Int)) = false]) (by kernel_rfl) (by first | exact rfl | exact ⟨rfl, rfl⟩ | (simp []; done)) ⟨?q86_1, (by first | exact rfl | (simp []; done) | (simp []; omega) | omega), trivial⟩
    exact hi
  · rw [List.drop_zero] at ih1
    have hi : ACalls Tryz.prog 127 [.lst 1 (l.map intA), .fn 123 []] [] (.int .i64 i) [] := by
      refine acallsK mixed Tryz.func127 rfl [0, 1, 4, 5, 7, 8, 9, 16] 1000 ([.n l.length, .lp [8, 7, 0, 1] [] .ret ⟨[(4, .int .i64 i)], []⟩]) [] [] (v1 := .int .i64 (↑i : Int)) (objs1 := []) (ob := [((List.map intA l).length : Int) = (l.length : Int),
 ALoop Tryz.prog 0 19 (loopB Tryz.f127 0) { env := [(8, .int .i64 0), (7, .int .i64 (l.length : Int)), (0, .lst 1 (List.map intA l)), (1, .fn 123 [])], objs := [] } Ex.ret { env := [(4, .int .i64 (↑i : Int))], objs := [] }]) (by kernel_rfl) (by first | exact rfl | exact ⟨rfl, rfl⟩ | (simp []; done)) ⟨(by first | exact rfl | (simp []; done) | (simp []; omega) | omega), ?q90_1, trivial⟩
      exact ih
    rw [ih1]
    refine acallsK mixed Tryz.func104 rfl [0, 1, 4] 1000 ([.call [] false true (.int .i64 i) [], .t]) [] [] (v1 := .bool true) (objs1 := []) (ob := [ACalls Tryz.prog 127 [.lst 1 (List.map intA l), .fn 123 []] [] (.int .i64 (↑i : Int)) [],
 decide ((↑i : Int) ≥ (0 : Int)) = true]) (by kernel_rfl) (by first | exact rfl | exact ⟨rfl, rfl⟩ | (simp []; done)) ⟨?q93_1, (by first | exact rfl | (simp []; done) | (simp []; omega) | omega), trivial⟩
    exact hi

theorem idx_chains (l : List (List Int)) (hb : l.length ≤ 1000000000000) : ∀ (n k : Nat), l.length = k + n →
    ((l.drop k).any longB = false ∧ ALoop Tryz.prog 0 Tryz.f153.ntmps (loopB Tryz.f153 0) ⟨[(8, .int .i64 k), (7, .int .i64 l.length), (0, .lst 1 (l.map encU)), (1, .fn 147 [])], []⟩ (.exit 0) ⟨[], []⟩) ∨
    ((l.drop k).any longB = true ∧ ∃ i : Nat, ALoop Tryz.prog 0 Tryz.f153.ntmps (loopB Tryz.f153 0) ⟨[(8, .int .i64 k), (7, .int .i64 l.length), (0, .lst 1 (l.map encU)), (1, .fn 147 [])], []⟩ .ret ⟨[(4, .int .i64 i)], []⟩)
  | 0, k, h => by
    refine .inl ⟨by rw [List.drop_of_length_le (by omega)]; rfl, ?_⟩
    refine aloopK mixed [0, 1, 4, 5, 7, 8, 9, 16] 1000 ([.go, .f]) [] [] (S1 := { env := [], objs := [] }) (ob := [decide ((↑k : Int) < (l.length : Int)) = false]) (by kernel_rfl) (by first | exact rfl | exact ⟨rfl, rfl⟩ | (simp []; done)) ⟨(by first | exact rfl | (simp []; done) | (simp []; omega) | omega), trivial⟩
  | n + 1, k, h => by
    obtain ⟨x, hx⟩ := get_of (l := l) (k := k) (by omega)
    have hc := long_ac x
    rw [drop_of hx, List.any_cons]
    cases hbad : longB x with
    | true =>
      rw [hbad] at hc
      refine .inr ⟨by simp, k, ?_⟩
      refine aloopK mixed [0, 1, 4, 5, 7, 8, 9, 16] 1000 ([.go, .t, .ix k, .el (encU x), .call [] false true (.bool true) []]) [4] [] (S1 := { env := [(4, .int .i64 (↑k : Int))], objs := [] }) (ob := [decide ((↑k : Int) < (l.length : Int)) = true,
 k < List.length (List.map encU l),
 (↑k : Int) = (↑k : Int),
 (List.map encU l)[k]? = some (.lst (nat_lit 1) (List.map intA x)),
 ACalls Tryz.prog 147 [.lst 1 (List.map intA x)] [] (.bool true) []]) (by kernel_rfl) (by first | exact rfl | exact ⟨rfl, rfl⟩ | (simp [hx, encU]; done)) ⟨?z0, ?z1, ?z2, ?z3, ?q110_1, trivial⟩
      case z0|z1|z2|z3 => first | exact rfl | (simp [hx, encU] <;> omega) | omega
      exact hc
    | false =>
      rw [hbad] at hc
      obtain ⟨ih1, ih⟩ | ⟨ih1, i, ih⟩ := idx_chains l hb n (k + 1) (by omega)
      · refine .inl ⟨by simp [ih1], ?_⟩
        refine aloopK mixed [0, 1, 4, 5, 7, 8, 9, 16] 1000 ([.go, .t, .ix k, .el (encU x), .call [] false true (.bool false) [], .n ((k + 1 : Nat) : Int), .lp [8, 7, 0, 1] [] (.exit 0) ⟨[], []⟩]) [] [] (S1 := { env := [], objs := [] }) (ob := [decide ((↑k : Int) < (l.length : Int)) = true,
 k < List.length (List.map encU l),
 (↑k : Int) = (↑k : Int),
 (List.map encU l)[k]? = some (.lst (nat_lit 1) (List.map intA x)),
 ACalls Tryz.prog 147 [.lst 1 (List.map intA x)] [] (.bool false) [],
 IntKind.i64.wrap ((↑k : Int) + (1 : Int)) = (↑(k + (1 : Nat)) : Int),
 ALoop Tryz.prog 0 19 (loopB Tryz.f153 0) { env := [(8, .int .i64 (↑(k + 1) : Int)), (7, .int .i64 (l.length : Int)), (0, .lst 1 (List.map encU l)), (1, .fn 147 [])], objs := [] } (Ex.exit 0) { env := [], objs := [] }]) (by kernel_rfl) (by first | exact rfl | exact ⟨rfl, rfl⟩ | (simp [hx, encU]; done) | (first | omega | exact wrap64 (by omega))) ⟨?z4, ?z5, ?z6, ?z7, ?q116_1, ?z8, ?q116_2, trivial⟩
        case z4|z5|z6|z7|z8 => first | exact rfl | (simp [hx, encU] <;> omega) | omega | (first | omega | exact wrap64 (by omega))
        · exact hc
        · exact ih
      · refine .inr ⟨by simp [ih1], i, ?_⟩
        refine aloopK mixed [0, 1, 4, 5, 7, 8, 9, 16] 1000 ([.go, .t, .ix k, .el (encU x), .call [] false true (.bool false) [], .n ((k + 1 : Nat) : Int), .lp [8, 7, 0, 1] [] .ret ⟨[(4, .int .i64 i)], []⟩]) [4] [] (S1 := { env := [(4, .int .i64 (↑i : Int))], objs := [] }) (ob := [decide ((↑k : Int) < (l.length : Int)) = true,
 k < List.length (List.map encU l),
 (↑k : Int) = (↑k : Int),
 (List.map encU l)[k]? = some (.lst (nat_lit 1) (List.map intA x)),
 ACalls Tryz.prog 147 [.lst 1 (List.map intA x)] [] (.bool false) [],
 IntKind.i64.wrap ((↑k : Int) + (1 : Int)) = (↑(k + (1 : Nat)) : Int),
 ALoop Tryz.prog 0 19 (loopB Tryz.f153 0) { env := [(8, .int .i64 (↑(k + 1) : Int)), (7, .int .i64 (l.length : Int)), (0, .lst 1 (List.map encU l)), (1, .fn 147 [])], objs := [] } Ex.ret { env := [(4, .int .i64 (↑i : Int))], objs := [] }]) (by kernel_rfl) (by first | exact rfl | exact ⟨rfl, rfl⟩ | (simp [hx, encU]; done) | (first | omega | exact wrap64 (by omega))) ⟨?z9, ?z10, ?z11, ?z12, ?q120_1, ?z13, ?q120_2, trivial⟩
        case z9|z10|z11|z12|z13 => first | exact rfl | (simp [hx, encU] <;> omega) | omega | (first | omega | exact wrap64 (by omega))
        · exact hc
        · exact ih
theorem has_chains (l : List (List Int)) (hb : l.length ≤ 1000000000000) : ACalls Tryz.prog 146 [.lst 1 (l.map encU), .fn 147 []] [] (.bool (l.any longB)) [] := by
  obtain ⟨ih1, ih⟩ | ⟨ih1, i, ih⟩ := idx_chains l hb l.length 0 (by omega)
  · rw [List.drop_zero] at ih1
    have hi : ACalls Tryz.prog 153 [.lst 1 (l.map encU), .fn 147 []] [] (.int .i64 (-1)) [] := by
      refine acallsK mixed Tryz.func153 rfl [0, 1, 4, 5, 7, 8, 9, 16] 1000 ([.n l.length, .lp [8, 7, 0, 1] [] (.exit 0) ⟨[], []⟩]) [] [] (v1 := .int .i64 (-1)) (objs1 := []) (ob := [((List.map encU l).length : Int) = (l.length : Int),
 ALoop Tryz.prog 0 19 (loopB Tryz.f153 0) { env := [(8, .int .i64 0), (7, .int .i64 (l.length : Int)), (0, .lst 1 (List.map encU l)), (1, .fn 147 [])], objs := [] } (Ex.exit 0) { env := [], objs := [] }]) (by kernel_rfl) (by first | exact rfl | exact ⟨rfl, rfl⟩ | (simp []; done)) ⟨(by first | exact rfl | (simp []; done) | (simp []; omega) | omega), ?q127_1, trivial⟩
      exact ih
    rw [ih1]
    refine acallsK mixed Tryz.func146 rfl [0, 1, 4] 1000 ([.call [] false true (.int .i64 (-1)) [], .f]) [] [] (v1 := .bool false) (objs1 := []) (ob := [ACalls Tryz.prog 153 [.lst 1 (List.map encU l), .fn 147 []] [] (.int .i64 (-1)) [],
 decide ((-1 : Int) ≥ (0 : Int)) = false]) (by kernel_rfl) (by first | exact rfl | exact ⟨rfl, rfl⟩ | (simp []; done)) ⟨?q130_1, (by first | exact rfl | (simp []; done) | (simp []; omega) | omega), trivial⟩
    exact hi
  · rw [List.drop_zero] at ih1
    have hi : ACalls Tryz.prog 153 [.lst 1 (l.map encU), .fn 147 []] [] (.int .i64 i) [] := by
      refine acallsK mixed Tryz.func153 rfl [0, 1, 4, 5, 7, 8, 9, 16] 1000 ([.n l.length, .lp [8, 7, 0, 1] [] .ret ⟨[(4, .int .i64 i)], []⟩]) [] [] (v1 := .int .i64 (↑i : Int)) (objs1 := []) (ob := [((List.map encU l).length : Int) = (l.length : Int),
 ALoop Tryz.prog 0 19 (loopB Tryz.f153 0) { env := [(8, .int .i64 0), (7, .int .i64 (l.length : Int)), (0, .lst 1 (List.map encU l)), (1, .fn 147 [])], objs := [] } Ex.ret { env := [(4, .int .i64 (↑i : Int))], objs := [] }]) (by kernel_rfl) (by first | exact rfl | exact ⟨rfl, rfl⟩ | (simp []; done)) ⟨(by first | exact rfl | (simp []; done) | (simp []; omega) | omega), ?q134_1, trivial⟩
      exact ih
    rw [ih1]
    refine acallsK mixed Tryz.func146 rfl [0, 1, 4] 1000 ([.call [] false true (.int .i64 i) [], .t]) [] [] (v1 := .bool true) (objs1 := []) (ob := [ACalls Tryz.prog 153 [.lst 1 (List.map encU l), .fn 147 []] [] (.int .i64 (↑i : Int)) [],
 decide ((↑i : Int) ≥ (0 : Int)) = true]) (by kernel_rfl) (by first | exact rfl | exact ⟨rfl, rfl⟩ | (simp []; done)) ⟨?q137_1, (by first | exact rfl | (simp []; done) | (simp []; omega) | omega), trivial⟩
    exact hi
end Go.Proofs.YtidgcfgkcidkiaaGreat.Ch
namespace Go.Proofs.YtidgcfgkcidkiaaGreat.Ch
open Go Go.RowKit Go.Proofs.YtidgcfgkcidkiaaGreat.L Go.Proofs.YtidgcfgkcidkiaaGreat.X
set_option linter.unusedVariables false
set_option linter.unusedSimpArgs false
set_option maxRecDepth 100000 in
set_option maxHeartbeats 1000000 in
theorem grow_calls (n : Nat) (hn : n ≤ 1099511627776) (w : World) : Calls Tryz.prog 150 #[.slice none 0 0, .int .i64 n] w fun e w' => ∃ v', e = .returned v' ∧ Own (numE .i64) 3 nowhere w' v' [] ∧ (∀ b, rowOf v' = some b → w.heap.size ≤ b) ∧ Keeps (fun _ => False) w w' := by
  by_cases h0 : n = 0
  · subst h0
    go_enter Tryz.func150, Tryz.ntmps150
    go_wp2
    go_ret
    exact ⟨_, rfl, own_nil _ _ _ _, by simp [rowOf], Keeps.refl _ _⟩
  · obtain ⟨i0, hi0, hz, hsz, hby⟩ := info_parts info_int
    have hap : ∀ ty, _ := fun ty => run_append_zeros_grow (P := Tryz.prog) w 46 3 ty 3 i0 _ .i64 Tryz.underlying46 Tryz.underlying3 hi0 hz none 0 0 n [] (by simp) (by simp) (by rw [hsz]; decide) (by omega) (by omega) (by omega) (by rw [hby]; omega)
    have hap' := hap 46
    simp only [Nat.zero_add, List.nil_append] at hap'
    obtain ⟨cap, hcap⟩ : ∃ cap, cap = grownCap w n 0 3 := ⟨_, rfl⟩
    have hc1 : n ≤ cap := by rw [hcap]; exact grownCap_ge _ _ _ _
    have hc2 : cap ≤ maxLen := by rw [hcap]; exact grownCap_le_maxLen _ _ _ _ (by unfold maxLen; omega)
    rw [← hcap] at hap'
    obtain ⟨L0, hL0⟩ : ∃ L0, L0 = (Builtin.zeroCells (Value.int .i64 0).cells n).toList ++ (Builtin.zeroCells (Value.int .i64 0).cells (cap - n)).toList := ⟨_, rfl⟩
    rw [← hL0] at hap'
    have hzl : ∀ n, (Builtin.zeroCells (Value.int .i64 0).cells n).toList.length = n := fun n => by rw [Array.length_toList, size_zeroCells]; simp [Value.cells]
    have hL0l : L0.length = cap := by rw [hL0, List.length_append, hzl, hzl]; omega
    obtain ⟨W1, hW1⟩ : ∃ W1, W1 = w.drew.alloc (.cells L0.toArray 3) := ⟨_, rfl⟩
    rw [← hW1] at hap'
    have hW1b : W1.heap[w.heap.size]? = some (.cells L0.toArray 3 (0, 0)) := by rw [hW1]; exact heap_alloc_new w.drew _
    have hW1k : Keeps (fun _ => False) w W1 := by rw [hW1]; exact (Keeps.refl _ _).drew.alloc _
    have hn1 : 0 < n := by omega
    have hc0 : ¬ cap = 0 := by omega
    have hc3 : cap ≤ 9223372036854775807 := by unfold maxLen at hc2; omega
    have HAP := Lib.hid hap'
    clear hi0 hz hap hap' hL0 hW1 hcap hby hsz
    go_enter Tryz.func150, Tryz.ntmps150
    go_wp2_with (at_builtin; refine Lib.wpList_append_run _ rfl _ _ 46 3 rfl _ _ rfl rfl _ _ HAP.out ?_)
    go_ret
    refine ⟨_, rfl, ⟨_, cap, rfl, Nat.zero_le _, hc2, .inr ⟨w.heap.size, [], [], L0, rfl, hW1b, ?_, .nil⟩⟩, ?_, hW1k⟩
    · rw [hL0l]; show cap = (cap - 0) * 1; omega
    · intro b hb; simp [rowOf, hc0] at hb; omega
theorem grow_ac (n : Nat) (hn : n ≤ 1099511627776) : ACalls Tryz.prog 150 [.nils, .int .i64 n] [] (.row 0 1 0) [.row 3 1 []] :=
  FlatOf.newrow (l := ([] : List Int)) (numE_flat .i64) ⟨_, Tryz.func150, rfl, rfl⟩ fun K w cs hR hcs => by
    obtain ⟨v, vs, rfl, hv, hvs⟩ := hcs.cons_inv
    obtain ⟨v2, vs2, rfl, hv2, hvs2⟩ := hvs.cons_inv
    obtain rfl := hvs2.nil_inv
    have h1 : v = .slice none 0 0 := by
      cases hv with
      | pure h => cases h; rfl
    rw [h1, hv2.int_inv]
    exact grow_calls n hn w
end Go.Proofs.YtidgcfgkcidkiaaGreat.Ch
namespace Go.Proofs.YtidgcfgkcidkiaaGreat.Ch
open Go Go.RowKit Go.Proofs.YtidgcfgkcidkiaaGreat.L Go.Proofs.YtidgcfgkcidkiaaGreat.X
set_option linter.unusedVariables false
set_option linter.unusedSimpArgs false
def catL (l : List (List Int)) : List Int := l.flatten
theorem catL_step {l : List (List Int)} {k : Nat} {x : List Int} (h : l[k]? = some x) : catL (l.take (k + 1)) = catL (l.take k) ++ x := by
  unfold catL; rw [List.take_add_one, h, List.flatten_append]; simp
theorem catL_take (l : List (List Int)) (k : Nat) : (catL (l.take k)).length ≤ (catL l).length := by
  have : catL l = catL (l.take k) ++ catL (l.drop k) := by unfold catL; rw [← List.flatten_append, List.take_append_drop]
  rw [this, List.length_append]; omega
theorem size_loop (l : List (List Int)) (hb : (catL l).length ≤ 1099511627776) (hl : l.length ≤ 1099511627776) : ∀ (n k : Nat), l.length = k + n →
    ALoop Tryz.prog 0 Tryz.f143.ntmps (loopB Tryz.f143 0) ⟨[(11, .int .i64 k), (10, .int .i64 l.length), (9, .lst 1 (l.map encU)), (3, .int .i64 (catL (l.take k)).length), (0, .lst 1 (l.map encU))], []⟩ (.exit 0) ⟨[(3, .int .i64 (catL l).length), (0, .lst 1 (l.map encU))], []⟩
  | 0, k, h => by
    rw [List.take_of_length_le (by omega)]
    refine aloopK mixed [0, 2, 3, 5, 6, 8, 9, 10, 11, 12, 20, 25, 26, 27, 28] 1000 ([.go, .f]) [3, 0] [] (ob := [decide ((↑k : Int) < (l.length : Int)) = false]) (by kernel_rfl) rfl ⟨(by first | exact rfl | (simp []; done) | (simp []; omega) | omega), trivial⟩
  | n + 1, k, h => by
    obtain ⟨x, hx⟩ := get_of (l := l) (k := k) (by omega)
    have ih := size_loop l hb hl n (k + 1) (by omega)
    have h1 := catL_take l (k + 1)
    rw [catL_step hx] at ih h1
    generalize catL (l.take k) = q at ih h1
    have hw : IntKind.i64.wrap ((q.length : Int) + (x.length : Int)) = (((q ++ x).length : Nat) : Int) := by
      rw [List.length_append] at h1 ⊢
      simp [IntKind.wrap, IntKind.bits, IntKind.signed]; omega
    refine aloopK mixed [0, 2, 3, 5, 6, 8, 9, 10, 11, 12, 20, 25, 26, 27, 28] 1000 ([.go, .t, .ix k, .el (encU x), .n x.length, .n (((q ++ x).length : Nat) : Int), .f, .n ((k + 1 : Nat) : Int), .lp [11, 10, 9, 3, 0] [] (.exit 0) ⟨[(3, .int .i64 (catL l).length), (0, .lst 1 (l.map encU))], []⟩]) [3, 0] [] (ob := [decide ((↑k : Int) < (l.length : Int)) = true,
 k < List.length (List.map encU l),
 (↑k : Int) = (↑k : Int),
 (List.map encU l)[k]? = some (.lst (nat_lit 1) (List.map intA x)),
 ((List.map intA x).length : Int) = (x.length : Int),
 IntKind.i64.wrap ((q.length : Int) + (x.length : Int)) = ((q ++ x).length : Int),
 decide (((q ++ x).length : Int) < (0 : Int)) = false,
 IntKind.i64.wrap ((↑k : Int) + (1 : Int)) = (↑(k + (1 : Nat)) : Int),
 _]) (by kernel_rfl) rfl ⟨?z0, ?z1, ?z2, ?z3, ?z4, ?z5, ?z6, ?z7, ih, trivial⟩
    case z0|z1|z2|z3|z4|z5|z6|z7 => first | exact rfl | (simp [hx, encU] <;> omega) | omega | (first | omega | exact hw | exact wrap64 (by omega))
theorem cat_loop (l : List (List Int)) (hb : (catL l).length ≤ 1099511627776) (hl : l.length ≤ 1099511627776) : ∀ (n k : Nat), l.length = k + n →
    ALoop Tryz.prog 0 Tryz.f143.ntmps (loopB Tryz.f143 1) ⟨[(27, .int .i64 k), (26, .int .i64 l.length), (25, .lst 1 (l.map encU)), (6, .row 0 1 (catL (l.take k)).length)], [.row 3 1 ((catL (l.take k)).map intA)]⟩ (.exit 2) ⟨[(6, .row 0 1 (catL l).length)], [.row 3 1 ((catL l).map intA)]⟩
  | 0, k, h => by
    rw [List.take_of_length_le (by omega)]
    refine aloopK mixed [0, 2, 3, 5, 6, 8, 9, 10, 11, 12, 20, 25, 26, 27, 28] 1000 ([.go, .f]) [6] [0] (ob := [decide ((↑k : Int) < (l.length : Int)) = false]) (by kernel_rfl) rfl ⟨(by first | exact rfl | (simp []; done) | (simp []; omega) | omega), trivial⟩
  | n + 1, k, h => by
    obtain ⟨x, hx⟩ := get_of (l := l) (k := k) (by omega)
    have ih := cat_loop l hb hl n (k + 1) (by omega)
    have h1 := catL_take l (k + 1)
    rw [catL_step hx] at ih h1
    rw [List.length_append] at h1
    generalize catL (l.take k) = q at ih h1
    refine aloopK mixed [0, 2, 3, 5, 6, 8, 9, 10, 11, 12, 20, 25, 26, 27, 28] 1000 ([.go, .t, .ix k, .el (encU x), .ls ((q ++ x).map intA), .n ((k + 1 : Nat) : Int), .lp [27, 26, 25, 6] [1] (.exit 2) ⟨[(6, .row 0 1 (catL l).length)], [.row 3 1 ((catL l).map intA)]⟩]) [6] [0] (ob := [decide ((↑k : Int) < (l.length : Int)) = true,
 k < List.length (List.map encU l),
 (↑k : Int) = (↑k : Int),
 (List.map encU l)[k]? = some (.lst (nat_lit 1) (List.map intA x)),
 (List.length (List.map intA q) + List.length (List.map intA x)) * (8 : Nat) ≤ (140737488355328 : Nat),
 List.map intA q ++ List.map intA x = List.map intA (q ++ x),
 IntKind.i64.wrap ((↑k : Int) + (1 : Int)) = (↑(k + (1 : Nat)) : Int),
 ALoop Tryz.prog 0 36 (loopB Tryz.f143 1) { env := [(27, .int .i64 (↑(k + 1) : Int)), (26, .int .i64 (l.length : Int)), (25, .lst 1 (List.map encU l)), (6, .row 0 1 (List.length (List.map intA (q ++ x))))], objs := [.row 3 1 (List.map intA (q ++ x))] } (Ex.exit 2) { env := [(6, .row 0 1 (List.length (catL l)))], objs := [.row 3 1 (List.map intA (catL l))] }]) (by kernel_rfl) rfl ⟨?z0, ?z1, ?z2, ?z3, ?z4, ?z5, ?z6, ?q42_1, trivial⟩
    case z0|z1|z2|z3|z4|z5|z6 => first | exact rfl | (simp [hx, encU] <;> omega) | omega | (first | (rw [List.map_append]; done) | exact wrap64 (by omega))
    rw [List.length_map]
    exact ih
theorem concat_ac (l : List (List Int)) (hb : (catL l).length ≤ 1099511627776) (hl : l.length ≤ 1099511627776) : ACalls Tryz.prog 143 [.lst 1 (l.map encU)] [] (.row 0 1 (catL l).length) [.row 3 1 ((catL l).map intA)] := by
  have q1 := size_loop l hb hl l.length 0 (by omega)
  have q2 := cat_loop l hb hl l.length 0 (by omega)
  have q3 := grow_ac (catL l).length hb
  rw [List.take_zero, show catL [] = [] from rfl] at q1 q2
  refine acallsK mixed Tryz.func143 rfl [0, 2, 3, 5, 6, 8, 9, 10, 11, 12, 20, 25, 26, 27, 28] 1000 ([.n l.length, .lp [11, 10, 9, 3, 0] [] (.exit 0) ⟨[(3, .int .i64 (catL l).length), (0, .lst 1 (l.map encU))], []⟩, .call [] false false (.row 0 1 0) [.row 3 1 []], .n l.length, .lp [27, 26, 25, 6] [0] (.exit 2) ⟨[(6, .row 0 1 (catL l).length)], [.row 3 1 ((catL l).map intA)]⟩]) [] [0] (ob := [((List.map encU l).length : Int) = (l.length : Int),
 _,
 _,
 ((List.map encU l).length : Int) = (l.length : Int),
 _]) (by kernel_rfl) ⟨rfl, rfl⟩ ⟨?z0, q1, q3, ?z1, q2, trivial⟩
  case z0|z1 => first | exact rfl | (simp [] <;> omega) | omega
end Go.Proofs.YtidgcfgkcidkiaaGreat.Ch
namespace Go.Proofs.YtidgcfgkcidkiaaGreat.Ch
open Go Go.RowKit Go.Proofs.YtidgcfgkcidkiaaGreat.L Go.Proofs.YtidgcfgkcidkiaaGreat.X
set_option linter.unusedVariables false
set_option linter.unusedSimpArgs false
theorem over_no (s : SetD) (ho : s.over = false) : ACalls Tryz.prog 21 [.ptr 0 0] (setO s) (.tup [nilC, .int .i64 0, .bool false]) (setO s) := by
  refine acallsK mixed Tryz.func21 rfl [0, 2, 3, 4, 13] 1000 ([.f]) [] [0, 1] (ob := [s.over = false]) (by kernel_rfl) ⟨rfl, rfl⟩ ⟨(by first | exact rfl | (simp [ho, celS, setO, nilC]; done) | (simp [ho, celS, setO, nilC]; omega) | omega), trivial⟩
end Go.Proofs.YtidgcfgkcidkiaaGreat.Ch
namespace Go.Proofs.YtidgcfgkcidkiaaGreat.X
open Go Go.Proofs.YtidgcfgkcidkiaaGreat.L Go.RowKit Go.ChangeShapes Go.WideShapes Go.ChangeAt
set_option linter.unusedVariables false
set_option linter.unusedSimpArgs false
section
variable {P : Program}
/-- What reads at a type stands as a reading says, and weighs no more than what was read. -/
def OpensB (P : Program) {α : Type} (R : Rep α) (T : TypeId) (wt : α → Nat) : Prop :=
  ∀ (H : Type) (enc : TypeId × Value → H) (w : World) (fuel : Nat) (cs : List Value) (x : DataW H × List MemPlace), DataW.trod enc P w 0 (fun _ => true) true fuel T cs = some x → ∃ y, R.K anyA w cs y ∧ wt y ≤ Rows.uptoBulk x.1
theorem bulk_pos {H : Type} (d : DataW H) : 1 ≤ Rows.uptoBulk d := by
  cases d with
  | lit l => cases l <;> simp [Rows.uptoBulk]
  | _ => simp [Rows.uptoBulk]
theorem OpensB.of {α : Type} {R : Rep α} {T : TypeId} (h : Opens P R T) : OpensB P R T fun _ => 1 := by
  intro H enc w fuel cs x hx
  obtain ⟨y, hy⟩ := h enc w fuel cs x hx
  exact ⟨y, hy, bulk_pos _⟩
theorem OpensB.num {T : TypeId} {k : IntKind} (ht : P.underlying T = some (.int k)) : OpensB P (L.num k) T fun _ => 1 := OpensB.of (opens_num ht)
theorem OpensB.bool {T : TypeId} (ht : P.underlying T = some .bool) : OpensB P boolR T fun _ => 1 := OpensB.of (opens_bool ht)
def wtL {α : Type} (wt : α → Nat) (l : List α) : Nat := (l.map wt).sum + 1
theorem wtL_len {α : Type} {wt : α → Nat} (h : ∀ x, 1 ≤ wt x) (l : List α) : l.length + 1 ≤ wtL wt l := by
  unfold wtL
  induction l with
  | nil => simp
  | cons x l ih => have := h x; simp only [List.map_cons, List.sum_cons, List.length_cons]; omega
theorem wtL_mem {α : Type} {wt : α → Nat} {l : List α} {x : α} (h : x ∈ l) : wt x + 1 ≤ wtL wt l := by
  unfold wtL
  induction l with
  | nil => cases h
  | cons y l ih =>
    simp only [List.map_cons, List.sum_cons]
    rcases List.mem_cons.1 h with rfl | h
    · omega
    · have := ih h; omega
theorem wt_range {H α : Type} {wt : α → Nat} {f : Nat → α} {D : Nat → DataW H} : ∀ (l : List Nat), (∀ i ∈ l, wt (f i) ≤ Rows.uptoBulk (D i)) → ((l.map f).map wt).sum ≤ Rows.uptoBulkAll (l.map D)
  | [], _ => by simp
  | i :: l, h => by
    have h1 := h i (by simp)
    have h2 := wt_range l fun j hj => h j (by simp [hj])
    simp only [List.map_cons, List.sum_cons, Rows.uptoBulkAll]
    omega
theorem opensB_slice {α : Type} {R : Rep α} {T e : TypeId} {wt : α → Nat} (ht : P.underlying T = some (.slice e)) (hs : P.cellsOf e = R.sz) (hpos : 0 < R.sz) (ho : OpensB P R e wt) : OpensB P (slice R) T (wtL wt) := by
  intro H enc w fuel cs x h
  rcases Deep.open_slice ht h with ⟨rfl, rfl⟩ | ⟨a, len, cap, m, n, D, Pl, rfl, hb, hl, hm, hmm, rfl, hx⟩
  · exact ⟨[], ⟨_, rfl, none, 0, rfl, Nat.le_refl _, Nat.zero_le _, .inl rfl⟩, by simp [wtL, Rows.uptoBulk]⟩
  · simp only [if_true] at hmm
    subst hmm
    by_cases h0 : len = 0
    · subst h0
      exact ⟨[], ⟨_, rfl, some a, m, rfl, hl, hm, .inl rfl⟩, by simpa [wtL] using bulk_pos _⟩
    · have hex : ∀ i, ∃ y, i < len → (∃ cs', R.K anyA w cs' y ∧ ∀ j, j < R.sz → w.cell? (a.add (i * R.sz + j)) = cs'[j]?) ∧ wt y ≤ Rows.uptoBulk (D i) := by
        intro i
        by_cases hi : i < len
        · obtain ⟨cs', h1, h2⟩ := hx i (by omega)
          obtain ⟨y, hy, hw⟩ := ho H enc w n cs' _ h2
          refine ⟨y, fun _ => ⟨⟨cs', hy, fun j hj => ?_⟩, hw⟩⟩
          obtain ⟨_, hlen, hcell⟩ := World.cells?_some h1
          rw [hs] at hcell hlen
          have := hcell j hj
          rw [← this]
          congr 1
          unfold Addr.add
          by_cases ha : i * R.sz = 0
          · rw [if_pos ha, ha, Nat.zero_add]
          · rw [if_neg ha, if_neg (by omega)]
            by_cases hj0 : j = 0
            · subst hj0; rw [if_pos rfl]; rfl
            · rw [if_neg hj0]; simp [Nat.add_assoc]
        · obtain ⟨cs', h1, h2⟩ := hx 0 (by omega)
          obtain ⟨y, hy, _⟩ := ho H enc w n cs' _ h2
          exact ⟨y, fun h => absurd h hi⟩
      obtain ⟨f, hf'⟩ := Classical.axiomOfChoice hex
      have hf : ∀ i, i < len → ∃ cs', R.K anyA w cs' (f i) ∧ ∀ j, j < R.sz → w.cell? (a.add (i * R.sz + j)) = cs'[j]? := fun i hi => (hf' i hi).1
      obtain ⟨cs0, hK0, hc0⟩ := hf 0 (by omega)
      have hl0 := R.len hK0
      have hsp : a.spot = none := by
        have h1 := hc0 0 hpos
        rw [List.getElem?_eq_getElem (by omega)] at h1
        have := cell_spot h1
        unfold Addr.add at this
        simpa using this
      have hall : ∀ i j, i < len → j < R.sz → ∃ u, w.cell? ⟨a.block, a.off + (i * R.sz + j), none⟩ = some u ∧ ∃ cs', R.K anyA w cs' (f i) ∧ cs'[j]? = some u := by
        intro i j hi hj
        obtain ⟨cs', hK, hc⟩ := hf i hi
        have hl := R.len hK
        have h1 := hc j hj
        rw [addr_add_eq a _ hsp, List.getElem?_eq_getElem (by omega)] at h1
        exact ⟨_, h1, cs', hK, List.getElem?_eq_getElem (by omega)⟩
      obtain ⟨u0, hu0, _⟩ := hall 0 0 (by omega) hpos
      obtain ⟨c, T', fz, hblk, _⟩ := cell_block hu0
      have hcl : a.off + len * R.sz ≤ c.size := by
        obtain ⟨u, hu, _⟩ := hall (len - 1) (R.sz - 1) (by omega) (by omega)
        rw [cell_of_row w _ _ c T' fz hblk] at hu
        have := (Array.getElem?_eq_some_iff.1 hu).1
        have e : (len - 1) * R.sz + R.sz = len * R.sz := by rw [← Nat.succ_mul]; congr 1; omega
        omega
      refine ⟨(List.range len).map f, ⟨_, rfl, some a, m, by simp, by simpa using hl, hm, .inr ⟨a.block, c.toList.take a.off, (c.toList.drop a.off).take (len * R.sz), (c.toList.drop a.off).drop (len * R.sz), T', fz, ?_, trivial, ?_, ?_⟩⟩, ?_⟩
      · rw [List.length_take, Array.length_toList, Nat.min_eq_left (by omega)]; cases a; simp at hsp; subst hsp; rfl
      · rw [hblk, List.append_assoc, List.take_append_drop, List.take_append_drop]
      · refine cells_of_list len _ f fun i hi => ?_
        obtain ⟨cs', hK, hc⟩ := hf i hi
        refine ⟨cs', hK, fun j hj => ?_⟩
        rw [← hc j hj, addr_add_eq a _ hsp, cell_of_row w _ _ c T' fz hblk, List.getElem?_drop, Array.getElem?_toList]
      · have := wt_range (wt := wt) (f := f) (D := D) (List.range len) fun i hi => (hf' i (List.mem_range.1 hi)).2
        simp only [wtL, Rows.uptoBulk]
        omega

/-- Fields, from a place on. -/
def FieldsB (P : Program) {α : Type} (fs : List Field) (off : Nat) (R : Rep α) (wt : α → Nat) : Prop :=
  ∀ (H : Type) (enc : TypeId × Value → H) (w : World) (cs : List Value) (xs : List (DataW H)), cs.length = off + R.sz → (∀ (i : Nat) f, fs[i]? = some f → ∃ n ps x, xs[i]? = some x ∧ DataW.trod enc P w 0 (fun _ => true) true n f.type ((cs.drop f.offset).take (P.cellsOf f.type)) = some (x, ps)) →
    ∃ y, R.K anyA w (cs.drop off) y ∧ wt y ≤ Rows.uptoBulkAll xs
theorem FieldsB.one {α : Type} {f : Field} {off : Nat} {R : Rep α} {wt : α → Nat} (ho : OpensB P R f.type wt) (h1 : f.offset = off) (h2 : P.cellsOf f.type = R.sz) : FieldsB P [f] off R wt := by
  intro H enc w cs xs hl hx
  obtain ⟨n, ps, x, e1, e2⟩ := hx 0 f rfl
  obtain ⟨y, h3, h4⟩ := ho H enc w n _ _ e2
  rw [h1, h2, List.take_of_length_le (by rw [List.length_drop]; omega)] at h3
  refine ⟨y, h3, ?_⟩
  cases xs with
  | nil => cases e1
  | cons z xs =>
    injection e1 with e1
    subst e1
    simp only [Rows.uptoBulkAll]
    simp only at h4
    omega
theorem FieldsB.cons {α β : Type} {f : Field} {fs : List Field} {off : Nat} {R : Rep α} {S : Rep β} {wt : α → Nat} {wu : β → Nat} (ho : OpensB P R f.type wt) (h1 : f.offset = off) (h2 : P.cellsOf f.type = R.sz) (h : FieldsB P fs (off + R.sz) S wu) : FieldsB P (f :: fs) off (pair R S) fun x => wt x.1 + wu x.2 := by
  intro H enc w cs xs hl hx
  replace hl : cs.length = off + (R.sz + S.sz) := hl
  obtain ⟨n, ps, x, e1, e2⟩ := hx 0 f rfl
  obtain ⟨y, h3, h4⟩ := ho H enc w n _ _ e2
  rw [h1, h2] at h3
  cases xs with
  | nil => cases e1
  | cons z xs =>
    injection e1 with e1
    subst e1
    obtain ⟨y2, k1, k2⟩ := h H enc w cs xs (by omega) fun i g hg => hx (i + 1) g hg
    refine ⟨(y, y2), ⟨_, _, ?_, h3, k1⟩, ?_⟩
    · rw [← List.drop_drop, List.take_append_drop]
    · simp only [Rows.uptoBulkAll]
      simp only at h4
      omega
theorem opensB_struct {α : Type} {T : TypeId} {fs : Array Field} {R : Rep α} {wt : α → Nat} (ht : P.underlying T = some (.struct fs)) (hs : P.cellsOf T = R.sz) (h : FieldsB P fs.toList 0 R wt) : OpensB P R T fun x => wt x + 1 := by
  intro H enc w fuel cs x hx
  obtain ⟨xs, n, _, rfl, hl, hlen, hf⟩ := DataW.trod_struct ht hx
  obtain ⟨y, h1, h2⟩ := h H enc w cs (xs.map (·.1)) (by omega) fun i f hi => by
    have hi' : fs[i]? = some f := by simpa using hi
    have := hf i f hi'
    have hi2 : i < fs.size := (Array.getElem?_eq_some_iff.1 hi').1
    rw [List.getElem?_eq_getElem (by omega : i < xs.length)] at this
    exact ⟨n, xs[i].2, xs[i].1, by rw [List.getElem?_map, List.getElem?_eq_getElem (by omega : i < xs.length)]; rfl, this⟩
  refine ⟨y, h1, ?_⟩
  simp only [Rows.uptoBulk]
  omega
theorem opensB_two {α : Type} {T e : TypeId} {R : Rep α} {wt : α → Nat} (ht : P.underlying T = some (.array 2 e)) (hs : P.cellsOf T = R.sz + R.sz) (he : P.cellsOf e = R.sz) (ho : OpensB P R e wt) : OpensB P (pair R R) T fun x => wt x.1 + wt x.2 := by
  intro H enc w fuel cs x hx
  obtain ⟨xs, n, _, rfl, hl, hlen, hf⟩ := DataW.trod_array ht hx
  match xs, hlen with
  | [x0, x1], _ =>
    have h0 := hf 0 (by omega)
    have h1 := hf 1 (by omega)
    rw [he] at h0 h1
    obtain ⟨y0, k0, b0⟩ := ho H enc w n _ x0 h0
    obtain ⟨y1, k1, b1⟩ := ho H enc w n _ x1 h1
    refine ⟨(y0, y1), ⟨_, _, ?_, k0, k1⟩, ?_⟩
    · rw [Nat.zero_mul, Nat.one_mul, List.drop_zero]
      have e : (cs.drop R.sz).take R.sz = cs.drop R.sz := List.take_of_length_le (by rw [List.length_drop]; omega)
      rw [e, List.take_append_drop]
    · simp only [List.map_cons, List.map_nil, Rows.uptoBulk, Rows.uptoBulkAll]
      omega
theorem OpensB.iso {α β : Type} {R : Rep α} {T : TypeId} {wt : α → Nat} {wu : β → Nat} {f : β → α} (h : OpensB P R T wt) (g : α → β) (hg : ∀ x, f (g x) = x) (hw : ∀ x, wu (g x) ≤ wt x) : OpensB P (iso R f) T wu := by
  intro H enc w fuel cs x hx
  obtain ⟨y, h1, h2⟩ := h H enc w fuel cs x hx
  refine ⟨g y, ?_, Nat.le_trans (hw y) h2⟩
  show R.K anyA w cs (f (g y))
  rw [hg]
  exact h1
/-- A struct that is an argument. -/
theorem agg_arg {H : Type} {enc : TypeId × Value → H} {α : Type} {R : Rep α} {T : TypeId} {wt : α → Nat} (ho : OpensB P R T wt) (h1 : R.sz ≠ 1) {w : World} {v : Value} {d : DataW H} {ps : List MemPlace}
    (h : DataW.Trod enc P w 0 (fun _ => true) true T v d ps) : ∃ cs y, v = .agg cs.toArray ∧ R.K anyA w cs y ∧ wt y ≤ Rows.uptoBulk d := by
  obtain ⟨fuel, hf⟩ := h
  obtain ⟨y, h2, h3⟩ := ho H enc w fuel _ _ hf
  exact ⟨_, y, agg_of_cells rfl (by rw [R.len h2]; exact h1), h2, h3⟩
/-- A slice that is an argument. -/
theorem slice_argB {H : Type} {enc : TypeId × Value → H} {α : Type} {R : Rep α} {T e : TypeId} {wt : List α → Nat} (ho : OpensB P (slice R) T wt) (ht : P.underlying T = some (.slice e)) {w : World} {r : Reach} {base : Nat} {v : Value} {d : DataW H} {ps : List MemPlace}
    (hv : Value.okWide P w r base T v) (h : DataW.Trod enc P w 0 (fun _ => true) true T v d ps) : ∃ xs, SliceK R anyA w v xs ∧ wt xs ≤ Rows.uptoBulk d := by
  obtain ⟨a, n, c, rfl⟩ := okWide_slice ht hv
  obtain ⟨fuel, hf⟩ := h
  obtain ⟨xs, ⟨v', e1, hx⟩, h2⟩ := ho H enc w fuel _ _ hf
  simp [Value.cells] at e1
  subst e1
  exact ⟨xs, hx, h2⟩
end
end Go.Proofs.YtidgcfgkcidkiaaGreat.X
namespace Go.Proofs.YtidgcfgkcidkiaaGreat.Ch
open Go Go.RowKit Go.Proofs.YtidgcfgkcidkiaaGreat.L Go.Proofs.YtidgcfgkcidkiaaGreat.X
set_option linter.unusedVariables false
set_option linter.unusedSimpArgs false
def BackO : Rep BackD := iso (pair (num .i64) (pair (num .u64) (num .u64))) fun x => (x.s, x.a, x.b)
theorem reads_back : Reads BackO encB := reads_of (reads_iso _ (reads_pair (reads_num .i64) (reads_pair (reads_num .u64) (reads_num .u64)))) fun _ => rfl
theorem opens_back : OpensB Tryz.prog BackO 94 fun _ => 1 :=
  OpensB.iso (opensB_struct Tryz.underlying94 (by kernel_rfl) (FieldsB.cons (OpensB.num Tryz.underlying3) rfl (by kernel_rfl) (FieldsB.one (opensB_two Tryz.underlying92 (by kernel_rfl) (by kernel_rfl) (OpensB.num Tryz.underlying22)) rfl (by kernel_rfl)))) (fun x => ⟨x.1, x.2.1, x.2.2⟩) (fun _ => rfl) (fun _ => by simp)
def CellO : Rep CellD := iso (pair (num .i64) (pair (slice (num .u8)) (slice BackO))) fun c => (c.kind, c.data, c.backs)
theorem reads_cell : Reads CellO encC := reads_of (reads_iso _ (reads_pair (reads_num .i64) (reads_pair (reads_lst (by decide) (reads_num .u8)) (reads_lst (by decide) reads_back)))) fun _ => rfl
def wtC (c : CellD) : Nat := wtL (fun _ => 1) c.data + wtL (fun _ => 1) c.backs
theorem opens_cell : OpensB Tryz.prog CellO 30 wtC :=
  OpensB.iso (opensB_struct Tryz.underlying30 (by kernel_rfl)
    (FieldsB.cons (OpensB.num Tryz.underlying26) rfl (by kernel_rfl) (FieldsB.cons (opensB_slice Tryz.underlying27 (by kernel_rfl) (by decide) (OpensB.num Tryz.underlying5)) rfl (by kernel_rfl) (FieldsB.one (opensB_slice Tryz.underlying28 (by kernel_rfl) (by decide) opens_back) rfl (by kernel_rfl)))))
    (fun x => ⟨x.1, x.2.1, x.2.2⟩) (fun _ => rfl) (fun x => by simp only [wtC]; omega)
def UnitO : Rep (List Int) := slice (num .i64)
theorem reads_units : Reads UnitO encU := reads_lst (by decide) (reads_num .i64)
theorem opens_units : OpensB Tryz.prog UnitO 46 (wtL fun _ => 1) := opensB_slice Tryz.underlying46 (by kernel_rfl) (by decide) (OpensB.num Tryz.underlying3)
def wtS (s : SegD) : Nat := wtL (wtL fun _ => 1) s.chains
def SegO : Rep SegD := iso (pair (num .u64) (slice UnitO)) fun s => (s.at_, s.chains)
theorem reads_seg : Reads SegO encS := reads_of (reads_iso _ (reads_pair (reads_num .u64) (reads_lst (by decide) reads_units))) fun _ => rfl
theorem opens_seg : OpensB Tryz.prog SegO 82 wtS :=
  OpensB.iso (opensB_struct Tryz.underlying82 (by kernel_rfl)
    (FieldsB.cons (OpensB.num Tryz.underlying22) rfl (by kernel_rfl) (FieldsB.one (opensB_slice Tryz.underlying80 (by kernel_rfl) (by decide) opens_units) rfl (by kernel_rfl))))
    (fun x => ⟨x.1, x.2⟩) (fun _ => rfl) (fun x => by simp only [wtS]; omega)
def wtY (l : LayD) : Nat := wtL wtS l.segs
def LayO : Rep LayD := iso (pair (num .u64) (pair (slice SegO) (num .i64))) fun l => (l.epoch, l.segs, l.seq)
theorem reads_lay : Reads LayO encL := reads_of (reads_iso _ (reads_pair (reads_num .u64) (reads_pair (reads_lst (by decide) reads_seg) (reads_num .i64)))) fun _ => rfl
theorem opens_lay : OpensB Tryz.prog LayO 25 wtY :=
  OpensB.iso (opensB_struct Tryz.underlying25 (by kernel_rfl)
    (FieldsB.cons (OpensB.num Tryz.underlying22) rfl (by kernel_rfl) (FieldsB.cons (opensB_slice Tryz.underlying23 (by kernel_rfl) (by decide) opens_seg) rfl (by kernel_rfl) (FieldsB.one (OpensB.num Tryz.underlying3) rfl (by kernel_rfl)))))
    (fun x => ⟨x.1, x.2.1, x.2.2⟩) (fun _ => rfl) (fun x => by simp only [wtY]; omega)
def PairO : Rep (Int × Int) := pair (num .i64) (num .i64)
theorem reads_two : Reads PairO fun x => .agg [.int .i64 x.1, .int .i64 x.2] := reads_of (reads_pair (reads_num .i64) (reads_num .i64)) fun _ => rfl
theorem opens_place : OpensB Tryz.prog PairO 45 fun _ => 1 := by
  have := opensB_struct (R := PairO) Tryz.underlying45 (by kernel_rfl) (FieldsB.cons (OpensB.num Tryz.underlying43) rfl (by kernel_rfl) (FieldsB.one (OpensB.num Tryz.underlying3) rfl (by kernel_rfl)))
  exact OpensB.iso (f := id) this id (fun _ => rfl) (fun _ => by simp)
theorem opens_ballot : OpensB Tryz.prog PairO 48 fun _ => 1 := by
  have := opensB_struct (R := PairO) Tryz.underlying48 (by kernel_rfl) (FieldsB.cons (OpensB.num Tryz.underlying3) rfl (by kernel_rfl) (FieldsB.one (OpensB.num Tryz.underlying3) rfl (by kernel_rfl)))
  exact OpensB.iso (f := id) this id (fun _ => rfl) (fun _ => by simp)
def MsgP := Int × (Int × Int) × (Int × Int) × Int × Int × Int × Int × Int × CellD × List Int × List BackD × (Int × Int) × (Int × Int) × LayD
def MsgR : Rep MsgP := pair (num .i64) (pair PairO (pair PairO (pair (num .i64) (pair (num .i64) (pair (num .u64) (pair (num .u64) (pair (num .i64) (pair CellO (pair (slice (num .i64)) (pair (slice BackO) (pair PairO (pair PairO LayO))))))))))))
def MsgO : Rep MsgD := iso MsgR fun m => (m.kind, (m.fr, m.fn), (m.tr, m.tn), m.id, m.of_, m.epoch, m.addr, m.err, m.cell, m.streams, m.backs, (m.br, m.bc), (m.pr, m.pc), m.lay)
theorem reads_msg : Reads MsgO encM := reads_of (reads_iso _ (reads_pair (reads_num .i64) (reads_pair reads_two (reads_pair reads_two (reads_pair (reads_num .i64) (reads_pair (reads_num .i64) (reads_pair (reads_num .u64) (reads_pair (reads_num .u64) (reads_pair (reads_num .i64) (reads_pair reads_cell (reads_pair (reads_lst (by decide) (reads_num .i64)) (reads_pair (reads_lst (by decide) reads_back) (reads_pair reads_two (reads_pair reads_two reads_lay)))))))))))))) fun _ => rfl
def wtM (m : MsgD) : Nat := wtC m.cell + wtL (fun _ => 1) m.streams + wtL (fun _ => 1) m.backs + wtY m.lay
theorem opens_msg : OpensB Tryz.prog MsgO 50 wtM :=
  OpensB.iso (opensB_struct (R := MsgR) Tryz.underlying50 (by kernel_rfl)
    (FieldsB.cons (OpensB.num Tryz.underlying42) rfl (by kernel_rfl)
    (FieldsB.cons opens_place rfl (by kernel_rfl)
    (FieldsB.cons opens_place rfl (by kernel_rfl)
    (FieldsB.cons (OpensB.num Tryz.underlying3) rfl (by kernel_rfl)
    (FieldsB.cons (OpensB.num Tryz.underlying42) rfl (by kernel_rfl)
    (FieldsB.cons (OpensB.num Tryz.underlying22) rfl (by kernel_rfl)
    (FieldsB.cons (OpensB.num Tryz.underlying22) rfl (by kernel_rfl)
    (FieldsB.cons (OpensB.num Tryz.underlying36) rfl (by kernel_rfl)
    (FieldsB.cons opens_cell rfl (by kernel_rfl)
    (FieldsB.cons (opensB_slice Tryz.underlying46 (by kernel_rfl) (by decide) (OpensB.num Tryz.underlying3)) rfl (by kernel_rfl)
    (FieldsB.cons (opensB_slice Tryz.underlying28 (by kernel_rfl) (by decide) opens_back) rfl (by kernel_rfl)
    (FieldsB.cons opens_ballot rfl (by kernel_rfl)
    (FieldsB.cons opens_ballot rfl (by kernel_rfl)
    (FieldsB.one opens_lay rfl (by kernel_rfl))))))))))))))))
    (fun x => ⟨x.1, x.2.1.1, x.2.1.2, x.2.2.1.1, x.2.2.1.2, x.2.2.2.1, x.2.2.2.2.1, x.2.2.2.2.2.1, x.2.2.2.2.2.2.1, x.2.2.2.2.2.2.2.1, x.2.2.2.2.2.2.2.2.1, x.2.2.2.2.2.2.2.2.2.1, x.2.2.2.2.2.2.2.2.2.2.1, x.2.2.2.2.2.2.2.2.2.2.2.1.1, x.2.2.2.2.2.2.2.2.2.2.2.1.2, x.2.2.2.2.2.2.2.2.2.2.2.2.1.1, x.2.2.2.2.2.2.2.2.2.2.2.2.1.2, x.2.2.2.2.2.2.2.2.2.2.2.2.2⟩) (fun _ => rfl) (fun x => by simp only [wtM]; omega)
end Go.Proofs.YtidgcfgkcidkiaaGreat.Ch
namespace Go.Proofs.YtidgcfgkcidkiaaGreat.Ch
open Go Go.RowKit Go.Proofs.YtidgcfgkcidkiaaGreat.L Go.Proofs.YtidgcfgkcidkiaaGreat.X
set_option linter.unusedVariables false
set_option linter.unusedSimpArgs false
end Go.Proofs.YtidgcfgkcidkiaaGreat.Ch
namespace Go.Proofs.YtidgcfgkcidkiaaGreat.X
open Go Go.Proofs.YtidgcfgkcidkiaaGreat.L Go.RowKit
set_option linter.unusedVariables false
set_option linter.unusedSimpArgs false
end Go.Proofs.YtidgcfgkcidkiaaGreat.X
namespace Go.Proofs.YtidgcfgkcidkiaaGreat.X
open Go Go.Proofs.YtidgcfgkcidkiaaGreat.L Go.RowKit
set_option linter.unusedVariables false
set_option linter.unusedSimpArgs false
/-- What a deferred call does. -/
def ACallsD (P : Program) (f : FuncId) (args : List AV) (objs : List Obj) (v : AV) (objs' : List Obj) : Prop :=
  Enters P f ∧ ∀ K w (cs : List Value) (u : FrameMode), Rel K (getO objs) w → VRs K args cs →
    CallsD P f cs.toArray u w fun e u' w' => u' = u ∧ ∃ K' c, e = .returned c ∧ Rel K' (getO objs') w' ∧ VR K' v c ∧ GrowC objs.length K w K' w'
theorem acallsDK {P : Program} (hm : P.follows .mixedOrders = true) {f : FuncId} {fn : Func} (hf : P.funcs[f]? = some fn) (hname : (fn.name == "runtime.NumGoroutine") = false) {args : List AV} {objs : List Obj} (cr : List Nat) (n : Nat) (g : List Gd) (ids p : List Nat) {v v1 : AV} {objs' objs1 : List Obj} {ob : List Prop}
    (h : runF P fn cr n args objs g ids p = some (v1, objs1, ob)) (he : v1 = v ∧ objs1 = objs') (ho : AllP ob) : ACallsD P f args objs v objs' := by
  obtain ⟨rfl, rfl⟩ := he
  obtain ⟨c, hc, hw⟩ := body_wp hm hf hname cr n g ids p h ho
  exact ⟨⟨fn, hf, by rw [hc]; rfl, hname⟩, fun K w cs u hR hA => callsD_of_wp hf hc (hw K w cs hR hA)⟩

/-- Operations, the last of which defers a call of f with the first thing. -/
def lastD (ops : List Oper) : Option (List Oper × Oper) :=
  match ops with
  | [] => none
  | [o] => some ([], o)
  | o :: r => match lastD r with | some (i, d) => some (o :: i, d) | none => none
def defB (e : Nat → Option AV) (o : Oper) : Option FuncId :=
  match o.dst, o.op, o.guard with
  | none, .defer { callee := .value (.func f), args, argTypes }, none =>
    match args.toList with
    | [x] => (match opv e x with | some (.ptr 0 0) => some f | _ => none)
    | _ => none
  | _, _, _ => none
def runD (P : Program) (cr : List Nat) (m0 nt : Nat) : Nat → Code → St → List Gd → Option (Ex × St × FuncId × List Prop × List Gd)
  | 0, _, _, _ => none
  | n + 1, .seq a b, S, g =>
    match runC P cr m0 nt n a S g with
    | some (.normal, S', ob, g) => (match runD P cr m0 nt n b S' g with | some (x, S', f, ob', g) => some (x, S', f, ob ++ ob', g) | none => none)
    | some _ => none
    | none =>
      match runD P cr m0 nt n a S g with
      | some (.normal, S', f, ob, g) => (match runC P cr m0 nt n b S' g with | some (x, S', ob', g) => some (x, S', f, ob ++ ob', g) | none => none)
      | r => r
  | n + 1, .block id c, S, g =>
    match runD P cr m0 nt n c S g with
    | some (.exit i, S', f, ob, g) => (match Nat.beq i id with | true => some (.normal, S', f, ob, g) | false => some (.exit i, S', f, ob, g))
    | r => r
  | n + 1, .cond c a b, S, g =>
    match opv (look S.env) c with
    | some (.bool true) => runD P cr m0 nt n a S g
    | some (.bool false) => runD P cr m0 nt n b S g
    | _ => none
  | n + 1, .region _ ops false, S, g =>
    match lastD ops.toList with
    | some (init, d) =>
      match runOps P nt (ops.toList.map (·.dst)) init S.env S.objs g with
      | some (e, os, rs, ob, g) => (match defB (look e) d with | some f => some (.normal, ⟨keepE cr e, os⟩, f, ob, g) | none => none)
      | none => none
    | none => none
  | _, _, _, _ => none

section
variable {P : Program} {K K' : Ctx} {get : Nat → Obj} {a : Act} {w w' : World} {cr : List Nat} {nt m0 : Nat} {e' : Env} {os : List Obj}
def dfr (K : Ctx) (f : FuncId) : Deferred := { target := .fn (.func f) #[], args := #[.pointer (some ⟨K.blk 0, 0, none⟩)] }
/-- What a piece of code does that defers a call. -/
def ACodeD (P : Program) (m0 nt : Nat) (c : Code) (S : St) (x : Ex) (S' : St) (f : FuncId) : Prop :=
  ∀ K a w (Q : Exit → Act → World → Prop), 0 < m0 → K.kind 0 = .var → RelS K (look S.env) (getO S.objs) a w → a.tmps.size = nt →
    (∀ K' a' w', RelS K' (look S'.env) (getO S'.objs) a' w' → a'.tmps.size = nt → Grow m0 K w K' w' → a'.defers = dfr K f :: a.defers → Q x.toExit a' w') → c.wp P Q a w
theorem lastD_eq : ∀ {ops init : List Oper} {d : Oper}, lastD ops = some (init, d) → ops = init ++ [d]
  | [], init, d, h => by cases h
  | [o], init, d, h => by cases h; rfl
  | o :: o2 :: r, init, d, h => by
    have e : lastD (o :: o2 :: r) = (match lastD (o2 :: r) with | some (i, d) => some (o :: i, d) | none => none) := rfl
    rw [e] at h
    split at h
    · rename_i i d1 h1
      cases h
      rw [lastD_eq h1]; rfl
    · cases h
theorem dfr_grow (hm : 0 < m0) (hk : K.kind 0 = .var) (hg : Grow m0 K w K' w') (f : FuncId) : K'.kind 0 = .var ∧ dfr K' f = dfr K f := by
  obtain ⟨h1, h2⟩ := hg.var 0 hm hk
  exact ⟨h1, by unfold dfr; rw [h2]⟩
theorem defer_wp (hS : RelS K (look e') (getO os) a w) {o : Oper} {f : FuncId} (h : defB (look e') o = some f) (hk : K.kind 0 = .var) {next : Act → World → Prop} {Q : Exit → Act → World → Prop} (hn : next { a with defers := dfr K f :: a.defers } w) : o.guard = none ∧ o.wp P a w next Q := by
  unfold defB at h
  split at h
  · rename_i f' args ats hd ho hg
    split at h
    · rename_i x hx
      split at h
      · rename_i hv
        cases h
        refine ⟨hg, ?_⟩
        have hv' := opv_sound hS hv
        have hc : a.eval x = .pointer (some ⟨K.blk 0, 0, none⟩) := by
          cases hv' with
          | pure h => cases h
          | ptr id off c hk' h hp => exact h.resolve_left (by rw [hk]; simp)
        have e1 : args = #[x] := by apply Array.ext'; simpa using hx
        unfold Oper.wp
        have : (execOp a.eval o).run P w = .ok (.defer (dfr K f)) w := by
          subst e1
          have ef : a.eval (.func f) = .func (.func f) #[] #[] := rfl
          simp [execOp, ho, resolve, Deferred.ofValue, hc, ef, dfr]
        rw [this, Oper.upon_defer, hd]
        exact hn
      · cases h
    · cases h
  · cases h
theorem runOpsD_sound {ops : Array Oper} {nt : Nat} {Q : Exit → Act → World → Prop} {d : Oper} {f : FuncId} (hm0 : 0 < m0) : ∀ (l : List Oper) (i : Nat) (en : Env) (os : List Obj) (g : List Gd) (en' : Env) (os' : List Obj) (rs : List Rc) (ob : List Prop) (g' : List Gd) (K : Ctx) (a : Act) (w : World),
    ops.toList.drop i = l ++ [d] → runOps P nt (ops.toList.map (·.dst)) l en os g = some (en', os', rs, ob, g') → AllP ob → RelS K (look en) (getO os) a w → a.tmps.size = nt → defB (look en') d = some f → K.kind 0 = .var →
    (∀ K' a' w', RelS K' (look en') (getO os') a' w' → a'.tmps.size = nt → (∀ m, Grow m K w K' w') → a'.defers = dfr K f :: a.defers → Q .normal a' w') → wpOps P ops Q (List.range' i (ops.size - i)) a w
  | [], i, en, os, g, en', os', rs, ob, g', K, a, w, hl, h, ho, hS, hsz, hd, hk, hQ => by
    cases h
    have hi : ops[i]? = some d := by
      have : (ops.toList.drop i)[0]? = some d := by rw [hl]; rfl
      rw [List.getElem?_drop] at this; simpa using this
    have : ops.size - i = 1 := by have := congrArg List.length hl; simp at this; omega
    rw [this, List.range'_succ, wpOps_cons]
    obtain ⟨hg, hw⟩ := defer_wp (P := P) (Q := Q) (next := wpOps P ops Q (List.range' (i + 1) 0)) hS hd hk (hQ K _ w ⟨hS.rel, hS.env⟩ hsz (fun m => Grow.refl m K w) rfl)
    unfold wpOp
    rw [hi]
    simp only
    have : Region.wanted d (yielded ops a.tmps) = true := by simp [Region.wanted, hg]
    rw [if_pos this]
    exact .inl hw
  | o :: r, i, en, os, g, en', os', rs, ob, g', K, a, w, hl, h, ho, hS, hsz, hdf, hk, hQ => by
    have hi : ops[i]? = some o := by
      have : (ops.toList.drop i)[0]? = some o := by rw [hl]; rfl
      rw [List.getElem?_drop] at this; simpa using this
    have hlt : i < ops.size := (Array.getElem?_eq_some_iff.1 hi).1
    have hr : ops.toList.drop (i + 1) = r ++ [d] := by
      rw [← List.drop_drop, hl]; rfl
    simp only [runOps] at h
    split at h
    · rename_i E ob1 g1 hst hd
      split at h
      · rename_i en2 os2 rs2 ob2 g2 hrec
        cases h
        rw [AllP.append_iff] at ho
        rw [show ops.size - i = (ops.size - (i + 1)) + 1 by omega, List.range'_succ, wpOps_cons]
        refine stepA_sound hS hi hst ho.1 (fun j _ => getO_out os j) fun K' w' c h1 h2 h3 h4 => ?_
        obtain ⟨n1, n2, n3⟩ := hS.next (d := o.dst) hsz hd h1 h2 h4
        rw [← look_put, ← getO_sets] at n1
        obtain ⟨q1, q2⟩ := dfr_grow hm0 hk (h3 m0) f
        refine runOpsD_sound hm0 r (i + 1) _ _ g1 _ _ rs2 ob2 _ K' _ w' hr hrec ho.2 n1 n2 hdf q1 fun K2 a2 w2 k1 k2 k3 k4 => ?_
        exact hQ K2 a2 w2 k1 k2 (fun m => (h3 m).trans (k3 m)) (by rw [k4, q2, n3])
      · cases h
    · cases h
theorem runD_sound (hm : P.follows .mixedOrders = true) : ∀ (n : Nat) (c : Code) (S : St) (g : List Gd) (x : Ex) (S' : St) (f : FuncId) (ob : List Prop) (g' : List Gd), runD P cr m0 nt n c S g = some (x, S', f, ob, g') → AllP ob → ACodeD P m0 nt c S x S' f
  | 0, c, S, g, x, S', f, ob, g', h, _ => by simp [runD] at h
  | n + 1, c, S, g, x, S', f, ob, g', h, ho => by
    unfold runD at h
    split at h
    · cases ‹_›
    · -- seq
      rename_i S1 g1 n' c1 c2 hnf
      injection hnf with hnf
      subst hnf
      split at h
      · rename_i S2 ob1 g2 h1
        split at h
        · rename_i x2 S3 f2 ob2 g3 h2
          cases h
          rw [AllP.append_iff] at ho
          have i1 := (runC_sound hm _ _ _ _ _ _ _ _ h1 ho.1).code
          have i2 := runD_sound hm _ _ _ _ _ _ _ _ _ h2 ho.2
          exact fun K a w Q hm0 hk hS hsz hQ => wp_seq (i1 K a w _ hS hsz fun K1 a1 w1 k1 k2 k3 k4 =>
            let q := dfr_grow hm0 hk k3 f
            i2 K1 a1 w1 Q hm0 q.1 k1 k2 fun K' a' w' q1 q2 q3 q4 => hQ K' a' w' q1 q2 (k3.trans q3) (by rw [q4, q.2, k4]))
        · cases h
      · cases h
      · split at h
        · rename_i S2 f2 ob1 g2 h1
          split at h
          · rename_i x2 S3 ob2 g3 h2
            cases h
            rw [AllP.append_iff] at ho
            have i1 := runD_sound hm _ _ _ _ _ _ _ _ _ h1 ho.1
            have i2 := (runC_sound hm _ _ _ _ _ _ _ _ h2 ho.2).code
            exact fun K a w Q hm0 hk hS hsz hQ => wp_seq (i1 K a w _ hm0 hk hS hsz fun K1 a1 w1 k1 k2 k3 k4 => i2 K1 a1 w1 Q k1 k2 fun K' a' w' q1 q2 q3 q4 => hQ K' a' w' q1 q2 (k3.trans q3) (by rw [q4, k4]))
          · cases h
        · rename_i hne
          have i1 := runD_sound hm _ _ _ _ _ _ _ _ _ h ho
          have hx : x ≠ .normal := fun hx => by subst hx; exact hne _ _ _ _ h
          exact fun K a w Q hm0 hk hS hsz hQ => wp_seq (i1 K a w _ hm0 hk hS hsz fun K1 a1 w1 k1 k2 k3 k4 => by rw [then_ne hx]; exact hQ K1 a1 w1 k1 k2 k3 k4)
    · -- block
      rename_i S1 g1 n' id c1 hnf
      injection hnf with hnf
      subst hnf
      split at h
      · rename_i i S2 f2 ob1 g2 h1
        have hob : AllP ob1 := by split at h <;> (cases h; exact ho)
        have i1 := runD_sound hm _ _ _ _ _ _ _ _ _ h1 hob
        split at h
        · rename_i hb
          cases h
          have := beq_eq' hb
          subst this
          exact fun K a w Q hm0 hk hS hsz hQ => wp_block (i1 K a w _ hm0 hk hS hsz fun K1 a1 w1 k1 k2 k3 k4 => by
            show Exit.inBlock i Q (.exit i) a1 w1
            simp only [Exit.inBlock, if_true]
            exact hQ K1 a1 w1 k1 k2 k3 k4)
        · rename_i hb
          cases h
          exact fun K a w Q hm0 hk hS hsz hQ => wp_block (i1 K a w _ hm0 hk hS hsz fun K1 a1 w1 k1 k2 k3 k4 => by
            show Exit.inBlock id Q (.exit i) a1 w1
            simp only [Exit.inBlock, if_neg (Nat.ne_of_beq_eq_false hb)]
            exact hQ K1 a1 w1 k1 k2 k3 k4)
      · rename_i hne
        have i1 := runD_sound hm _ _ _ _ _ _ _ _ _ h ho
        exact fun K a w Q hm0 hk hS hsz hQ => wp_block (i1 K a w _ hm0 hk hS hsz fun K1 a1 w1 k1 k2 k3 k4 => by
          cases x with
          | exit i => exact absurd h (hne _ _ _ _ _)
          | normal => exact hQ K1 a1 w1 k1 k2 k3 k4
          | ret => exact hQ K1 a1 w1 k1 k2 k3 k4)
    · -- cond
      rename_i S1 g1 n' cnd c1 c2 hnf
      injection hnf with hnf
      subst hnf
      split at h
      · rename_i hc
        have i1 := runD_sound hm _ _ _ _ _ _ _ _ _ h ho
        exact fun K a w Q hm0 hk hS hsz hQ => wp_cond_true (opv_sound hS hc).bool_inv (i1 K a w Q hm0 hk hS hsz hQ)
      · rename_i hc
        have i1 := runD_sound hm _ _ _ _ _ _ _ _ _ h ho
        exact fun K a w Q hm0 hk hS hsz hQ => wp_cond_false (opv_sound hS hc).bool_inv (i1 K a w Q hm0 hk hS hsz hQ)
      · cases h
    · -- region
      rename_i S1 g1 n' id ops hnf
      split at h
      · rename_i init d hl
        split at h
        · rename_i en os rs ob1 g2 hr
          split at h
          · rename_i f2 hf
            cases h
            intro K a w Q hm0 hk hS hsz hQ
            refine wp_region ?_
            have := runOpsD_sound (Q := Q) hm0 init 0 _ _ _ _ _ _ _ _ K a w (lastD_eq hl) hr ho hS hsz hf hk fun K' a' w' k1 k2 k3 k4 => ?_
            · rwa [Nat.sub_zero, ← List.range_eq_range'] at this
            · exact hQ K' a' w' ⟨k1.rel, fun t v hv => k1.env t v (look_keepE hv)⟩ k2 (k3 m0) k4
          · cases h
        · cases h
      · cases h
    · cases h
/-- A run of a function that defers a call: its code along a path; then what is kept is numbered anew; then the deferred call. -/
def runFD (P : Program) (fn : Func) (t : Nat) (cr : List Nat) (n : Nat) (args : List AV) (objs : List Obj) (g : List Gd) (ids p : List Nat) : Option (FuncId × AV × List Obj × List Prop) :=
  match fn.body with
  | some c =>
    match Nat.ble args.length fn.ntmps, runD P cr objs.length fn.ntmps n c ⟨envOf 0 args, objs⟩ g with
    | true, some (x, S, f, ob, []) =>
      match x with
      | .exit _ => none
      | _ =>
        let S' := admS ids S
        match look S'.env t, exitB 0 objs p, nodupB p with
        | some v, true, true => some (f, v, p.map fun id => renO (idx p) (getO S'.objs) (getO S'.objs id), ob)
        | _, _, _ => none
    | _, _ => none
  | none => none
theorem acallsFD (hm : P.follows .mixedOrders = true) {f : FuncId} {fn : Func} (hf : P.funcs[f]? = some fn) (hname : (fn.name == "runtime.NumGoroutine") = false) {t : Nat} (hres : fn.results = #[.tmp t]) {args : List AV} {T : TypeId} {us : List AV} {rest : List Obj} (cr : List Nat) (n : Nat) (g : List Gd) (ids p : List Nat) {f2 : FuncId} {v v1 : AV} {os1 os os' : List Obj} {ob : List Prop}
    (h : runFD P fn t cr n args (.vars T us :: rest) g ids p = some (f2, v1, os1, ob)) (he : v1 = v ∧ os1 = os) (hv : flatB v = true) (hd : ACallsD P f2 [.ptr 0 0] os (.tup []) os') (ho : AllP ob) : ACalls P f args (.vars T us :: rest) v os' := by
  obtain ⟨rfl, rfl⟩ := he
  unfold runFD at h
  split at h
  · rename_i c hc
    split at h
    · rename_i x S f3 ob1 hlen hrun
      have fin : (match look (admS ids S).env t, exitB 0 (.vars T us :: rest) p, nodupB p with
          | some v, true, true => some (f3, v, p.map fun id => renO (idx p) (getO (admS ids S).objs) (getO (admS ids S).objs id), ob1)
          | _, _, _ => none) = some (f2, v1, os1, ob) → (x = .normal ∨ x = .ret) → ACalls P f args (.vars T us :: rest) v1 os' := by
        intro h hx
        split at h
        · rename_i u hres' hex hnd
          cases h
          refine ⟨⟨fn, hf, by rw [hc]; rfl, hname⟩, fun K w cs hR hA => ?_⟩
          have hlen' : cs.length ≤ fn.ntmps := by have := Nat.le_of_ble_eq_true hlen; rw [← hA.1]; exact this
          have hk0 : K.kind 0 = .var := by rw [hR.kinds]; rfl
          refine calls_of_wp_defers hf hc ?_
          refine runD_sound hm _ _ _ _ _ _ _ _ _ hrun ho K _ w _ (by simp) hk0 ⟨hR, fun t u hu => ?_⟩ (by simp; omega) fun K1 a1 w1 h1 h2 h3 h4 => ?_
          · simp only at hu
            rw [look_env, if_pos (Nat.zero_le _), Nat.sub_zero] at hu
            obtain ⟨c', k1, k2⟩ := hA.at_ hu
            refine ⟨c', ?_, k2⟩
            have := (List.getElem?_eq_some_iff.1 k1).1
            rw [Array.getElem?_append_left (by simpa using this)]
            simpa using k1
          · obtain ⟨K2, h5, h6⟩ := adm_sound ids h1
            have hnd' := nodupB_iff.1 hnd
            have hG := h3.trans (h6 (Obj.vars T us :: rest).length)
            have hp0 : p[0]? = some 0 := by
              have := exit_spec hex 0 T us rfl
              simpa using this
            have R2 := h5.rel.sub hnd'
            obtain ⟨g1, g2⟩ := hG.var 0 (by simp) hk0
            obtain ⟨s1, s2, _⟩ := sub_at (K := K2) hp0
            have G2 : GrowC (Obj.vars T us :: rest).length K w (K2.sub p) w1 := by
              refine ⟨fun b o v hv => hG.mem b o v hv, fun b o v hv => hG.new b o v hv, fun id hid hk => ?_, fun b hb => ?_, hG.keeps⟩
              · obtain ⟨k1, k2⟩ := hG.var id hid hk
                have hv : ∃ T' cs', (Obj.vars T us :: rest)[id]? = some (.vars T' cs') := by
                  rw [hR.kinds, getO_eq] at hk
                  rw [List.getElem?_eq_getElem hid] at hk ⊢
                  simp only [Option.getD_some] at hk
                  cases ho : (Obj.vars T us :: rest)[id] <;> rw [ho] at hk <;> first | exact ⟨_, _, rfl⟩ | cases hk
                obtain ⟨T', cs', hv⟩ := hv
                have := exit_spec hex id T' cs' hv
                rw [Nat.zero_add] at this
                obtain ⟨q1, q2, _⟩ := sub_at (K := K2) this
                exact ⟨q1.trans k1, q2.trans k2⟩
              · obtain ⟨j, hj, rfl⟩ := hb
                obtain ⟨id, q1, q2, q3⟩ := sub_own hj
                rw [q3]; exact hG.foot _ ⟨id, q2, rfl⟩
            obtain ⟨c', r1, r2⟩ := h5.env t v1 hres'
            have hbl : (K2.sub p).blk 0 = K.blk 0 := s2.trans g2
            have post : Leaves P fn a1.tmps (fun e w' => ∃ K' c, e = .returned c ∧ Rel K' (getO os') w' ∧ VR K' v1 c ∧ GrowC (Obj.vars T us :: rest).length K w K' w') a1.defers .returning w1 := by
              rw [h4]
              obtain ⟨fn2, e1, e2, e3⟩ := hd.1
              have e2' : ¬ fn2.body = none := by intro h; rw [h] at e2; cases e2
              have e3' : ¬ fn2.name = "runtime.NumGoroutine" := by simpa using e3
              refine leaves_cons (f := f2) (args := #[.pointer (some ⟨K.blk 0, 0, none⟩)]) (by simp) (by simp [invoke, callFunc, e1, e2', e3']) ?_
              have hcall := hd.2 (K2.sub p) w1 [.pointer (some ⟨K.blk 0, 0, none⟩)] .returning R2 (.cons (.ptr 0 0 _ (by rw [s1, g1]; simp) (.inr (by rw [hbl])) ⟨_, rfl⟩) .nil)
              refine hcall.mono ?_
              rintro e u' w' ⟨rfl, K', c2, rfl, q1, q2, q3⟩
              refine ⟨c', ?_, K', c', rfl, q1, flat_VR hv r2, G2.trans ⟨q3.mem, q3.new, fun id hid hk => q3.var id ?_ hk, q3.foot, q3.keeps⟩⟩
              · have : a1.tmps.getD t undef = c' := by rw [Array.getD_eq_getD_getElem?, r1]; rfl
                rw [← this]
                exact results_tmp hres _ _ _
              · rw [R2.kinds, getO_eq] at hk
                rcases Nat.lt_or_ge id (p.map fun id => renO (idx p) (getO (admS ids S).objs) (getO (admS ids S).objs id)).length with h9 | h9
                · exact h9
                · rw [List.getElem?_eq_none h9] at hk; cases hk
            rcases hx with rfl | rfl <;> exact post
        · cases h
      dsimp only at h
      split at h
      · cases h
      · rename_i hne
        refine fin h ?_
        cases x with
        | normal => exact .inl rfl
        | ret => exact .inr rfl
        | exit id => exact absurd rfl (hne id)
    · cases h
  · cases h
end
end Go.Proofs.YtidgcfgkcidkiaaGreat.X
