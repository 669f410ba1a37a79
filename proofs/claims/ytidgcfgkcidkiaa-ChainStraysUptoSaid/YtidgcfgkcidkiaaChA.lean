/- Cells, layouts, messages as abstract values; what fits (rotuletlaw07, 09, 10). -/
import Derived.Test.YtidgcfgkcidkiaaGs
import Derived.Test.YtidgcfgkcidkiaaProg
namespace Go.Proofs.Ytidgcfgkcidkiaa.Ch
open Go Go.RowKit Go.Proofs.Ytidgcfgkcidkiaa.L Go.Proofs.Ytidgcfgkcidkiaa.X
set_option linter.unusedVariables false
set_option linter.unusedSimpArgs false

theorem mixed : Try.prog.follows .mixedOrders = true := by kernel_rfl
theorem get_of {α : Type} {l : List α} {k : Nat} (h : k < l.length) : ∃ x, l[k]? = some x := ⟨_, List.getElem?_eq_getElem h⟩
theorem wrap64 {n : Nat} (h : n < 9223372036854775807) : IntKind.i64.wrap ((n : Int) + 1) = ((n + 1 : Nat) : Int) := by
  simp [IntKind.wrap, IntKind.bits, IntKind.signed]; omega

structure BackD where
  s : Int
  a : Int
  b : Int
structure CellD where
  kind : Int
  data : List Int
  backs : List BackD
structure SegD where
  at_ : Int
  chains : List (List Int)
structure LayD where
  epoch : Int
  segs : List SegD
  seq : Int
def encB (x : BackD) : AV := .agg [.int .i64 x.s, .int .u64 x.a, .int .u64 x.b]
def byteA (n : Int) : AV := .int .u8 n
def intA (n : Int) : AV := .int .i64 n
def encU (u : List Int) : AV := .lst 1 (u.map intA)
def encS (x : SegD) : AV := .agg [.int .u64 x.at_, .lst 1 (x.chains.map encU)]
def celC (c : CellD) : List AV := [.int .i64 c.kind, .lst 1 (c.data.map byteA), .lst 3 (c.backs.map encB)]
def celL (l : LayD) : List AV := [.int .u64 l.epoch, .lst 2 (l.segs.map encS), .int .i64 l.seq]
def encC (c : CellD) : AV := .agg (celC c)
def encL (l : LayD) : AV := .agg (celL l)
structure MsgD where
  kind : Int
  fr : Int
  fn : Int
  tr : Int
  tn : Int
  id : Int
  of_ : Int
  epoch : Int
  addr : Int
  err : Int
  cell : CellD
  streams : List Int
  backs : List BackD
  br : Int
  bc : Int
  pr : Int
  pc : Int
  lay : LayD
def celM (m : MsgD) : List AV := [.int .i64 m.kind, .int .i64 m.fr, .int .i64 m.fn, .int .i64 m.tr, .int .i64 m.tn, .int .i64 m.id, .int .i64 m.of_, .int .u64 m.epoch, .int .u64 m.addr, .int .i64 m.err] ++ celC m.cell ++ [.lst 1 (m.streams.map intA), .lst 3 (m.backs.map encB), .int .i64 m.br, .int .i64 m.bc, .int .i64 m.pr, .int .i64 m.pc] ++ celL m.lay
def encM (m : MsgD) : AV := .agg (celM m)

theorem fits07_ac (c : CellD) : ∃ b, ACalls Try.prog 21 [encC c] [] (.bool b) [] := by
  by_cases h1 : c.data.length ≤ 400
  · by_cases h2 : c.backs.length ≤ 30
    · refine ⟨true, ?_⟩
      refine acallsK mixed Try.func21 rfl [0, 1, 2] 1000 ([.n c.data.length, .t, .n c.backs.length, .t]) [] [] (v1 := AV.bool true) (objs1 := []) (ob := [(↑(List.length (List.map byteA (CellD.data c))) : Int) = (↑(List.length (CellD.data c)) : Int),
      decide ((↑(List.length (CellD.data c)) : Int) ≤ (400 : Int)) = true,
      (↑(List.length (List.map encB (CellD.backs c))) : Int) = (↑(List.length (CellD.backs c)) : Int),
      decide ((↑(List.length (CellD.backs c)) : Int) ≤ (30 : Int)) = true]) (by kernel_rfl) (by first | exact rfl | exact ⟨rfl, rfl⟩ | (simp [h1, h2]; done)) ⟨(by first | exact rfl | (simp [h1, h2]; done) | (simp [h1, h2]; omega) | omega), (by first | exact rfl | (simp [h1, h2]; done) | (simp [h1, h2]; omega) | omega), (by first | exact rfl | (simp [h1, h2]; done) | (simp [h1, h2]; omega) | omega), (by first | exact rfl | (simp [h1, h2]; done) | (simp [h1, h2]; omega) | omega), trivial⟩
    · refine ⟨false, ?_⟩
      refine acallsK mixed Try.func21 rfl [0, 1, 2] 1000 ([.n c.data.length, .t, .n c.backs.length, .f]) [] [] (v1 := AV.bool false) (objs1 := []) (ob := [(↑(List.length (List.map byteA (CellD.data c))) : Int) = (↑(List.length (CellD.data c)) : Int),
      decide ((↑(List.length (CellD.data c)) : Int) ≤ (400 : Int)) = true,
      (↑(List.length (List.map encB (CellD.backs c))) : Int) = (↑(List.length (CellD.backs c)) : Int),
      decide ((↑(List.length (CellD.backs c)) : Int) ≤ (30 : Int)) = false]) (by kernel_rfl) (by first | exact rfl | exact ⟨rfl, rfl⟩ | (simp [h1, h2]; done) | (omega)) ⟨(by first | exact rfl | (simp [h1, h2]; done) | (simp [h1, h2]; omega) | omega | (omega)), (by first | exact rfl | (simp [h1, h2]; done) | (simp [h1, h2]; omega) | omega | (omega)), (by first | exact rfl | (simp [h1, h2]; done) | (simp [h1, h2]; omega) | omega | (omega)), (by first | exact rfl | (simp [h1, h2]; done) | (simp [h1, h2]; omega) | omega | (omega)), trivial⟩
  · refine ⟨false, ?_⟩
    refine acallsK mixed Try.func21 rfl [0, 1, 2] 1000 ([.n c.data.length, .f]) [] [] (v1 := AV.bool false) (objs1 := []) (ob := [(↑(List.length (List.map byteA (CellD.data c))) : Int) = (↑(List.length (CellD.data c)) : Int),
      decide ((↑(List.length (CellD.data c)) : Int) ≤ (400 : Int)) = false]) (by kernel_rfl) (by first | exact rfl | exact ⟨rfl, rfl⟩ | (simp [h1]; done) | (omega)) ⟨(by first | exact rfl | (simp [h1]; done) | (simp [h1]; omega) | omega | (omega)), (by first | exact rfl | (simp [h1]; done) | (simp [h1]; omega) | omega | (omega)), trivial⟩
theorem chains_loop (l : List (List Int)) : ∀ (n k : Nat), l.length = k + n → k ≤ 10 →
    ALoop Try.prog 0 Try.f32.ntmps (loopB Try.f32 0) ⟨[(3, .int .i64 k), (0, .lst 1 (l.map encU))], []⟩ (.exit 0) ⟨[], []⟩ ∨
    ALoop Try.prog 0 Try.f32.ntmps (loopB Try.f32 0) ⟨[(3, .int .i64 k), (0, .lst 1 (l.map encU))], []⟩ .ret ⟨[(2, .bool false)], []⟩
  | 0, k, h, hk => by
    refine .inl ?_
    refine aloopK mixed [0, 2, 3, 7, 19] 1000 ([.go, .n l.length, .f]) [] [] (S1 := { env := [], objs := [] }) (ob := [(↑(List.length (List.map encU l)) : Int) = (↑(List.length l) : Int),
      decide ((↑k : Int) < (↑(List.length l) : Int)) = false]) (by kernel_rfl) (by first | exact rfl | exact ⟨rfl, rfl⟩ | (simp []; done)) ⟨(by first | exact rfl | (simp []; done) | (simp []; omega) | omega), (by first | exact rfl | (simp []; done) | (simp []; omega) | omega), trivial⟩
  | n + 1, k, h, hk => by
    obtain ⟨x, hx⟩ := get_of (l := l) (k := k) (by omega)
    by_cases h10 : k = 10
    · refine .inr ?_
      refine aloopK mixed [0, 2, 3, 7, 19] 1000 ([.go, .n l.length, .t, .t]) [2] [] (S1 := { env := [(2, AV.bool false)], objs := [] }) (ob := [(↑(List.length (List.map encU l)) : Int) = (↑(List.length l) : Int),
      decide ((↑k : Int) < (↑(List.length l) : Int)) = true,
      ((↑k : Int) == (10 : Int)) = true]) (by kernel_rfl) (by first | exact rfl | exact ⟨rfl, rfl⟩ | (simp [h10]; done)) ⟨(by first | exact rfl | (simp [h10]; done) | (simp [h10]; omega) | omega), (by first | exact rfl | (simp [h10]; done) | (simp [h10]; omega) | omega), (by first | exact rfl | (simp [h10]; done) | (simp [h10]; omega) | omega), trivial⟩
    · by_cases hu : x.length ≤ 10
      · rcases chains_loop l n (k + 1) (by omega) (by omega) with ih | ih
        · refine .inl ?_
          refine aloopK mixed [0, 2, 3, 7, 19] 1000 ([.go, .n l.length, .t, .f, .ix k, .el (encU x), .n x.length, .f, .n ((k + 1 : Nat) : Int), .lp [3, 0] [] (.exit 0) ⟨[], []⟩]) [] [] (S1 := { env := [], objs := [] }) (ob := [(↑(List.length (List.map encU l)) : Int) = (↑(List.length l) : Int),
      decide ((↑k : Int) < (↑(List.length l) : Int)) = true,
      ((↑k : Int) == (10 : Int)) = false,
      k < List.length (List.map encU l),
      (↑k : Int) = (↑k : Int),
      (List.map encU l)[k]? = some (AV.lst (nat_lit 1) (List.map intA x)),
      (↑(List.length (List.map intA x)) : Int) = (↑(List.length x) : Int),
      decide ((↑(List.length x) : Int) > (10 : Int)) = false,
      IntKind.wrap IntKind.i64 ((↑k : Int) + (1 : Int)) = (↑(k + (1 : Nat)) : Int),
      ALoop Try.prog 0 20 (loopB Try.f32 0) { env := [(3, AV.int IntKind.i64 (↑(k + 1) : Int)), (0, AV.lst 1 (List.map encU l))], objs := [] } (Ex.exit 0) { env := [], objs := [] }]) (by kernel_rfl) (by first | exact rfl | exact ⟨rfl, rfl⟩ | (simp [hx, h10, encU]; done) | (first | omega | exact wrap64 (by omega))) ⟨(by first | exact rfl | (simp [hx, h10, encU]; done) | (simp [hx, h10, encU]; omega) | omega | (first | omega | exact wrap64 (by omega))), (by first | exact rfl | (simp [hx, h10, encU]; done) | (simp [hx, h10, encU]; omega) | omega | (first | omega | exact wrap64 (by omega))), (by first | exact rfl | (simp [hx, h10, encU]; done) | (simp [hx, h10, encU]; omega) | omega | (first | omega | exact wrap64 (by omega))), (by first | exact rfl | (simp [hx, h10, encU]; done) | (simp [hx, h10, encU]; omega) | omega | (first | omega | exact wrap64 (by omega))), (by first | exact rfl | (simp [hx, h10, encU]; done) | (simp [hx, h10, encU]; omega) | omega | (first | omega | exact wrap64 (by omega))), (by first | exact rfl | (simp [hx, h10, encU]; done) | (simp [hx, h10, encU]; omega) | omega | (first | omega | exact wrap64 (by omega))), (by first | exact rfl | (simp [hx, h10, encU]; done) | (simp [hx, h10, encU]; omega) | omega | (first | omega | exact wrap64 (by omega))), (by first | exact rfl | (simp [hx, h10, encU]; done) | (simp [hx, h10, encU]; omega) | omega | (first | omega | exact wrap64 (by omega))), (by first | exact rfl | (simp [hx, h10, encU]; done) | (simp [hx, h10, encU]; omega) | omega | (first | omega | exact wrap64 (by omega))), ?q82_1, trivial⟩
          exact ih
        · refine .inr ?_
          refine aloopK mixed [0, 2, 3, 7, 19] 1000 ([.go, .n l.length, .t, .f, .ix k, .el (encU x), .n x.length, .f, .n ((k + 1 : Nat) : Int), .lp [3, 0] [] .ret ⟨[(2, .bool false)], []⟩]) [2] [] (S1 := { env := [(2, AV.bool false)], objs := [] }) (ob := [(↑(List.length (List.map encU l)) : Int) = (↑(List.length l) : Int),
      decide ((↑k : Int) < (↑(List.length l) : Int)) = true,
      ((↑k : Int) == (10 : Int)) = false,
      k < List.length (List.map encU l),
      (↑k : Int) = (↑k : Int),
      (List.map encU l)[k]? = some (AV.lst (nat_lit 1) (List.map intA x)),
      (↑(List.length (List.map intA x)) : Int) = (↑(List.length x) : Int),
      decide ((↑(List.length x) : Int) > (10 : Int)) = false,
      IntKind.wrap IntKind.i64 ((↑k : Int) + (1 : Int)) = (↑(k + (1 : Nat)) : Int),
      ALoop Try.prog 0 20 (loopB Try.f32 0) { env := [(3, AV.int IntKind.i64 (↑(k + 1) : Int)), (0, AV.lst 1 (List.map encU l))], objs := [] } Ex.ret { env := [(2, AV.bool false)], objs := [] }]) (by kernel_rfl) (by first | exact rfl | exact ⟨rfl, rfl⟩ | (simp [hx, h10, encU]; done) | (first | omega | exact wrap64 (by omega))) ⟨(by first | exact rfl | (simp [hx, h10, encU]; done) | (simp [hx, h10, encU]; omega) | omega | (first | omega | exact wrap64 (by omega))), (by first | exact rfl | (simp [hx, h10, encU]; done) | (simp [hx, h10, encU]; omega) | omega | (first | omega | exact wrap64 (by omega))), (by first | exact rfl | (simp [hx, h10, encU]; done) | (simp [hx, h10, encU]; omega) | omega | (first | omega | exact wrap64 (by omega))), (by first | exact rfl | (simp [hx, h10, encU]; done) | (simp [hx, h10, encU]; omega) | omega | (first | omega | exact wrap64 (by omega))), (by first | exact rfl | (simp [hx, h10, encU]; done) | (simp [hx, h10, encU]; omega) | omega | (first | omega | exact wrap64 (by omega))), (by first | exact rfl | (simp [hx, h10, encU]; done) | (simp [hx, h10, encU]; omega) | omega | (first | omega | exact wrap64 (by omega))), (by first | exact rfl | (simp [hx, h10, encU]; done) | (simp [hx, h10, encU]; omega) | omega | (first | omega | exact wrap64 (by omega))), (by first | exact rfl | (simp [hx, h10, encU]; done) | (simp [hx, h10, encU]; omega) | omega | (first | omega | exact wrap64 (by omega))), (by first | exact rfl | (simp [hx, h10, encU]; done) | (simp [hx, h10, encU]; omega) | omega | (first | omega | exact wrap64 (by omega))), ?q85_1, trivial⟩
          exact ih
      · refine .inr ?_
        refine aloopK mixed [0, 2, 3, 7, 19] 1000 ([.go, .n l.length, .t, .f, .ix k, .el (encU x), .n x.length, .t]) [2] [] (S1 := { env := [(2, AV.bool false)], objs := [] }) (ob := [(↑(List.length (List.map encU l)) : Int) = (↑(List.length l) : Int),
      decide ((↑k : Int) < (↑(List.length l) : Int)) = true,
      ((↑k : Int) == (10 : Int)) = false,
      k < List.length (List.map encU l),
      (↑k : Int) = (↑k : Int),
      (List.map encU l)[k]? = some (AV.lst (nat_lit 1) (List.map intA x)),
      (↑(List.length (List.map intA x)) : Int) = (↑(List.length x) : Int),
      decide ((↑(List.length x) : Int) > (10 : Int)) = true]) (by kernel_rfl) (by first | exact rfl | exact ⟨rfl, rfl⟩ | (simp [hx, h10, encU]; done) | (omega)) ⟨(by first | exact rfl | (simp [hx, h10, encU]; done) | (simp [hx, h10, encU]; omega) | omega | (omega)), (by first | exact rfl | (simp [hx, h10, encU]; done) | (simp [hx, h10, encU]; omega) | omega | (omega)), (by first | exact rfl | (simp [hx, h10, encU]; done) | (simp [hx, h10, encU]; omega) | omega | (omega)), (by first | exact rfl | (simp [hx, h10, encU]; done) | (simp [hx, h10, encU]; omega) | omega | (omega)), (by first | exact rfl | (simp [hx, h10, encU]; done) | (simp [hx, h10, encU]; omega) | omega | (omega)), (by first | exact rfl | (simp [hx, h10, encU]; done) | (simp [hx, h10, encU]; omega) | omega | (omega)), (by first | exact rfl | (simp [hx, h10, encU]; done) | (simp [hx, h10, encU]; omega) | omega | (omega)), (by first | exact rfl | (simp [hx, h10, encU]; done) | (simp [hx, h10, encU]; omega) | omega | (omega)), trivial⟩
theorem chains_ac (l : List (List Int)) : ∃ b, ACalls Try.prog 32 [.lst 1 (l.map encU)] [] (.bool b) [] := by
  rcases chains_loop l l.length 0 (by omega) (by omega) with h | h
  · refine ⟨true, ?_⟩
    refine acallsK mixed Try.func32 rfl [0, 2, 3, 7, 19] 1000 ([.lp [3, 0] [] (.exit 0) ⟨[], []⟩]) [] [] (v1 := AV.bool true) (objs1 := []) (ob := [ALoop Try.prog 0 20 (loopB Try.f32 0) { env := [(3, AV.int IntKind.i64 0), (0, AV.lst 1 (List.map encU l))], objs := [] } (Ex.exit 0) { env := [], objs := [] }]) (by kernel_rfl) (by first | exact rfl | exact ⟨rfl, rfl⟩ | (simp []; done)) ⟨?q92_1, trivial⟩
    exact h
  · refine ⟨false, ?_⟩
    refine acallsK mixed Try.func32 rfl [0, 2, 3, 7, 19] 1000 ([.lp [3, 0] [] .ret ⟨[(2, .bool false)], []⟩]) [] [] (v1 := AV.bool false) (objs1 := []) (ob := [ALoop Try.prog 0 20 (loopB Try.f32 0) { env := [(3, AV.int IntKind.i64 0), (0, AV.lst 1 (List.map encU l))], objs := [] } Ex.ret { env := [(2, AV.bool false)], objs := [] }]) (by kernel_rfl) (by first | exact rfl | exact ⟨rfl, rfl⟩ | (simp []; done)) ⟨?q95_1, trivial⟩
    exact h
theorem fits09_loop (y : LayD) : ∀ (n k : Nat), y.segs.length = k + n → k ≤ 10 →
    ALoop Try.prog 0 Try.f13.ntmps (loopB Try.f13 0) ⟨[(3, .int .i64 k), (1, .ptr 0 0)], [.vars 25 (celL y)]⟩ (.exit 0) ⟨[], []⟩ ∨
    ALoop Try.prog 0 Try.f13.ntmps (loopB Try.f13 0) ⟨[(3, .int .i64 k), (1, .ptr 0 0)], [.vars 25 (celL y)]⟩ .ret ⟨[(2, .bool false)], []⟩
  | 0, k, h, hk => by
    refine .inl ?_
    refine aloopK mixed [0, 1, 2, 3, 4, 9, 24] 1000 ([.go, .n y.segs.length, .f]) [] [] (S1 := { env := [], objs := [] }) (ob := [(↑(List.length (List.map encS (LayD.segs y))) : Int) = (↑(List.length (LayD.segs y)) : Int),
      decide ((↑k : Int) < (↑(List.length (LayD.segs y)) : Int)) = false]) (by kernel_rfl) (by first | exact rfl | exact ⟨rfl, rfl⟩ | (simp []; done)) ⟨(by first | exact rfl | (simp []; done) | (simp []; omega) | omega), (by first | exact rfl | (simp []; done) | (simp []; omega) | omega), trivial⟩
  | n + 1, k, h, hk => by
    obtain ⟨x, hx⟩ := get_of (l := y.segs) (k := k) (by omega)
    obtain ⟨b, hb⟩ := chains_ac x.chains
    cases b with
    | false =>
      refine .inr ?_
      refine aloopK mixed [0, 1, 2, 3, 4, 9, 24] 1000 ([.go, .n y.segs.length, .t, .ix k, .el (encS x), .call [] false true (.bool false) []]) [2] [] (S1 := { env := [(2, AV.bool false)], objs := [] }) (ob := [(↑(List.length (List.map encS (LayD.segs y))) : Int) = (↑(List.length (LayD.segs y)) : Int),
      decide ((↑k : Int) < (↑(List.length (LayD.segs y)) : Int)) = true,
      k < List.length (List.map encS (LayD.segs y)),
      (↑k : Int) = (↑k : Int),
      (List.map encS (LayD.segs y))[k]? = some (AV.agg [AV.int IntKind.u64 (SegD.at_ x), AV.lst (nat_lit 1) (List.map encU (SegD.chains x))]),
      ACalls Try.prog 32 [AV.lst 1 (List.map encU (SegD.chains x))] [] (AV.bool false) []]) (by kernel_rfl) (by first | exact rfl | exact ⟨rfl, rfl⟩ | (simp [hx, encS]; done)) ⟨(by first | exact rfl | (simp [hx, encS]; done) | (simp [hx, encS]; omega) | omega), (by first | exact rfl | (simp [hx, encS]; done) | (simp [hx, encS]; omega) | omega), (by first | exact rfl | (simp [hx, encS]; done) | (simp [hx, encS]; omega) | omega), (by first | exact rfl | (simp [hx, encS]; done) | (simp [hx, encS]; omega) | omega), (by first | exact rfl | (simp [hx, encS]; done) | (simp [hx, encS]; omega) | omega), ?q109_1, trivial⟩
      exact hb
    | true =>
      by_cases h10 : k = 10
      · subst h10
        refine .inr ?_
        refine aloopK mixed [0, 1, 2, 3, 4, 9, 24] 1000 ([.go, .n y.segs.length, .t, .ix 10, .el (encS x), .call [] false true (.bool true) [], .t]) [2] [] (S1 := { env := [(2, AV.bool false)], objs := [] }) (ob := [(↑(List.length (List.map encS (LayD.segs y))) : Int) = (↑(List.length (LayD.segs y)) : Int),
      decide ((↑(10 : Nat) : Int) < (↑(List.length (LayD.segs y)) : Int)) = true,
      nat_lit 10 < List.length (List.map encS (LayD.segs y)),
      (↑(10 : Nat) : Int) = (↑(nat_lit 10) : Int),
      (List.map encS (LayD.segs y))[nat_lit 10]? = some (AV.agg [AV.int IntKind.u64 (SegD.at_ x), AV.lst (nat_lit 1) (List.map encU (SegD.chains x))]),
      ACalls Try.prog 32 [AV.lst 1 (List.map encU (SegD.chains x))] [] (AV.bool true) [],
      ((↑(10 : Nat) : Int) == (10 : Int)) = true]) (by kernel_rfl) (by first | exact rfl | exact ⟨rfl, rfl⟩ | (simp [hx, encS]; done)) ⟨(by first | exact rfl | (simp [hx, encS]; done) | (simp [hx, encS]; omega) | omega), (by first | exact rfl | (simp [hx, encS]; done) | (simp [hx, encS]; omega) | omega), (by first | exact rfl | (simp [hx, encS]; done) | (simp [hx, encS]; omega) | omega), (by first | exact rfl | (simp [hx, encS]; done) | (simp [hx, encS]; omega) | omega), (by first | exact rfl | (simp [hx, encS]; done) | (simp [hx, encS]; omega) | omega), ?q115_1, (by first | exact rfl | (simp [hx, encS]; done) | (simp [hx, encS]; omega) | omega), trivial⟩
        exact hb
      · rcases fits09_loop y n (k + 1) (by omega) (by omega) with ih | ih
        · refine .inl ?_
          refine aloopK mixed [0, 1, 2, 3, 4, 9, 24] 1000 ([.go, .n y.segs.length, .t, .ix k, .el (encS x), .call [] false true (.bool true) [], .f, .n ((k + 1 : Nat) : Int), .lp [3, 1] [0] (.exit 0) ⟨[], []⟩]) [] [] (S1 := { env := [], objs := [] }) (ob := [(↑(List.length (List.map encS (LayD.segs y))) : Int) = (↑(List.length (LayD.segs y)) : Int),
      decide ((↑k : Int) < (↑(List.length (LayD.segs y)) : Int)) = true,
      k < List.length (List.map encS (LayD.segs y)),
      (↑k : Int) = (↑k : Int),
      (List.map encS (LayD.segs y))[k]? = some (AV.agg [AV.int IntKind.u64 (SegD.at_ x), AV.lst (nat_lit 1) (List.map encU (SegD.chains x))]),
      ACalls Try.prog 32 [AV.lst 1 (List.map encU (SegD.chains x))] [] (AV.bool true) [],
      ((↑k : Int) == (10 : Int)) = false,
      IntKind.wrap IntKind.i64 ((↑k : Int) + (1 : Int)) = (↑(k + (1 : Nat)) : Int),
      ALoop Try.prog 0 25 (loopB Try.f13 0) { env := [(3, AV.int IntKind.i64 (↑(k + 1) : Int)), (1, AV.ptr 0 0)], objs := [Obj.vars 25 [AV.int IntKind.u64 (LayD.epoch y), AV.lst 2 (List.map encS (LayD.segs y)), AV.int IntKind.i64 (LayD.seq y)]] } (Ex.exit 0) { env := [], objs := [] }]) (by kernel_rfl) (by first | exact rfl | exact ⟨rfl, rfl⟩ | (simp [hx, encS, h10]; done) | (first | omega | exact wrap64 (by omega))) ⟨(by first | exact rfl | (simp [hx, encS, h10]; done) | (simp [hx, encS, h10]; omega) | omega | (first | omega | exact wrap64 (by omega))), (by first | exact rfl | (simp [hx, encS, h10]; done) | (simp [hx, encS, h10]; omega) | omega | (first | omega | exact wrap64 (by omega))), (by first | exact rfl | (simp [hx, encS, h10]; done) | (simp [hx, encS, h10]; omega) | omega | (first | omega | exact wrap64 (by omega))), (by first | exact rfl | (simp [hx, encS, h10]; done) | (simp [hx, encS, h10]; omega) | omega | (first | omega | exact wrap64 (by omega))), (by first | exact rfl | (simp [hx, encS, h10]; done) | (simp [hx, encS, h10]; omega) | omega | (first | omega | exact wrap64 (by omega))), ?q119_1, (by first | exact rfl | (simp [hx, encS, h10]; done) | (simp [hx, encS, h10]; omega) | omega | (first | omega | exact wrap64 (by omega))), (by first | exact rfl | (simp [hx, encS, h10]; done) | (simp [hx, encS, h10]; omega) | omega | (first | omega | exact wrap64 (by omega))), ?q119_2, trivial⟩
          · exact hb
          · exact ih
        · refine .inr ?_
          refine aloopK mixed [0, 1, 2, 3, 4, 9, 24] 1000 ([.go, .n y.segs.length, .t, .ix k, .el (encS x), .call [] false true (.bool true) [], .f, .n ((k + 1 : Nat) : Int), .lp [3, 1] [0] .ret ⟨[(2, .bool false)], []⟩]) [2] [] (S1 := { env := [(2, AV.bool false)], objs := [] }) (ob := [(↑(List.length (List.map encS (LayD.segs y))) : Int) = (↑(List.length (LayD.segs y)) : Int),
      decide ((↑k : Int) < (↑(List.length (LayD.segs y)) : Int)) = true,
      k < List.length (List.map encS (LayD.segs y)),
      (↑k : Int) = (↑k : Int),
      (List.map encS (LayD.segs y))[k]? = some (AV.agg [AV.int IntKind.u64 (SegD.at_ x), AV.lst (nat_lit 1) (List.map encU (SegD.chains x))]),
      ACalls Try.prog 32 [AV.lst 1 (List.map encU (SegD.chains x))] [] (AV.bool true) [],
      ((↑k : Int) == (10 : Int)) = false,
      IntKind.wrap IntKind.i64 ((↑k : Int) + (1 : Int)) = (↑(k + (1 : Nat)) : Int),
      ALoop Try.prog 0 25 (loopB Try.f13 0) { env := [(3, AV.int IntKind.i64 (↑(k + 1) : Int)), (1, AV.ptr 0 0)], objs := [Obj.vars 25 [AV.int IntKind.u64 (LayD.epoch y), AV.lst 2 (List.map encS (LayD.segs y)), AV.int IntKind.i64 (LayD.seq y)]] } Ex.ret { env := [(2, AV.bool false)], objs := [] }]) (by kernel_rfl) (by first | exact rfl | exact ⟨rfl, rfl⟩ | (simp [hx, encS, h10]; done) | (first | omega | exact wrap64 (by omega))) ⟨(by first | exact rfl | (simp [hx, encS, h10]; done) | (simp [hx, encS, h10]; omega) | omega | (first | omega | exact wrap64 (by omega))), (by first | exact rfl | (simp [hx, encS, h10]; done) | (simp [hx, encS, h10]; omega) | omega | (first | omega | exact wrap64 (by omega))), (by first | exact rfl | (simp [hx, encS, h10]; done) | (simp [hx, encS, h10]; omega) | omega | (first | omega | exact wrap64 (by omega))), (by first | exact rfl | (simp [hx, encS, h10]; done) | (simp [hx, encS, h10]; omega) | omega | (first | omega | exact wrap64 (by omega))), (by first | exact rfl | (simp [hx, encS, h10]; done) | (simp [hx, encS, h10]; omega) | omega | (first | omega | exact wrap64 (by omega))), ?q123_1, (by first | exact rfl | (simp [hx, encS, h10]; done) | (simp [hx, encS, h10]; omega) | omega | (first | omega | exact wrap64 (by omega))), (by first | exact rfl | (simp [hx, encS, h10]; done) | (simp [hx, encS, h10]; omega) | omega | (first | omega | exact wrap64 (by omega))), ?q123_2, trivial⟩
          · exact hb
          · exact ih
theorem fits09_ac (y : LayD) : ∃ b, ACalls Try.prog 13 [encL y] [] (.bool b) [] := by
  rcases fits09_loop y y.segs.length 0 (by omega) (by omega) with h | h
  · refine ⟨true, ?_⟩
    refine acallsK mixed Try.func13 rfl [0, 1, 2, 3, 4, 9, 24] 1000 ([.lp [3, 1] [0] (.exit 0) ⟨[], []⟩]) [] [] (v1 := AV.bool true) (objs1 := []) (ob := [ALoop Try.prog 0 25 (loopB Try.f13 0) { env := [(3, AV.int IntKind.i64 0), (1, AV.ptr 0 0)], objs := [Obj.vars 25 [AV.int IntKind.u64 (LayD.epoch y), AV.lst 2 (List.map encS (LayD.segs y)), AV.int IntKind.i64 (LayD.seq y)]] } (Ex.exit 0) { env := [], objs := [] }]) (by kernel_rfl) (by first | exact rfl | exact ⟨rfl, rfl⟩ | (simp []; done)) ⟨?q129_1, trivial⟩
    exact h
  · refine ⟨false, ?_⟩
    refine acallsK mixed Try.func13 rfl [0, 1, 2, 3, 4, 9, 24] 1000 ([.lp [3, 1] [0] .ret ⟨[(2, .bool false)], []⟩]) [] [] (v1 := AV.bool false) (objs1 := []) (ob := [ALoop Try.prog 0 25 (loopB Try.f13 0) { env := [(3, AV.int IntKind.i64 0), (1, AV.ptr 0 0)], objs := [Obj.vars 25 [AV.int IntKind.u64 (LayD.epoch y), AV.lst 2 (List.map encS (LayD.segs y)), AV.int IntKind.i64 (LayD.seq y)]] } Ex.ret { env := [(2, AV.bool false)], objs := [] }]) (by kernel_rfl) (by first | exact rfl | exact ⟨rfl, rfl⟩ | (simp []; done)) ⟨?q132_1, trivial⟩
    exact h
end Go.Proofs.Ytidgcfgkcidkiaa.Ch
