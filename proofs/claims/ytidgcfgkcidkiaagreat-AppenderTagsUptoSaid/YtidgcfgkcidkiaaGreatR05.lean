/- Texts of one proof, laid together: Ec, Ed, Ee, Ef, Eg, Eh, Ei, Ej, Ek, El, Em, En, Eo. -/
import Derived.Test.YtidgcfgkcidkiaaGreatR04
import Derived.Test.YtidgcfgkcidkiaaGreatProg
import Derived.Shelf.Strconv.Itoa0
namespace Go.Proofs.YtidgcfgkcidkiaaGreat.Ch
open Go Go.RowKit Go.Proofs.YtidgcfgkcidkiaaGreat.L Go.Proofs.YtidgcfgkcidkiaaGreat.X
set_option linter.unusedVariables false
set_option linter.unusedSimpArgs false
theorem tags_0 (c : CellD) (hlive : ACalls Tryz.prog 25 [] [] (.bool true) []) (h1 : ACalls Tryz.prog 24 [encC c] [] (.bool false) []) : ACalls Tryz.prog 4 [encC c] [] (.bool true) [] := by
  refine acallsK mixed Tryz.func4 rfl [0, 1, 2, 3, 4, 5, 6, 7, 8, 12, 31, 33] 1000 ([.call [] false true (.bool false) [], .call [] false true (.bool true) []]) [] [] (v1 := .bool true) (objs1 := []) (ob := [ACalls Tryz.prog 24 [(encC c)] [] (.bool false) [],
 ACalls Tryz.prog 25 [] [] (.bool true) []]) (by kernel_rfl) (by first | exact rfl | exact ⟨rfl, rfl⟩ | (simp [encC, celC]; done)) ⟨?q9_1, ?q9_2, trivial⟩
  · exact h1
  · exact hlive
theorem tags_1 (c : CellD) (h : ¬ c.kind = 1) (hlive : ACalls Tryz.prog 25 [] [] (.bool true) []) (h1 : ACalls Tryz.prog 24 [encC c] [] (.bool true) []) : ACalls Tryz.prog 4 [encC c] [] (.bool true) [] := by
  have q := payload_no1 c h
  refine acallsK mixed Tryz.func4 rfl [0, 1, 2, 3, 4, 5, 6, 7, 8, 12, 31, 33] 1000 ([.call [] false true (.bool true) [], .call [] false true (.tup [.int .i64 0, .int .i64 0, .nils, .bool false]) [], .f, .f, .call [] false true (.bool true) [], .t, .t, .t]) [] [] (v1 := .bool true) (objs1 := []) (ob := [ACalls Tryz.prog 24 [(encC c)] [] (.bool true) [],
 ACalls Tryz.prog 26 [(encC c)] [] (.tup [.int .i64 0, .int .i64 0, .nils, .bool false]) [],
 (c.kind == (1 : Int)) = false,
 (!false == false) = false,
 ACalls Tryz.prog 25 [] [] (.bool true) [],
 ((0 : Int) == (0 : Int)) = true,
 ((0 : Int) == (0 : Int)) = true,
 ((0 : Int) == (0 : Int)) = true]) (by kernel_rfl) (by first | exact rfl | exact ⟨rfl, rfl⟩ | (simp [encC, celC, h]; done)) ⟨?q14_1, ?q14_2, ?z0, ?z1, ?q14_3, ?z2, ?z3, ?z4, trivial⟩
  case z0|z1|z2|z3|z4 => first | exact rfl | (simp [encC, celC, h] <;> omega) | omega
  · exact h1
  · exact q
  · exact hlive
theorem tags_2 (c : CellD) (h : c.kind = 1) (h2 : c.data.length < 4) (hlive : ACalls Tryz.prog 25 [] [] (.bool true) []) (h1 : ACalls Tryz.prog 24 [encC c] [] (.bool true) []) : ACalls Tryz.prog 4 [encC c] [] (.bool true) [] := by
  have q := payload_no2 c h h2
  refine acallsK mixed Tryz.func4 rfl [0, 1, 2, 3, 4, 5, 6, 7, 8, 12, 31, 33] 1000 ([.call [] false true (.bool true) [], .call [] false true (.tup [.int .i64 0, .int .i64 0, .nils, .bool false]) [], .t, .n c.data.length, .f, .f, .call [] false true (.bool true) [], .t, .t, .t]) [] [] (v1 := .bool true) (objs1 := []) (ob := [ACalls Tryz.prog 24 [(encC c)] [] (.bool true) [],
 ACalls Tryz.prog 26 [(encC c)] [] (.tup [.int .i64 0, .int .i64 0, .nils, .bool false]) [],
 (c.kind == (1 : Int)) = true,
 ((List.map byteA c.data).length : Int) = (c.data.length : Int),
 decide ((c.data.length : Int) ≥ (4 : Int)) = false,
 (!false == false) = false,
 ACalls Tryz.prog 25 [] [] (.bool true) [],
 ((0 : Int) == (0 : Int)) = true,
 ((0 : Int) == (0 : Int)) = true,
 ((0 : Int) == (0 : Int)) = true]) (by kernel_rfl) (by first | exact rfl | exact ⟨rfl, rfl⟩ | (simp [encC, celC, h]; done) | (omega)) ⟨?q20_1, ?q20_2, ?z0, ?z1, ?z2, ?z3, ?q20_3, ?z4, ?z5, ?z6, trivial⟩
  case z0|z1|z2|z3|z4|z5|z6 => first | exact rfl | (simp [encC, celC, h] <;> omega) | omega | (omega)
  · exact h1
  · exact q
  · exact hlive
theorem tags_3 (c : CellD) (h : c.kind = 1) (a b d e : Int) (r : List Int) (h2 : c.data = a :: b :: d :: e :: r) (hby : Bytes c.data) (hr : c.data.length ≤ 1000000000) (hlive : ACalls Tryz.prog 25 [] [] (.bool true) []) (h1 : ACalls Tryz.prog 24 [encC c] [] (.bool true) []) : ACalls Tryz.prog 4 [encC c] [] (.bool true) [] := by
  have ha := hby a (by rw [h2]; simp)
  have hb := hby b (by rw [h2]; simp)
  have hd := hby d (by rw [h2]; simp)
  have he := hby e (by rw [h2]; simp)
  have hl : c.data.length = r.length + 4 := by rw [h2]; simp
  have q := payload_yes c h a b d e r h2 ha hb hd he (bclone_ac r (by omega))
  have qt := tag_ac a (b * 65536 + d * 256 + e) ha.1 ha.2 (by omega) (by omega)
  rw [show (b * 65536 + d * 256 + e) / 65536 = b by omega, show (b * 65536 + d * 256 + e) / 256 % 256 = d by omega, show (b * 65536 + d * 256 + e) % 256 = e by omega] at qt
  have e1 := bytes_st hby
  have hm : [a, b, d, e].map byteA ++ r.map byteA = c.data.map byteA := by rw [h2]; simp
  have hs : ((bytesOf c.data).toList == (bytesOf c.data).toList) = true := by simp
  have hsz : (4 + (r.map byteA).length) * 1 ≤ 140737488355328 := by rw [List.length_map]; omega
  refine acallsK mixed Tryz.func4 rfl [0, 1, 2, 3, 4, 5, 6, 7, 8, 12, 31, 33] 1000 ([.call [] false true (.bool true) [], .call [] false false (.tup [.int .i64 a, .int .i64 (b * 65536 + d * 256 + e), .row 0 1 r.length, .bool true]) [.row 5 1 (r.map byteA)], .t, .n c.data.length, .t, .f, .call [] false false (.row 0 1 4) [.row 5 1 ([a, b, d, e].map byteA)], .ls (c.data.map byteA), .call [] false true (.bool true) [], .st (bytesOf c.data), .st (bytesOf c.data), .t]) [] [] (v1 := .bool true) (objs1 := []) (ob := [ACalls Tryz.prog 24 [(encC c)] [] (.bool true) [],
 ACalls Tryz.prog 26 [(encC c)] [] (.tup [.int .i64 a, .int .i64 (b * 65536 + d * 256 + e), .row 0 1 (List.length r), .bool true]) [.row 5 1 (List.map byteA r)],
 (c.kind == (1 : Int)) = true,
 ((List.map byteA c.data).length : Int) = (c.data.length : Int),
 decide ((c.data.length : Int) ≥ (4 : Int)) = true,
 (!true == true) = false,
 ACalls Tryz.prog 27 [.int .i64 a, .int .i64 (b * 65536 + d * 256 + e)] [] (.row 0 1 4) [.row 5 1 [.int .u8 a, .int .u8 b, .int .u8 d, .int .u8 e]],
 ((4 : Nat) + List.length (List.map byteA r)) * (1 : Nat) ≤ (140737488355328 : Nat),
      [AV.int IntKind.u8 a, AV.int IntKind.u8 b, AV.int IntKind.u8 d, AV.int IntKind.u8 e] ++ List.map byteA r = List.map byteA (CellD.data c),
      ACalls Tryz.prog 25 [] [] (.bool true) [],
 List.map byteA c.data = List.map (fun b => .int .u8 (↑(UInt8.toNat b) : Int)) (Array.toList (ByteArray.data (bytesOf c.data))),
 List.map byteA c.data = List.map (fun b => .int .u8 (↑(UInt8.toNat b) : Int)) (Array.toList (ByteArray.data (bytesOf c.data))),
 (ByteArray.toList (bytesOf c.data) == ByteArray.toList (bytesOf c.data)) = true]) (by kernel_rfl) (by first | exact rfl | exact ⟨rfl, rfl⟩ | (simp [encC, celC, h, byteA]; done) | (first | exact e1 | exact hm | exact hs | exact hsz | omega)) ⟨?q37_1, ?q37_2, ?z0, ?z1, ?z2, ?z3, ?q37_3, ?z4, ?z5, ?q37_4, ?z6, ?z7, ?z8, trivial⟩
  case z0|z1|z2|z3|z4|z5|z6|z7|z8 => first | exact rfl | (simp [encC, celC, h, byteA] <;> omega) | omega | (first | exact e1 | exact hm | exact hs | exact hsz | omega)
  · exact h1
  · exact q
  · exact qt
  · exact hlive
end Go.Proofs.YtidgcfgkcidkiaaGreat.Ch
namespace Go.Proofs.YtidgcfgkcidkiaaGreat.Ch
open Go Go.RowKit Go.Proofs.YtidgcfgkcidkiaaGreat.L Go.Proofs.YtidgcfgkcidkiaaGreat.X
set_option linter.unusedVariables false
set_option linter.unusedSimpArgs false
def u64A (n : Int) : AV := .int .u64 n
def putO (ws vs : List Int) : List X.Obj := [.vars 46 [.row 2 1 ws.length], .vars 132 [.row 3 1 vs.length], .row 3 1 (ws.map intA), .row 22 1 (vs.map u64A)]
theorem put_first (w n : Int) : ACalls Tryz.prog 112 [.int .i64 w, .int .u64 n, .ptr 0 0, .ptr 1 0] [.vars 46 [.nils], .vars 132 [.nils]] (.tup []) (putO [w] [n]) := by
  refine acallsK mixed Tryz.func112 rfl [0, 1, 2, 3] 1000 ([.ls [intA w], .ls [u64A n]]) [0, 1] [0, 1, 3, 5] (v1 := .tup []) (objs1 := [.vars 46 [.row 2 1 1], .vars 132 [.row 3 1 1], .row 3 1 [.int .i64 w], .row 22 1 [.int .u64 n]]) (ob := [(1 : Nat) * (8 : Nat) ≤ (140737488355328 : Nat),
      [AV.int IntKind.i64 w] = [AV.int IntKind.i64 w],
      (1 : Nat) * (8 : Nat) ≤ (140737488355328 : Nat),
      [AV.int IntKind.u64 n] = [AV.int IntKind.u64 n]]) (by kernel_rfl) (by first | exact rfl | exact ⟨rfl, rfl⟩ | (simp [putO, intA, u64A]; done)) ⟨?z0, ?z1, ?z2, ?z3, trivial⟩
  case z0|z1|z2|z3 => first | exact rfl | (simp [putO, intA, u64A] <;> omega) | omega
theorem put_more (ws vs : List Int) (w n : Int) (h1 : ws.length ≤ 1000000) (h2 : vs.length ≤ 1000000) : ACalls Tryz.prog 112 [.int .i64 w, .int .u64 n, .ptr 0 0, .ptr 1 0] (putO ws vs) (.tup []) (putO (ws ++ [w]) (vs ++ [n])) := by
  have e1 : ws.map intA ++ [.int .i64 w] = (ws ++ [w]).map intA := by simp [intA]
  have e2 : vs.map u64A ++ [.int .u64 n] = (vs ++ [n]).map u64A := by simp [u64A]
  have s1 : ((ws.map intA).length + 1) * 8 ≤ 140737488355328 := by rw [List.length_map]; omega
  have s2 : ((vs.map u64A).length + 1) * 8 ≤ 140737488355328 := by rw [List.length_map]; omega
  refine acallsK mixed Tryz.func112 rfl [0, 1, 2, 3] 1000 ([.ls ((ws ++ [w]).map intA), .ls ((vs ++ [n]).map u64A)]) [0, 1, 2, 3] [0, 1, 5, 7] (v1 := .tup []) (objs1 := [.vars 46 [.row 2 1 (List.length (List.map intA (ws ++ [w])))], .vars 132 [.row 3 1 (List.length (List.map u64A (vs ++ [n])))], .row 3 1 (List.map intA (ws ++ [w])), .row 22 1 (List.map u64A (vs ++ [n]))]) (ob := [(List.length (List.map intA ws) + (1 : Nat)) * (8 : Nat) ≤ (140737488355328 : Nat),
 List.map intA ws ++ [.int .i64 w] = List.map intA (ws ++ [w]),
 (List.length (List.map u64A vs) + (1 : Nat)) * (8 : Nat) ≤ (140737488355328 : Nat),
 List.map u64A vs ++ [.int .u64 n] = List.map u64A (vs ++ [n])]) (by kernel_rfl) (by first | exact rfl | exact ⟨rfl, rfl⟩ | (simp [putO, intA, u64A]; done) | (first | exact e1 | exact e2 | exact s1 | exact s2 | omega)) ⟨?z0, ?z1, ?z2, ?z3, trivial⟩
  case z0|z1|z2|z3 => first | exact rfl | (simp [putO, intA, u64A] <;> omega) | omega | (first | exact e1 | exact e2 | exact s1 | exact s2 | omega)
def putP (ps : List (Int × Int)) : List X.Obj := putO (ps.map (·.1)) (ps.map (·.2))
theorem putP_more (ps : List (Int × Int)) (w n : Int) (h : ps.length ≤ 1000000) : ACalls Tryz.prog 112 [.int .i64 w, .int .u64 n, .ptr 0 0, .ptr 1 0] (putP ps) (.tup []) (putP (ps ++ [(w, n)])) := by
  have q := put_more (ps.map (·.1)) (ps.map (·.2)) w n (by rw [List.length_map]; exact h) (by rw [List.length_map]; exact h)
  have e : putP (ps ++ [(w, n)]) = putO (ps.map (·.1) ++ [w]) (ps.map (·.2) ++ [n]) := by simp [putP]
  rw [e]
  exact q
def chainP (c : List Int) : List (Int × Int) := (2, (c.length : Int) - 1) :: c.map (5, ·)
def segP (s : SegD) : List (Int × Int) := (20, s.at_) :: (2, (s.chains.length : Int) - 1) :: s.chains.flatMap chainP
theorem wu (x : Int) (h0 : 0 ≤ x) (h1 : x < 18446744073709551616) : IntKind.u64.wrap x = x := by simp [IntKind.wrap, IntKind.signed, IntKind.bits]; omega
theorem enc_units (l : LayD) (k0 : Nat) (s : SegD) (k1 : Nat) (c : List Int) (hc : ∀ x ∈ c, 0 ≤ x ∧ x < 32) (hcl : c.length ≤ 1000) : ∀ (n k : Nat) (ps : List (Int × Int)), c.length = k + n → ps.length + n ≤ 100000 →
    ALoop Tryz.prog 0 Tryz.f66.ntmps (loopB Tryz.f66 2) ⟨[(68, .int .i64 k), (67, .int .i64 c.length), (66, .lst 1 (c.map intA)), (56, .int .i64 k1), (55, .int .i64 s.chains.length), (54, .lst 1 (s.chains.map encU)), (38, .int .i64 k0), (37, .int .i64 l.segs.length), (36, .lst 2 (l.segs.map encS)), (6, .fn 112 [.ptr 0 0, .ptr 1 0]), (5, .ptr 1 0), (4, .ptr 0 0)], putP ps⟩ (.exit 4) ⟨[(56, .int .i64 k1), (55, .int .i64 s.chains.length), (54, .lst 1 (s.chains.map encU)), (38, .int .i64 k0), (37, .int .i64 l.segs.length), (36, .lst 2 (l.segs.map encS)), (6, .fn 112 [.ptr 0 0, .ptr 1 0]), (5, .ptr 1 0), (4, .ptr 0 0)], putP (ps ++ (c.drop k).map (5, ·))⟩
  | 0, k, ps, h, hp => by
    rw [List.drop_eq_nil_of_le (by omega), List.map_nil, List.append_nil]
    refine aloopK mixed [0, 1, 2, 3, 4, 5, 6, 8, 10, 12, 13, 17, 36, 37, 38, 39, 54, 55, 56, 57, 66, 67, 68, 69] 1000 ([.go, .f]) [56, 55, 54, 38, 37, 36, 6, 5, 4] [0, 1, 2, 3] (S1 := { env := [(56, .int .i64 (↑k1 : Int)), (55, .int .i64 (s.chains.length : Int)), (54, .lst 1 (List.map encU s.chains)), (38, .int .i64 (↑k0 : Int)), (37, .int .i64 (l.segs.length : Int)), (36, .lst 2 (List.map encS l.segs)), (6, .fn 112 [.ptr 0 0, .ptr 1 0]), (5, .ptr 1 0), (4, .ptr 0 0)], objs := [.vars 46 [.row 2 1 (List.length (List.map (fun x => x.1) ps))], .vars 132 [.row 3 1 (List.length (List.map (fun x => x.2) ps))], .row 3 1 (List.map intA (List.map (fun x => x.1) ps)), .row 22 1 (List.map u64A (List.map (fun x => x.2) ps))] }) (ob := [decide ((↑k : Int) < (c.length : Int)) = false]) (by kernel_rfl) (by first | exact rfl | exact ⟨rfl, rfl⟩ | (simp [putP, putO]; done)) ⟨(by first | exact rfl | (simp [putP, putO]; done) | (simp [putP, putO]; omega) | omega), trivial⟩
  | n + 1, k, ps, h, hp => by
    obtain ⟨x, hx⟩ := get_of (l := c) (k := k) (by omega)
    have hx2 := hc x (List.mem_of_getElem? hx)
    have hk : k < c.length := by omega
    have hw : IntKind.i64.wrap ((k : Int) + 1) = ((k + 1 : Nat) : Int) := wrap64 (by omega)
    have hu := wu x hx2.1 (by omega)
    have ih := enc_units l k0 s k1 c hc hcl n (k + 1) (ps ++ [(5, x)]) (by omega) (by rw [List.length_append, List.length_cons, List.length_nil]; omega)
    have hg := idx_at hx
    rw [show ps ++ [(5, x)] ++ (c.drop (k + 1)).map (5, ·) = ps ++ (c.drop k).map (5, ·) by rw [drop_of hx]; simp] at ih
    refine aloopK mixed [0, 1, 2, 3, 4, 5, 6, 8, 10, 12, 13, 17, 36, 37, 38, 39, 54, 55, 56, 57, 66, 67, 68, 69] 1000 ([.go, .t, .ix k, .el (intA x), .n x, .call [0, 1, 2, 3] false false (.tup []) (putP (ps ++ [(5, x)])), .n ((k + 1 : Nat) : Int), .lp [68, 67, 66, 56, 55, 54, 38, 37, 36, 6, 5, 4] [0, 1, 6, 7] (.exit 4) ⟨[(56, .int .i64 k1), (55, .int .i64 s.chains.length), (54, .lst 1 (s.chains.map encU)), (38, .int .i64 k0), (37, .int .i64 l.segs.length), (36, .lst 2 (l.segs.map encS)), (6, .fn 112 [.ptr 0 0, .ptr 1 0]), (5, .ptr 1 0), (4, .ptr 0 0)], putP (ps ++ (c.drop k).map (5, ·))⟩]) [56, 55, 54, 38, 37, 36, 6, 5, 4] [0, 1, 2, 3] (S1 := { env := [(56, .int .i64 (↑k1 : Int)), (55, .int .i64 (s.chains.length : Int)), (54, .lst 1 (List.map encU s.chains)), (38, .int .i64 (↑k0 : Int)), (37, .int .i64 (l.segs.length : Int)), (36, .lst 2 (List.map encS l.segs)), (6, .fn 112 [.ptr 0 0, .ptr 1 0]), (5, .ptr 1 0), (4, .ptr 0 0)], objs := [.vars 46 [.row 2 1 (List.length (List.map (fun x => x.1) (ps ++ List.map (fun x => (5, x)) (List.drop k c))))], .vars 132 [.row 3 1 (List.length (List.map (fun x => x.2) (ps ++ List.map (fun x => (5, x)) (List.drop k c))))], .row 3 1 (List.map intA (List.map (fun x => x.1) (ps ++ List.map (fun x => (5, x)) (List.drop k c)))), .row 22 1 (List.map u64A (List.map (fun x => x.2) (ps ++ List.map (fun x => (5, x)) (List.drop k c))))] }) (ob := [decide ((↑k : Int) < (c.length : Int)) = true,
 k < List.length (List.map intA c),
 (↑k : Int) = (↑k : Int),
 (List.map intA c)[k]? = some (.int .i64 x),
 IntKind.wrap IntKind.u64 x = x,
 ACalls Tryz.prog 112 [.int .i64 5, .int .u64 x, .ptr 0 0, .ptr 1 0] [.vars 46 [.row 2 1 (List.length (List.map (fun x => x.1) ps))], .vars 132 [.row 3 1 (List.length (List.map (fun x => x.2) ps))], .row 3 1 (List.map intA (List.map (fun x => x.1) ps)), .row 22 1 (List.map u64A (List.map (fun x => x.2) ps))] (.tup []) [.vars 46 [.row 2 1 (List.length (List.map (fun x => x.1) (ps ++ [(5, x)])))], .vars 132 [.row 3 1 (List.length (List.map (fun x => x.2) (ps ++ [(5, x)])))], .row 3 1 (List.map intA (List.map (fun x => x.1) (ps ++ [(5, x)]))), .row 22 1 (List.map u64A (List.map (fun x => x.2) (ps ++ [(5, x)])))],
 IntKind.i64.wrap ((↑k : Int) + (1 : Int)) = (↑(k + (1 : Nat)) : Int),
 ALoop Tryz.prog 0 86 (loopB Tryz.f66 2) { env := [(68, .int .i64 (↑(k + 1) : Int)), (67, .int .i64 (c.length : Int)), (66, .lst 1 (List.map intA c)), (56, .int .i64 (↑k1 : Int)), (55, .int .i64 (s.chains.length : Int)), (54, .lst 1 (List.map encU s.chains)), (38, .int .i64 (↑k0 : Int)), (37, .int .i64 (l.segs.length : Int)), (36, .lst 2 (List.map encS l.segs)), (6, .fn 112 [.ptr 0 0, .ptr 1 0]), (5, .ptr 1 0), (4, .ptr 0 0)], objs := [.vars 46 [.row 2 1 (List.length (List.map (fun x => x.1) (ps ++ [(5, x)])))], .vars 132 [.row 3 1 (List.length (List.map (fun x => x.2) (ps ++ [(5, x)])))], .row 3 1 (List.map intA (List.map (fun x => x.1) (ps ++ [(5, x)]))), .row 22 1 (List.map u64A (List.map (fun x => x.2) (ps ++ [(5, x)])))] } (Ex.exit 4) { env := [(56, .int .i64 (↑k1 : Int)), (55, .int .i64 (s.chains.length : Int)), (54, .lst 1 (List.map encU s.chains)), (38, .int .i64 (↑k0 : Int)), (37, .int .i64 (l.segs.length : Int)), (36, .lst 2 (List.map encS l.segs)), (6, .fn 112 [.ptr 0 0, .ptr 1 0]), (5, .ptr 1 0), (4, .ptr 0 0)], objs := [.vars 46 [.row 2 1 (List.length (List.map (fun x => x.1) (ps ++ List.map (fun x => (5, x)) (List.drop k c))))], .vars 132 [.row 3 1 (List.length (List.map (fun x => x.2) (ps ++ List.map (fun x => (5, x)) (List.drop k c))))], .row 3 1 (List.map intA (List.map (fun x => x.1) (ps ++ List.map (fun x => (5, x)) (List.drop k c)))), .row 22 1 (List.map u64A (List.map (fun x => x.2) (ps ++ List.map (fun x => (5, x)) (List.drop k c))))] }]) (by kernel_rfl) (by first | exact rfl | exact ⟨rfl, rfl⟩ | (simp [putP, putO, hx, intA]; done) | (first | exact hg | exact hu | exact hw | omega)) ⟨?z0, ?z1, ?z2, ?z3, ?z4, ?q40_1, ?z5, ?q40_2, trivial⟩
    case z0|z1|z2|z3|z4|z5 => first | exact rfl | (simp [putP, putO, hx, intA] <;> omega) | omega | (first | exact hg | exact hu | exact hw | omega)
    · exact putP_more ps 5 x (by omega)
    · exact ih
structure Ch4 (c : List Int) : Prop where
  p : 1 ≤ c.length
  m : c.length ≤ 4
  u : ∀ x ∈ c, 0 ≤ x ∧ x < 32
theorem chainP_len {c : List Int} (h : Ch4 c) : (chainP c).length ≤ 5 := by
  have := h.m
  simp [chainP]; omega
theorem enc_chains (l : LayD) (k0 : Nat) (s : SegD) (hs : ∀ c ∈ s.chains, Ch4 c) (hsl : s.chains.length ≤ 1000) : ∀ (n k : Nat) (ps : List (Int × Int)), s.chains.length = k + n → ps.length + 5 * n ≤ 100000 →
    ALoop Tryz.prog 0 Tryz.f66.ntmps (loopB Tryz.f66 1) ⟨[(56, .int .i64 k), (55, .int .i64 s.chains.length), (54, .lst 1 (s.chains.map encU)), (38, .int .i64 k0), (37, .int .i64 l.segs.length), (36, .lst 2 (l.segs.map encS)), (6, .fn 112 [.ptr 0 0, .ptr 1 0]), (5, .ptr 1 0), (4, .ptr 0 0)], putP ps⟩ (.exit 2) ⟨[(38, .int .i64 k0), (37, .int .i64 l.segs.length), (36, .lst 2 (l.segs.map encS)), (6, .fn 112 [.ptr 0 0, .ptr 1 0]), (5, .ptr 1 0), (4, .ptr 0 0)], putP (ps ++ (s.chains.drop k).flatMap chainP)⟩
  | 0, k, ps, h, hp => by
    rw [List.drop_eq_nil_of_le (by omega), List.flatMap_nil, List.append_nil]
    refine aloopK mixed [0, 1, 2, 3, 4, 5, 6, 8, 10, 12, 13, 17, 36, 37, 38, 39, 54, 55, 56, 57, 66, 67, 68, 69] 1000 ([.go, .f]) [38, 37, 36, 6, 5, 4] [0, 1, 2, 3] (S1 := { env := [(38, .int .i64 (↑k0 : Int)), (37, .int .i64 (l.segs.length : Int)), (36, .lst 2 (List.map encS l.segs)), (6, .fn 112 [.ptr 0 0, .ptr 1 0]), (5, .ptr 1 0), (4, .ptr 0 0)], objs := [.vars 46 [.row 2 1 (List.length (List.map (fun x => x.1) ps))], .vars 132 [.row 3 1 (List.length (List.map (fun x => x.2) ps))], .row 3 1 (List.map intA (List.map (fun x => x.1) ps)), .row 22 1 (List.map u64A (List.map (fun x => x.2) ps))] }) (ob := [decide ((↑k : Int) < (s.chains.length : Int)) = false]) (by kernel_rfl) (by first | exact rfl | exact ⟨rfl, rfl⟩ | (simp [putP, putO]; done)) ⟨(by first | exact rfl | (simp [putP, putO]; done) | (simp [putP, putO]; omega) | omega), trivial⟩
  | n + 1, k, ps, h, hp => by
    obtain ⟨c, hx⟩ := get_of (l := s.chains) (k := k) (by omega)
    have hc := hs c (List.mem_of_getElem? hx)
    have h1 := hc.p
    have h2 := hc.m
    have hk : k < s.chains.length := by omega
    have hw : IntKind.i64.wrap ((k : Int) + 1) = ((k + 1 : Nat) : Int) := wrap64 (by omega)
    have hw1 : IntKind.i64.wrap ((c.length : Int) - 1) = (c.length : Int) - 1 := wrap_i (by omega) (by omega)
    have hu := wu ((c.length : Int) - 1) (by omega) (by omega)
    have hin := enc_units l k0 s k c hc.u (by omega) c.length 0 (ps ++ [(2, (c.length : Int) - 1)]) (by omega) (by rw [List.length_append, List.length_cons, List.length_nil]; omega)
    rw [List.drop_zero, show ps ++ [(2, (c.length : Int) - 1)] ++ c.map (5, ·) = ps ++ chainP c by simp [chainP]] at hin
    have hcl := chainP_len hc
    have ih := enc_chains l k0 s hs hsl n (k + 1) (ps ++ chainP c) (by omega) (by rw [List.length_append]; omega)
    rw [show ps ++ chainP c ++ (s.chains.drop (k + 1)).flatMap chainP = ps ++ (s.chains.drop k).flatMap chainP by rw [drop_of hx]; simp] at ih
    refine aloopK mixed [0, 1, 2, 3, 4, 5, 6, 8, 10, 12, 13, 17, 36, 37, 38, 39, 54, 55, 56, 57, 66, 67, 68, 69] 1000 ([.go, .t, .ix k, .el (encU c), .n c.length, .n ((c.length : Int) - 1), .n ((c.length : Int) - 1), .call [0, 1, 2, 3] false false (.tup []) (putP (ps ++ [(2, (c.length : Int) - 1)])), .n c.length, .lp [68, 67, 66, 56, 55, 54, 38, 37, 36, 6, 5, 4] [0, 1, 6, 7] (.exit 4) ⟨[(56, .int .i64 k), (55, .int .i64 s.chains.length), (54, .lst 1 (s.chains.map encU)), (38, .int .i64 k0), (37, .int .i64 l.segs.length), (36, .lst 2 (l.segs.map encS)), (6, .fn 112 [.ptr 0 0, .ptr 1 0]), (5, .ptr 1 0), (4, .ptr 0 0)], putP (ps ++ chainP c)⟩, .n ((k + 1 : Nat) : Int), .lp [56, 55, 54, 38, 37, 36, 6, 5, 4] [0, 1, 2, 3] (.exit 2) ⟨[(38, .int .i64 k0), (37, .int .i64 l.segs.length), (36, .lst 2 (l.segs.map encS)), (6, .fn 112 [.ptr 0 0, .ptr 1 0]), (5, .ptr 1 0), (4, .ptr 0 0)], putP (ps ++ (s.chains.drop k).flatMap chainP)⟩]) [38, 37, 36, 6, 5, 4] [0, 1, 2, 3] (S1 := { env := [(38, .int .i64 (↑k0 : Int)), (37, .int .i64 (l.segs.length : Int)), (36, .lst 2 (List.map encS l.segs)), (6, .fn 112 [.ptr 0 0, .ptr 1 0]), (5, .ptr 1 0), (4, .ptr 0 0)], objs := [.vars 46 [.row 2 1 (List.length (List.map (fun x => x.1) (ps ++ List.flatMap chainP (List.drop k s.chains))))], .vars 132 [.row 3 1 (List.length (List.map (fun x => x.2) (ps ++ List.flatMap chainP (List.drop k s.chains))))], .row 3 1 (List.map intA (List.map (fun x => x.1) (ps ++ List.flatMap chainP (List.drop k s.chains)))), .row 22 1 (List.map u64A (List.map (fun x => x.2) (ps ++ List.flatMap chainP (List.drop k s.chains))))] }) (ob := [decide ((↑k : Int) < (s.chains.length : Int)) = true,
 k < List.length (List.map encU s.chains),
 (↑k : Int) = (↑k : Int),
 (List.map encU s.chains)[k]? = some (.lst (nat_lit 1) (List.map intA c)),
 ((List.map intA c).length : Int) = (c.length : Int),
 IntKind.i64.wrap ((c.length : Int) - (1 : Int)) = (c.length : Int) - (1 : Int),
 IntKind.u64.wrap ((c.length : Int) - (1 : Int)) = (c.length : Int) - (1 : Int),
 ACalls Tryz.prog 112 [.int .i64 2, .int .u64 ((c.length : Int) - 1), .ptr 0 0, .ptr 1 0] [.vars 46 [.row 2 1 (List.length (List.map (fun x => x.1) ps))], .vars 132 [.row 3 1 (List.length (List.map (fun x => x.2) ps))], .row 3 1 (List.map intA (List.map (fun x => x.1) ps)), .row 22 1 (List.map u64A (List.map (fun x => x.2) ps))] (.tup []) [.vars 46 [.row 2 1 (List.length (List.map (fun x => x.1) (ps ++ [(2, (c.length : Int) - 1)])))], .vars 132 [.row 3 1 (List.length (List.map (fun x => x.2) (ps ++ [(2, (c.length : Int) - 1)])))], .row 3 1 (List.map intA (List.map (fun x => x.1) (ps ++ [(2, (c.length : Int) - 1)]))), .row 22 1 (List.map u64A (List.map (fun x => x.2) (ps ++ [(2, (c.length : Int) - 1)])))],
 ((List.map intA c).length : Int) = (c.length : Int),
 ALoop Tryz.prog 0 86 (loopB Tryz.f66 2) { env := [(68, .int .i64 0), (67, .int .i64 (c.length : Int)), (66, .lst 1 (List.map intA c)), (56, .int .i64 (↑k : Int)), (55, .int .i64 (s.chains.length : Int)), (54, .lst 1 (List.map encU s.chains)), (38, .int .i64 (↑k0 : Int)), (37, .int .i64 (l.segs.length : Int)), (36, .lst 2 (List.map encS l.segs)), (6, .fn 112 [.ptr 0 0, .ptr 1 0]), (5, .ptr 1 0), (4, .ptr 0 0)], objs := [.vars 46 [.row 2 1 (List.length (List.map (fun x => x.1) (ps ++ [(2, (c.length : Int) - 1)])))], .vars 132 [.row 3 1 (List.length (List.map (fun x => x.2) (ps ++ [(2, (c.length : Int) - 1)])))], .row 3 1 (List.map intA (List.map (fun x => x.1) (ps ++ [(2, (c.length : Int) - 1)]))), .row 22 1 (List.map u64A (List.map (fun x => x.2) (ps ++ [(2, (c.length : Int) - 1)])))] } (Ex.exit 4) { env := [(56, .int .i64 (↑k : Int)), (55, .int .i64 (s.chains.length : Int)), (54, .lst 1 (List.map encU s.chains)), (38, .int .i64 (↑k0 : Int)), (37, .int .i64 (l.segs.length : Int)), (36, .lst 2 (List.map encS l.segs)), (6, .fn 112 [.ptr 0 0, .ptr 1 0]), (5, .ptr 1 0), (4, .ptr 0 0)], objs := [.vars 46 [.row 2 1 (List.length (List.map (fun x => x.1) (ps ++ chainP c)))], .vars 132 [.row 3 1 (List.length (List.map (fun x => x.2) (ps ++ chainP c)))], .row 3 1 (List.map intA (List.map (fun x => x.1) (ps ++ chainP c))), .row 22 1 (List.map u64A (List.map (fun x => x.2) (ps ++ chainP c)))] },
 IntKind.i64.wrap ((↑k : Int) + (1 : Int)) = (↑(k + (1 : Nat)) : Int),
 ALoop Tryz.prog 0 86 (loopB Tryz.f66 1) { env := [(56, .int .i64 (↑(k + 1) : Int)), (55, .int .i64 (s.chains.length : Int)), (54, .lst 1 (List.map encU s.chains)), (38, .int .i64 (↑k0 : Int)), (37, .int .i64 (l.segs.length : Int)), (36, .lst 2 (List.map encS l.segs)), (6, .fn 112 [.ptr 0 0, .ptr 1 0]), (5, .ptr 1 0), (4, .ptr 0 0)], objs := [.vars 46 [.row 2 1 (List.length (List.map (fun x => x.1) (ps ++ chainP c)))], .vars 132 [.row 3 1 (List.length (List.map (fun x => x.2) (ps ++ chainP c)))], .row 3 1 (List.map intA (List.map (fun x => x.1) (ps ++ chainP c))), .row 22 1 (List.map u64A (List.map (fun x => x.2) (ps ++ chainP c)))] } (Ex.exit 2) { env := [(38, .int .i64 (↑k0 : Int)), (37, .int .i64 (l.segs.length : Int)), (36, .lst 2 (List.map encS l.segs)), (6, .fn 112 [.ptr 0 0, .ptr 1 0]), (5, .ptr 1 0), (4, .ptr 0 0)], objs := [.vars 46 [.row 2 1 (List.length (List.map (fun x => x.1) (ps ++ List.flatMap chainP (List.drop k s.chains))))], .vars 132 [.row 3 1 (List.length (List.map (fun x => x.2) (ps ++ List.flatMap chainP (List.drop k s.chains))))], .row 3 1 (List.map intA (List.map (fun x => x.1) (ps ++ List.flatMap chainP (List.drop k s.chains)))), .row 22 1 (List.map u64A (List.map (fun x => x.2) (ps ++ List.flatMap chainP (List.drop k s.chains))))] }]) (by kernel_rfl) (by first | exact rfl | exact ⟨rfl, rfl⟩ | (simp [putP, putO, hx, encU]; done) | (first | exact hw1 | exact hu | exact hw | omega)) ⟨?z0, ?z1, ?z2, ?z3, ?z4, ?z5, ?z6, ?q69_1, ?z7, ?q69_2, ?z8, ?q69_3, trivial⟩
    case z0|z1|z2|z3|z4|z5|z6|z7|z8 => first | exact rfl | (simp [putP, putO, hx, encU] <;> omega) | omega | (first | exact hw1 | exact hu | exact hw | omega)
    · exact putP_more ps 2 ((c.length : Int) - 1) (by omega)
    · exact hin
    · exact ih
structure Seg4 (s : SegD) : Prop where
  at0 : 0 ≤ s.at_
  at1 : s.at_ < 1048576
  p : 1 ≤ s.chains.length
  m : s.chains.length ≤ 4
  u : ∀ c ∈ s.chains, Ch4 c
theorem flat_len : ∀ (l : List (List Int)), (∀ c ∈ l, Ch4 c) → (l.flatMap chainP).length ≤ 5 * l.length
  | [], _ => by simp
  | c :: r, h => by
    have h1 := chainP_len (h c (by simp))
    have h2 := flat_len r fun c hc => h c (by simp [hc])
    rw [List.flatMap_cons, List.length_append, List.length_cons]; omega
theorem segP_len {s : SegD} (h : Seg4 s) : (segP s).length ≤ 22 := by
  have h1 := flat_len s.chains h.u
  have := h.m
  simp only [segP, List.length_cons]; omega
theorem enc_segs (l : LayD) (hs : ∀ s ∈ l.segs, Seg4 s) (hsl : l.segs.length ≤ 1000) : ∀ (n k : Nat) (ps : List (Int × Int)), l.segs.length = k + n → ps.length + 22 * n ≤ 90000 →
    ALoop Tryz.prog 0 Tryz.f66.ntmps (loopB Tryz.f66 0) ⟨[(38, .int .i64 k), (37, .int .i64 l.segs.length), (36, .lst 2 (l.segs.map encS)), (6, .fn 112 [.ptr 0 0, .ptr 1 0]), (5, .ptr 1 0), (4, .ptr 0 0)], putP ps⟩ (.exit 0) ⟨[(6, .fn 112 [.ptr 0 0, .ptr 1 0]), (5, .ptr 1 0), (4, .ptr 0 0)], putP (ps ++ (l.segs.drop k).flatMap segP)⟩
  | 0, k, ps, h, hp => by
    rw [List.drop_eq_nil_of_le (by omega), List.flatMap_nil, List.append_nil]
    refine aloopK mixed [0, 1, 2, 3, 4, 5, 6, 8, 10, 12, 13, 17, 36, 37, 38, 39, 54, 55, 56, 57, 66, 67, 68, 69] 1000 ([.go, .f]) [6, 5, 4] [0, 1, 2, 3] (S1 := { env := [(6, .fn 112 [.ptr 0 0, .ptr 1 0]), (5, .ptr 1 0), (4, .ptr 0 0)], objs := [.vars 46 [.row 2 1 (List.length (List.map (fun x => x.1) ps))], .vars 132 [.row 3 1 (List.length (List.map (fun x => x.2) ps))], .row 3 1 (List.map intA (List.map (fun x => x.1) ps)), .row 22 1 (List.map u64A (List.map (fun x => x.2) ps))] }) (ob := [decide ((↑k : Int) < (l.segs.length : Int)) = false]) (by kernel_rfl) (by first | exact rfl | exact ⟨rfl, rfl⟩ | (simp [putP, putO]; done)) ⟨(by first | exact rfl | (simp [putP, putO]; done) | (simp [putP, putO]; omega) | omega), trivial⟩
  | n + 1, k, ps, h, hp => by
    obtain ⟨s, hx⟩ := get_of (l := l.segs) (k := k) (by omega)
    have hc := hs s (List.mem_of_getElem? hx)
    have h1 := hc.p
    have h2 := hc.m
    have hk : k < l.segs.length := by omega
    have hw : IntKind.i64.wrap ((k : Int) + 1) = ((k + 1 : Nat) : Int) := wrap64 (by omega)
    have hw1 : IntKind.i64.wrap ((s.chains.length : Int) - 1) = (s.chains.length : Int) - 1 := wrap_i (by omega) (by omega)
    have hu := wu ((s.chains.length : Int) - 1) (by omega) (by omega)
    have hin := enc_chains l k s hc.u (by omega) s.chains.length 0 (ps ++ [(20, s.at_)] ++ [(2, (s.chains.length : Int) - 1)]) (by omega) (by simp only [List.length_append, List.length_cons, List.length_nil]; omega)
    rw [List.drop_zero, show ps ++ [(20, s.at_)] ++ [(2, (s.chains.length : Int) - 1)] ++ s.chains.flatMap chainP = ps ++ segP s by simp [segP]] at hin
    have hcl := segP_len hc
    have ih := enc_segs l hs hsl n (k + 1) (ps ++ segP s) (by omega) (by rw [List.length_append]; omega)
    rw [show ps ++ segP s ++ (l.segs.drop (k + 1)).flatMap segP = ps ++ (l.segs.drop k).flatMap segP by rw [drop_of hx]; simp] at ih
    refine aloopK mixed [0, 1, 2, 3, 4, 5, 6, 8, 10, 12, 13, 17, 36, 37, 38, 39, 54, 55, 56, 57, 66, 67, 68, 69] 1000 ([.go, .t, .ix k, .el (encS s), .call [0, 1, 2, 3] false false (.tup []) (putP (ps ++ [(20, s.at_)])), .n s.chains.length, .n ((s.chains.length : Int) - 1), .n ((s.chains.length : Int) - 1), .call [0, 1, 7, 8] false false (.tup []) (putP (ps ++ [(20, s.at_)] ++ [(2, (s.chains.length : Int) - 1)])), .n s.chains.length, .lp [56, 55, 54, 38, 37, 36, 6, 5, 4] [0, 1, 11, 12] (.exit 2) ⟨[(38, .int .i64 k), (37, .int .i64 l.segs.length), (36, .lst 2 (l.segs.map encS)), (6, .fn 112 [.ptr 0 0, .ptr 1 0]), (5, .ptr 1 0), (4, .ptr 0 0)], putP (ps ++ segP s)⟩, .n ((k + 1 : Nat) : Int), .lp [38, 37, 36, 6, 5, 4] [0, 1, 2, 3] (.exit 0) ⟨[(6, .fn 112 [.ptr 0 0, .ptr 1 0]), (5, .ptr 1 0), (4, .ptr 0 0)], putP (ps ++ (l.segs.drop k).flatMap segP)⟩]) [6, 5, 4] [0, 1, 2, 3] (S1 := { env := [(6, .fn 112 [.ptr 0 0, .ptr 1 0]), (5, .ptr 1 0), (4, .ptr 0 0)], objs := [.vars 46 [.row 2 1 (List.length (List.map (fun x => x.1) (ps ++ List.flatMap segP (List.drop k l.segs))))], .vars 132 [.row 3 1 (List.length (List.map (fun x => x.2) (ps ++ List.flatMap segP (List.drop k l.segs))))], .row 3 1 (List.map intA (List.map (fun x => x.1) (ps ++ List.flatMap segP (List.drop k l.segs)))), .row 22 1 (List.map u64A (List.map (fun x => x.2) (ps ++ List.flatMap segP (List.drop k l.segs))))] }) (ob := [decide ((↑k : Int) < (l.segs.length : Int)) = true,
 k < List.length (List.map encS l.segs),
 (↑k : Int) = (↑k : Int),
 (List.map encS l.segs)[k]? = some (.agg [.int .u64 s.at_, .lst (nat_lit 1) (List.map encU s.chains)]),
 ACalls Tryz.prog 112 [.int .i64 20, .int .u64 s.at_, .ptr 0 0, .ptr 1 0] [.vars 46 [.row 2 1 (List.length (List.map (fun x => x.1) ps))], .vars 132 [.row 3 1 (List.length (List.map (fun x => x.2) ps))], .row 3 1 (List.map intA (List.map (fun x => x.1) ps)), .row 22 1 (List.map u64A (List.map (fun x => x.2) ps))] (.tup []) [.vars 46 [.row 2 1 (List.length (List.map (fun x => x.1) (ps ++ [(20, s.at_)])))], .vars 132 [.row 3 1 (List.length (List.map (fun x => x.2) (ps ++ [(20, s.at_)])))], .row 3 1 (List.map intA (List.map (fun x => x.1) (ps ++ [(20, s.at_)]))), .row 22 1 (List.map u64A (List.map (fun x => x.2) (ps ++ [(20, s.at_)])))],
 ((List.map encU s.chains).length : Int) = (s.chains.length : Int),
 IntKind.i64.wrap ((s.chains.length : Int) - (1 : Int)) = (s.chains.length : Int) - (1 : Int),
 IntKind.u64.wrap ((s.chains.length : Int) - (1 : Int)) = (s.chains.length : Int) - (1 : Int),
 ACalls Tryz.prog 112 [.int .i64 2, .int .u64 ((s.chains.length : Int) - 1), .ptr 0 0, .ptr 1 0] [.vars 46 [.row 2 1 (List.length (List.map (fun x => x.1) (ps ++ [(20, s.at_)])))], .vars 132 [.row 3 1 (List.length (List.map (fun x => x.2) (ps ++ [(20, s.at_)])))], .row 3 1 (List.map intA (List.map (fun x => x.1) (ps ++ [(20, s.at_)]))), .row 22 1 (List.map u64A (List.map (fun x => x.2) (ps ++ [(20, s.at_)])))] (.tup []) [.vars 46 [.row 2 1 (List.length (List.map (fun x => x.1) (ps ++ [(20, s.at_)] ++ [(2, (s.chains.length : Int) - 1)])))], .vars 132 [.row 3 1 (List.length (List.map (fun x => x.2) (ps ++ [(20, s.at_)] ++ [(2, (s.chains.length : Int) - 1)])))], .row 3 1 (List.map intA (List.map (fun x => x.1) (ps ++ [(20, s.at_)] ++ [(2, (s.chains.length : Int) - 1)]))), .row 22 1 (List.map u64A (List.map (fun x => x.2) (ps ++ [(20, s.at_)] ++ [(2, (s.chains.length : Int) - 1)])))],
 ((List.map encU s.chains).length : Int) = (s.chains.length : Int),
 ALoop Tryz.prog 0 86 (loopB Tryz.f66 1) { env := [(56, .int .i64 0), (55, .int .i64 (s.chains.length : Int)), (54, .lst 1 (List.map encU s.chains)), (38, .int .i64 (↑k : Int)), (37, .int .i64 (l.segs.length : Int)), (36, .lst 2 (List.map encS l.segs)), (6, .fn 112 [.ptr 0 0, .ptr 1 0]), (5, .ptr 1 0), (4, .ptr 0 0)], objs := [.vars 46 [.row 2 1 (List.length (List.map (fun x => x.1) (ps ++ [(20, s.at_)] ++ [(2, (s.chains.length : Int) - 1)])))], .vars 132 [.row 3 1 (List.length (List.map (fun x => x.2) (ps ++ [(20, s.at_)] ++ [(2, (s.chains.length : Int) - 1)])))], .row 3 1 (List.map intA (List.map (fun x => x.1) (ps ++ [(20, s.at_)] ++ [(2, (s.chains.length : Int) - 1)]))), .row 22 1 (List.map u64A (List.map (fun x => x.2) (ps ++ [(20, s.at_)] ++ [(2, (s.chains.length : Int) - 1)])))] } (Ex.exit 2) { env := [(38, .int .i64 (↑k : Int)), (37, .int .i64 (l.segs.length : Int)), (36, .lst 2 (List.map encS l.segs)), (6, .fn 112 [.ptr 0 0, .ptr 1 0]), (5, .ptr 1 0), (4, .ptr 0 0)], objs := [.vars 46 [.row 2 1 (List.length (List.map (fun x => x.1) (ps ++ segP s)))], .vars 132 [.row 3 1 (List.length (List.map (fun x => x.2) (ps ++ segP s)))], .row 3 1 (List.map intA (List.map (fun x => x.1) (ps ++ segP s))), .row 22 1 (List.map u64A (List.map (fun x => x.2) (ps ++ segP s)))] },
 IntKind.i64.wrap ((↑k : Int) + (1 : Int)) = (↑(k + (1 : Nat)) : Int),
 ALoop Tryz.prog 0 86 (loopB Tryz.f66 0) { env := [(38, .int .i64 (↑(k + 1) : Int)), (37, .int .i64 (l.segs.length : Int)), (36, .lst 2 (List.map encS l.segs)), (6, .fn 112 [.ptr 0 0, .ptr 1 0]), (5, .ptr 1 0), (4, .ptr 0 0)], objs := [.vars 46 [.row 2 1 (List.length (List.map (fun x => x.1) (ps ++ segP s)))], .vars 132 [.row 3 1 (List.length (List.map (fun x => x.2) (ps ++ segP s)))], .row 3 1 (List.map intA (List.map (fun x => x.1) (ps ++ segP s))), .row 22 1 (List.map u64A (List.map (fun x => x.2) (ps ++ segP s)))] } (Ex.exit 0) { env := [(6, .fn 112 [.ptr 0 0, .ptr 1 0]), (5, .ptr 1 0), (4, .ptr 0 0)], objs := [.vars 46 [.row 2 1 (List.length (List.map (fun x => x.1) (ps ++ List.flatMap segP (List.drop k l.segs))))], .vars 132 [.row 3 1 (List.length (List.map (fun x => x.2) (ps ++ List.flatMap segP (List.drop k l.segs))))], .row 3 1 (List.map intA (List.map (fun x => x.1) (ps ++ List.flatMap segP (List.drop k l.segs)))), .row 22 1 (List.map u64A (List.map (fun x => x.2) (ps ++ List.flatMap segP (List.drop k l.segs))))] }]) (by kernel_rfl) (by first | exact rfl | exact ⟨rfl, rfl⟩ | (simp [putP, putO, hx, encS]; done) | (first | exact hw1 | exact hu | exact hw | omega)) ⟨?z0, ?z1, ?z2, ?z3, ?q108_1, ?z4, ?z5, ?z6, ?q108_2, ?z7, ?q108_3, ?z8, ?q108_4, trivial⟩
    case z0|z1|z2|z3|z4|z5|z6|z7|z8 => first | exact rfl | (simp [putP, putO, hx, encS] <;> omega) | omega | (first | exact hw1 | exact hu | exact hw | omega)
    · exact putP_more ps 20 s.at_ (by omega)
    · exact putP_more (ps ++ [(20, s.at_)]) 2 ((s.chains.length : Int) - 1) (by simp only [List.length_append, List.length_cons, List.length_nil]; omega)
    · exact hin
    · exact ih
end Go.Proofs.YtidgcfgkcidkiaaGreat.Ch
namespace Go.Proofs.YtidgcfgkcidkiaaGreat.Ch
open Go Go.RowKit Go.Proofs.YtidgcfgkcidkiaaGreat.L Go.Proofs.YtidgcfgkcidkiaaGreat.X
set_option linter.unusedVariables false
set_option linter.unusedSimpArgs false
def headP (l : LayD) : List (Int × Int) := [(21, l.epoch), (5, l.seq), (2, (l.segs.length : Int) - 1)]
def layP (l : LayD) : List (Int × Int) := headP l ++ l.segs.flatMap segP
theorem encode_ac (l : LayD) (hs : ∀ s ∈ l.segs, Seg4 s) (h1 : 1 ≤ l.segs.length) (h2 : l.segs.length ≤ 4) (h3 : 0 ≤ l.seq) (h4 : l.seq < 32) (hl : ACalls Tryz.prog 93 [encL l] [] (.bool true) [])
    (bs : List Int) (b : Bool) (hP : ACalls Tryz.prog 113 [.lst 1 (((layP l).map (·.1)).map intA), .lst 1 (((layP l).map (·.2)).map u64A)] [] (.tup [.row 0 1 bs.length, .bool b]) [.row 5 1 (bs.map byteA)]) :
    ACalls Tryz.prog 66 [encL l] [] (.tup [.row 0 1 bs.length, .int .i64 0]) [.row 5 1 (bs.map byteA)] := by
  have hlp := enc_segs l hs (by omega) l.segs.length 0 (headP l) (by omega) (by simp [headP]; omega)
  rw [List.drop_zero] at hlp
  have q1 := put_more [21] [l.epoch] 5 l.seq (by simp) (by simp)
  have q2 := put_more [21, 5] [l.epoch, l.seq] 2 ((l.segs.length : Int) - 1) (by simp) (by simp)
  have w1 := wu l.seq h3 (by omega)
  have w2 : IntKind.i64.wrap ((l.segs.length : Int) - 1) = (l.segs.length : Int) - 1 := wrap_i (by omega) (by omega)
  have w3 := wu ((l.segs.length : Int) - 1) (by omega) (by omega)
  refine acallsK mixed Tryz.func66 rfl [0, 1, 2, 3, 4, 5, 6, 8, 10, 12, 13, 17, 36, 37, 38, 39, 54, 55, 56, 57, 66, 67, 68, 69] 1000 ([.call [] false true (.bool true) [], .call [1, 2] false false (.tup []) (putO [21] [l.epoch]), .n l.seq, .call [1, 2, 5, 6] false false (.tup []) (putO [21, 5] [l.epoch, l.seq]), .n l.segs.length, .n ((l.segs.length : Int) - 1), .n ((l.segs.length : Int) - 1), .call [1, 2, 9, 10] false false (.tup []) (putO [21, 5, 2] [l.epoch, l.seq, (l.segs.length : Int) - 1]), .n l.segs.length, .lp [38, 37, 36, 6, 5, 4] [1, 2, 13, 14] (.exit 0) ⟨[(6, .fn 112 [.ptr 0 0, .ptr 1 0]), (5, .ptr 1 0), (4, .ptr 0 0)], putP (layP l)⟩, .call [] false false (.tup [.row 0 1 bs.length, .bool b]) [.row 5 1 (bs.map byteA)]]) [] [4] (v1 := .tup [.row 0 1 (List.length bs), .int .i64 0]) (objs1 := [.row 5 1 (List.map byteA bs)]) (ob := [ACalls Tryz.prog 93 [(encL l)] [] (.bool true) [],
 ACalls Tryz.prog 112 [.int .i64 21, .int .u64 l.epoch, .ptr 0 0, .ptr 1 0] [.vars 46 [.nils], .vars 132 [.nils]] (.tup []) [.vars 46 [.row 2 1 1], .vars 132 [.row 3 1 1], .row 3 1 [.int .i64 21], .row 22 1 [.int .u64 l.epoch]],
 IntKind.u64.wrap l.seq = l.seq,
 ACalls Tryz.prog 112 [.int .i64 5, .int .u64 l.seq, .ptr 0 0, .ptr 1 0] [.vars 46 [.row 2 1 1], .vars 132 [.row 3 1 1], .row 3 1 [.int .i64 21], .row 22 1 [.int .u64 l.epoch]] (.tup []) [.vars 46 [.row 2 1 2], .vars 132 [.row 3 1 2], .row 3 1 [.int .i64 21, .int .i64 5], .row 22 1 [.int .u64 l.epoch, .int .u64 l.seq]],
 ((List.map encS l.segs).length : Int) = (l.segs.length : Int),
 IntKind.i64.wrap ((l.segs.length : Int) - (1 : Int)) = (l.segs.length : Int) - (1 : Int),
 IntKind.u64.wrap ((l.segs.length : Int) - (1 : Int)) = (l.segs.length : Int) - (1 : Int),
 ACalls Tryz.prog 112 [.int .i64 2, .int .u64 ((l.segs.length : Int) - 1), .ptr 0 0, .ptr 1 0] [.vars 46 [.row 2 1 2], .vars 132 [.row 3 1 2], .row 3 1 [.int .i64 21, .int .i64 5], .row 22 1 [.int .u64 l.epoch, .int .u64 l.seq]] (.tup []) [.vars 46 [.row 2 1 3], .vars 132 [.row 3 1 3], .row 3 1 [.int .i64 21, .int .i64 5, .int .i64 2], .row 22 1 [.int .u64 l.epoch, .int .u64 l.seq, .int .u64 ((l.segs.length : Int) - 1)]],
 ((List.map encS l.segs).length : Int) = (l.segs.length : Int),
 ALoop Tryz.prog 0 86 (loopB Tryz.f66 0) { env := [(38, .int .i64 0), (37, .int .i64 (l.segs.length : Int)), (36, .lst 2 (List.map encS l.segs)), (6, .fn 112 [.ptr 0 0, .ptr 1 0]), (5, .ptr 1 0), (4, .ptr 0 0)], objs := [.vars 46 [.row 2 1 3], .vars 132 [.row 3 1 3], .row 3 1 [.int .i64 21, .int .i64 5, .int .i64 2], .row 22 1 [.int .u64 l.epoch, .int .u64 l.seq, .int .u64 ((l.segs.length : Int) - 1)]] } (Ex.exit 0) { env := [(6, .fn 112 [.ptr 0 0, .ptr 1 0]), (5, .ptr 1 0), (4, .ptr 0 0)], objs := [.vars 46 [.row 2 1 (List.length (List.map (fun x => x.1) (layP l)))], .vars 132 [.row 3 1 (List.length (List.map (fun x => x.2) (layP l)))], .row 3 1 (List.map intA (List.map (fun x => x.1) (layP l))), .row 22 1 (List.map u64A (List.map (fun x => x.2) (layP l)))] },
 ACalls Tryz.prog 113 [.lst 1 (List.map intA (List.map (fun x => x.1) (layP l))), .lst 1 (List.map u64A (List.map (fun x => x.2) (layP l)))] [] (.tup [.row 0 1 (List.length bs), .bool b]) [.row 5 1 (List.map byteA bs)]]) (by kernel_rfl) (by first | exact rfl | exact ⟨rfl, rfl⟩ | (simp [encL, celL, putO, putP]; done) | (first | exact w1 | exact w2 | exact w3 | omega)) ⟨?q19_1, ?q19_2, ?z0, ?q19_3, ?z1, ?z2, ?z3, ?q19_4, ?z4, ?q19_5, ?q19_6, trivial⟩
  case z0|z1|z2|z3|z4 => first | exact rfl | (simp [encL, celL, putO, putP] <;> omega) | omega | (first | exact w1 | exact w2 | exact w3 | omega)
  · exact hl
  · exact put_first 21 l.epoch
  · exact q1
  · exact q2
  · exact hlp
  · exact hP
end Go.Proofs.YtidgcfgkcidkiaaGreat.Ch
namespace Go.Proofs.YtidgcfgkcidkiaaGreat.Ch
open Go Go.RowKit Go.Proofs.YtidgcfgkcidkiaaGreat.L Go.Proofs.YtidgcfgkcidkiaaGreat.X
set_option linter.unusedVariables false
set_option linter.unusedSimpArgs false
theorem sum_bound : ∀ (ws : List Int), (∀ x ∈ ws, 0 ≤ x ∧ x ≤ 64) → 0 ≤ ws.sum ∧ ws.sum ≤ 64 * ws.length
  | [], _ => by simp
  | x :: r, h => by
    have h1 := h x (by simp)
    have h2 := sum_bound r fun y hy => h y (by simp [hy])
    simp only [List.sum_cons, List.length_cons]; omega
theorem whole_loop (ws : List Int) (hw : ∀ x ∈ ws, 0 ≤ x ∧ x ≤ 64) (hl : ws.length ≤ 1000000) : ∀ (n k : Nat) (s : Int), ws.length = k + n → 0 ≤ s → s + 64 * n ≤ 64000000 →
    ALoop Tryz.prog 0 Tryz.f135.ntmps (loopB Tryz.f135 0) ⟨[(8, .int .i64 k), (7, .int .i64 ws.length), (6, .lst 1 (ws.map intA)), (3, .int .i64 s)], []⟩ (.exit 0) ⟨[(3, .int .i64 (s + (ws.drop k).sum))], []⟩
  | 0, k, s, h, h0, h1 => by
    rw [List.drop_eq_nil_of_le (by omega), List.sum_nil, Int.add_zero]
    refine aloopK mixed [0, 2, 3, 5, 6, 7, 8, 9] 1000 ([.go, .f]) [3] [] (S1 := { env := [(3, .int .i64 s)], objs := [] }) (ob := [decide ((↑k : Int) < (ws.length : Int)) = false]) (by kernel_rfl) (by first | exact rfl | exact ⟨rfl, rfl⟩ | (simp []; done)) ⟨(by first | exact rfl | (simp []; done) | (simp []; omega) | omega), trivial⟩
  | n + 1, k, s, h, h0, h1 => by
    obtain ⟨x, hx⟩ := get_of (l := ws) (k := k) (by omega)
    have hx2 := hw x (List.mem_of_getElem? hx)
    have hk : k < ws.length := by omega
    have hw1 : IntKind.i64.wrap ((k : Int) + 1) = ((k + 1 : Nat) : Int) := wrap64 (by omega)
    have hs : IntKind.i64.wrap (s + x) = s + x := wrap_i (by omega) (by omega)
    have hg := idx_at hx
    have ih := whole_loop ws hw hl n (k + 1) (s + x) (by omega) (by omega) (by omega)
    rw [show s + x + (ws.drop (k + 1)).sum = s + (ws.drop k).sum by rw [drop_of hx, List.sum_cons]; omega] at ih
    refine aloopK mixed [0, 2, 3, 5, 6, 7, 8, 9] 1000 ([.go, .t, .ix k, .el (intA x), .n (s + x), .n ((k + 1 : Nat) : Int), .lp [8, 7, 6, 3] [] (.exit 0) ⟨[(3, .int .i64 (s + (ws.drop k).sum))], []⟩]) [3] [] (S1 := { env := [(3, .int .i64 (s + List.sum (List.drop k ws)))], objs := [] }) (ob := [decide ((↑k : Int) < (ws.length : Int)) = true,
 k < List.length (List.map intA ws),
 (↑k : Int) = (↑k : Int),
 (List.map intA ws)[k]? = some (.int .i64 x),
 IntKind.i64.wrap (s + x) = s + x,
 IntKind.i64.wrap ((↑k : Int) + (1 : Int)) = (↑(k + (1 : Nat)) : Int),
 ALoop Tryz.prog 0 20 (loopB Tryz.f135 0) { env := [(8, .int .i64 (↑(k + 1) : Int)), (7, .int .i64 (ws.length : Int)), (6, .lst 1 (List.map intA ws)), (3, .int .i64 (s + x))], objs := [] } (Ex.exit 0) { env := [(3, .int .i64 (s + List.sum (List.drop k ws)))], objs := [] }]) (by kernel_rfl) (by first | exact rfl | exact ⟨rfl, rfl⟩ | (simp [hx, intA]; done) | (first | exact hg | exact hw1 | exact hs | omega)) ⟨?z0, ?z1, ?z2, ?z3, ?z4, ?z5, ?q28_1, trivial⟩
    case z0|z1|z2|z3|z4|z5 => first | exact rfl | (simp [hx, intA] <;> omega) | omega | (first | exact hg | exact hw1 | exact hs | omega)
    exact ih
theorem whole_ac (ws : List Int) (hw : ∀ x ∈ ws, 0 ≤ x ∧ x ≤ 64) (hl : ws.length ≤ 1000000) : ACalls Tryz.prog 135 [.lst 1 (ws.map intA)] [] (.int .i64 ((ws.sum + 7) / 8)) [] := by
  have h := whole_loop ws hw hl ws.length 0 0 (by omega) (by omega) (by omega)
  rw [List.drop_zero, Int.zero_add] at h
  obtain ⟨b0, b1⟩ := sum_bound ws hw
  have s1 : IntKind.i64.wrap (ws.sum + 8) = ws.sum + 8 := wrap_i (by omega) (by omega)
  have s2 : IntKind.i64.wrap (ws.sum + 8 - 1) = ws.sum + 7 := by rw [show ws.sum + 8 - 1 = ws.sum + 7 by omega]; exact wrap_i (by omega) (by omega)
  have s3 : IntKind.i64.wrap (Int.tdiv (ws.sum + 7) 8) = (ws.sum + 7) / 8 := by rw [Int.tdiv_eq_ediv_of_nonneg (by omega)]; exact wrap_i (by omega) (by omega)
  refine acallsK mixed Tryz.func135 rfl [0, 2, 3, 5, 6, 7, 8, 9] 1000 ([.n ws.length, .lp [8, 7, 6, 3] [] (.exit 0) ⟨[(3, .int .i64 ws.sum)], []⟩, .n (ws.sum + 8), .n (ws.sum + 7), .n ((ws.sum + 7) / 8)]) [] [] (v1 := .int .i64 ((List.sum ws + 7) / 8)) (objs1 := []) (ob := [((List.map intA ws).length : Int) = (ws.length : Int),
 ALoop Tryz.prog 0 20 (loopB Tryz.f135 0) { env := [(8, .int .i64 0), (7, .int .i64 (ws.length : Int)), (6, .lst 1 (List.map intA ws)), (3, .int .i64 0)], objs := [] } (Ex.exit 0) { env := [(3, .int .i64 (List.sum ws))], objs := [] },
 IntKind.i64.wrap (List.sum ws + (8 : Int)) = List.sum ws + (8 : Int),
 IntKind.i64.wrap (List.sum ws + (8 : Int) - (1 : Int)) = List.sum ws + (7 : Int),
 (8 : Int) ≠ (0 : Int),
 IntKind.i64.wrap (Int.tdiv (List.sum ws + (7 : Int)) (8 : Int)) = (List.sum ws + (7 : Int)) / (8 : Int)]) (by kernel_rfl) (by first | exact rfl | exact ⟨rfl, rfl⟩ | (simp []; done) | (first | exact s1 | exact s2 | exact s3 | omega)) ⟨?z0, ?q37_1, ?z1, ?z2, ?z3, ?z4, trivial⟩
  case z0|z1|z2|z3|z4 => first | exact rfl | (simp [] <;> omega) | omega | (first | exact s1 | exact s2 | exact s3 | omega)
  exact h
end Go.Proofs.YtidgcfgkcidkiaaGreat.Ch
namespace Go.Proofs.YtidgcfgkcidkiaaGreat.Ch
set_option linter.unusedVariables false
set_option linter.unusedSimpArgs false
/-- The number that bytes are. -/
def valB : List Nat → Nat
  | [] => 0
  | b :: r => b * 2 ^ (8 * r.length) + valB r
def digs : Nat → Nat → List Nat
  | 0, _ => []
  | k + 1, N => (N / 2 ^ (8 * k) % 256) :: digs k N
theorem valB_lt : ∀ (bs : List Nat), (∀ b ∈ bs, b < 256) → valB bs < 2 ^ (8 * bs.length)
  | [], _ => by simp [valB]
  | b :: r, h => by
    have h1 := h b (by simp)
    have h2 := valB_lt r fun x hx => h x (by simp [hx])
    have h3 : (b + 1) * 2 ^ (8 * r.length) ≤ 256 * 2 ^ (8 * r.length) := Nat.mul_le_mul_right _ (by omega)
    have h4 : 2 ^ (8 * (b :: r).length) = 256 * 2 ^ (8 * r.length) := by rw [List.length_cons, Nat.mul_add, Nat.pow_add, Nat.mul_comm]
    rw [h4]
    rw [Nat.succ_mul] at h3
    simp only [valB]
    omega
theorem valB_set : ∀ (bs : List Nat) (q x y : Nat), bs[q]? = some x → valB (bs.set q y) + x * 2 ^ (8 * (bs.length - 1 - q)) = valB bs + y * 2 ^ (8 * (bs.length - 1 - q))
  | [], q, x, y, h => by simp at h
  | b :: r, 0, x, y, h => by
    simp at h; subst h
    simp only [List.set_cons_zero, valB, List.length_cons, Nat.add_sub_cancel, Nat.sub_zero]
    omega
  | b :: r, q + 1, x, y, h => by
    have ih := valB_set r q x y (by simpa using h)
    simp only [List.set_cons_succ, valB, List.length_cons, List.length_set, Nat.add_sub_cancel]
    rw [show r.length - (q + 1) = r.length - 1 - q by omega]
    omega
theorem valB_get : ∀ (bs : List Nat) (q x : Nat), (∀ b ∈ bs, b < 256) → bs[q]? = some x → valB bs / 2 ^ (8 * (bs.length - 1 - q)) % 256 = x
  | [], q, x, _, h => by simp at h
  | b :: r, 0, x, hb, h => by
    simp at h; subst h
    have h1 := valB_lt r fun x hx => hb x (by simp [hx])
    have h2 := hb b (by simp)
    simp only [valB, List.length_cons, Nat.add_sub_cancel, Nat.sub_zero]
    rw [Nat.mul_comm, Nat.mul_add_div (Nat.two_pow_pos _), Nat.div_eq_of_lt h1, Nat.add_zero, Nat.mod_eq_of_lt h2]
  | b :: r, q + 1, x, hb, h => by
    have ih := valB_get r q x (fun x hx => hb x (by simp [hx])) (by simpa using h)
    have hq : q < r.length := (List.getElem?_eq_some_iff.1 (by simpa using h : r[q]? = some x)).1
    simp only [valB, List.length_cons, Nat.add_sub_cancel]
    rw [show r.length - (q + 1) = r.length - 1 - q by omega]
    have e : b * 2 ^ (8 * r.length) = 2 ^ (8 * (r.length - 1 - q)) * (256 * (b * 2 ^ (8 * q))) := by
      have : 2 ^ (8 * r.length) = 2 ^ (8 * (r.length - 1 - q)) * (256 * 2 ^ (8 * q)) := by
        rw [show (256 : Nat) = 2 ^ 8 by rfl, ← Nat.pow_add, ← Nat.pow_add]; congr 1; omega
      rw [this]
      simp only [Nat.mul_left_comm]
    rw [e, Nat.mul_add_div (Nat.two_pow_pos _), Nat.mul_add_mod]
    exact ih
theorem digs_len : ∀ (k N : Nat), (digs k N).length = k
  | 0, _ => rfl
  | k + 1, N => by simp [digs, digs_len k N]
theorem digs_lt : ∀ (k N : Nat), ∀ b ∈ digs k N, b < 256
  | 0, _, b, h => by simp [digs] at h
  | k + 1, N, b, h => by
    simp only [digs, List.mem_cons] at h
    rcases h with rfl | h
    · exact Nat.mod_lt _ (by decide)
    · exact digs_lt k N b h
theorem digs_mod : ∀ (k M N : Nat), digs k (M * 2 ^ (8 * k) + N) = digs k N
  | 0, _, _ => rfl
  | k + 1, M, N => by
    have e : M * 2 ^ (8 * (k + 1)) = (M * 256) * 2 ^ (8 * k) := by rw [Nat.mul_add, Nat.pow_add, Nat.mul_assoc]; congr 1; rw [Nat.mul_comm]
    simp only [digs]
    rw [e, digs_mod k (M * 256) N, Nat.mul_comm (M * 256), Nat.mul_add_div (Nat.two_pow_pos _), Nat.mul_comm M, Nat.mul_add_mod]
/-- Bytes are what their number's are. -/
theorem digs_val : ∀ (bs : List Nat), (∀ b ∈ bs, b < 256) → digs bs.length (valB bs) = bs
  | [], _ => rfl
  | b :: r, h => by
    have h1 := valB_lt r fun x hx => h x (by simp [hx])
    have h2 := h b (by simp)
    simp only [List.length_cons, digs, valB]
    rw [digs_mod, digs_val r fun x hx => h x (by simp [hx]), Nat.mul_comm, Nat.mul_add_div (Nat.two_pow_pos _), Nat.div_eq_of_lt h1, Nat.add_zero, Nat.mod_eq_of_lt h2]
theorem valB_digs : ∀ (k N : Nat), N < 2 ^ (8 * k) → valB (digs k N) = N
  | 0, N, h => by simp at h; subst h; rfl
  | k + 1, N, h => by
    have h1 : N / 2 ^ (8 * k) < 256 := by
      rw [Nat.div_lt_iff_lt_mul (Nat.two_pow_pos _)]
      rw [Nat.mul_add, Nat.pow_add, Nat.mul_comm] at h; exact h
    have e := Nat.div_add_mod N (2 ^ (8 * k))
    simp only [digs, valB, digs_len]
    rw [Nat.mod_eq_of_lt h1]
    have := digs_mod k (N / 2 ^ (8 * k)) (N % 2 ^ (8 * k))
    rw [Nat.mul_comm] at this
    rw [e] at this
    rw [this, valB_digs k _ (Nat.mod_lt _ (Nat.two_pow_pos _))]
    rw [Nat.mul_comm]; exact e
/-- A number's top and rest. -/
theorem mod_top (V n t : Nat) (h : t ≤ n) : V % 2 ^ n = V / 2 ^ (n - t) % 2 ^ t * 2 ^ (n - t) + V % 2 ^ (n - t) := by
  have := Nat.mod_mul (x := V) (a := 2 ^ (n - t)) (b := 2 ^ t)
  rw [← Nat.pow_add, show n - t + t = n by omega] at this
  rw [this, Nat.mul_comm]; omega
/-- A byte of the number: its bits from first on. -/
theorem byte_bits (bs : List Nat) (q x first take : Nat) (hb : ∀ b ∈ bs, b < 256) (hx : bs[q]? = some x) (hf : first + take ≤ 8) : x / 2 ^ (8 - first - take) % 2 ^ take = valB bs / 2 ^ (8 * bs.length - (8 * q + first) - take) % 2 ^ take := by
  have h1 := valB_get bs q x hb hx
  have hq : q < bs.length := (List.getElem?_eq_some_iff.1 hx).1
  have e : 8 * bs.length - (8 * q + first) - take = 8 * (bs.length - 1 - q) + (8 - first - take) := by omega
  rw [e, Nat.pow_add, ← Nat.div_div_eq_div_mul, ← h1]
  rw [show (256 : Nat) = 2 ^ (8 - first - take) * 2 ^ (first + take) by rw [← Nat.pow_add, show 8 - first - take + (first + take) = 8 by omega]]
  rw [Nat.mod_mul_right_div_self, Nat.pow_add, Nat.mod_mul_left_mod]
/-- What stands behind at is nothing yet: so a byte's bits are. -/
theorem byte_zero (bs : List Nat) (q x first : Nat) (hb : ∀ b ∈ bs, b < 256) (hx : bs[q]? = some x) (hf : first ≤ 8) (hz : 2 ^ (8 * bs.length - (8 * q + first)) ∣ valB bs) : x % 2 ^ (8 - first) = 0 := by
  have h1 := valB_get bs q x hb hx
  have hq : q < bs.length := (List.getElem?_eq_some_iff.1 hx).1
  obtain ⟨c, hc⟩ := hz
  have e : 8 * bs.length - (8 * q + first) = 8 * (bs.length - 1 - q) + (8 - first) := by omega
  rw [e, Nat.pow_add, Nat.mul_assoc] at hc
  rw [hc, Nat.mul_div_cancel_left _ (Nat.two_pow_pos _)] at h1
  rw [← h1]
  rw [show (256 : Nat) = 2 ^ (8 - first) * 2 ^ first by rw [← Nat.pow_add, show 8 - first + first = 8 by omega]]
  rw [Nat.mod_mul_right_mod, Nat.mul_mod_right]
/-- Bits are laid into a byte. -/
theorem byte_lay (bs : List Nat) (q x first take p : Nat) (hx : bs[q]? = some x) (hf : first + take ≤ 8) : valB (bs.set q (x + p * 2 ^ (8 - first - take))) = valB bs + p * 2 ^ (8 * bs.length - (8 * q + first) - take) := by
  have h1 := valB_set bs q x (x + p * 2 ^ (8 - first - take)) hx
  have hq : q < bs.length := (List.getElem?_eq_some_iff.1 hx).1
  have e : 8 * bs.length - (8 * q + first) - take = (8 - first - take) + 8 * (bs.length - 1 - q) := by omega
  rw [e, Nat.pow_add, ← Nat.mul_assoc]
  rw [Nat.add_mul] at h1
  omega

/-- Numbers one behind the other. -/
def packN : List (Nat × Nat) → Nat := fun ps => ps.foldl (fun a p => a * 2 ^ p.1 + p.2) 0
def wid : List (Nat × Nat) → Nat
  | [] => 0
  | p :: r => p.1 + wid r
theorem wid_app : ∀ (a b : List (Nat × Nat)), wid (a ++ b) = wid a + wid b
  | [], b => by simp [wid]
  | p :: r, b => by simp [wid, wid_app r b]; omega
theorem fold_from : ∀ (ps : List (Nat × Nat)) (a : Nat), ps.foldl (fun a p => a * 2 ^ p.1 + p.2) a = a * 2 ^ wid ps + packN ps
  | [], a => by simp [wid, packN]
  | p :: r, a => by
    have h1 := fold_from r (a * 2 ^ p.1 + p.2)
    have h2 := fold_from r (0 * 2 ^ p.1 + p.2)
    simp only [List.foldl_cons, packN, wid] at h1 h2 ⊢
    rw [h1, h2, Nat.add_mul, Nat.zero_mul, Nat.zero_add, Nat.pow_add, Nat.mul_assoc]; omega
theorem packN_app (a b : List (Nat × Nat)) : packN (a ++ b) = packN a * 2 ^ wid b + packN b := by
  show (a ++ b).foldl _ 0 = _
  rw [List.foldl_append]
  exact fold_from b (packN a)
theorem packN_lt : ∀ (ps : List (Nat × Nat)), (∀ p ∈ ps, p.2 < 2 ^ p.1) → packN ps < 2 ^ wid ps
  | [], _ => by simp [packN, wid]
  | p :: r, h => by
    have h1 := h p (by simp)
    have h2 := packN_lt r fun x hx => h x (by simp [hx])
    have h3 := packN_app [p] r
    have h4 : packN [p] = p.2 := by simp [packN]
    rw [List.singleton_append, h4] at h3
    rw [h3, wid, Nat.pow_add]
    have h5 : (p.2 + 1) * 2 ^ wid r ≤ 2 ^ p.1 * 2 ^ wid r := Nat.mul_le_mul_right _ h1
    rw [Nat.succ_mul] at h5
    omega
/-- What stands in it, is read. -/
theorem packN_get (pre post : List (Nat × Nat)) (w v pad : Nat) (hp : ∀ p ∈ post, p.2 < 2 ^ p.1) (hv : v < 2 ^ w) : packN (pre ++ (w, v) :: post) * 2 ^ pad / 2 ^ (wid post + pad) % 2 ^ w = v := by
  have h1 := packN_lt post hp
  rw [show pre ++ (w, v) :: post = (pre ++ [(w, v)]) ++ post by simp, packN_app, packN_app]
  rw [Nat.add_comm (wid post), Nat.pow_add, ← Nat.div_div_eq_div_mul, Nat.mul_div_cancel _ (Nat.two_pow_pos _)]
  rw [Nat.mul_comm _ (2 ^ wid post), Nat.mul_add_div (Nat.two_pow_pos _), Nat.div_eq_of_lt h1, Nat.add_zero]
  rw [show wid [(w, v)] = w by simp [wid], show packN [(w, v)] = v by simp [packN], Nat.mul_comm, Nat.mul_add_mod, Nat.mod_eq_of_lt hv]
/-- The bytes of numbers. -/
def packB (ps : List (Nat × Nat)) : List Nat := digs ((wid ps + 7) / 8) (packN ps * 2 ^ (8 * ((wid ps + 7) / 8) - wid ps))
theorem packB_len (ps : List (Nat × Nat)) : (packB ps).length = (wid ps + 7) / 8 := digs_len _ _
theorem packB_val (ps : List (Nat × Nat)) (h : ∀ p ∈ ps, p.2 < 2 ^ p.1) : valB (packB ps) = packN ps * 2 ^ (8 * ((wid ps + 7) / 8) - wid ps) := by
  refine valB_digs _ _ ?_
  have h1 := packN_lt ps h
  have e : 2 ^ (8 * ((wid ps + 7) / 8)) = 2 ^ wid ps * 2 ^ (8 * ((wid ps + 7) / 8) - wid ps) := by rw [← Nat.pow_add]; congr 1; omega
  rw [e]
  exact Nat.mul_lt_mul_of_pos_right h1 (Nat.two_pow_pos _)
end Go.Proofs.YtidgcfgkcidkiaaGreat.Ch
namespace Go.Proofs.YtidgcfgkcidkiaaGreat.Ch
open Go Go.RowKit Go.Proofs.YtidgcfgkcidkiaaGreat.L Go.Proofs.YtidgcfgkcidkiaaGreat.X
set_option linter.unusedVariables false
set_option linter.unusedSimpArgs false
def byN (n : Nat) : AV := .int .u8 (n : Int)
theorem sh1 : ∀ t, t < 9 → IntKind.u8.wrap (1 * 2 ^ (min ((t : Nat) : Int).toNat IntKind.u8.bits)) = ((2 ^ t % 256 : Nat) : Int) := by decide +kernel
theorem sh2 : ∀ t, t < 9 → IntKind.u8.wrap (((2 ^ t % 256 : Nat) : Int) - 1) = ((2 ^ t - 1 : Nat) : Int) := by decide +kernel
theorem sh3 : ∀ f, f < 8 → ∀ t, t < 9 → f + t ≤ 8 → IntKind.u8.wrap (((2 ^ t - 1 : Nat) : Int) * 2 ^ (min ((8 - f - t : Nat) : Int).toNat IntKind.u8.bits)) = (((2 ^ t - 1) * 2 ^ (8 - f - t) : Nat) : Int) := by decide +kernel
theorem sh4 : ∀ f, f < 8 → ∀ t, t < 9 → f + t ≤ 8 → ∀ x, x < 256 → IntKind.u8.wrap ((x : Nat) * 2 ^ (min ((8 - f - t : Nat) : Int).toNat IntKind.u8.bits)) = ((x * 2 ^ (8 - f - t) % 256 : Nat) : Int) := by decide +kernel
theorem sh5 : ∀ f, f < 8 → ∀ t, t < 9 → f + t ≤ 8 → ∀ x, x < 256 → IntKind.u8.wrap (BitVec.ofInt IntKind.u8.bits ((x * 2 ^ (8 - f - t) % 256 : Nat) : Int) &&& BitVec.ofInt IntKind.u8.bits (((2 ^ t - 1) * 2 ^ (8 - f - t) : Nat) : Int)).toNat = ((x % 2 ^ t * 2 ^ (8 - f - t) : Nat) : Int) := by decide +kernel
theorem sh6 : ∀ f, f < 8 → ∀ t, t < 9 → f + t ≤ 8 → ∀ x, x < 256 → x % 2 ^ (8 - f) = 0 → IntKind.u8.wrap (BitVec.ofInt IntKind.u8.bits (x : Nat) &&& ~~~ BitVec.ofInt IntKind.u8.bits (((2 ^ t - 1) * 2 ^ (8 - f - t) : Nat) : Int)).toNat = ((x : Nat) : Int) := by decide +kernel
theorem sh7 : ∀ f, f < 8 → ∀ x, x < 256 → IntKind.u8.wrap ((x : Nat) * 2 ^ (min ((f : Nat) : Int).toNat IntKind.u8.bits)) = ((x * 2 ^ f % 256 : Nat) : Int) := by decide +kernel
theorem sh8 : ∀ f, f < 8 → ∀ t, t < 9 → f + t ≤ 8 → ∀ x, x < 256 → Int.fdiv ((x * 2 ^ f % 256 : Nat) : Int) (2 ^ (min ((8 - t : Nat) : Int).toNat IntKind.u8.bits)) = ((x / 2 ^ (8 - f - t) % 2 ^ t : Nat) : Int) := by decide +kernel
theorem or8 (X Y i : Nat) (hX : X < 256) (h : X % 2 ^ i = 0) (hY : Y < 2 ^ i) (hs : X + Y < 256) : IntKind.u8.wrap (BitVec.ofInt IntKind.u8.bits (X : Int) ||| BitVec.ofInt IntKind.u8.bits (Y : Int)).toNat = ((X + Y : Nat) : Int) := by
  have e1 : (BitVec.ofInt IntKind.u8.bits (X : Int)).toNat = X := by
    rw [BitVec.toNat_ofInt]; show ((X : Int) % ((2 ^ 8 : Nat) : Int)).toNat = X; omega
  have e2 : (BitVec.ofInt IntKind.u8.bits (Y : Int)).toNat = Y := by
    rw [BitVec.toNat_ofInt]; show ((Y : Int) % ((2 ^ 8 : Nat) : Int)).toNat = Y; omega
  have e3 : X = 2 ^ i * (X / 2 ^ i) := by have := Nat.div_add_mod X (2 ^ i); omega
  rw [BitVec.toNat_or, e1, e2]
  have e4 : X ||| Y = X + Y := by rw [e3, ← Nat.two_pow_add_eq_or_of_lt hY]
  rw [e4]
  simp [IntKind.wrap, IntKind.signed, IntKind.bits]
  omega
theorem or64 (v p t : Nat) (hp : p < 2 ^ t) (h : v * 2 ^ t + p < 2 ^ 64) : IntKind.u64.wrap (BitVec.ofInt IntKind.u64.bits ((v * 2 ^ t : Nat) : Int) ||| BitVec.ofInt IntKind.u64.bits (p : Int)).toNat = ((v * 2 ^ t + p : Nat) : Int) := by
  generalize hX : v * 2 ^ t = X at h ⊢
  have e1 : (BitVec.ofInt IntKind.u64.bits (X : Int)).toNat = X := by
    rw [BitVec.toNat_ofInt]; show ((X : Int) % ((2 ^ 64 : Nat) : Int)).toNat = X; omega
  have e2 : (BitVec.ofInt IntKind.u64.bits (p : Int)).toNat = p := by
    rw [BitVec.toNat_ofInt]; show ((p : Int) % ((2 ^ 64 : Nat) : Int)).toNat = p; omega
  rw [BitVec.toNat_or, e1, e2]
  have e4 : X ||| p = X + p := by rw [← hX, Nat.mul_comm, ← Nat.two_pow_add_eq_or_of_lt hp]
  rw [e4]
  simp [IntKind.wrap, IntKind.signed, IntKind.bits]
  omega
theorem fdivN (v k : Nat) (hk : k ≤ 64) : Int.fdiv (v : Int) (2 ^ (min ((k : Nat) : Int).toNat IntKind.u64.bits)) = ((v / 2 ^ k : Nat) : Int) := by
  rw [Int.fdiv_eq_ediv_of_nonneg _ (Int.le_of_lt (Int.pow_pos (by decide)))]
  rw [show min ((k : Nat) : Int).toNat IntKind.u64.bits = k by simp [IntKind.bits]; omega]
  simp
theorem mnN (a b c : Nat) (h : c = min a b) : L.mn (a : Int) (b : Int) = (c : Int) := by
  subst h; unfold L.mn; split <;> omega
theorem wN (x : Int) (n : Nat) (h : x = n) (hb : n < 9223372036854775808) : IntKind.i64.wrap x = (n : Int) := by
  subst h; simp [IntKind.wrap, IntKind.signed, IntKind.bits]; omega
theorem w8 (x : Nat) : IntKind.u8.wrap (x : Int) = ((x % 256 : Nat) : Int) := by
  simp [IntKind.wrap, IntKind.signed, IntKind.bits]
theorem set_round (bs bs' : List Nat) (at_ n v q first take x y : Nat) (hx : bs[q]? = some x) (hat : at_ = 8 * q + first) (hf : first < 8) (ht : 1 ≤ take) (hft : first + take ≤ 8) (hm : take = min (8 - first) n)
    (hb : x < 256) (hz : x % 2 ^ (8 - first) = 0) (hn : n ≤ 64) (hl : bs.length ≤ 1099511627776) (hy : y = x + v / 2 ^ (n - take) % 2 ^ take * 2 ^ (8 - first - take))
    (ih : ALoop Tryz.prog 1 Tryz.f136.ntmps (loopB Tryz.f136 0) ⟨[(0, .row 0 1 bs.length), (1, .int .i64 ((at_ + take : Nat) : Int)), (2, .int .i64 ((n - take : Nat) : Int)), (3, .int .u64 v)], [.row 5 1 ((bs.set q y).map byN)]⟩ (.exit 0) ⟨[], [.row 5 1 (bs'.map byN)]⟩) :
    ALoop Tryz.prog 1 Tryz.f136.ntmps (loopB Tryz.f136 0) ⟨[(0, .row 0 1 bs.length), (1, .int .i64 at_), (2, .int .i64 n), (3, .int .u64 v)], [.row 5 1 (bs.map byN)]⟩ (.exit 0) ⟨[], [.row 5 1 (bs'.map byN)]⟩ := by
  have hq : q < bs.length := (List.getElem?_eq_some_iff.1 hx).1
  have hpp : v / 2 ^ (n - take) % 2 ^ take < 2 ^ take := Nat.mod_lt _ (Nat.two_pow_pos _)
  have hpl : v / 2 ^ (n - take) % 2 ^ take * 2 ^ (8 - first - take) < 2 ^ (8 - first) := by
    have : 2 ^ (8 - first) = 2 ^ take * 2 ^ (8 - first - take) := by rw [← Nat.pow_add]; congr 1; omega
    rw [this]; exact Nat.mul_lt_mul_of_pos_right hpp (Nat.two_pow_pos _)
  have hyl : x + v / 2 ^ (n - take) % 2 ^ take * 2 ^ (8 - first - take) < 256 := by
    have e : 256 = 2 ^ (8 - first) * 2 ^ first := by rw [← Nat.pow_add, show 8 - first + first = 8 by omega]
    have e2 := Nat.div_add_mod x (2 ^ (8 - first))
    have e3 : x / 2 ^ (8 - first) < 2 ^ first := by rw [Nat.div_lt_iff_lt_mul (Nat.two_pow_pos _), Nat.mul_comm, ← e]; exact hb
    have e4 : 2 ^ (8 - first) * (x / 2 ^ (8 - first) + 1) ≤ 2 ^ (8 - first) * 2 ^ first := Nat.mul_le_mul_left _ e3
    rw [Nat.mul_add] at e4
    omega
  have o1 : Int.tmod (at_ : Int) 8 = (first : Int) := by rw [Int.tmod_eq_emod_of_nonneg (by omega)]; omega
  have o2 : IntKind.i64.wrap (8 - (first : Int)) = ((8 - first : Nat) : Int) := wN _ _ (by omega) (by omega)
  have o3 : L.mn ((8 - first : Nat) : Int) (n : Int) = (take : Int) := mnN _ _ _ hm
  have o4 : IntKind.i64.wrap (((8 - first : Nat) : Int) - (take : Int)) = ((8 - first - take : Nat) : Int) := wN _ _ (by omega) (by omega)
  have o5 := sh1 take (by omega)
  have o6 := sh2 take (by omega)
  have o7 := sh3 first hf take (by omega) hft
  have o8 : IntKind.i64.wrap ((n : Int) - (take : Int)) = ((n - take : Nat) : Int) := wN _ _ (by omega) (by omega)
  have o9 := fdivN v (n - take) (by omega)
  have o10 := w8 (v / 2 ^ (n - take))
  have o11 := sh4 first hf take (by omega) hft (v / 2 ^ (n - take) % 256) (Nat.mod_lt _ (by decide))
  have o12 : IntKind.i64.wrap (Int.tdiv (at_ : Int) 8) = (q : Int) := by rw [Int.tdiv_eq_ediv_of_nonneg (by omega)]; exact wN _ _ (by omega) (by omega)
  have o13 := sh6 first hf take (by omega) hft x hb hz
  have o14 := sh5 first hf take (by omega) hft (v / 2 ^ (n - take) % 256) (Nat.mod_lt _ (by decide))
  have o14' : v / 2 ^ (n - take) % 256 % 2 ^ take = v / 2 ^ (n - take) % 2 ^ take := by
    rw [show (256 : Nat) = 2 ^ take * 2 ^ (8 - take) by rw [← Nat.pow_add, show take + (8 - take) = 8 by omega]]
    exact Nat.mod_mul_right_mod _ _ _
  rw [o14'] at o14
  have o15 := or8 x _ (8 - first) hb hz hpl hyl
  rw [← hy] at o15
  have o16 : IntKind.i64.wrap ((at_ : Int) + (take : Int)) = ((at_ + take : Nat) : Int) := wN _ _ (by omega) (by omega)
  have o17 : (bs.map byN)[q]? = some (byN x) := by rw [List.getElem?_map, hx]; rfl
  rw [List.map_set] at ih
  refine aloopK mixed [0, 1, 2, 3, 8, 9, 10, 11, 12, 14] 1000 ([.go, .t, .n first, .n ((8 - first : Nat) : Int), .n take, .n ((8 - first : Nat) : Int), .n ((8 - first - take : Nat) : Int), .n ((2 ^ take % 256 : Nat) : Int), .n ((2 ^ take - 1 : Nat) : Int), .n (((2 ^ take - 1) * 2 ^ (8 - first - take) : Nat) : Int), .n ((n - take : Nat) : Int), .n ((v / 2 ^ (n - take) : Nat) : Int), .n ((v / 2 ^ (n - take) % 256 : Nat) : Int), .n ((v / 2 ^ (n - take) % 256 * 2 ^ (8 - first - take) % 256 : Nat) : Int), .n q, .n q, .ix q, .el (byN x), .n (x : Int), .n ((v / 2 ^ (n - take) % 2 ^ take * 2 ^ (8 - first - take) : Nat) : Int), .n (y : Int), .ix q, .el (byN x), .n ((at_ + take : Nat) : Int), .n ((n - take : Nat) : Int), .lp [0, 1, 2, 3] [0] (.exit 0) ⟨[], [.row 5 1 (bs'.map byN)]⟩]) [] [0] (S1 := { env := [], objs := [.row 5 1 (List.map byN bs')] }) (ob := [decide ((↑n : Int) > (0 : Int)) = true,
 (8 : Int) ≠ (0 : Int),
 Int.tmod (↑at_ : Int) (8 : Int) = (↑first : Int),
 IntKind.i64.wrap ((8 : Int) - (↑first : Int)) = (↑((8 : Nat) - first) : Int),
 mn (↑((8 : Nat) - first) : Int) (↑n : Int) = (↑take : Int),
 IntKind.i64.wrap ((8 : Int) - (↑first : Int)) = (↑((8 : Nat) - first) : Int),
 IntKind.i64.wrap ((↑((8 : Nat) - first) : Int) - (↑take : Int)) = (↑((8 : Nat) - first - take) : Int),
 (0 : Int) ≤ (↑take : Int),
 IntKind.u8.wrap ((1 : Int) * (2 : Int) ^ min (Int.toNat (↑take : Int)) (IntKind.bits IntKind.u8)) = (↑((2 : Nat) ^ take % (256 : Nat)) : Int),
 IntKind.u8.wrap ((↑((2 : Nat) ^ take % (256 : Nat)) : Int) - (1 : Int)) = (↑((2 : Nat) ^ take - (1 : Nat)) : Int),
 (0 : Int) ≤ (↑((8 : Nat) - first - take) : Int),
 IntKind.u8.wrap ((↑((2 : Nat) ^ take - (1 : Nat)) : Int) * (2 : Int) ^ min (Int.toNat (↑((8 : Nat) - first - take) : Int)) (IntKind.bits IntKind.u8)) = (↑(((2 : Nat) ^ take - (1 : Nat)) * (2 : Nat) ^ ((8 : Nat) - first - take)) : Int),
 IntKind.i64.wrap ((↑n : Int) - (↑take : Int)) = (↑(n - take) : Int),
 (0 : Int) ≤ (↑(n - take) : Int),
 Int.fdiv (↑v : Int) ((2 : Int) ^ min (Int.toNat (↑(n - take) : Int)) (IntKind.bits IntKind.u64)) = (↑(v / (2 : Nat) ^ (n - take)) : Int),
 IntKind.u8.wrap (↑(v / (2 : Nat) ^ (n - take)) : Int) = (↑(v / (2 : Nat) ^ (n - take) % (256 : Nat)) : Int),
 (0 : Int) ≤ (↑((8 : Nat) - first - take) : Int),
 IntKind.u8.wrap ((↑(v / (2 : Nat) ^ (n - take) % (256 : Nat)) : Int) * (2 : Int) ^ min (Int.toNat (↑((8 : Nat) - first - take) : Int)) (IntKind.bits IntKind.u8)) = (↑(v / (2 : Nat) ^ (n - take) % (256 : Nat) * (2 : Nat) ^ ((8 : Nat) - first - take) % (256 : Nat)) : Int),
 (8 : Int) ≠ (0 : Int),
 IntKind.i64.wrap (Int.tdiv (↑at_ : Int) (8 : Int)) = (↑q : Int),
 (8 : Int) ≠ (0 : Int),
 IntKind.i64.wrap (Int.tdiv (↑at_ : Int) (8 : Int)) = (↑q : Int),
 q < List.length bs,
 (↑q : Int) = (↑q : Int),
 (List.map byN bs)[q]? = some (.int .u8 (↑x : Int)),
 IntKind.u8.wrap (↑(BitVec.toNat (BitVec.ofInt (IntKind.bits IntKind.u8) (↑x : Int) &&& ~~~BitVec.ofInt (IntKind.bits IntKind.u8) (↑(((2 : Nat) ^ take - (1 : Nat)) * (2 : Nat) ^ ((8 : Nat) - first - take)) : Int))) : Int) = (↑x : Int),
 IntKind.u8.wrap (↑(BitVec.toNat (BitVec.ofInt (IntKind.bits IntKind.u8) (↑(v / (2 : Nat) ^ (n - take) % (256 : Nat) * (2 : Nat) ^ ((8 : Nat) - first - take) % (256 : Nat)) : Int) &&& BitVec.ofInt (IntKind.bits IntKind.u8) (↑(((2 : Nat) ^ take - (1 : Nat)) * (2 : Nat) ^ ((8 : Nat) - first - take)) : Int))) : Int) = (↑(v / (2 : Nat) ^ (n - take) % (2 : Nat) ^ take * (2 : Nat) ^ ((8 : Nat) - first - take)) : Int),
 IntKind.u8.wrap (↑(BitVec.toNat (BitVec.ofInt (IntKind.bits IntKind.u8) (↑x : Int) ||| BitVec.ofInt (IntKind.bits IntKind.u8) (↑(v / (2 : Nat) ^ (n - take) % (2 : Nat) ^ take * (2 : Nat) ^ ((8 : Nat) - first - take)) : Int))) : Int) = (↑y : Int),
 q < List.length bs,
 (↑q : Int) = (↑q : Int),
 (List.map byN bs)[q]? = some (.int .u8 (↑x : Int)),
 IntKind.i64.wrap ((↑at_ : Int) + (↑take : Int)) = (↑(at_ + take) : Int),
 IntKind.i64.wrap ((↑n : Int) - (↑take : Int)) = (↑(n - take) : Int),
 ALoop Tryz.prog 1 59 (loopB Tryz.f136 0) { env := [(0, .row 0 1 (List.length bs)), (1, .int .i64 (↑(at_ + take) : Int)), (2, .int .i64 (↑(n - take) : Int)), (3, .int .u64 (↑v : Int))], objs := [.row 5 1 (List.set (List.map byN bs) q (.int .u8 (↑y : Int)))] } (Ex.exit 0) { env := [], objs := [.row 5 1 (List.map byN bs')] }]) (by kernel_rfl) (by first | exact rfl | exact ⟨rfl, rfl⟩ | (simp [byN]; done) | (first | exact o1 | exact o2 | exact o3 | exact o4 | exact o5 | exact o6 | exact o7 | exact o8 | exact o9 | exact o10 | exact o11 | exact o12 | exact o13 | exact o14 | exact o15 | exact o16 | exact o17 | (simp; omega) | omega)) ⟨?z0, ?z1, ?z2, ?z3, ?z4, ?z5, ?z6, ?z7, ?z8, ?z9, ?z10, ?z11, ?z12, ?z13, ?z14, ?z15, ?z16, ?z17, ?z18, ?z19, ?z20, ?z21, ?z22, ?z23, ?z24, ?z25, ?z26, ?z27, ?z28, ?z29, ?z30, ?z31, ?z32, ?q87_1, trivial⟩
  case z0|z1|z2|z3|z4|z5|z6|z7|z8|z9|z10|z11|z12|z13|z14|z15|z16|z17|z18|z19|z20|z21|z22|z23|z24|z25|z26|z27|z28|z29|z30|z31|z32 => first | exact rfl | (simp [byN] <;> omega) | omega | (first | exact o1 | exact o2 | exact o3 | exact o4 | exact o5 | exact o6 | exact o7 | exact o8 | exact o9 | exact o10 | exact o11 | exact o12 | exact o13 | exact o14 | exact o15 | exact o16 | exact o17 | (simp; omega) | omega)
  exact ih
theorem get_round (bs : List Nat) (at_ n v v' q first take x : Nat) (hx : bs[q]? = some x) (hat : at_ = 8 * q + first) (hf : first < 8) (ht : 1 ≤ take) (hft : first + take ≤ 8) (hm : take = min (8 - first) n)
    (hb : x < 256) (hn : n ≤ 64) (hv : v < 2 ^ (64 - n)) (hl : bs.length ≤ 1099511627776)
    (ih : ALoop Tryz.prog 0 Tryz.f115.ntmps (loopB Tryz.f115 0) ⟨[(8, .int .u64 ((v * 2 ^ take + x / 2 ^ (8 - first - take) % 2 ^ take : Nat) : Int)), (0, .lst 1 (bs.map byN)), (1, .int .i64 ((at_ + take : Nat) : Int)), (2, .int .i64 ((n - take : Nat) : Int))], []⟩ (.exit 0) ⟨[(8, .int .u64 v')], []⟩) :
    ALoop Tryz.prog 0 Tryz.f115.ntmps (loopB Tryz.f115 0) ⟨[(8, .int .u64 v), (0, .lst 1 (bs.map byN)), (1, .int .i64 at_), (2, .int .i64 n)], []⟩ (.exit 0) ⟨[(8, .int .u64 v')], []⟩ := by
  have hq : q < bs.length := (List.getElem?_eq_some_iff.1 hx).1
  have hpp : x / 2 ^ (8 - first - take) % 2 ^ take < 2 ^ take := Nat.mod_lt _ (Nat.two_pow_pos _)
  have hpc : x / 2 ^ (8 - first - take) % 2 ^ take < 256 := Nat.lt_of_lt_of_le hpp (by rw [show (256 : Nat) = 2 ^ 8 by rfl]; exact Nat.pow_le_pow_right (by decide) (by omega))
  have hvt : v * 2 ^ take + x / 2 ^ (8 - first - take) % 2 ^ take < 2 ^ 64 := by
    have e1 : (v + 1) * 2 ^ take ≤ 2 ^ (64 - n) * 2 ^ take := Nat.mul_le_mul_right _ hv
    rw [← Nat.pow_add, Nat.succ_mul] at e1
    have e2 : 2 ^ (64 - n + take) ≤ 2 ^ 64 := Nat.pow_le_pow_right (by decide) (by omega)
    omega
  have o1 : Int.tmod (at_ : Int) 8 = (first : Int) := by rw [Int.tmod_eq_emod_of_nonneg (by omega)]; omega
  have o2 : IntKind.i64.wrap (8 - (first : Int)) = ((8 - first : Nat) : Int) := wN _ _ (by omega) (by omega)
  have o3 : L.mn ((8 - first : Nat) : Int) (n : Int) = (take : Int) := mnN _ _ _ hm
  have o4 : IntKind.i64.wrap (8 - (take : Int)) = ((8 - take : Nat) : Int) := wN _ _ (by omega) (by omega)
  have o5 := sh7 first hf x hb
  have o6 := sh8 first hf take (by omega) hft x hb
  have o8 : IntKind.i64.wrap ((n : Int) - (take : Int)) = ((n - take : Nat) : Int) := wN _ _ (by omega) (by omega)
  have o9 : IntKind.u64.wrap ((v : Int) * 2 ^ (min ((take : Nat) : Int).toNat IntKind.u64.bits)) = ((v * 2 ^ take : Nat) : Int) := by
    rw [show min ((take : Nat) : Int).toNat IntKind.u64.bits = take by simp [IntKind.bits]; omega]
    rw [show (v : Int) * 2 ^ take = ((v * 2 ^ take : Nat) : Int) by simp]
    exact wu _ (by omega) (by omega)
  have o10 : IntKind.u64.wrap ((x / 2 ^ (8 - first - take) % 2 ^ take : Nat) : Int) = ((x / 2 ^ (8 - first - take) % 2 ^ take : Nat) : Int) := wu _ (by omega) (by omega)
  have o11 := or64 v _ take hpp hvt
  have o12 : IntKind.i64.wrap (Int.tdiv (at_ : Int) 8) = (q : Int) := by rw [Int.tdiv_eq_ediv_of_nonneg (by omega)]; exact wN _ _ (by omega) (by omega)
  have o16 : IntKind.i64.wrap ((at_ : Int) + (take : Int)) = ((at_ + take : Nat) : Int) := wN _ _ (by omega) (by omega)
  have o17 : (bs.map byN)[q]? = some (byN x) := by rw [List.getElem?_map, hx]; rfl
  refine aloopK mixed [0, 1, 2, 6, 7, 8, 9, 10, 11, 16, 18] 1000 ([.go, .t, .n first, .n ((8 - first : Nat) : Int), .n take, .n q, .ix q, .el (byN x), .n ((x * 2 ^ first % 256 : Nat) : Int), .n ((8 - take : Nat) : Int), .n ((x / 2 ^ (8 - first - take) % 2 ^ take : Nat) : Int), .n ((v * 2 ^ take : Nat) : Int), .n ((x / 2 ^ (8 - first - take) % 2 ^ take : Nat) : Int), .n ((v * 2 ^ take + x / 2 ^ (8 - first - take) % 2 ^ take : Nat) : Int), .n ((at_ + take : Nat) : Int), .n ((n - take : Nat) : Int), .lp [8, 0, 1, 2] [] (.exit 0) ⟨[(8, .int .u64 v')], []⟩]) [8] [] (S1 := { env := [(8, .int .u64 (↑v' : Int))], objs := [] }) (ob := [decide ((↑n : Int) > (0 : Int)) = true,
 (8 : Int) ≠ (0 : Int),
 Int.tmod (↑at_ : Int) (8 : Int) = (↑first : Int),
 IntKind.i64.wrap ((8 : Int) - (↑first : Int)) = (↑((8 : Nat) - first) : Int),
 mn (↑((8 : Nat) - first) : Int) (↑n : Int) = (↑take : Int),
 (8 : Int) ≠ (0 : Int),
 IntKind.i64.wrap (Int.tdiv (↑at_ : Int) (8 : Int)) = (↑q : Int),
 q < List.length (List.map byN bs),
 (↑q : Int) = (↑q : Int),
 (List.map byN bs)[q]? = some (.int .u8 (↑x : Int)),
 (0 : Int) ≤ (↑first : Int),
 IntKind.u8.wrap ((↑x : Int) * (2 : Int) ^ min (Int.toNat (↑first : Int)) (IntKind.bits IntKind.u8)) = (↑(x * (2 : Nat) ^ first % (256 : Nat)) : Int),
 IntKind.i64.wrap ((8 : Int) - (↑take : Int)) = (↑((8 : Nat) - take) : Int),
 (0 : Int) ≤ (↑((8 : Nat) - take) : Int),
 Int.fdiv (↑(x * (2 : Nat) ^ first % (256 : Nat)) : Int) ((2 : Int) ^ min (Int.toNat (↑((8 : Nat) - take) : Int)) (IntKind.bits IntKind.u8)) = (↑(x / (2 : Nat) ^ ((8 : Nat) - first - take) % (2 : Nat) ^ take) : Int),
 (0 : Int) ≤ (↑take : Int),
 IntKind.u64.wrap ((↑v : Int) * (2 : Int) ^ min (Int.toNat (↑take : Int)) (IntKind.bits IntKind.u64)) = (↑(v * (2 : Nat) ^ take) : Int),
 IntKind.u64.wrap (↑(x / (2 : Nat) ^ ((8 : Nat) - first - take) % (2 : Nat) ^ take) : Int) = (↑(x / (2 : Nat) ^ ((8 : Nat) - first - take) % (2 : Nat) ^ take) : Int),
 IntKind.u64.wrap (↑(BitVec.toNat (BitVec.ofInt (IntKind.bits IntKind.u64) (↑(v * (2 : Nat) ^ take) : Int) ||| BitVec.ofInt (IntKind.bits IntKind.u64) (↑(x / (2 : Nat) ^ ((8 : Nat) - first - take) % (2 : Nat) ^ take) : Int))) : Int) = (↑(v * (2 : Nat) ^ take + x / (2 : Nat) ^ ((8 : Nat) - first - take) % (2 : Nat) ^ take) : Int),
 IntKind.i64.wrap ((↑at_ : Int) + (↑take : Int)) = (↑(at_ + take) : Int),
 IntKind.i64.wrap ((↑n : Int) - (↑take : Int)) = (↑(n - take) : Int),
 ALoop Tryz.prog 0 48 (loopB Tryz.f115 0) { env := [(8, .int .u64 (↑(v * 2 ^ take + x / 2 ^ (8 - first - take) % 2 ^ take) : Int)), (0, .lst 1 (List.map byN bs)), (1, .int .i64 (↑(at_ + take) : Int)), (2, .int .i64 (↑(n - take) : Int))], objs := [] } (Ex.exit 0) { env := [(8, .int .u64 (↑v' : Int))], objs := [] }]) (by kernel_rfl) (by first | exact rfl | exact ⟨rfl, rfl⟩ | (simp [byN]; done) | (first | exact o1 | exact o2 | exact o3 | exact o4 | exact o5 | exact o6 | exact o8 | exact o9 | exact o10 | exact o11 | exact o12 | exact o16 | exact o17 | (simp; omega) | omega)) ⟨?z0, ?z1, ?z2, ?z3, ?z4, ?z5, ?z6, ?z7, ?z8, ?z9, ?z10, ?z11, ?z12, ?z13, ?z14, ?z15, ?z16, ?z17, ?z18, ?z19, ?z20, ?q117_1, trivial⟩
  case z0|z1|z2|z3|z4|z5|z6|z7|z8|z9|z10|z11|z12|z13|z14|z15|z16|z17|z18|z19|z20 => first | exact rfl | (simp [byN] <;> omega) | omega | (first | exact o1 | exact o2 | exact o3 | exact o4 | exact o5 | exact o6 | exact o8 | exact o9 | exact o10 | exact o11 | exact o12 | exact o16 | exact o17 | (simp; omega) | omega)
  exact ih
end Go.Proofs.YtidgcfgkcidkiaaGreat.Ch
namespace Go.Proofs.YtidgcfgkcidkiaaGreat.Ch
open Go Go.RowKit Go.Proofs Go.Shelf Go.Proofs.YtidgcfgkcidkiaaGreat.L Go.Proofs.YtidgcfgkcidkiaaGreat.X
set_option linter.unusedVariables false
def lenLays_ren : Ren := ⟨fun x => match x with | 129 => 134 | n => n, fun x => match x with | 53 => 22 | 3 => 3 | 4 => 4 | 46 => 98 | 5 => 5 | 9 => 9 | n => n, fun n => n⟩
theorem lenLays : Lays.n129 Tryz.prog lenLays_ren where
  mixed := by kernel_rfl
  f129 := Tryz.func134.trans (congrArg some rfl)
  t3 := Tryz.underlying3
  a3 := Tryz.isAgg3
  z3 := Tryz.sizeOf3
  v3 := Tryz.zeroValue3
  t4 := Tryz.underlying4
  a4 := Tryz.isAgg4
  z4 := Tryz.sizeOf4
  v4 := Tryz.zeroValue4
  t5 := Tryz.underlying5
  a5 := Tryz.isAgg5
  z5 := Tryz.sizeOf5
  v5 := Tryz.zeroValue5
  t9 := Tryz.underlying9
  a9 := Tryz.isAgg9
  z9 := Tryz.sizeOf9
  v9 := Tryz.zeroValue9
  t46 := Tryz.underlying98
  a46 := Tryz.isAgg98
  z46 := Tryz.sizeOf98
  v46 := Tryz.zeroValue98
  t53 := Tryz.underlying22
  a53 := Tryz.isAgg22
  z53 := Tryz.sizeOf22
  v53 := Tryz.zeroValue22
theorem bitLenAux_le : ∀ (f x n : Nat), x < 2 ^ n → Lib.bitLenAux f x ≤ n
  | 0, x, n, h => by simp [Lib.bitLenAux]
  | f + 1, x, 0, h => by simp at h; subst h; simp [Lib.bitLenAux]
  | f + 1, x, n + 1, h => by
    simp only [Lib.bitLenAux]
    split
    · exact Nat.zero_le _
    · have := bitLenAux_le f (x / 2) n (by rw [Nat.pow_succ] at h; omega)
      omega
theorem len64_ac (x n : Nat) (hx : x < 2 ^ 64) : ACalls Tryz.prog 134 [.int .u64 x] [] (.int .i64 (Lib.bitLen x)) [] := by
  refine ⟨⟨_, Tryz.func134, rfl, rfl⟩, fun K w cs hR hcs => ?_⟩
  obtain ⟨v, vs, rfl, hv, hvs⟩ := hcs.cons_inv
  obtain rfl := hvs.nil_inv
  obtain rfl := hv.int_inv
  refine (Any.bits_Len64 lenLays x w (by omega) (by omega)).mono ?_
  rintro e w' ⟨rfl, rfl⟩
  exact ⟨K, _, rfl, hR, .pure (.int _ _), (Grow.refl _ K w').toC⟩
end Go.Proofs.YtidgcfgkcidkiaaGreat.Ch
namespace Go.Proofs.YtidgcfgkcidkiaaGreat.Ch
open Go Go.RowKit Go.Proofs.YtidgcfgkcidkiaaGreat.L Go.Proofs.YtidgcfgkcidkiaaGreat.X
set_option linter.unusedVariables false
set_option linter.unusedSimpArgs false
/-- n bits of v laid at a place of bytes whose rest is nothing yet. -/
def layB (bs : List Nat) (at_ n v : Nat) : List Nat := digs bs.length (valB bs + v % 2 ^ n * 2 ^ (8 * bs.length - at_ - n))
theorem split8 (at_ n : Nat) (hn : 0 < n) : ∃ q first take, at_ = 8 * q + first ∧ first < 8 ∧ 1 ≤ take ∧ first + take ≤ 8 ∧ take = min (8 - first) n ∧ take ≤ n :=
  ⟨at_ / 8, at_ % 8, min (8 - at_ % 8) n, by omega, by omega, by omega, by omega, rfl, by omega⟩
theorem set_loop (v : Nat) : ∀ (n at_ : Nat) (bs : List Nat), n ≤ 64 → (∀ b ∈ bs, b < 256) → bs.length ≤ 1099511627776 → at_ + n ≤ 8 * bs.length → 2 ^ (8 * bs.length - at_) ∣ valB bs →
    ALoop Tryz.prog 1 Tryz.f136.ntmps (loopB Tryz.f136 0) ⟨[(0, .row 0 1 bs.length), (1, .int .i64 at_), (2, .int .i64 n), (3, .int .u64 v)], [.row 5 1 (bs.map byN)]⟩ (.exit 0) ⟨[], [.row 5 1 ((layB bs at_ n v).map byN)]⟩ := by
  intro n
  induction n using Nat.strongRecOn with
  | ind n ih =>
    intro at_ bs hn hb hl hat hz
    by_cases h0 : n = 0
    · subst h0
      have e : layB bs at_ 0 v = bs := by simp [layB, Nat.mod_one, digs_val bs hb]
      rw [e]
      refine aloopK mixed [0, 1, 2, 3, 8, 9, 10, 11, 12, 14] 1000 ([.go, .f]) [] [0] (S1 := { env := [], objs := [.row 5 1 (List.map byN bs)] }) (ob := [decide ((↑(0 : Nat) : Int) > (0 : Int)) = false]) (by kernel_rfl) (by first | exact rfl | exact ⟨rfl, rfl⟩ | (simp []; done) | ((simp))) ⟨(by first | exact rfl | (simp []; done) | (simp []; omega) | omega | ((simp))), trivial⟩
    · obtain ⟨q, first, take, h1, h2, h3, h4, h5, h6⟩ := split8 at_ n (by omega)
      obtain ⟨x, hx⟩ := get_of (l := bs) (k := q) (by omega)
      have hxl := hb x (List.mem_of_getElem? hx)
      have hzz := byte_zero bs q x first hb hx (by omega) (by rw [← h1]; exact hz)
      have hlay := byte_lay bs q x first take (v / 2 ^ (n - take) % 2 ^ take) hx h4
      have hpp : v / 2 ^ (n - take) % 2 ^ take < 2 ^ take := Nat.mod_lt _ (Nat.two_pow_pos _)
      have hyl : x + v / 2 ^ (n - take) % 2 ^ take * 2 ^ (8 - first - take) < 256 := by
        have hpl : v / 2 ^ (n - take) % 2 ^ take * 2 ^ (8 - first - take) < 2 ^ (8 - first) := by
          have : 2 ^ (8 - first) = 2 ^ take * 2 ^ (8 - first - take) := by rw [← Nat.pow_add]; congr 1; omega
          rw [this]; exact Nat.mul_lt_mul_of_pos_right hpp (Nat.two_pow_pos _)
        have e : 256 = 2 ^ (8 - first) * 2 ^ first := by rw [← Nat.pow_add, show 8 - first + first = 8 by omega]
        have e2 := Nat.div_add_mod x (2 ^ (8 - first))
        have e3 : x / 2 ^ (8 - first) < 2 ^ first := by rw [Nat.div_lt_iff_lt_mul (Nat.two_pow_pos _), Nat.mul_comm, ← e]; exact hxl
        have e4 : 2 ^ (8 - first) * (x / 2 ^ (8 - first) + 1) ≤ 2 ^ (8 - first) * 2 ^ first := Nat.mul_le_mul_left _ e3
        rw [Nat.mul_add] at e4
        omega
      generalize hy : x + v / 2 ^ (n - take) % 2 ^ take * 2 ^ (8 - first - take) = y at hlay hyl
      rw [← h1] at hlay
      have hls : (bs.set q y).length = bs.length := List.length_set
      have hdvd : 2 ^ (8 * bs.length - (at_ + take)) ∣ valB (bs.set q y) := by
        rw [hlay]
        refine Nat.dvd_add ?_ ?_
        · exact Nat.dvd_trans (Nat.pow_dvd_pow 2 (by omega)) hz
        · rw [Nat.sub_sub]; exact Nat.dvd_mul_left _ _
      have hih := ih (n - take) (by omega) (at_ + take) (bs.set q y) (by omega) (fun b hbm => by
        rcases List.mem_or_eq_of_mem_set hbm with h | h
        · exact hb b h
        · rw [h]; exact hyl) (by rw [hls]; exact hl) (by rw [hls]; omega) (by rw [hls]; exact hdvd)
      have e : layB (bs.set q y) (at_ + take) (n - take) v = layB bs at_ n v := by
        unfold layB
        rw [hls, hlay]
        congr 1
        rw [mod_top v n take h6, Nat.add_mul, Nat.mul_assoc, ← Nat.pow_add, Nat.add_assoc]
        congr 2
        · congr 2; omega
        · congr 2; omega
      rw [e, hls] at hih
      exact set_round bs (layB bs at_ n v) at_ n v q first take x y hx h1 h2 h3 h4 h5 hxl hzz hn hl hy.symm hih
theorem set_tu (v n at_ : Nat) (bs : List Nat) (hn : n ≤ 64) (hb : ∀ b ∈ bs, b < 256) (hl : bs.length ≤ 1099511627776) (hat : at_ + n ≤ 8 * bs.length) (hz : 2 ^ (8 * bs.length - at_) ∣ valB bs) :
    ATurn Tryz.prog 136 [.row 0 1 bs.length, .int .i64 at_, .int .i64 n, .int .u64 v] 5 1 (bs.map byN) ((layB bs at_ n v).map byN) (.tup []) := by
  have h := set_loop v n at_ bs hn hb hl hat hz
  refine aturnK mixed Tryz.func136 rfl [0, 1, 2, 3, 8, 9, 10, 11, 12, 14] 1000 ([.lp [0, 1, 2, 3] [0] (.exit 0) ⟨[], [.row 5 1 ((layB bs at_ n v).map byN)]⟩]) (v1 := .tup []) (xs1 := List.map byN (layB bs at_ n v)) (ob := [ALoop Tryz.prog 1 59 (loopB Tryz.f136 0) { env := [(0, .row 0 1 (List.length bs)), (1, .int .i64 (↑at_ : Int)), (2, .int .i64 (↑n : Int)), (3, .int .u64 (↑v : Int))], objs := [.row 5 1 (List.map byN bs)] } (Ex.exit 0) { env := [], objs := [.row 5 1 (List.map byN (layB bs at_ n v))] }]) (by kernel_rfl) (by first | exact rfl | exact ⟨rfl, rfl⟩ | (simp []; done)) ?q64_l ?q64_f rfl ⟨?q64_1, trivial⟩
  · simp [layB, digs_len]
  · intro x hx
    obtain ⟨b, _, rfl⟩ := List.mem_map.1 hx
    rfl
  · exact h
/-- n bits from a place on. -/
def bitsAt (bs : List Nat) (at_ n : Nat) : Nat := valB bs / 2 ^ (8 * bs.length - at_ - n) % 2 ^ n
theorem get_loop (bs : List Nat) (hb : ∀ b ∈ bs, b < 256) (hl : bs.length ≤ 1099511627776) : ∀ (n at_ v : Nat), n ≤ 64 → at_ + n ≤ 8 * bs.length → v < 2 ^ (64 - n) →
    ALoop Tryz.prog 0 Tryz.f115.ntmps (loopB Tryz.f115 0) ⟨[(8, .int .u64 v), (0, .lst 1 (bs.map byN)), (1, .int .i64 at_), (2, .int .i64 n)], []⟩ (.exit 0) ⟨[(8, .int .u64 ((v * 2 ^ n + bitsAt bs at_ n : Nat) : Int))], []⟩ := by
  intro n
  induction n using Nat.strongRecOn with
  | ind n ih =>
    intro at_ v hn hat hv
    by_cases h0 : n = 0
    · subst h0
      have e : v * 2 ^ 0 + bitsAt bs at_ 0 = v := by simp [bitsAt, Nat.mod_one]
      rw [e]
      refine aloopK mixed [0, 1, 2, 6, 7, 8, 9, 10, 11, 16, 18] 1000 ([.go, .f]) [8] [] (S1 := { env := [(8, .int .u64 (↑v : Int))], objs := [] }) (ob := [decide ((↑(0 : Nat) : Int) > (0 : Int)) = false]) (by kernel_rfl) (by first | exact rfl | exact ⟨rfl, rfl⟩ | (simp []; done) | ((simp))) ⟨(by first | exact rfl | (simp []; done) | (simp []; omega) | omega | ((simp))), trivial⟩
    · obtain ⟨q, first, take, h1, h2, h3, h4, h5, h6⟩ := split8 at_ n (by omega)
      obtain ⟨x, hx⟩ := get_of (l := bs) (k := q) (by omega)
      have hxl := hb x (List.mem_of_getElem? hx)
      have hbits := byte_bits bs q x first take hb hx h4
      rw [← h1] at hbits
      have hpp : x / 2 ^ (8 - first - take) % 2 ^ take < 2 ^ take := Nat.mod_lt _ (Nat.two_pow_pos _)
      have hv2 : v * 2 ^ take + x / 2 ^ (8 - first - take) % 2 ^ take < 2 ^ (64 - (n - take)) := by
        have e1 : (v + 1) * 2 ^ take ≤ 2 ^ (64 - n) * 2 ^ take := Nat.mul_le_mul_right _ hv
        rw [← Nat.pow_add, Nat.succ_mul, show 64 - n + take = 64 - (n - take) by omega] at e1
        omega
      have hih := ih (n - take) (by omega) (at_ + take) (v * 2 ^ take + x / 2 ^ (8 - first - take) % 2 ^ take) (by omega) (by omega) hv2
      have e : (v * 2 ^ take + x / 2 ^ (8 - first - take) % 2 ^ take) * 2 ^ (n - take) + bitsAt bs (at_ + take) (n - take) = v * 2 ^ n + bitsAt bs at_ n := by
        have m := mod_top (valB bs / 2 ^ (8 * bs.length - at_ - n)) n take h6
        rw [Nat.div_div_eq_div_mul, ← Nat.pow_add, show 8 * bs.length - at_ - n + (n - take) = 8 * bs.length - at_ - take by omega] at m
        unfold bitsAt
        rw [m, hbits, Nat.add_mul, Nat.mul_assoc, ← Nat.pow_add, show take + (n - take) = n by omega, show 8 * bs.length - (at_ + take) - (n - take) = 8 * bs.length - at_ - n by omega, Nat.add_assoc]
      rw [e] at hih
      exact get_round bs at_ n v _ q first take x hx h1 h2 h3 h4 h5 hxl hn hv hl hih
theorem within_bits (bs : List Nat) (at_ n : Nat) (hl : bs.length ≤ 1099511627776) (hn : n ≤ 64) (hat : at_ + n ≤ 8 * bs.length) : ACalls Tryz.prog 137 [.lst 1 (bs.map byN), .int .i64 at_, .int .i64 n] [] (.bool true) [] := by
  have o1 : IntKind.i64.wrap (8 * (bs.length : Int)) = ((8 * bs.length : Nat) : Int) := wN _ _ (by omega) (by omega)
  have o2 : IntKind.i64.wrap (((8 * bs.length : Nat) : Int) - (at_ : Int)) = ((8 * bs.length - at_ : Nat) : Int) := wN _ _ (by omega) (by omega)
  refine acallsK mixed Tryz.func137 rfl [0, 1, 2, 6] 1000 ([.t, .t, .t, .n (bs.length : Int), .n ((8 * bs.length : Nat) : Int), .t, .n (bs.length : Int), .n ((8 * bs.length : Nat) : Int), .n ((8 * bs.length - at_ : Nat) : Int), .t]) [] [] (v1 := .bool true) (objs1 := []) (ob := [decide ((↑n : Int) ≥ (0 : Int)) = true,
 decide ((↑n : Int) ≤ (64 : Int)) = true,
 decide ((↑at_ : Int) ≥ (0 : Int)) = true,
 ((List.map byN bs).length : Int) = (bs.length : Int),
 IntKind.i64.wrap ((8 : Int) * (bs.length : Int)) = (↑((8 : Nat) * List.length bs) : Int),
 decide ((↑at_ : Int) ≤ (↑((8 : Nat) * List.length bs) : Int)) = true,
 ((List.map byN bs).length : Int) = (bs.length : Int),
 IntKind.i64.wrap ((8 : Int) * (bs.length : Int)) = (↑((8 : Nat) * List.length bs) : Int),
 IntKind.i64.wrap ((↑((8 : Nat) * List.length bs) : Int) - (↑at_ : Int)) = (↑((8 : Nat) * List.length bs - at_) : Int),
 decide ((↑n : Int) ≤ (↑((8 : Nat) * List.length bs - at_) : Int)) = true]) (by kernel_rfl) (by first | exact rfl | exact ⟨rfl, rfl⟩ | (simp []; done) | (first | exact o1 | exact o2 | (simp; omega))) ⟨?z0, ?z1, ?z2, ?z3, ?z4, ?z5, ?z6, ?z7, ?z8, ?z9, trivial⟩
  case z0|z1|z2|z3|z4|z5|z6|z7|z8|z9 => first | exact rfl | (simp [] <;> omega) | omega | (first | exact o1 | exact o2 | (simp; omega))
theorem get_ac (bs : List Nat) (at_ n : Nat) (hb : ∀ b ∈ bs, b < 256) (hl : bs.length ≤ 1099511627776) (hn : n ≤ 64) (hat : at_ + n ≤ 8 * bs.length) : ACalls Tryz.prog 115 [.lst 1 (bs.map byN), .int .i64 at_, .int .i64 n] [] (.tup [.int .u64 (bitsAt bs at_ n), .bool true]) [] := by
  have h := get_loop bs hb hl n at_ 0 hn hat (Nat.two_pow_pos _)
  rw [Nat.zero_mul, Nat.zero_add] at h
  have hw := within_bits bs at_ n hl hn hat
  refine acallsK mixed Tryz.func115 rfl [0, 1, 2, 6, 7, 8, 9, 10, 11, 16, 18] 1000 ([.call [] false true (.bool true) [], .lp [8, 0, 1, 2] [] (.exit 0) ⟨[(8, .int .u64 (bitsAt bs at_ n))], []⟩]) [] [] (v1 := .tup [.int .u64 (↑(bitsAt bs at_ n) : Int), .bool true]) (objs1 := []) (ob := [ACalls Tryz.prog 137 [.lst 1 (List.map byN bs), .int .i64 (↑at_ : Int), .int .i64 (↑n : Int)] [] (.bool true) [],
 ALoop Tryz.prog 0 48 (loopB Tryz.f115 0) { env := [(8, .int .u64 0), (0, .lst 1 (List.map byN bs)), (1, .int .i64 (↑at_ : Int)), (2, .int .i64 (↑n : Int))], objs := [] } (Ex.exit 0) { env := [(8, .int .u64 (↑(bitsAt bs at_ n) : Int))], objs := [] }]) (by kernel_rfl) (by first | exact rfl | exact ⟨rfl, rfl⟩ | (simp []; done)) ⟨?q109_1, ?q109_2, trivial⟩
  · exact hw
  · exact h
end Go.Proofs.YtidgcfgkcidkiaaGreat.Ch
namespace Go.Proofs.YtidgcfgkcidkiaaGreat.Ch
open Go Go.RowKit Go.Proofs.YtidgcfgkcidkiaaGreat.L Go.Proofs.YtidgcfgkcidkiaaGreat.X
set_option linter.unusedVariables false
set_option linter.unusedSimpArgs false
def wsA (ps : List (Nat × Nat)) : List AV := ps.map fun p => .int .i64 (p.1 : Int)
def vsA (ps : List (Nat × Nat)) : List AV := ps.map fun p => .int .u64 (p.2 : Int)
structure Packs (ps : List (Nat × Nat)) : Prop where
  w : ∀ p ∈ ps, p.1 ≤ 64
  v : ∀ p ∈ ps, p.2 < 2 ^ p.1
  n : ps.length ≤ 1000000
theorem wid_le : ∀ (ps : List (Nat × Nat)), (∀ p ∈ ps, p.1 ≤ 64) → wid ps ≤ 64 * ps.length
  | [], _ => by simp [wid]
  | p :: r, h => by
    have h1 := h p (by simp)
    have h2 := wid_le r fun x hx => h x (by simp [hx])
    simp only [wid, List.length_cons]; omega
theorem wid_sum : ∀ (ps : List (Nat × Nat)), (ps.map fun p => (p.1 : Int)).sum = (wid ps : Int)
  | [] => rfl
  | p :: r => by simp [wid, wid_sum r]
theorem digs_zero : ∀ (k : Nat), digs k 0 = List.replicate k 0
  | 0 => rfl
  | k + 1 => by simp [digs, digs_zero k, List.replicate_succ]
theorem take_next {ps : List (Nat × Nat)} {k : Nat} {p : Nat × Nat} (h : ps[k]? = some p) : ps.take (k + 1) = ps.take k ++ [p] := by rw [List.take_add_one, h]; rfl
/-- The bytes, when k of the numbers are in. -/
def rowP (ps : List (Nat × Nat)) (L k : Nat) : List Nat := digs L (packN (ps.take k) * 2 ^ (8 * L - wid (ps.take k)))
theorem check_loop (ps : List (Nat × Nat)) (h : Packs ps) : ∀ (n k : Nat), ps.length = k + n →
    ALoop Tryz.prog 0 Tryz.f113.ntmps (loopB Tryz.f113 0) ⟨[(19, .int .i64 k), (18, .int .i64 ps.length), (17, .lst 1 (wsA ps)), (0, .lst 1 (wsA ps)), (1, .lst 1 (vsA ps))], []⟩ (.exit 0) ⟨[(0, .lst 1 (wsA ps)), (1, .lst 1 (vsA ps))], []⟩
  | 0, k, e => by
    refine aloopK mixed [0, 1, 4, 5, 6, 7, 8, 9, 10, 11, 16, 17, 18, 19, 20, 38, 43, 44, 45, 46] 1000 ([.go, .f]) [0, 1] [] (S1 := { env := [(0, .lst 1 (wsA ps)), (1, .lst 1 (vsA ps))], objs := [] }) (ob := [decide ((↑k : Int) < (ps.length : Int)) = false]) (by kernel_rfl) (by first | exact rfl | exact ⟨rfl, rfl⟩ | (simp []; done)) ⟨(by first | exact rfl | (simp []; done) | (simp []; omega) | omega), trivial⟩
  | n + 1, k, e => by
    obtain ⟨p, hp⟩ := get_of (l := ps) (k := k) (by omega)
    have hw := h.w p (List.mem_of_getElem? hp)
    have hv := h.v p (List.mem_of_getElem? hp)
    have hlen := h.n
    have hk : k < ps.length := by omega
    have ih := check_loop ps h n (k + 1) (by omega)
    have o1 : IntKind.i64.wrap ((k : Int) + 1) = ((k + 1 : Nat) : Int) := wrap64 (by omega)
    have o2 : (wsA ps)[k]? = some (.int .i64 (p.1 : Int)) := by simp [wsA, hp]
    have o3 : (vsA ps)[k]? = some (.int .u64 (p.2 : Int)) := by simp [vsA, hp]
    have o4 := bitLenAux_le 64 p.2 p.1 hv
    have o5 : decide ((Lib.bitLen p.2 : Int) > (p.1 : Int)) = false := decide_eq_false (by show ¬ ((Lib.bitLenAux 64 p.2 : Nat) : Int) > (p.1 : Int); omega)
    have o6 : k < (wsA ps).length := by simp [wsA, hk]
    have o7 : k < (vsA ps).length := by simp [vsA, hk]
    have o8 : p.2 < 2 ^ 64 := Nat.lt_of_lt_of_le hv (Nat.pow_le_pow_right (by decide) hw)
    refine aloopK mixed [0, 1, 4, 5, 6, 7, 8, 9, 10, 11, 16, 17, 18, 19, 20, 38, 43, 44, 45, 46] 1000 ([.go, .t, .ix k, .el (.int .i64 (p.1 : Int)), .f, .f, .ix k, .el (.int .u64 (p.2 : Int)), .call [] false true (.int .i64 (Lib.bitLen p.2)) [], .f, .n ((k + 1 : Nat) : Int), .lp [19, 18, 17, 0, 1] [] (.exit 0) ⟨[(0, .lst 1 (wsA ps)), (1, .lst 1 (vsA ps))], []⟩]) [0, 1] [] (S1 := { env := [(0, .lst 1 (wsA ps)), (1, .lst 1 (vsA ps))], objs := [] }) (ob := [decide ((↑k : Int) < (ps.length : Int)) = true,
 k < List.length (wsA ps),
 (↑k : Int) = (↑k : Int),
 (wsA ps)[k]? = some (.int .i64 (↑p.1 : Int)),
 decide ((↑p.1 : Int) < (0 : Int)) = false,
 decide ((↑p.1 : Int) > (64 : Int)) = false,
 k < List.length (vsA ps),
 (↑k : Int) = (↑k : Int),
 (vsA ps)[k]? = some (.int .u64 (↑p.2 : Int)),
 ACalls Tryz.prog 134 [.int .u64 (↑p.2 : Int)] [] (.int .i64 (↑(Lib.bitLen p.2) : Int)) [],
 decide ((↑(Lib.bitLen p.2) : Int) > (↑p.1 : Int)) = false,
 IntKind.i64.wrap ((↑k : Int) + (1 : Int)) = (↑(k + (1 : Nat)) : Int),
 ALoop Tryz.prog 0 63 (loopB Tryz.f113 0) { env := [(19, .int .i64 (↑(k + 1) : Int)), (18, .int .i64 (ps.length : Int)), (17, .lst 1 (wsA ps)), (0, .lst 1 (wsA ps)), (1, .lst 1 (vsA ps))], objs := [] } (Ex.exit 0) { env := [(0, .lst 1 (wsA ps)), (1, .lst 1 (vsA ps))], objs := [] }]) (by kernel_rfl) (by first | exact rfl | exact ⟨rfl, rfl⟩ | (simp []; done) | (first | exact o1 | exact o2 | exact o3 | exact o5 | exact o6 | exact o7 | (simp; omega))) ⟨?z0, ?z1, ?z2, ?z3, ?z4, ?z5, ?z6, ?z7, ?z8, ?q47_1, ?z9, ?z10, ?q47_2, trivial⟩
    case z0|z1|z2|z3|z4|z5|z6|z7|z8|z9|z10 => first | exact rfl | (simp [] <;> omega) | omega | (first | exact o1 | exact o2 | exact o3 | exact o5 | exact o6 | exact o7 | (simp; omega))
    · exact len64_ac p.2 0 o8
    · exact ih
theorem pack_loop (ps : List (Nat × Nat)) (h : Packs ps) (L : Nat) (hL : wid ps ≤ 8 * L) (hL2 : L ≤ 100000000) : ∀ (n k : Nat), ps.length = k + n →
    ALoop Tryz.prog 0 Tryz.f113.ntmps (loopB Tryz.f113 1) ⟨[(45, .int .i64 k), (44, .int .i64 ps.length), (43, .lst 1 (wsA ps)), (9, .int .i64 (wid (ps.take k))), (8, .row 0 1 L), (1, .lst 1 (vsA ps))], [.row 5 1 ((rowP ps L k).map byN)]⟩ (.exit 2) ⟨[(8, .row 0 1 L)], [.row 5 1 ((rowP ps L ps.length).map byN)]⟩
  | 0, k, e => by
    have : k = ps.length := by omega
    subst this
    refine aloopK mixed [0, 1, 4, 5, 6, 7, 8, 9, 10, 11, 16, 17, 18, 19, 20, 38, 43, 44, 45, 46] 1000 ([.go, .f]) [8] [0] (S1 := { env := [(8, .row 0 1 L)], objs := [.row 5 1 (List.map byN (rowP ps L (List.length ps)))] }) (ob := [decide ((ps.length : Int) < (ps.length : Int)) = false]) (by kernel_rfl) (by first | exact rfl | exact ⟨rfl, rfl⟩ | (simp []; done)) ⟨(by first | exact rfl | (simp []; done) | (simp []; omega) | omega), trivial⟩
  | n + 1, k, e => by
    obtain ⟨p, hp⟩ := get_of (l := ps) (k := k) (by omega)
    have hw := h.w p (List.mem_of_getElem? hp)
    have hv := h.v p (List.mem_of_getElem? hp)
    have hlen := h.n
    have hk : k < ps.length := by omega
    have ih := pack_loop ps h L hL hL2 n (k + 1) (by omega)
    have o1 : IntKind.i64.wrap ((k : Int) + 1) = ((k + 1 : Nat) : Int) := wrap64 (by omega)
    have o2 : (wsA ps)[k]? = some (.int .i64 (p.1 : Int)) := by simp [wsA, hp]
    have o3 : (vsA ps)[k]? = some (.int .u64 (p.2 : Int)) := by simp [vsA, hp]
    have o6 : k < (wsA ps).length := by simp [wsA, hk]
    have o7 : k < (vsA ps).length := by simp [vsA, hk]
    have tn := take_next hp
    have wn : wid (ps.take (k + 1)) = wid (ps.take k) + p.1 := by rw [tn, wid_app]; simp [wid]
    have hwid : wid (ps.take (k + 1)) ≤ wid ps := by
      have := wid_app (ps.take (k + 1)) (ps.drop (k + 1))
      rw [List.take_append_drop] at this; omega
    have o8 : IntKind.i64.wrap ((wid (ps.take k) : Int) + (p.1 : Int)) = (wid (ps.take (k + 1)) : Int) := wN _ _ (by omega) (by omega)
    have hlt : packN (ps.take k) < 2 ^ wid (ps.take k) := packN_lt _ fun x hx => h.v x (List.mem_of_mem_take hx)
    have hR : packN (ps.take k) * 2 ^ (8 * L - wid (ps.take k)) < 2 ^ (8 * L) := by
      have e : 2 ^ (8 * L) = 2 ^ wid (ps.take k) * 2 ^ (8 * L - wid (ps.take k)) := by rw [← Nat.pow_add]; congr 1; omega
      rw [e]; exact Nat.mul_lt_mul_of_pos_right hlt (Nat.two_pow_pos _)
    have hRl : (rowP ps L k).length = L := digs_len _ _
    have hRv : valB (rowP ps L k) = packN (ps.take k) * 2 ^ (8 * L - wid (ps.take k)) := valB_digs _ _ hR
    have o9 : L = ((rowP ps L k).map byN).length := by simp [hRl]
    have hset := set_tu p.2 p.1 (wid (ps.take k)) (rowP ps L k) hw (digs_lt _ _) (by omega) (by omega) (by rw [hRl, hRv]; exact Nat.dvd_mul_left _ _)
    have el : layB (rowP ps L k) (wid (ps.take k)) p.1 p.2 = rowP ps L (k + 1) := by
      unfold layB
      rw [hRl, hRv]
      show _ = digs L _
      congr 1
      rw [wn, tn, packN_app]
      have e1 : 2 ^ (8 * L - wid (ps.take k)) = 2 ^ p.1 * 2 ^ (8 * L - wid (ps.take k) - p.1) := by rw [← Nat.pow_add]; congr 1; omega
      have e2 : wid [p] = p.1 := by simp [wid]
      have e3 : packN [p] = p.2 := by simp [packN]
      rw [e1, e2, e3, Nat.mod_eq_of_lt hv, Nat.add_mul, Nat.mul_assoc, Nat.sub_sub]
    rw [el, hRl] at hset
    have o10 : ((rowP ps L (k + 1)).map byN).length = ((rowP ps L k).map byN).length := by simp [rowP, digs_len]
    refine aloopK mixed [0, 1, 4, 5, 6, 7, 8, 9, 10, 11, 16, 17, 18, 19, 20, 38, 43, 44, 45, 46] 1000 ([.go, .t, .ix k, .el (.int .i64 (p.1 : Int)), .ix k, .el (.int .u64 (p.2 : Int)), .tu 0 ((rowP ps L (k + 1)).map byN) (.tup []), .n (wid (ps.take (k + 1)) : Int), .n ((k + 1 : Nat) : Int), .lp [45, 44, 43, 9, 8, 1] [0] (.exit 2) ⟨[(8, .row 0 1 L)], [.row 5 1 ((rowP ps L ps.length).map byN)]⟩]) [8] [0] (S1 := { env := [(8, .row 0 1 L)], objs := [.row 5 1 (List.map byN (rowP ps L (List.length ps)))] }) (ob := [decide ((↑k : Int) < (ps.length : Int)) = true,
 k < List.length (wsA ps),
 (↑k : Int) = (↑k : Int),
 (wsA ps)[k]? = some (.int .i64 (↑p.1 : Int)),
 k < List.length (vsA ps),
 (↑k : Int) = (↑k : Int),
 (vsA ps)[k]? = some (.int .u64 (↑p.2 : Int)),
 List.length (List.map byN (rowP ps L (k + (1 : Nat)))) = List.length (List.map byN (rowP ps L k)),
 ATurn Tryz.prog 136 [.row 0 1 L, .int .i64 (↑(wid (List.take k ps)) : Int), .int .i64 (↑p.1 : Int), .int .u64 (↑p.2 : Int)] 5 1 (List.map byN (rowP ps L k)) (List.map byN (rowP ps L (k + 1))) (.tup []),
 IntKind.i64.wrap ((↑(wid (List.take k ps)) : Int) + (↑p.1 : Int)) = (↑(wid (List.take (k + (1 : Nat)) ps)) : Int),
 IntKind.i64.wrap ((↑k : Int) + (1 : Int)) = (↑(k + (1 : Nat)) : Int),
 ALoop Tryz.prog 0 63 (loopB Tryz.f113 1) { env := [(45, .int .i64 (↑(k + 1) : Int)), (44, .int .i64 (ps.length : Int)), (43, .lst 1 (wsA ps)), (9, .int .i64 (↑(wid (List.take (k + 1) ps)) : Int)), (8, .row 0 1 L), (1, .lst 1 (vsA ps))], objs := [.row 5 1 (List.map byN (rowP ps L (k + 1)))] } (Ex.exit 2) { env := [(8, .row 0 1 L)], objs := [.row 5 1 (List.map byN (rowP ps L (List.length ps)))] }]) (by kernel_rfl) (by first | exact rfl | exact ⟨rfl, rfl⟩ | (simp []; done) | (first | exact o1 | exact o2 | exact o3 | exact o6 | exact o7 | exact o8 | exact o10 | (simp; omega))) ⟨?z0, ?z1, ?z2, ?z3, ?z4, ?z5, ?z6, ?z7, ?q94_1, ?z8, ?z9, ?q94_2, trivial⟩
    case z0|z1|z2|z3|z4|z5|z6|z7|z8|z9 => first | exact rfl | (simp [] <;> omega) | omega | (first | exact o1 | exact o2 | exact o3 | exact o6 | exact o7 | exact o8 | exact o10 | (simp; omega))
    · exact hset
    · exact ih
theorem pack_ac (ps : List (Nat × Nat)) (h : Packs ps) : ACalls Tryz.prog 113 [.lst 1 (wsA ps), .lst 1 (vsA ps)] [] (.tup [.row 0 1 (packB ps).length, .bool true]) [.row 5 1 ((packB ps).map byN)] := by
  have hl := h.n
  have hwl := wid_le ps h.w
  have h1 := check_loop ps h ps.length 0 (by omega)
  generalize hL : (wid ps + 7) / 8 = L
  have hw := whole_ac (ps.map fun p => (p.1 : Int)) (by
    intro x hx
    obtain ⟨p, hp, rfl⟩ := List.mem_map.1 hx
    have := h.w p hp
    exact ⟨by omega, by omega⟩) (by rw [List.length_map]; exact hl)
  rw [wid_sum, show ((wid ps : Int) + 7) / 8 = (L : Int) by omega, List.map_map] at hw
  have h2 := pack_loop ps h L (by omega) (by omega) ps.length 0 (by omega)
  have e0 : (rowP ps L 0).map byN = List.replicate L (.int .u8 0) := by
    simp [rowP, packN, digs_zero, List.map_replicate, byN]
  have e1 : rowP ps L ps.length = packB ps := by
    simp [rowP, packB, List.take_length, hL]
  rw [e0, e1] at h2
  have o1 : (packB ps).length = L := by rw [packB_len, hL]
  have o2 : (wsA ps).length = ps.length := by simp [wsA]
  have o3 : (vsA ps).length = ps.length := by simp [vsA]
  refine acallsK mixed Tryz.func113 rfl [0, 1, 4, 5, 6, 7, 8, 9, 10, 11, 16, 17, 18, 19, 20, 38, 43, 44, 45, 46] 1000 ([.n (ps.length : Int), .n (ps.length : Int), .f, .n (ps.length : Int), .lp [19, 18, 17, 0, 1] [] (.exit 0) ⟨[(0, .lst 1 (wsA ps)), (1, .lst 1 (vsA ps))], []⟩, .call [] false true (.int .i64 (L : Int)) [], .ix L, .ix L, .n (ps.length : Int), .lp [45, 44, 43, 9, 8, 1] [0] (.exit 2) ⟨[(8, .row 0 1 L)], [.row 5 1 ((packB ps).map byN)]⟩]) [] [0] (v1 := .tup [.row 0 1 L, .bool true]) (objs1 := [.row 5 1 (List.map byN (packB ps))]) (ob := [((wsA ps).length : Int) = (ps.length : Int),
 ((vsA ps).length : Int) = (ps.length : Int),
 ((ps.length : Int) != (ps.length : Int)) = false,
 ((wsA ps).length : Int) = (ps.length : Int),
 ALoop Tryz.prog 0 63 (loopB Tryz.f113 0) { env := [(19, .int .i64 0), (18, .int .i64 (ps.length : Int)), (17, .lst 1 (wsA ps)), (0, .lst 1 (wsA ps)), (1, .lst 1 (vsA ps))], objs := [] } (Ex.exit 0) { env := [(0, .lst 1 (wsA ps)), (1, .lst 1 (vsA ps))], objs := [] },
 ACalls Tryz.prog 135 [.lst 1 (wsA ps)] [] (.int .i64 (↑L : Int)) [],
 L ≤ L,
 L ≤ (140737488355328 : Nat),
 L * (1 : Nat) ≤ (140737488355328 : Nat),
 (↑L : Int) = (↑L : Int),
 (↑L : Int) = (↑L : Int),
 ((wsA ps).length : Int) = (ps.length : Int),
 ALoop Tryz.prog 0 63 (loopB Tryz.f113 1) { env := [(45, .int .i64 0), (44, .int .i64 (ps.length : Int)), (43, .lst 1 (wsA ps)), (9, .int .i64 0), (8, .row 0 1 L), (1, .lst 1 (vsA ps))], objs := [.row 5 1 (List.replicate L (.int .u8 0))] } (Ex.exit 2) { env := [(8, .row 0 1 L)], objs := [.row 5 1 (List.map byN (packB ps))] }]) (by kernel_rfl) (by first | exact rfl | exact ⟨rfl, rfl⟩ | (simp [o1, o2, o3, wsA, vsA]; done) | (omega)) ⟨?z0, ?z1, ?z2, ?z3, ?q117_1, ?q117_2, ?z4, ?z5, ?z6, ?z7, ?z8, ?z9, ?q117_3, trivial⟩
  case z0|z1|z2|z3|z4|z5|z6|z7|z8|z9 => first | exact rfl | (simp [o1, o2, o3, wsA, vsA] <;> omega) | omega | (omega)
  · exact h1
  · exact hw
  · exact h2
end Go.Proofs.YtidgcfgkcidkiaaGreat.Ch
namespace Go.Proofs.YtidgcfgkcidkiaaGreat.Ch
open Go Go.RowKit Go.Proofs.YtidgcfgkcidkiaaGreat.L Go.Proofs.YtidgcfgkcidkiaaGreat.X
set_option linter.unusedVariables false
set_option linter.unusedSimpArgs false
structure Lay4 (l : LayD) : Prop where
  e0 : 1 ≤ l.epoch
  e1 : l.epoch ≤ 1048576
  q0 : 0 ≤ l.seq
  q1 : l.seq < 32
  p : 1 ≤ l.segs.length
  m : l.segs.length ≤ 4
  s : ∀ s ∈ l.segs, Seg4 s
theorem rest_fine : ∀ (p : Option Int) (l : List SegD), restB p l = true → ∀ s ∈ l, fineB s = true
  | _, [], _, s, hs => by simp at hs
  | none, x :: r, h, s, hs => by
    simp only [restB, Bool.and_eq_true] at h
    rcases List.mem_cons.1 hs with rfl | hs
    · exact h.1
    · exact rest_fine _ r h.2 s hs
  | some a, x :: r, h, s, hs => by
    simp only [restB, Bool.and_eq_true] at h
    rcases List.mem_cons.1 hs with rfl | hs
    · exact h.1
    · exact rest_fine _ r h.2.2 s hs
theorem fine_seg4 {s : SegD} (h : fineB s = true) (h0 : 0 ≤ s.at_) : Seg4 s := by
  have h' := h
  simp only [fineB, Bool.and_eq_true, decide_eq_true_eq, lenB] at h'
  exact ⟨h0, h'.1, by omega, by omega, fun c hc => let q := fine_chain h hc; ⟨by have := q.pos; omega, q.most, q.all⟩⟩
theorem right_lay4 {l : LayD} (h : rightL l = true) (h0 : ∀ s ∈ l.segs, 0 ≤ s.at_) : Lay4 l := by
  simp only [rightL, Bool.and_eq_true, decide_eq_true_eq, lenB, outB, inB, Bool.not_eq_true', Bool.not_eq_false', Bool.and_eq_false_iff, decide_eq_false_iff_not] at h
  obtain ⟨h1, h2, h3, h4, h5, h6⟩ := h
  refine ⟨h1, h2, ?_, ?_, by omega, by omega, fun s hs => fine_seg4 (rest_fine _ _ h6 s hs) (h0 s hs)⟩
  · exact h3.1
  · exact h3.2
def natP (p : Int × Int) : Nat × Nat := (p.1.toNat, p.2.toNat)
structure Fit (p : Int × Int) : Prop where
  w0 : 0 ≤ p.1
  w1 : p.1 ≤ 64
  v0 : 0 ≤ p.2
  v1 : p.2.toNat < 2 ^ p.1.toNat
def layQ (l : LayD) : List (Nat × Nat) := (layP l).map natP
/-- A layout's bytes. -/
def bytL (l : LayD) : List Nat := packB (layQ l)
theorem fit5 {x : Int} (h0 : 0 ≤ x) (h : x < 32) : Fit (5, x) := ⟨by show (0 : Int) ≤ 5; decide, by show (5 : Int) ≤ 64; decide, h0, by show x.toNat < 32; omega⟩
theorem fit2 {x : Int} (h0 : 0 ≤ x) (h : x < 4) : Fit (2, x) := ⟨by show (0 : Int) ≤ 2; decide, by show (2 : Int) ≤ 64; decide, h0, by show x.toNat < 4; omega⟩
theorem fit20 {x : Int} (h0 : 0 ≤ x) (h : x < 1048576) : Fit (20, x) := ⟨by show (0 : Int) ≤ 20; decide, by show (20 : Int) ≤ 64; decide, h0, by show x.toNat < 1048576; omega⟩
theorem fit21 {x : Int} (h0 : 0 ≤ x) (h : x < 2097152) : Fit (21, x) := ⟨by show (0 : Int) ≤ 21; decide, by show (21 : Int) ≤ 64; decide, h0, by show x.toNat < 2097152; omega⟩
theorem chain_fit {c : List Int} (h : Ch4 c) : ∀ p ∈ chainP c, Fit p := by
  intro p hp
  have h1 := h.p
  have h2 := h.m
  rcases List.mem_cons.1 hp with rfl | hp
  · exact fit2 (by omega) (by omega)
  · obtain ⟨x, hx, rfl⟩ := List.mem_map.1 hp
    exact fit5 (h.u x hx).1 (h.u x hx).2
theorem seg_fit {s : SegD} (h : Seg4 s) : ∀ p ∈ segP s, Fit p := by
  intro p hp
  have h1 := h.p
  have h2 := h.m
  rcases List.mem_cons.1 hp with rfl | hp
  · exact fit20 h.at0 h.at1
  · rcases List.mem_cons.1 hp with rfl | hp
    · exact fit2 (by omega) (by omega)
    · obtain ⟨c, hc, hp⟩ := List.mem_flatMap.1 hp
      exact chain_fit (h.u c hc) p hp
theorem lay_fit {l : LayD} (h : Lay4 l) : ∀ p ∈ layP l, Fit p := by
  intro p hp
  have h1 := h.p
  have h2 := h.m
  have h3 := h.e0
  have h4 := h.e1
  rcases List.mem_append.1 hp with hp | hp
  · simp only [headP, List.mem_cons, List.not_mem_nil, or_false] at hp
    rcases hp with rfl | rfl | rfl
    · exact fit21 (by omega) (by omega)
    · exact fit5 h.q0 h.q1
    · exact fit2 (by omega) (by omega)
  · obtain ⟨s, hs, hp⟩ := List.mem_flatMap.1 hp
    exact seg_fit (h.s s hs) p hp
theorem segs_len : ∀ (l : List SegD), (∀ s ∈ l, Seg4 s) → (l.flatMap segP).length ≤ 22 * l.length
  | [], _ => by simp
  | s :: r, h => by
    have h1 := h s (by simp)
    have h2 := segs_len r fun x hx => h x (by simp [hx])
    have h3 := flat_len s.chains h1.u
    have h4 := h1.m
    simp only [List.flatMap_cons, List.length_append, List.length_cons, segP]
    omega
theorem lay_packs {l : LayD} (h : Lay4 l) : Packs (layQ l) := by
  have hf := lay_fit h
  refine ⟨fun p hp => ?_, fun p hp => ?_, ?_⟩
  · obtain ⟨q, hq, rfl⟩ := List.mem_map.1 hp
    have := hf q hq
    have h1 := this.w1
    show q.1.toNat ≤ 64
    omega
  · obtain ⟨q, hq, rfl⟩ := List.mem_map.1 hp
    exact (hf q hq).v1
  · have h1 := segs_len l.segs h.s
    have h2 := h.m
    simp only [layQ, layP, headP, List.length_map, List.length_append, List.length_cons, List.length_nil]
    omega
theorem ws_layQ {ps : List (Int × Int)} (h : ∀ p ∈ ps, Fit p) : wsA (ps.map natP) = (ps.map (·.1)).map intA ∧ vsA (ps.map natP) = (ps.map (·.2)).map u64A := by
  constructor
  · simp only [wsA, List.map_map]
    refine List.map_congr_left fun p hp => ?_
    have := (h p hp).w0
    show intA ((p.1.toNat : Nat) : Int) = intA p.1
    rw [Int.toNat_of_nonneg this]
  · simp only [vsA, List.map_map]
    refine List.map_congr_left fun p hp => ?_
    have := (h p hp).v0
    show u64A ((p.2.toNat : Nat) : Int) = u64A p.2
    rw [Int.toNat_of_nonneg this]
theorem encode_full (l : LayD) (h : Lay4 l) (hr : rightL l = true) (hok : l.ok) : ACalls Tryz.prog 66 [encL l] [] (.tup [.row 0 1 (bytL l).length, .int .i64 0]) [.row 5 1 ((bytL l).map byN)] := by
  have hp := pack_ac (layQ l) (lay_packs h)
  obtain ⟨e1, e2⟩ := ws_layQ (lay_fit h)
  have c := rightL_ac l (fun s hs => (hok.1 s hs).1) hok.2
  rw [hr] at c
  unfold layQ at hp
  rw [e1, e2] at hp
  have e3 : (packB ((layP l).map natP)).map byN = ((packB ((layP l).map natP)).map Int.ofNat).map byteA := by simp [byN, byteA]
  rw [e3] at hp
  have := encode_ac l h.s h.p h.m h.q0 h.q1 c ((packB ((layP l).map natP)).map Int.ofNat) true (by rw [List.length_map]; exact hp)
  rw [← e3, List.length_map] at this
  exact this
end Go.Proofs.YtidgcfgkcidkiaaGreat.Ch
namespace Go.Proofs.YtidgcfgkcidkiaaGreat.Ch
open Go Go.RowKit Go.Proofs.YtidgcfgkcidkiaaGreat.L Go.Proofs.YtidgcfgkcidkiaaGreat.X
set_option linter.unusedVariables false
set_option linter.unusedSimpArgs false
def decA (bs : List Nat) (a : Nat) : List X.Obj := [.vars 27 [.lst 1 (bs.map byN)], .vars 3 [.int .i64 a], .vars 4 [.bool true]]
theorem wid_packs {pre post : List (Nat × Nat)} {w v : Nat} (h : Packs (pre ++ (w, v) :: post)) : w ≤ 64 ∧ v < 2 ^ w ∧ wid pre + w ≤ wid (pre ++ (w, v) :: post) ∧ wid (pre ++ (w, v) :: post) ≤ 64000000 := by
  have h1 := h.w (w, v) (by simp)
  have h2 := h.v (w, v) (by simp)
  have h3 := wid_le _ h.w
  have h4 := h.n
  refine ⟨h1, h2, ?_, by omega⟩
  rw [wid_app]; simp only [wid]; omega
theorem dec_get (PS pre post : List (Nat × Nat)) (w v : Nat) (h : Packs PS) (hp : PS = pre ++ (w, v) :: post) :
    ACalls Tryz.prog 114 [.int .i64 w, .ptr 0 0, .ptr 1 0, .ptr 2 0] (decA (packB PS) (wid pre)) (.int .u64 v) (decA (packB PS) (wid pre + w)) := by
  subst hp
  obtain ⟨h1, h2, h3, h4⟩ := wid_packs h
  have hl := packB_len (pre ++ (w, v) :: post)
  have hg := get_ac (packB (pre ++ (w, v) :: post)) (wid pre) w (digs_lt _ _) (by omega) h1 (by omega)
  have e : bitsAt (packB (pre ++ (w, v) :: post)) (wid pre) w = v := by
    unfold bitsAt
    rw [packB_val _ h.v, hl]
    have e1 : 8 * ((wid (pre ++ (w, v) :: post) + 7) / 8) - wid pre - w = wid post + (8 * ((wid (pre ++ (w, v) :: post) + 7) / 8) - wid (pre ++ (w, v) :: post)) := by
      have : wid (pre ++ (w, v) :: post) = wid pre + (w + wid post) := by rw [wid_app]; rfl
      omega
    rw [e1]
    exact packN_get pre post w v _ (fun p hp => h.v p (by simp [hp])) h2
  rw [e] at hg
  have o1 : IntKind.i64.wrap ((wid pre : Int) + (w : Int)) = ((wid pre + w : Nat) : Int) := wN _ _ (by omega) (by omega)
  refine acallsK mixed Tryz.func114 rfl [0, 1, 2, 3, 5, 6, 7] 1000 ([.call [] false true (.tup [.int .u64 v, .bool true]) [], .n ((wid pre + w : Nat) : Int), .t]) [] [0, 1, 2] (v1 := .int .u64 (↑v : Int)) (objs1 := [.vars 27 [.lst 1 (List.map byN (packB (pre ++ (w, v) :: post)))], .vars 3 [.int .i64 (↑(wid pre + w) : Int)], .vars 4 [.bool true]]) (ob := [ACalls Tryz.prog 115 [.lst 1 (List.map byN (packB (pre ++ (w, v) :: post))), .int .i64 (↑(wid pre) : Int), .int .i64 (↑w : Int)] [] (.tup [.int .u64 (↑v : Int), .bool true]) [],
 IntKind.i64.wrap ((↑(wid pre) : Int) + (↑w : Int)) = (↑(wid pre + w) : Int),
 true = true]) (by kernel_rfl) (by first | exact rfl | exact ⟨rfl, rfl⟩ | (simp [decA]; done) | (exact o1)) ⟨?q31_1, ?z0, ?z1, trivial⟩
  case z0|z1 => first | exact rfl | (simp [decA] <;> omega) | omega | (exact o1)
  exact hg
theorem flatMap_eq {α β : Type} {f g : α → List β} (h : ∀ x, f x = g x) (l : List α) : l.flatMap f = l.flatMap g := by rw [show f = g from funext h]
def chN (c : List Int) : List (Nat × Nat) := (2, c.length - 1) :: c.map fun x => (5, x.toNat)
def sgN (s : SegD) : List (Nat × Nat) := (20, s.at_.toNat) :: (2, s.chains.length - 1) :: s.chains.flatMap chN
theorem layQ_eq (l : LayD) (h : Lay4 l) : layQ l = (21, l.epoch.toNat) :: (5, l.seq.toNat) :: (2, l.segs.length - 1) :: l.segs.flatMap sgN := by
  have e1 : ∀ c, (chainP c).map natP = chN c := by
    intro c
    simp only [chainP, chN, List.map_cons, List.map_map, natP]
    congr 1
    · congr 1; omega
  have e2 : ∀ s, (segP s).map natP = sgN s := by
    intro s
    simp only [segP, sgN, List.map_cons, List.map_flatMap, natP]
    congr 2
    · congr 1; omega
    · exact flatMap_eq e1 _
  simp only [layQ, layP, headP, List.map_append, List.map_cons, List.map_nil, List.map_flatMap, natP, List.cons_append, List.nil_append]
  congr 3
  · congr 1; omega
  · exact flatMap_eq e2 _
def envL (n : Nat) : X.Env := [(8, .int .u64 n), (7, .ptr 4 0), (6, .fn 114 [.ptr 0 0, .ptr 2 0, .ptr 3 0]), (5, .ptr 3 0), (3, .int .i64 0), (2, .ptr 1 0), (1, .ptr 0 0)]
def decL (bs : List Nat) (a : Nat) (e q : Int) (segs : List SegD) : List X.Obj := [.vars 27 [.lst 1 (bs.map byN)], .vars 25 [.int .u64 0, .nils, .int .i64 0], .vars 3 [.int .i64 a], .vars 4 [.bool true], .vars 25 [.int .u64 e, .row 5 2 segs.length, .int .i64 q], .row 82 2 (segs.map encS)]
def decS (bs : List Nat) (a : Nat) (e q : Int) (segs : List SegD) (f : Int) (cs : List (List Int)) : List X.Obj := decL bs a e q segs ++ [.vars 82 [.int .u64 f, .row 7 1 cs.length], .row 46 1 (cs.map encU)]
def decC (bs : List Nat) (a : Nat) (e q : Int) (segs : List SegD) (f : Int) (cs : List (List Int)) (c : List Int) : List X.Obj := decS bs a e q segs f cs ++ [.row 3 1 (c.map intA)]
theorem dec_units (PS post : List (Nat × Nat)) (h : Packs PS) (e q : Int) (segs : List SegD) (f : Int) (cs : List (List Int)) (sn nc : Nat) (c : List Int) (hc : ∀ x ∈ c, 0 ≤ x ∧ x < 32) (h1 : 1 ≤ c.length) (h2 : c.length ≤ 4) : ∀ (n k : Nat) (pre : List (Nat × Nat)), c.length = k + n → PS = pre ++ ((c.drop k).map fun x => (5, x.toNat)) ++ post →
    ALoop Tryz.prog 0 Tryz.f67.ntmps (loopB Tryz.f67 2) ⟨(12, .int .u64 ((c.length - 1 : Nat) : Int)) :: (11, .row 8 1 k) :: (10, .int .u64 nc) :: (9, .ptr 6 0) :: envL sn, decC (packB PS) (wid pre) e q segs f cs (c.take k)⟩ (.exit 4) ⟨(11, .row 8 1 c.length) :: (10, .int .u64 nc) :: (9, .ptr 6 0) :: envL sn, decC (packB PS) (wid pre + 5 * n) e q segs f cs c⟩
  | 0, k, pre, hn, hp => by
    have ek : c.take k = c := List.take_of_length_le (by omega)
    have hk : k = c.length := by omega
    subst hk
    rw [ek]
    have o1 : IntKind.i64.wrap ((c.length - 1 : Nat) : Int) = ((c.length - 1 : Nat) : Int) := wN _ _ rfl (by omega)
    refine aloopK mixed [0, 1, 2, 3, 4, 5, 6, 7, 8, 9, 10, 11, 12, 13, 14, 33, 47, 57, 92] 1000 ([.go, .t, .n (c.length : Int), .n ((c.length - 1 : Nat) : Int), .f]) [11, 10, 9, 8, 7, 6, 5, 3, 2, 1] [0, 1, 2, 3, 4, 5, 6, 7, 8] (S1 := { env := [(11, .row 8 1 (List.length c)), (10, .int .u64 (↑nc : Int)), (9, .ptr 6 0), (8, .int .u64 (↑sn : Int)), (7, .ptr 4 0), (6, .fn 114 [.ptr 0 0, .ptr 2 0, .ptr 3 0]), (5, .ptr 3 0), (3, .int .i64 0), (2, .ptr 1 0), (1, .ptr 0 0)], objs := [.vars 27 [.lst 1 (List.map byN (packB PS))], .vars 25 [.int .u64 0, .nils, .int .i64 0], .vars 3 [.int .i64 (↑(wid pre) : Int)], .vars 4 [.bool true], .vars 25 [.int .u64 e, .row 5 2 (List.length segs), .int .i64 q], .row 82 2 (List.map encS segs), .vars 82 [.int .u64 f, .row 7 1 (List.length cs)], .row 46 1 (List.map encU cs), .row 3 1 (List.map intA c)] }) (ob := [true = true,
 (c.length : Int) = (c.length : Int),
 IntKind.i64.wrap (↑(List.length c - (1 : Nat)) : Int) = (↑(List.length c - (1 : Nat)) : Int),
 decide ((c.length : Int) ≤ (↑(List.length c - (1 : Nat)) : Int)) = false]) (by kernel_rfl) (by first | exact rfl | exact ⟨rfl, rfl⟩ | (simp [decC, decS, decL, envL]; done) | (first | exact o1 | (simp; omega))) ⟨?z0, ?z1, ?z2, ?z3, trivial⟩
    case z0|z1|z2|z3 => first | exact rfl | (simp [decC, decS, decL, envL] <;> omega) | omega | (first | exact o1 | (simp; omega))
  | n + 1, k, pre, hn, hp => by
    obtain ⟨x, hx⟩ := get_of (l := c) (k := k) (by omega)
    have hx2 := hc x (List.mem_of_getElem? hx)
    have hp' : PS = pre ++ (5, x.toNat) :: (((c.drop (k + 1)).map fun x => (5, x.toNat)) ++ post) := by rw [hp, drop_of hx]; simp
    have hg := dec_get PS pre _ 5 x.toNat h hp'
    have ew : wid (pre ++ [(5, x.toNat)]) = wid pre + 5 := by rw [wid_app]; rfl
    have ih := dec_units PS post h e q segs f cs sn nc c hc h1 h2 n (k + 1) (pre ++ [(5, x.toNat)]) (by omega) (by rw [hp']; simp)
    rw [ew, show wid pre + 5 + 5 * n = wid pre + 5 * (n + 1) by omega] at ih
    have o1 : IntKind.i64.wrap ((c.length - 1 : Nat) : Int) = ((c.length - 1 : Nat) : Int) := wN _ _ rfl (by omega)
    have o2 : IntKind.i64.wrap ((x.toNat : Nat) : Int) = x := by rw [Int.toNat_of_nonneg hx2.1]; exact wrap_i (by omega) (by omega)
    have o3 : (c.take k).map intA ++ [.int .i64 x] = (c.take (k + 1)).map intA := by rw [List.take_add_one, hx]; simp [intA]
    have o4 : ((c.take k).map intA).length = k := by simp; omega
    have o5 : (List.map intA (List.take (k + 1) c)).length = k + 1 := by simp; omega
    have o6 : ((k : Nat) : Int) ≤ ((c.length - 1 : Nat) : Int) := by omega
    refine aloopK mixed [0, 1, 2, 3, 4, 5, 6, 7, 8, 9, 10, 11, 12, 13, 14, 33, 47, 57, 92] 1000 ([.go, .t, .n (k : Int), .n ((c.length - 1 : Nat) : Int), .t, .call [0, 2, 3] false false (.int .u64 (x.toNat : Int)) (decA (packB PS) (wid pre + 5)), .n x, .ls ((c.take (k + 1)).map intA), .lp [12, 11, 10, 9, 8, 7, 6, 5, 3, 2, 1] [0, 1, 2, 3, 4, 5, 6, 7, 10] (.exit 4) ⟨(11, .row 8 1 c.length) :: (10, .int .u64 nc) :: (9, .ptr 6 0) :: envL sn, decC (packB PS) (wid pre + 5 * (n + 1)) e q segs f cs c⟩]) [11, 10, 9, 8, 7, 6, 5, 3, 2, 1] [0, 1, 2, 3, 4, 5, 6, 7, 8] (S1 := { env := [(11, .row 8 1 (List.length c)), (10, .int .u64 (↑nc : Int)), (9, .ptr 6 0), (8, .int .u64 (↑sn : Int)), (7, .ptr 4 0), (6, .fn 114 [.ptr 0 0, .ptr 2 0, .ptr 3 0]), (5, .ptr 3 0), (3, .int .i64 0), (2, .ptr 1 0), (1, .ptr 0 0)], objs := [.vars 27 [.lst 1 (List.map byN (packB PS))], .vars 25 [.int .u64 0, .nils, .int .i64 0], .vars 3 [.int .i64 (↑(wid pre + 5 * (n + 1)) : Int)], .vars 4 [.bool true], .vars 25 [.int .u64 e, .row 5 2 (List.length segs), .int .i64 q], .row 82 2 (List.map encS segs), .vars 82 [.int .u64 f, .row 7 1 (List.length cs)], .row 46 1 (List.map encU cs), .row 3 1 (List.map intA c)] }) (ob := [true = true,
 (↑k : Int) = (↑k : Int),
 IntKind.i64.wrap (↑(List.length c - (1 : Nat)) : Int) = (↑(List.length c - (1 : Nat)) : Int),
 decide ((↑k : Int) ≤ (↑(List.length c - (1 : Nat)) : Int)) = true,
 ACalls Tryz.prog 114 [.int .i64 5, .ptr 0 0, .ptr 1 0, .ptr 2 0] [.vars 27 [.lst 1 (List.map byN (packB PS))], .vars 3 [.int .i64 (↑(wid pre) : Int)], .vars 4 [.bool true]] (.int .u64 (↑(Int.toNat x) : Int)) [.vars 27 [.lst 1 (List.map byN (packB PS))], .vars 3 [.int .i64 (↑(wid pre + 5) : Int)], .vars 4 [.bool true]],
 IntKind.i64.wrap (↑(Int.toNat x) : Int) = x,
 (List.length (List.map intA (List.take k c)) + (1 : Nat)) * (8 : Nat) ≤ (140737488355328 : Nat),
 List.map intA (List.take k c) ++ [.int .i64 x] = List.map intA (List.take (k + (1 : Nat)) c),
 ALoop Tryz.prog 0 95 (loopB Tryz.f67 2) { env := [(12, .int .u64 (↑(List.length c - 1) : Int)), (11, .row 8 1 (List.length (List.map intA (List.take (k + 1) c)))), (10, .int .u64 (↑nc : Int)), (9, .ptr 6 0), (8, .int .u64 (↑sn : Int)), (7, .ptr 4 0), (6, .fn 114 [.ptr 0 0, .ptr 2 0, .ptr 3 0]), (5, .ptr 3 0), (3, .int .i64 0), (2, .ptr 1 0), (1, .ptr 0 0)], objs := [.vars 27 [.lst 1 (List.map byN (packB PS))], .vars 25 [.int .u64 0, .nils, .int .i64 0], .vars 3 [.int .i64 (↑(wid pre + 5) : Int)], .vars 4 [.bool true], .vars 25 [.int .u64 e, .row 5 2 (List.length segs), .int .i64 q], .row 82 2 (List.map encS segs), .vars 82 [.int .u64 f, .row 7 1 (List.length cs)], .row 46 1 (List.map encU cs), .row 3 1 (List.map intA (List.take (k + 1) c))] } (Ex.exit 4) { env := [(11, .row 8 1 (List.length c)), (10, .int .u64 (↑nc : Int)), (9, .ptr 6 0), (8, .int .u64 (↑sn : Int)), (7, .ptr 4 0), (6, .fn 114 [.ptr 0 0, .ptr 2 0, .ptr 3 0]), (5, .ptr 3 0), (3, .int .i64 0), (2, .ptr 1 0), (1, .ptr 0 0)], objs := [.vars 27 [.lst 1 (List.map byN (packB PS))], .vars 25 [.int .u64 0, .nils, .int .i64 0], .vars 3 [.int .i64 (↑(wid pre + 5 * (n + 1)) : Int)], .vars 4 [.bool true], .vars 25 [.int .u64 e, .row 5 2 (List.length segs), .int .i64 q], .row 82 2 (List.map encS segs), .vars 82 [.int .u64 f, .row 7 1 (List.length cs)], .row 46 1 (List.map encU cs), .row 3 1 (List.map intA c)] }]) (by kernel_rfl) (by first | exact rfl | exact ⟨rfl, rfl⟩ | (simp [decC, decS, decL, decA, envL]; done) | (first | exact o1 | exact o2 | exact o3 | exact o4 | exact o5 | exact o6 | (simp; omega))) ⟨?z4, ?z5, ?z6, ?z7, ?q79_1, ?z8, ?z9, ?z10, ?q79_2, trivial⟩
    case z4|z5|z6|z7|z8|z9|z10 => first | exact rfl | (simp [decC, decS, decL, decA, envL] <;> omega) | omega | (first | exact o1 | exact o2 | exact o3 | exact o4 | exact o5 | exact o6 | (simp; omega))
    · exact hg
    · rw [o5]; exact ih
end Go.Proofs.YtidgcfgkcidkiaaGreat.Ch
namespace Go.Proofs.YtidgcfgkcidkiaaGreat.Ch
open Go Go.RowKit Go.Proofs.YtidgcfgkcidkiaaGreat.L Go.Proofs.YtidgcfgkcidkiaaGreat.X
set_option linter.unusedVariables false
set_option linter.unusedSimpArgs false
theorem wid_chN (c : List Int) : wid (chN c) = 2 + 5 * c.length := by
  have : ∀ l : List Int, wid (l.map fun x => (5, x.toNat)) = 5 * l.length := by
    intro l
    induction l with
    | nil => rfl
    | cons x r ih => simp only [List.map_cons, wid, ih, List.length_cons]; omega
  simp only [chN, wid, this]
theorem dec_chains (PS post : List (Nat × Nat)) (h : Packs PS) (e q : Int) (segs : List SegD) (f : Int) (cs : List (List Int)) (sn : Nat) (hc : ∀ c ∈ cs, Ch4 c) (h1 : 1 ≤ cs.length) (h2 : cs.length ≤ 4) : ∀ (n k : Nat) (pre : List (Nat × Nat)), cs.length = k + n → PS = pre ++ (cs.drop k).flatMap chN ++ post →
    ALoop Tryz.prog 0 Tryz.f67.ntmps (loopB Tryz.f67 1) ⟨(10, .int .u64 ((cs.length - 1 : Nat) : Int)) :: (9, .ptr 6 0) :: envL sn, decS (packB PS) (wid pre) e q segs f (cs.take k)⟩ (.exit 2) ⟨(9, .ptr 6 0) :: envL sn, decS (packB PS) (wid pre + wid ((cs.drop k).flatMap chN)) e q segs f cs⟩
  | 0, k, pre, hn, hp => by
    have ek : cs.take k = cs := List.take_of_length_le (by omega)
    have ed : cs.drop k = [] := List.drop_eq_nil_of_le (by omega)
    rw [ek, ed, List.flatMap_nil, wid, Nat.add_zero]
    have o1 : IntKind.i64.wrap ((cs.length - 1 : Nat) : Int) = ((cs.length - 1 : Nat) : Int) := wN _ _ rfl (by omega)
    refine aloopK mixed [0, 1, 2, 3, 4, 5, 6, 7, 8, 9, 10, 11, 12, 13, 14, 33, 47, 57, 92] 1000 ([.go, .t, .n (cs.length : Int), .n ((cs.length - 1 : Nat) : Int), .f]) [9, 8, 7, 6, 5, 3, 2, 1] [0, 1, 2, 3, 4, 5, 6, 7] (S1 := { env := [(9, .ptr 6 0), (8, .int .u64 (↑sn : Int)), (7, .ptr 4 0), (6, .fn 114 [.ptr 0 0, .ptr 2 0, .ptr 3 0]), (5, .ptr 3 0), (3, .int .i64 0), (2, .ptr 1 0), (1, .ptr 0 0)], objs := [.vars 27 [.lst 1 (List.map byN (packB PS))], .vars 25 [.int .u64 0, .nils, .int .i64 0], .vars 3 [.int .i64 (↑(wid pre) : Int)], .vars 4 [.bool true], .vars 25 [.int .u64 e, .row 5 2 (List.length segs), .int .i64 q], .row 82 2 (List.map encS segs), .vars 82 [.int .u64 f, .row 7 1 (List.length cs)], .row 46 1 (List.map encU cs)] }) (ob := [true = true,
 (cs.length : Int) = (cs.length : Int),
 IntKind.i64.wrap (↑(List.length cs - (1 : Nat)) : Int) = (↑(List.length cs - (1 : Nat)) : Int),
 decide ((cs.length : Int) ≤ (↑(List.length cs - (1 : Nat)) : Int)) = false]) (by kernel_rfl) (by first | exact rfl | exact ⟨rfl, rfl⟩ | (simp [decC, decS, decL, envL]; done) | (first | exact o1 | (simp; omega))) ⟨?z0, ?z1, ?z2, ?z3, trivial⟩
    case z0|z1|z2|z3 => first | exact rfl | (simp [decC, decS, decL, envL] <;> omega) | omega | (first | exact o1 | (simp; omega))
  | n + 1, k, pre, hn, hp => by
    obtain ⟨c, hx⟩ := get_of (l := cs) (k := k) (by omega)
    have hx2 := hc c (List.mem_of_getElem? hx)
    have c1 := hx2.p
    have c2 := hx2.m
    have ed := drop_of hx
    have hp1 : PS = pre ++ (2, c.length - 1) :: ((c.map fun x => (5, x.toNat)) ++ ((cs.drop (k + 1)).flatMap chN ++ post)) := by rw [hp, ed]; simp [chN]
    have hg := dec_get PS pre _ 2 (c.length - 1) h hp1
    have ew : wid (pre ++ [(2, c.length - 1)]) = wid pre + 2 := by rw [wid_app]; rfl
    have hin := dec_units PS ((cs.drop (k + 1)).flatMap chN ++ post) h e q segs f (cs.take k) sn (cs.length - 1) c hx2.u c1 c2 c.length 0 (pre ++ [(2, c.length - 1)]) (by omega) (by rw [hp1]; simp)
    rw [ew] at hin
    have ew2 : wid (pre ++ chN c) = wid pre + 2 + 5 * c.length := by rw [wid_app, wid_chN]; omega
    have ih := dec_chains PS post h e q segs f cs sn hc h1 h2 n (k + 1) (pre ++ chN c) (by omega) (by rw [hp, ed]; simp)
    rw [ew2, show wid pre + 2 + 5 * c.length + wid ((cs.drop (k + 1)).flatMap chN) = wid pre + wid ((cs.drop k).flatMap chN) by rw [ed, List.flatMap_cons, wid_app, wid_chN]; omega] at ih
    have o1 : IntKind.i64.wrap ((cs.length - 1 : Nat) : Int) = ((cs.length - 1 : Nat) : Int) := wN _ _ rfl (by omega)
    have o3 : (cs.take k).map encU ++ [encU c] = (cs.take (k + 1)).map encU := by rw [List.take_add_one, hx]; simp
    have o4 : ((cs.take k).map encU).length = k := by simp; omega
    have o5 : (cs.take (k + 1)).length = k + 1 := by simp; omega
    have o6 : ((k : Nat) : Int) ≤ ((cs.length - 1 : Nat) : Int) := by omega
    have o7 : (((cs.take k).length : Nat) : Int) = (k : Int) := by simp; omega
    refine aloopK mixed [0, 1, 2, 3, 4, 5, 6, 7, 8, 9, 10, 11, 12, 13, 14, 33, 47, 57, 92] 1000 ([.go, .t, .n (k : Int), .n ((cs.length - 1 : Nat) : Int), .t, .call [0, 2, 3] false false (.int .u64 ((c.length - 1 : Nat) : Int)) (decA (packB PS) (wid pre + 2)), .mk 11 3 1, .lp [12, 11, 10, 9, 8, 7, 6, 5, 3, 2, 1] [0, 1, 2, 3, 4, 5, 6, 7, 8] (.exit 4) ⟨(11, .row 8 1 c.length) :: (10, .int .u64 ((cs.length - 1 : Nat) : Int)) :: (9, .ptr 6 0) :: envL sn, decC (packB PS) (wid pre + 2 + 5 * c.length) e q segs f (cs.take k) c⟩, .fo 67 [8], .ls ((cs.take (k + 1)).map encU), .lp [10, 9, 8, 7, 6, 5, 3, 2, 1] [0, 1, 2, 3, 4, 5, 6, 10] (.exit 2) ⟨(9, .ptr 6 0) :: envL sn, decS (packB PS) (wid pre + wid ((cs.drop k).flatMap chN)) e q segs f cs⟩]) [9, 8, 7, 6, 5, 3, 2, 1] [0, 1, 2, 3, 4, 5, 6, 7] (S1 := { env := [(9, .ptr 6 0), (8, .int .u64 (↑sn : Int)), (7, .ptr 4 0), (6, .fn 114 [.ptr 0 0, .ptr 2 0, .ptr 3 0]), (5, .ptr 3 0), (3, .int .i64 0), (2, .ptr 1 0), (1, .ptr 0 0)], objs := [.vars 27 [.lst 1 (List.map byN (packB PS))], .vars 25 [.int .u64 0, .nils, .int .i64 0], .vars 3 [.int .i64 (↑(wid pre + wid (List.flatMap chN (List.drop k cs))) : Int)], .vars 4 [.bool true], .vars 25 [.int .u64 e, .row 5 2 (List.length segs), .int .i64 q], .row 82 2 (List.map encS segs), .vars 82 [.int .u64 f, .row 7 1 (List.length cs)], .row 46 1 (List.map encU cs)] }) (ob := [true = true,
 ((List.take k cs).length : Int) = (↑k : Int),
 IntKind.i64.wrap (↑(List.length cs - (1 : Nat)) : Int) = (↑(List.length cs - (1 : Nat)) : Int),
 decide ((↑k : Int) ≤ (↑(List.length cs - (1 : Nat)) : Int)) = true,
 ACalls Tryz.prog 114 [.int .i64 2, .ptr 0 0, .ptr 1 0, .ptr 2 0] [.vars 27 [.lst 1 (List.map byN (packB PS))], .vars 3 [.int .i64 (↑(wid pre) : Int)], .vars 4 [.bool true]] (.int .u64 (↑(List.length c - 1) : Int)) [.vars 27 [.lst 1 (List.map byN (packB PS))], .vars 3 [.int .i64 (↑(wid pre + 2) : Int)], .vars 4 [.bool true]],
 ALoop Tryz.prog 0 95 (loopB Tryz.f67 2) { env := [(12, .int .u64 (↑(List.length c - 1) : Int)), (11, .row 8 1 0), (10, .int .u64 (↑(List.length cs - 1) : Int)), (9, .ptr 6 0), (8, .int .u64 (↑sn : Int)), (7, .ptr 4 0), (6, .fn 114 [.ptr 0 0, .ptr 2 0, .ptr 3 0]), (5, .ptr 3 0), (3, .int .i64 0), (2, .ptr 1 0), (1, .ptr 0 0)], objs := [.vars 27 [.lst 1 (List.map byN (packB PS))], .vars 25 [.int .u64 0, .nils, .int .i64 0], .vars 3 [.int .i64 (↑(wid pre + 2) : Int)], .vars 4 [.bool true], .vars 25 [.int .u64 e, .row 5 2 (List.length segs), .int .i64 q], .row 82 2 (List.map encS segs), .vars 82 [.int .u64 f, .row 7 1 (List.length (List.take k cs))], .row 46 1 (List.map encU (List.take k cs)), .row 3 1 []] } (Ex.exit 4) { env := [(11, .row 8 1 (List.length c)), (10, .int .u64 (↑(List.length cs - 1) : Int)), (9, .ptr 6 0), (8, .int .u64 (↑sn : Int)), (7, .ptr 4 0), (6, .fn 114 [.ptr 0 0, .ptr 2 0, .ptr 3 0]), (5, .ptr 3 0), (3, .int .i64 0), (2, .ptr 1 0), (1, .ptr 0 0)], objs := [.vars 27 [.lst 1 (List.map byN (packB PS))], .vars 25 [.int .u64 0, .nils, .int .i64 0], .vars 3 [.int .i64 (↑(wid pre + 2 + 5 * List.length c) : Int)], .vars 4 [.bool true], .vars 25 [.int .u64 e, .row 5 2 (List.length segs), .int .i64 q], .row 82 2 (List.map encS segs), .vars 82 [.int .u64 f, .row 7 1 (List.length (List.take k cs))], .row 46 1 (List.map encU (List.take k cs)), .row 3 1 (List.map intA c)] },
 (List.length (List.map encU (List.take k cs)) + (1 : Nat)) * (24 : Nat) ≤ (140737488355328 : Nat),
 List.map encU (List.take k cs) ++ [.lst (nat_lit 1) (List.map intA c)] = List.map encU (List.take (k + (1 : Nat)) cs),
 ALoop Tryz.prog 0 95 (loopB Tryz.f67 1) { env := [(10, .int .u64 (↑(List.length cs - 1) : Int)), (9, .ptr 6 0), (8, .int .u64 (↑sn : Int)), (7, .ptr 4 0), (6, .fn 114 [.ptr 0 0, .ptr 2 0, .ptr 3 0]), (5, .ptr 3 0), (3, .int .i64 0), (2, .ptr 1 0), (1, .ptr 0 0)], objs := [.vars 27 [.lst 1 (List.map byN (packB PS))], .vars 25 [.int .u64 0, .nils, .int .i64 0], .vars 3 [.int .i64 (↑(wid pre + 2 + 5 * List.length c) : Int)], .vars 4 [.bool true], .vars 25 [.int .u64 e, .row 5 2 (List.length segs), .int .i64 q], .row 82 2 (List.map encS segs), .vars 82 [.int .u64 f, .row 7 1 (List.length (List.map encU (List.take (k + 1) cs)))], .row 46 1 (List.map encU (List.take (k + 1) cs))] } (Ex.exit 2) { env := [(9, .ptr 6 0), (8, .int .u64 (↑sn : Int)), (7, .ptr 4 0), (6, .fn 114 [.ptr 0 0, .ptr 2 0, .ptr 3 0]), (5, .ptr 3 0), (3, .int .i64 0), (2, .ptr 1 0), (1, .ptr 0 0)], objs := [.vars 27 [.lst 1 (List.map byN (packB PS))], .vars 25 [.int .u64 0, .nils, .int .i64 0], .vars 3 [.int .i64 (↑(wid pre + wid (List.flatMap chN (List.drop k cs))) : Int)], .vars 4 [.bool true], .vars 25 [.int .u64 e, .row 5 2 (List.length segs), .int .i64 q], .row 82 2 (List.map encS segs), .vars 82 [.int .u64 f, .row 7 1 (List.length cs)], .row 46 1 (List.map encU cs)] }]) (by kernel_rfl) (by first | exact rfl | exact ⟨rfl, rfl⟩ | (simp [decC, decS, decL, decA, envL]; done) | (first | exact o1 | exact o3 | exact o4 | exact o6 | exact o7 | (simp; omega))) ⟨?z4, ?z5, ?z6, ?z7, ?q42_1, ?q42_2, ?z8, ?z9, ?q42_3, trivial⟩
    case z4|z5|z6|z7|z8|z9 => first | exact rfl | (simp [decC, decS, decL, decA, envL] <;> omega) | omega | (first | exact o1 | exact o3 | exact o4 | exact o6 | exact o7 | (simp; omega))
    · exact hg
    · exact hin
    · rw [List.length_map]; exact ih
theorem wid_sgN (s : SegD) : wid (sgN s) = 22 + wid (s.chains.flatMap chN) := by simp only [sgN, wid]; omega
theorem dec_segs (PS post : List (Nat × Nat)) (h : Packs PS) (e q : Int) (segs : List SegD) (hs : ∀ s ∈ segs, Seg4 s) (h1 : 1 ≤ segs.length) (h2 : segs.length ≤ 4) : ∀ (n k : Nat) (pre : List (Nat × Nat)), segs.length = k + n → PS = pre ++ (segs.drop k).flatMap sgN ++ post →
    ALoop Tryz.prog 0 Tryz.f67.ntmps (loopB Tryz.f67 0) ⟨envL (segs.length - 1), decL (packB PS) (wid pre) e q (segs.take k)⟩ (.exit 0) ⟨envL (segs.length - 1), decL (packB PS) (wid pre + wid ((segs.drop k).flatMap sgN)) e q segs⟩
  | 0, k, pre, hn, hp => by
    have ek : segs.take k = segs := List.take_of_length_le (by omega)
    have ed : segs.drop k = [] := List.drop_eq_nil_of_le (by omega)
    rw [ek, ed, List.flatMap_nil, wid, Nat.add_zero]
    have o1 : IntKind.i64.wrap ((segs.length - 1 : Nat) : Int) = ((segs.length - 1 : Nat) : Int) := wN _ _ rfl (by omega)
    refine aloopK mixed [0, 1, 2, 3, 4, 5, 6, 7, 8, 9, 10, 11, 12, 13, 14, 33, 47, 57, 92] 1000 ([.go, .t, .n (segs.length : Int), .n ((segs.length - 1 : Nat) : Int), .f]) [8, 7, 6, 5, 3, 2, 1] [0, 1, 2, 3, 4, 5] (S1 := { env := [(8, .int .u64 (↑(List.length segs - 1) : Int)), (7, .ptr 4 0), (6, .fn 114 [.ptr 0 0, .ptr 2 0, .ptr 3 0]), (5, .ptr 3 0), (3, .int .i64 0), (2, .ptr 1 0), (1, .ptr 0 0)], objs := [.vars 27 [.lst 1 (List.map byN (packB PS))], .vars 25 [.int .u64 0, .nils, .int .i64 0], .vars 3 [.int .i64 (↑(wid pre) : Int)], .vars 4 [.bool true], .vars 25 [.int .u64 e, .row 5 2 (List.length segs), .int .i64 q], .row 82 2 (List.map encS segs)] }) (ob := [true = true,
 (segs.length : Int) = (segs.length : Int),
 IntKind.i64.wrap (↑(List.length segs - (1 : Nat)) : Int) = (↑(List.length segs - (1 : Nat)) : Int),
 decide ((segs.length : Int) ≤ (↑(List.length segs - (1 : Nat)) : Int)) = false]) (by kernel_rfl) (by first | exact rfl | exact ⟨rfl, rfl⟩ | (simp [decC, decS, decL, envL]; done) | (first | exact o1 | (simp; omega))) ⟨?z0, ?z1, ?z2, ?z3, trivial⟩
    case z0|z1|z2|z3 => first | exact rfl | (simp [decC, decS, decL, envL] <;> omega) | omega | (first | exact o1 | (simp; omega))
  | n + 1, k, pre, hn, hp => by
    obtain ⟨s, hx⟩ := get_of (l := segs) (k := k) (by omega)
    have hx2 := hs s (List.mem_of_getElem? hx)
    have c0 := hx2.at0
    have c1 := hx2.p
    have c2 := hx2.m
    have ed := drop_of hx
    have hp1 : PS = pre ++ (20, s.at_.toNat) :: ((2, s.chains.length - 1) :: (s.chains.flatMap chN ++ ((segs.drop (k + 1)).flatMap sgN ++ post))) := by rw [hp, ed]; simp [sgN]
    have hg1 := dec_get PS pre _ 20 s.at_.toNat h hp1
    have ew1 : wid (pre ++ [(20, s.at_.toNat)]) = wid pre + 20 := by rw [wid_app]; rfl
    have hg2 := dec_get PS (pre ++ [(20, s.at_.toNat)]) (s.chains.flatMap chN ++ ((segs.drop (k + 1)).flatMap sgN ++ post)) 2 (s.chains.length - 1) h (by rw [hp1]; simp)
    rw [ew1] at hg2
    have ew2 : wid (pre ++ [(20, s.at_.toNat), (2, s.chains.length - 1)]) = wid pre + 20 + 2 := by rw [wid_app]; simp [wid]
    have hin := dec_chains PS ((segs.drop (k + 1)).flatMap sgN ++ post) h e q (segs.take k) s.at_ s.chains (segs.length - 1) hx2.u c1 c2 s.chains.length 0 (pre ++ [(20, s.at_.toNat), (2, s.chains.length - 1)]) (by omega) (by rw [hp1]; simp)
    rw [ew2, List.drop_zero] at hin
    have ew3 : wid (pre ++ sgN s) = wid pre + 20 + 2 + wid (s.chains.flatMap chN) := by rw [wid_app, wid_sgN]; omega
    have ih := dec_segs PS post h e q segs hs h1 h2 n (k + 1) (pre ++ sgN s) (by omega) (by rw [hp, ed]; simp)
    rw [ew3, show wid pre + 20 + 2 + wid (s.chains.flatMap chN) + wid ((segs.drop (k + 1)).flatMap sgN) = wid pre + wid ((segs.drop k).flatMap sgN) by rw [ed, List.flatMap_cons, wid_app, wid_sgN]; omega] at ih
    rw [Int.toNat_of_nonneg c0] at hg1
    have o1 : IntKind.i64.wrap ((segs.length - 1 : Nat) : Int) = ((segs.length - 1 : Nat) : Int) := wN _ _ rfl (by omega)
    have o3 : (segs.take k).map encS ++ [.agg [.int .u64 s.at_, .lst 1 (s.chains.map encU)]] = (segs.take (k + 1)).map encS := by rw [List.take_add_one, hx, List.map_append]; rfl
    have o6 : ((k : Nat) : Int) ≤ ((segs.length - 1 : Nat) : Int) := by omega
    have o7 : (((segs.take k).length : Nat) : Int) = (k : Int) := by simp; omega
    refine aloopK mixed [0, 1, 2, 3, 4, 5, 6, 7, 8, 9, 10, 11, 12, 13, 14, 33, 47, 57, 92] 1000 ([.go, .t, .n (k : Int), .n ((segs.length - 1 : Nat) : Int), .t, .call [0, 2, 3] false false (.int .u64 s.at_) (decA (packB PS) (wid pre + 20)), .call [0, 2, 3] false false (.int .u64 ((s.chains.length - 1 : Nat) : Int)) (decA (packB PS) (wid pre + 20 + 2)), .mkc 6 1 46 1, .lp [10, 9, 8, 7, 6, 5, 3, 2, 1] [0, 1, 2, 3, 4, 5, 6, 7] (.exit 2) ⟨(9, .ptr 6 0) :: envL (segs.length - 1), decS (packB PS) (wid pre + 20 + 2 + wid (s.chains.flatMap chN)) e q (segs.take k) s.at_ s.chains⟩, .fo 73 [7], .ls ((segs.take (k + 1)).map encS), .lp [8, 7, 6, 5, 3, 2, 1] [0, 1, 2, 3, 4, 9] (.exit 0) ⟨envL (segs.length - 1), decL (packB PS) (wid pre + wid ((segs.drop k).flatMap sgN)) e q segs⟩]) [8, 7, 6, 5, 3, 2, 1] [0, 1, 2, 3, 4, 5] (S1 := { env := [(8, .int .u64 (↑(List.length segs - 1) : Int)), (7, .ptr 4 0), (6, .fn 114 [.ptr 0 0, .ptr 2 0, .ptr 3 0]), (5, .ptr 3 0), (3, .int .i64 0), (2, .ptr 1 0), (1, .ptr 0 0)], objs := [.vars 27 [.lst 1 (List.map byN (packB PS))], .vars 25 [.int .u64 0, .nils, .int .i64 0], .vars 3 [.int .i64 (↑(wid pre + wid (List.flatMap sgN (List.drop k segs))) : Int)], .vars 4 [.bool true], .vars 25 [.int .u64 e, .row 5 2 (List.length segs), .int .i64 q], .row 82 2 (List.map encS segs)] }) (ob := [true = true,
 ((List.take k segs).length : Int) = (↑k : Int),
 IntKind.i64.wrap (↑(List.length segs - (1 : Nat)) : Int) = (↑(List.length segs - (1 : Nat)) : Int),
 decide ((↑k : Int) ≤ (↑(List.length segs - (1 : Nat)) : Int)) = true,
 ACalls Tryz.prog 114 [.int .i64 20, .ptr 0 0, .ptr 1 0, .ptr 2 0] [.vars 27 [.lst 1 (List.map byN (packB PS))], .vars 3 [.int .i64 (↑(wid pre) : Int)], .vars 4 [.bool true]] (.int .u64 s.at_) [.vars 27 [.lst 1 (List.map byN (packB PS))], .vars 3 [.int .i64 (↑(wid pre + 20) : Int)], .vars 4 [.bool true]],
 ACalls Tryz.prog 114 [.int .i64 2, .ptr 0 0, .ptr 1 0, .ptr 2 0] [.vars 27 [.lst 1 (List.map byN (packB PS))], .vars 3 [.int .i64 (↑(wid pre + 20) : Int)], .vars 4 [.bool true]] (.int .u64 (↑(List.length s.chains - 1) : Int)) [.vars 27 [.lst 1 (List.map byN (packB PS))], .vars 3 [.int .i64 (↑(wid pre + 20 + 2) : Int)], .vars 4 [.bool true]],
 ALoop Tryz.prog 0 95 (loopB Tryz.f67 1) { env := [(10, .int .u64 (↑(List.length s.chains - 1) : Int)), (9, .ptr 6 0), (8, .int .u64 (↑(List.length segs - 1) : Int)), (7, .ptr 4 0), (6, .fn 114 [.ptr 0 0, .ptr 2 0, .ptr 3 0]), (5, .ptr 3 0), (3, .int .i64 0), (2, .ptr 1 0), (1, .ptr 0 0)], objs := [.vars 27 [.lst 1 (List.map byN (packB PS))], .vars 25 [.int .u64 0, .nils, .int .i64 0], .vars 3 [.int .i64 (↑(wid pre + 20 + 2) : Int)], .vars 4 [.bool true], .vars 25 [.int .u64 e, .row 5 2 (List.length (List.take k segs)), .int .i64 q], .row 82 2 (List.map encS (List.take k segs)), .vars 82 [.int .u64 s.at_, .row 7 1 0], .row 46 1 []] } (Ex.exit 2) { env := [(9, .ptr 6 0), (8, .int .u64 (↑(List.length segs - 1) : Int)), (7, .ptr 4 0), (6, .fn 114 [.ptr 0 0, .ptr 2 0, .ptr 3 0]), (5, .ptr 3 0), (3, .int .i64 0), (2, .ptr 1 0), (1, .ptr 0 0)], objs := [.vars 27 [.lst 1 (List.map byN (packB PS))], .vars 25 [.int .u64 0, .nils, .int .i64 0], .vars 3 [.int .i64 (↑(wid pre + 20 + 2 + wid (List.flatMap chN s.chains)) : Int)], .vars 4 [.bool true], .vars 25 [.int .u64 e, .row 5 2 (List.length (List.take k segs)), .int .i64 q], .row 82 2 (List.map encS (List.take k segs)), .vars 82 [.int .u64 s.at_, .row 7 1 (List.length s.chains)], .row 46 1 (List.map encU s.chains)] },
 (List.length (List.map encS (List.take k segs)) + (1 : Nat)) * (32 : Nat) ≤ (140737488355328 : Nat),
 List.map encS (List.take k segs) ++ [.agg [.int .u64 s.at_, .lst (nat_lit 1) (List.map encU s.chains)]] = List.map encS (List.take (k + (1 : Nat)) segs),
 ALoop Tryz.prog 0 95 (loopB Tryz.f67 0) { env := [(8, .int .u64 (↑(List.length segs - 1) : Int)), (7, .ptr 4 0), (6, .fn 114 [.ptr 0 0, .ptr 2 0, .ptr 3 0]), (5, .ptr 3 0), (3, .int .i64 0), (2, .ptr 1 0), (1, .ptr 0 0)], objs := [.vars 27 [.lst 1 (List.map byN (packB PS))], .vars 25 [.int .u64 0, .nils, .int .i64 0], .vars 3 [.int .i64 (↑(wid pre + 20 + 2 + wid (List.flatMap chN s.chains)) : Int)], .vars 4 [.bool true], .vars 25 [.int .u64 e, .row 5 2 (List.length (List.map encS (List.take (k + 1) segs))), .int .i64 q], .row 82 2 (List.map encS (List.take (k + 1) segs))] } (Ex.exit 0) { env := [(8, .int .u64 (↑(List.length segs - 1) : Int)), (7, .ptr 4 0), (6, .fn 114 [.ptr 0 0, .ptr 2 0, .ptr 3 0]), (5, .ptr 3 0), (3, .int .i64 0), (2, .ptr 1 0), (1, .ptr 0 0)], objs := [.vars 27 [.lst 1 (List.map byN (packB PS))], .vars 25 [.int .u64 0, .nils, .int .i64 0], .vars 3 [.int .i64 (↑(wid pre + wid (List.flatMap sgN (List.drop k segs))) : Int)], .vars 4 [.bool true], .vars 25 [.int .u64 e, .row 5 2 (List.length segs), .int .i64 q], .row 82 2 (List.map encS segs)] }]) (by kernel_rfl) (by first | exact rfl | exact ⟨rfl, rfl⟩ | (simp [decC, decS, decL, decA, envL]; done) | (first | exact o1 | exact o3 | exact o6 | exact o7 | (simp; omega))) ⟨?z4, ?z5, ?z6, ?z7, ?q78_1, ?q78_2, ?q78_3, ?z8, ?z9, ?q78_4, trivial⟩
    case z4|z5|z6|z7|z8|z9 => first | exact rfl | (simp [decC, decS, decL, decA, envL] <;> omega) | omega | (first | exact o1 | exact o3 | exact o6 | exact o7 | (simp; omega))
    · exact hg1
    · exact hg2
    · exact hin
    · rw [List.length_map]; exact ih
end Go.Proofs.YtidgcfgkcidkiaaGreat.Ch
namespace Go.Proofs.YtidgcfgkcidkiaaGreat.Ch
open Go Go.RowKit Go.Proofs.YtidgcfgkcidkiaaGreat.L Go.Proofs.YtidgcfgkcidkiaaGreat.X
set_option linter.unusedVariables false
set_option linter.unusedSimpArgs false
theorem byN_byteA (bs : List Nat) : bs.map byN = (bs.map Int.ofNat).map byteA := by simp [byN, byteA]
theorem decode_full (l : LayD) (h : Lay4 l) (hr : rightL l = true) (hok : l.ok) : ACalls Tryz.prog 67 [.lst 1 ((bytL l).map byN)] [] (.tup [encL l, .int .i64 0]) [] := by
  have hP := lay_packs h
  have hq := layQ_eq l h
  have f0 := h.e0
  have f1 := h.e1
  have f2 := h.q0
  have f3 := h.q1
  have f4 := h.p
  have f5 := h.m
  have g1 := dec_get (layQ l) [] _ 21 l.epoch.toNat hP hq
  have g2 := dec_get (layQ l) [(21, l.epoch.toNat)] _ 5 l.seq.toNat hP hq
  have g3 := dec_get (layQ l) [(21, l.epoch.toNat), (5, l.seq.toNat)] _ 2 (l.segs.length - 1) hP hq
  have g4 := dec_segs (layQ l) [] hP l.epoch l.seq l.segs h.s f4 f5 l.segs.length 0 [(21, l.epoch.toNat), (5, l.seq.toNat), (2, l.segs.length - 1)] (by omega) (by rw [hq]; simp)
  have e := encode_full l h hr hok
  have hb : Bytes ((bytL l).map Int.ofNat) := by
    intro x hx
    obtain ⟨b, hb, rfl⟩ := List.mem_map.1 hx
    have := digs_lt _ _ b hb
    exact ⟨by simp, by simp; omega⟩
  have q := bytesEqual_ac ((bytL l).map Int.ofNat) ((bytL l).map Int.ofNat) hb hb
  rw [beq_self_eq_true, ← byN_byteA] at q
  rw [Int.toNat_of_nonneg (by omega)] at g1
  have o1 : IntKind.i64.wrap ((l.seq.toNat : Nat) : Int) = l.seq := by rw [Int.toNat_of_nonneg f2]; exact wrap_i (by omega) (by omega)
  refine acallsK mixed Tryz.func67 rfl [0, 1, 2, 3, 4, 5, 6, 7, 8, 9, 10, 11, 12, 13, 14, 33, 47, 57, 92] 1000 ([.call [0, 2, 3] false false (.int .u64 l.epoch) (decA (packB (layQ l)) 21), .call [0, 2, 3] false false (.int .u64 (l.seq.toNat : Int)) (decA (packB (layQ l)) 26), .n l.seq, .call [0, 2, 3] false false (.int .u64 ((l.segs.length - 1 : Nat) : Int)) (decA (packB (layQ l)) 28), .mkc 4 1 82 2, .lp [8, 7, 6, 5, 3, 2, 1] [0, 1, 2, 3, 4, 5] (.exit 0) ⟨envL (l.segs.length - 1), decL (packB (layQ l)) (28 + wid (l.segs.flatMap sgN)) l.epoch l.seq l.segs⟩, .fo 78 [5], .call [] false false (.tup [.row 0 1 (bytL l).length, .int .i64 0]) [.row 5 1 ((bytL l).map byN)], .t, .f, .call [] false true (.bool true) []]) [] [] (v1 := .tup [(encL l), .int .i64 0]) (objs1 := []) (ob := [ACalls Tryz.prog 114 [.int .i64 21, .ptr 0 0, .ptr 1 0, .ptr 2 0] [.vars 27 [.lst 1 (List.map byN (bytL l))], .vars 3 [.int .i64 0], .vars 4 [.bool true]] (.int .u64 l.epoch) [.vars 27 [.lst 1 (List.map byN (packB (layQ l)))], .vars 3 [.int .i64 (↑21 : Int)], .vars 4 [.bool true]],
 ACalls Tryz.prog 114 [.int .i64 5, .ptr 0 0, .ptr 1 0, .ptr 2 0] [.vars 27 [.lst 1 (List.map byN (packB (layQ l)))], .vars 3 [.int .i64 (↑21 : Int)], .vars 4 [.bool true]] (.int .u64 (↑(Int.toNat l.seq) : Int)) [.vars 27 [.lst 1 (List.map byN (packB (layQ l)))], .vars 3 [.int .i64 (↑26 : Int)], .vars 4 [.bool true]],
 IntKind.i64.wrap (↑(Int.toNat l.seq) : Int) = l.seq,
 ACalls Tryz.prog 114 [.int .i64 2, .ptr 0 0, .ptr 1 0, .ptr 2 0] [.vars 27 [.lst 1 (List.map byN (packB (layQ l)))], .vars 3 [.int .i64 (↑26 : Int)], .vars 4 [.bool true]] (.int .u64 (↑(List.length l.segs - 1) : Int)) [.vars 27 [.lst 1 (List.map byN (packB (layQ l)))], .vars 3 [.int .i64 (↑28 : Int)], .vars 4 [.bool true]],
 ALoop Tryz.prog 0 95 (loopB Tryz.f67 0) { env := [(8, .int .u64 (↑(List.length l.segs - 1) : Int)), (7, .ptr 4 0), (6, .fn 114 [.ptr 0 0, .ptr 2 0, .ptr 3 0]), (5, .ptr 3 0), (3, .int .i64 0), (2, .ptr 1 0), (1, .ptr 0 0)], objs := [.vars 27 [.lst 1 (List.map byN (packB (layQ l)))], .vars 25 [.int .u64 0, .nils, .int .i64 0], .vars 3 [.int .i64 (↑28 : Int)], .vars 4 [.bool true], .vars 25 [.int .u64 l.epoch, .row 5 2 0, .int .i64 l.seq], .row 82 2 []] } (Ex.exit 0) { env := [(8, .int .u64 (↑(List.length l.segs - 1) : Int)), (7, .ptr 4 0), (6, .fn 114 [.ptr 0 0, .ptr 2 0, .ptr 3 0]), (5, .ptr 3 0), (3, .int .i64 0), (2, .ptr 1 0), (1, .ptr 0 0)], objs := [.vars 27 [.lst 1 (List.map byN (packB (layQ l)))], .vars 25 [.int .u64 0, .nils, .int .i64 0], .vars 3 [.int .i64 (↑(28 + wid (List.flatMap sgN l.segs)) : Int)], .vars 4 [.bool true], .vars 25 [.int .u64 l.epoch, .row 5 2 (List.length l.segs), .int .i64 l.seq], .row 82 2 (List.map encS l.segs)] },
 ACalls Tryz.prog 66 [(encL l)] [] (.tup [.row 0 1 (List.length (bytL l)), .int .i64 0]) [.row 5 1 (List.map byN (bytL l))],
 true = true,
 ((0 : Int) != (0 : Int)) = false,
 ACalls Tryz.prog 94 [.lst 1 (List.map byN (bytL l)), .lst 1 (List.map byN (packB (layQ l)))] [] (.bool true) []]) (by kernel_rfl) (by first | exact rfl | exact ⟨rfl, rfl⟩ | (simp [decC, decS, decL, decA, envL]; done) | (first | exact o1 | (simp; omega))) ⟨?q31_1, ?q31_2, ?z0, ?q31_3, ?q31_4, ?q31_5, ?z1, ?z2, ?q31_6, trivial⟩
  case z0|z1|z2 => first | exact rfl | (simp [decC, decS, decL, decA, envL] <;> omega) | omega | (first | exact o1 | (simp; omega))
  · exact g1
  · exact g2
  · exact g3
  · exact g4
  · exact e
  · exact q
end Go.Proofs.YtidgcfgkcidkiaaGreat.Ch
