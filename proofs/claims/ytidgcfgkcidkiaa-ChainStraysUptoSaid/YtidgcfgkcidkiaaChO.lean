/- Layouts: an address's segment and chain: by runs along paths. -/
import Derived.Test.YtidgcfgkcidkiaaChN
import Derived.Test.YtidgcfgkcidkiaaChD
namespace Go.Proofs.Ytidgcfgkcidkiaa.Ch
open Go Go.RowKit Go.Proofs.Ytidgcfgkcidkiaa.L Go.Proofs.Ytidgcfgkcidkiaa.X
set_option linter.unusedVariables false
set_option linter.unusedSimpArgs false

def segIx (l : List SegD) (a : Int) : Nat → Nat
  | 0 => 0
  | n + 1 => match l[n + 1]? with | some s => if s.at_ ≤ a then n + 1 else segIx l a n | none => 0
theorem segIx_spec {l : List SegD} {a : Int} (hf : firstB l = true) (ha : 0 ≤ a) : ∀ k, k < l.length → ∃ s, l[segIx l a k]? = some s ∧ s.at_ ≤ a
  | 0, h => by
    cases l with
    | nil => cases hf
    | cons s r => exact ⟨s, rfl, by simp [firstB] at hf; omega⟩
  | n + 1, h => by
    obtain ⟨s, hx⟩ := get_of h
    unfold segIx
    rw [hx]
    dsimp only
    split
    · rename_i h1; exact ⟨s, hx, h1⟩
    · exact segIx_spec hf ha n (by omega)
theorem seg_loop (l : LayD) (a : Int) (hf : firstB l.segs = true) (ha : 0 ≤ a) (hb : l.segs.length ≤ 1000000000000) : ∀ k, k < l.segs.length →
    ALoop Try.prog 0 Try.f51.ntmps (loopB Try.f51 0) ⟨[(5, .int .i64 k), (2, .ptr 0 0), (1, .int .u64 a)], [.vars 25 (celL l)]⟩ (.exit 0) ⟨[(5, .int .i64 (segIx l.segs a k))], []⟩
  | 0, h => by
    obtain ⟨s, hx, h1⟩ := segIx_spec hf ha 0 h
    rw [show segIx l.segs a 0 = 0 from rfl] at hx ⊢
    refine aloopK mixed [0, 1, 2, 4, 5, 12, 24] 1000 ([.go, .ix 0, .el (encS s), .f]) [5] [] (S1 := { env := [(5, AV.int IntKind.i64 (↑0 : Int))], objs := [] }) (ob := [nat_lit 0 < List.length (List.map encS (LayD.segs l)),
      (↑(0 : Nat) : Int) = (↑(nat_lit 0) : Int),
      (List.map encS (LayD.segs l))[nat_lit 0]? = some (AV.agg [AV.int IntKind.u64 (SegD.at_ s), AV.lst (nat_lit 1) (List.map encU (SegD.chains s))]),
      decide (SegD.at_ s > a) = false]) (by kernel_rfl) (by first | exact rfl | exact ⟨rfl, rfl⟩ | (simp [hx, encS]; done)) ⟨(by first | exact rfl | (simp [hx, encS]; done) | (simp [hx, encS]; omega) | omega), (by first | exact rfl | (simp [hx, encS]; done) | (simp [hx, encS]; omega) | omega), (by first | exact rfl | (simp [hx, encS]; done) | (simp [hx, encS]; omega) | omega), (by first | exact rfl | (simp [hx, encS]; done) | (simp [hx, encS]; omega) | omega), trivial⟩
  | k + 1, h => by
    obtain ⟨s, hx⟩ := get_of h
    by_cases h1 : s.at_ ≤ a
    · rw [show segIx l.segs a (k + 1) = k + 1 by simp [segIx, hx, h1]]
      refine aloopK mixed [0, 1, 2, 4, 5, 12, 24] 1000 ([.go, .ix (k + 1), .el (encS s), .f]) [5] [] (S1 := { env := [(5, AV.int IntKind.i64 (↑(k + 1) : Int))], objs := [] }) (ob := [k + (1 : Nat) < List.length (List.map encS (LayD.segs l)),
      (↑(k + (1 : Nat)) : Int) = (↑(k + (1 : Nat)) : Int),
      (List.map encS (LayD.segs l))[k + (1 : Nat)]? = some (AV.agg [AV.int IntKind.u64 (SegD.at_ s), AV.lst (nat_lit 1) (List.map encU (SegD.chains s))]),
      decide (SegD.at_ s > a) = false]) (by kernel_rfl) (by first | exact rfl | exact ⟨rfl, rfl⟩ | (simp [hx, encS]; done) | (omega)) ⟨(by first | exact rfl | (simp [hx, encS]; done) | (simp [hx, encS]; omega) | omega | (omega)), (by first | exact rfl | (simp [hx, encS]; done) | (simp [hx, encS]; omega) | omega | (omega)), (by first | exact rfl | (simp [hx, encS]; done) | (simp [hx, encS]; omega) | omega | (omega)), (by first | exact rfl | (simp [hx, encS]; done) | (simp [hx, encS]; omega) | omega | (omega)), trivial⟩
    · rw [show segIx l.segs a (k + 1) = segIx l.segs a k by simp [segIx, hx, h1]]
      have ih := seg_loop l a hf ha hb k (by omega)
      have hw : IntKind.wrap .i64 (((k + 1 : Nat) : Int) - 1) = (k : Int) := by
        have : (k : Int) ≤ 1000000000000 := by omega
        simp [IntKind.wrap, IntKind.bits, IntKind.signed]; omega
      refine aloopK mixed [0, 1, 2, 4, 5, 12, 24] 1000 ([.go, .ix (k + 1), .el (encS s), .t, .n (k : Int), .lp [5, 2, 1] [0] (.exit 0) ⟨[(5, .int .i64 (segIx l.segs a k))], []⟩]) [5] [] (S1 := { env := [(5, AV.int IntKind.i64 (↑(segIx (LayD.segs l) a k) : Int))], objs := [] }) (ob := [k + (1 : Nat) < List.length (List.map encS (LayD.segs l)),
      (↑(k + (1 : Nat)) : Int) = (↑(k + (1 : Nat)) : Int),
      (List.map encS (LayD.segs l))[k + (1 : Nat)]? = some (AV.agg [AV.int IntKind.u64 (SegD.at_ s), AV.lst (nat_lit 1) (List.map encU (SegD.chains s))]),
      decide (SegD.at_ s > a) = true,
      IntKind.wrap IntKind.i64 ((↑(k + (1 : Nat)) : Int) - (1 : Int)) = (↑k : Int),
      ALoop Try.prog 0 28 (loopB Try.f51 0) { env := [(5, AV.int IntKind.i64 (↑k : Int)), (2, AV.ptr 0 0), (1, AV.int IntKind.u64 a)], objs := [Obj.vars 25 [AV.int IntKind.u64 (LayD.epoch l), AV.lst 2 (List.map encS (LayD.segs l)), AV.int IntKind.i64 (LayD.seq l)]] } (Ex.exit 0) { env := [(5, AV.int IntKind.i64 (↑(segIx (LayD.segs l) a k) : Int))], objs := [] }]) (by kernel_rfl) (by first | exact rfl | exact ⟨rfl, rfl⟩ | (simp [hx, encS]; done) | (first | exact hw | omega)) ⟨(by first | exact rfl | (simp [hx, encS]; done) | (simp [hx, encS]; omega) | omega | (first | exact hw | omega)), (by first | exact rfl | (simp [hx, encS]; done) | (simp [hx, encS]; omega) | omega | (first | exact hw | omega)), (by first | exact rfl | (simp [hx, encS]; done) | (simp [hx, encS]; omega) | omega | (first | exact hw | omega)), (by first | exact rfl | (simp [hx, encS]; done) | (simp [hx, encS]; omega) | omega | (first | exact hw | omega)), (by first | exact rfl | (simp [hx, encS]; done) | (simp [hx, encS]; omega) | omega | (first | exact hw | omega)), ?q40_1, trivial⟩
      exact ih
theorem seg_no (l : LayD) (a : Int) (hs : ∀ s ∈ l.segs, s.ok) (hb : l.segs.length ≤ 1000000000000) (h : rightL l = false ∨ 1048576 ≤ a) : ACalls Try.prog 51 [encL l, .int .u64 a] [] (.int .i64 (-1)) [] := by
  have c1 := rightL_ac l hs hb
  cases h1 : rightL l with
  | false =>
    rw [h1] at c1
    refine acallsK mixed Try.func51 rfl [0, 1, 2, 4, 5, 12, 24] 1000 ([.call [] false true (.bool false) []]) [] [] (v1 := AV.int IntKind.i64 (-1)) (objs1 := []) (ob := [ACalls Try.prog 14 [AV.agg [AV.int IntKind.u64 (LayD.epoch l), AV.lst 2 (List.map encS (LayD.segs l)), AV.int IntKind.i64 (LayD.seq l)]] [] (AV.bool false) []]) (by kernel_rfl) (by first | exact rfl | exact ⟨rfl, rfl⟩ | (simp [encL]; done)) ⟨?q47_1, trivial⟩
    exact c1
  | true =>
    rw [h1] at c1
    have h2 : 1048576 ≤ a := by rcases h with h | h; · rw [h1] at h; cases h
                                · exact h
    refine acallsK mixed Try.func51 rfl [0, 1, 2, 4, 5, 12, 24] 1000 ([.call [] false true (.bool true) [], .t]) [] [] (v1 := AV.int IntKind.i64 (-1)) (objs1 := []) (ob := [ACalls Try.prog 14 [AV.agg [AV.int IntKind.u64 (LayD.epoch l), AV.lst 2 (List.map encS (LayD.segs l)), AV.int IntKind.i64 (LayD.seq l)]] [] (AV.bool true) [],
      decide (a ≥ (1048576 : Int)) = true]) (by kernel_rfl) (by first | exact rfl | exact ⟨rfl, rfl⟩ | (simp [encL]; done)) ⟨?q53_1, (by first | exact rfl | (simp [encL]; done) | (simp [encL]; omega) | omega), trivial⟩
    exact c1
theorem rightL_first {l : LayD} (h : rightL l = true) : firstB l.segs = true ∧ 0 < l.segs.length ∧ l.segs.length ≤ 4 := by
  simp [rightL, lenB] at h
  exact ⟨h.2.2.2.2.1, h.2.2.2.1.1, by omega⟩
theorem seg_yes (l : LayD) (a : Int) (hs : ∀ s ∈ l.segs, s.ok) (hb : l.segs.length ≤ 1000000000000) (h : rightL l = true) (ha : 0 ≤ a) (h2 : a < 1048576) : ACalls Try.prog 51 [encL l, .int .u64 a] [] (.int .i64 (segIx l.segs a (l.segs.length - 1))) [] := by
  have c1 := rightL_ac l hs hb
  rw [h] at c1
  obtain ⟨f1, f2, f3⟩ := rightL_first h
  have c2 := seg_loop l a f1 ha hb (l.segs.length - 1) (by omega)
  have hw : IntKind.wrap .i64 ((l.segs.length : Int) - 1) = ((l.segs.length - 1 : Nat) : Int) := by
    rw [show ((l.segs.length : Int) - 1) = ((l.segs.length - 1 : Nat) : Int) by omega]
    have : ((l.segs.length - 1 : Nat) : Int) ≤ 1000000000000 := by omega
    have : 0 ≤ ((l.segs.length - 1 : Nat) : Int) := by omega
    generalize ((l.segs.length - 1 : Nat) : Int) = q at *
    simp [IntKind.wrap, IntKind.bits, IntKind.signed]; omega
  refine acallsK mixed Try.func51 rfl [0, 1, 2, 4, 5, 12, 24] 1000 ([.call [] false true (.bool true) [], .f, .n l.segs.length, .n ((l.segs.length - 1 : Nat) : Int), .lp [5, 2, 1] [0] (.exit 0) ⟨[(5, .int .i64 (segIx l.segs a (l.segs.length - 1)))], []⟩]) [] [] (v1 := AV.int IntKind.i64 (↑(segIx (LayD.segs l) a (List.length (LayD.segs l) - 1)) : Int)) (objs1 := []) (ob := [ACalls Try.prog 14 [AV.agg [AV.int IntKind.u64 (LayD.epoch l), AV.lst 2 (List.map encS (LayD.segs l)), AV.int IntKind.i64 (LayD.seq l)]] [] (AV.bool true) [],
      decide (a ≥ (1048576 : Int)) = false,
      (↑(List.length (List.map encS (LayD.segs l))) : Int) = (↑(List.length (LayD.segs l)) : Int),
      IntKind.wrap IntKind.i64 ((↑(List.length (LayD.segs l)) : Int) - (1 : Int)) = (↑(List.length (LayD.segs l) - (1 : Nat)) : Int),
      ALoop Try.prog 0 28 (loopB Try.f51 0) { env := [(5, AV.int IntKind.i64 (↑(List.length (LayD.segs l) - 1) : Int)), (2, AV.ptr 0 0), (1, AV.int IntKind.u64 a)], objs := [Obj.vars 25 [AV.int IntKind.u64 (LayD.epoch l), AV.lst 2 (List.map encS (LayD.segs l)), AV.int IntKind.i64 (LayD.seq l)]] } (Ex.exit 0) { env := [(5, AV.int IntKind.i64 (↑(segIx (LayD.segs l) a (List.length (LayD.segs l) - 1)) : Int))], objs := [] }]) (by kernel_rfl) (by first | exact rfl | exact ⟨rfl, rfl⟩ | (simp [encL, h2]; done) | (first | omega | exact hw)) ⟨?q69_1, (by first | exact rfl | (simp [encL, h2]; done) | (simp [encL, h2]; omega) | omega | (first | omega | exact hw)), (by first | exact rfl | (simp [encL, h2]; done) | (simp [encL, h2]; omega) | omega | (first | omega | exact hw)), (by first | exact rfl | (simp [encL, h2]; done) | (simp [encL, h2]; omega) | omega | (first | omega | exact hw)), ?q69_2, trivial⟩
  · exact c1
  · exact c2
theorem chain_no (l : LayD) (a : Int) (hs : ∀ s ∈ l.segs, s.ok) (hb : l.segs.length ≤ 1000000000000) (h : rightL l = false ∨ 1048576 ≤ a) : ACalls Try.prog 22 [encL l, .int .u64 a] [] .nils [] := by
  have c1 := seg_no l a hs hb h
  refine acallsK mixed Try.func22 rfl [0, 1, 2, 4, 5, 6, 11] 1000 ([.call [] false true (.int .i64 (-1)) [], .t]) [] [] (v1 := AV.nils) (objs1 := []) (ob := [ACalls Try.prog 51 [AV.agg [AV.int IntKind.u64 (LayD.epoch l), AV.lst 2 (List.map encS (LayD.segs l)), AV.int IntKind.i64 (LayD.seq l)], AV.int IntKind.u64 a] [] (AV.int IntKind.i64 (-1)) [],
      decide ((-1 : Int) < (0 : Int)) = true]) (by kernel_rfl) (by first | exact rfl | exact ⟨rfl, rfl⟩ | (simp [encL]; done)) ⟨?q74_1, (by first | exact rfl | (simp [encL]; done) | (simp [encL]; omega) | omega), trivial⟩
  exact c1

theorem restB_mem : ∀ (l : List SegD) (p : Option Int) (h : restB p l = true), ∀ s ∈ l, fineB s = true
  | [], _, _, s, hs => by cases hs
  | x :: r, p, h, s, hs => by
    have h1 : fineB x = true ∧ restB (some x.at_) r = true := by
      cases p <;> simp [restB] at h
      · exact h
      · exact ⟨h.1, h.2.2⟩
    rcases List.mem_cons.1 hs with rfl | hs
    · exact h1.1
    · exact restB_mem r _ h1.2 s hs
/-- What is known of a chain. -/
structure Units (u : List Int) : Prop where
  pos : 0 < u.length
  most : u.length ≤ 4
  all : ∀ x ∈ u, 0 ≤ x ∧ x < 32
theorem fine_chain {s : SegD} {u : List Int} (h : fineB s = true) (hu : u ∈ s.chains) : Units u := by
  simp only [fineB, Bool.and_eq_true, Bool.not_eq_true'] at h
  obtain ⟨_, _, h3, h4, _⟩ := h
  have h5 : longB u = false := by
    cases hl : longB u with
    | false => rfl
    | true => rw [← h3]; symm; exact List.any_eq_true.2 ⟨u, hu, hl⟩
  simp [longB, lenB] at h5
  refine ⟨h5.1, by omega, fun x hx => ?_⟩
  have hm : x ∈ sortL (catL s.chains) := by
    unfold sortL
    rw [List.mem_mergeSort]
    exact List.mem_flatten.2 ⟨u, hu, hx⟩
  have : outB x = false := by
    cases hl : outB x with
    | false => rfl
    | true => rw [← h4]; symm; exact List.any_eq_true.2 ⟨x, hm, hl⟩
  simp [outB, inB] at this
  exact this
theorem fine_len {s : SegD} (h : fineB s = true) : 0 < s.chains.length ∧ s.chains.length ≤ 4 ∧ s.at_ < 1048576 := by
  simp [fineB, lenB] at h
  omega
def chainS (s : SegD) (a : Int) : Option (List Int) := s.chains[(a - s.at_).toNat % s.chains.length]?
def chainL (l : LayD) (a : Int) : Option (List Int) := (l.segs[segIx l.segs a (l.segs.length - 1)]?).bind (chainS · a)
theorem chain_yes (l : LayD) (a : Int) (hs : ∀ s ∈ l.segs, s.ok ∧ 0 ≤ s.at_) (hb : l.segs.length ≤ 1000000000000) (h : rightL l = true) (ha : 0 ≤ a) (h2 : a < 1048576) :
    ∃ u, chainL l a = some u ∧ Units u ∧ ACalls Try.prog 22 [encL l, .int .u64 a] [] (.row 0 1 u.length) [.row 3 1 (u.map intA)] := by
  have c1 := seg_yes l a (fun s h => (hs s h).1) hb h ha h2
  obtain ⟨f1, f2, f3⟩ := rightL_first h
  obtain ⟨s, hx, hle⟩ := segIx_spec f1 ha (l.segs.length - 1) (by omega)
  have hsm := List.mem_of_getElem? hx
  have hfine : fineB s = true := by
    simp only [rightL, Bool.and_eq_true] at h
    exact restB_mem _ _ h.2.2.2.2.2 s hsm
  obtain ⟨g1, g2, g3⟩ := fine_len hfine
  have h0 := (hs s hsm).2
  have hlt : (a - s.at_).toNat % s.chains.length < s.chains.length := Nat.mod_lt _ g1
  obtain ⟨u, hy⟩ := get_of hlt
  have hum := List.mem_of_getElem? hy
  have hU := fine_chain hfine hum
  have c2 := clone_int_ac u (by have := hU.most; omega)
  refine ⟨u, by simp [chainL, hx, chainS, hy], hU, ?_⟩
  have hi := segIx l.segs a (l.segs.length - 1)
  generalize segIx l.segs a (l.segs.length - 1) = k at c1 hx
  have hk : k < l.segs.length := (List.getElem?_eq_some_iff.1 hx).1
  have w1 : IntKind.wrap .u64 (a - s.at_) = a - s.at_ := by simp [IntKind.wrap, IntKind.bits, IntKind.signed]; omega
  have w2 : IntKind.wrap .u64 (s.chains.length : Int) = (s.chains.length : Int) := by
    have : (s.chains.length : Int) ≤ 4 := by omega
    have : 0 ≤ (s.chains.length : Int) := by omega
    simp [IntKind.wrap, IntKind.bits, IntKind.signed]; omega
  have w3 : (a - s.at_).tmod (s.chains.length : Int) = (((a - s.at_).toNat % s.chains.length : Nat) : Int) := by
    obtain ⟨d, hd⟩ : ∃ d : Nat, a - s.at_ = d := ⟨(a - s.at_).toNat, by omega⟩
    rw [hd, Int.toNat_natCast, Int.ofNat_tmod]
  have w4 : (s.chains.length : Int) ≠ 0 := by omega
  refine acallsK mixed Try.func22 rfl [0, 1, 2, 4, 5, 6, 11] 1000 ([.call [] false true (.int .i64 k) [], .f, .ix k, .el (encS s), .n (a - s.at_), .n s.chains.length, .n s.chains.length, .n ((((a - s.at_).toNat % s.chains.length : Nat)) : Int), .ix ((a - s.at_).toNat % s.chains.length), .el (encU u), .call [] false false (.row 0 1 u.length) [.row 3 1 (u.map intA)]]) [] [2] (v1 := AV.row 0 1 (List.length u)) (objs1 := [Obj.row 3 1 (List.map intA u)]) (ob := [ACalls Try.prog 51 [AV.agg [AV.int IntKind.u64 (LayD.epoch l), AV.lst 2 (List.map encS (LayD.segs l)), AV.int IntKind.i64 (LayD.seq l)], AV.int IntKind.u64 a] [] (AV.int IntKind.i64 (↑k : Int)) [],
      decide ((↑k : Int) < (0 : Int)) = false,
      k < List.length (List.map encS (LayD.segs l)),
      (↑k : Int) = (↑k : Int),
      (List.map encS (LayD.segs l))[k]? = some (AV.agg [AV.int IntKind.u64 (SegD.at_ s), AV.lst (nat_lit 1) (List.map encU (SegD.chains s))]),
      IntKind.wrap IntKind.u64 (a - SegD.at_ s) = a - SegD.at_ s,
      (↑(List.length (List.map encU (SegD.chains s))) : Int) = (↑(List.length (SegD.chains s)) : Int),
      IntKind.wrap IntKind.u64 (↑(List.length (SegD.chains s)) : Int) = (↑(List.length (SegD.chains s)) : Int),
      (↑(List.length (SegD.chains s)) : Int) ≠ (0 : Int),
      Int.tmod (a - SegD.at_ s) (↑(List.length (SegD.chains s)) : Int) = (↑(Int.toNat (a - SegD.at_ s) % List.length (SegD.chains s)) : Int),
      Int.toNat (a - SegD.at_ s) % List.length (SegD.chains s) < List.length (List.map encU (SegD.chains s)),
      (↑(Int.toNat (a - SegD.at_ s) % List.length (SegD.chains s)) : Int) = (↑(Int.toNat (a - SegD.at_ s) % List.length (SegD.chains s)) : Int),
      (List.map encU (SegD.chains s))[Int.toNat (a - SegD.at_ s) % List.length (SegD.chains s)]? = some (AV.lst (nat_lit 1) (List.map intA u)),
      ACalls Try.prog 44 [AV.lst 1 (List.map intA u)] [] (AV.row 0 1 (List.length u)) [Obj.row 3 1 (List.map intA u)]]) (by kernel_rfl) (by first | exact rfl | exact ⟨rfl, rfl⟩ | (simp [encL, hx, hy, encS, encU]; done) | (first | exact w1 | exact w2 | exact w3 | exact w4 | exact hlt | omega)) ⟨?q145_1, (by first | exact rfl | (simp [encL, hx, hy, encS, encU]; done) | (simp [encL, hx, hy, encS, encU]; omega) | omega | (first | exact w1 | exact w2 | exact w3 | exact w4 | exact hlt | omega)), (by first | exact rfl | (simp [encL, hx, hy, encS, encU]; done) | (simp [encL, hx, hy, encS, encU]; omega) | omega | (first | exact w1 | exact w2 | exact w3 | exact w4 | exact hlt | omega)), (by first | exact rfl | (simp [encL, hx, hy, encS, encU]; done) | (simp [encL, hx, hy, encS, encU]; omega) | omega | (first | exact w1 | exact w2 | exact w3 | exact w4 | exact hlt | omega)), (by first | exact rfl | (simp [encL, hx, hy, encS, encU]; done) | (simp [encL, hx, hy, encS, encU]; omega) | omega | (first | exact w1 | exact w2 | exact w3 | exact w4 | exact hlt | omega)), (by first | exact rfl | (simp [encL, hx, hy, encS, encU]; done) | (simp [encL, hx, hy, encS, encU]; omega) | omega | (first | exact w1 | exact w2 | exact w3 | exact w4 | exact hlt | omega)), (by first | exact rfl | (simp [encL, hx, hy, encS, encU]; done) | (simp [encL, hx, hy, encS, encU]; omega) | omega | (first | exact w1 | exact w2 | exact w3 | exact w4 | exact hlt | omega)), (by first | exact rfl | (simp [encL, hx, hy, encS, encU]; done) | (simp [encL, hx, hy, encS, encU]; omega) | omega | (first | exact w1 | exact w2 | exact w3 | exact w4 | exact hlt | omega)), (by first | exact rfl | (simp [encL, hx, hy, encS, encU]; done) | (simp [encL, hx, hy, encS, encU]; omega) | omega | (first | exact w1 | exact w2 | exact w3 | exact w4 | exact hlt | omega)), (by first | exact rfl | (simp [encL, hx, hy, encS, encU]; done) | (simp [encL, hx, hy, encS, encU]; omega) | omega | (first | exact w1 | exact w2 | exact w3 | exact w4 | exact hlt | omega)), (by first | exact rfl | (simp [encL, hx, hy, encS, encU]; done) | (simp [encL, hx, hy, encS, encU]; omega) | omega | (first | exact w1 | exact w2 | exact w3 | exact w4 | exact hlt | omega)), (by first | exact rfl | (simp [encL, hx, hy, encS, encU]; done) | (simp [encL, hx, hy, encS, encU]; omega) | omega | (first | exact w1 | exact w2 | exact w3 | exact w4 | exact hlt | omega)), (by first | exact rfl | (simp [encL, hx, hy, encS, encU]; done) | (simp [encL, hx, hy, encS, encU]; omega) | omega | (first | exact w1 | exact w2 | exact w3 | exact w4 | exact hlt | omega)), ?q145_2, trivial⟩
  · exact c1
  · exact c2
end Go.Proofs.Ytidgcfgkcidkiaa.Ch
