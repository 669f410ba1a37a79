/- Texts of one proof, laid together: Dv, Ea, Ec, Ed, Ee, Ef, Eg, Eh, Ei, Ej, Ek, El, Em, En, Eo, Ep, Fa, Fb. -/
import Derived.Test.YtidgcfgkcidkiaaGreatS06
import Derived.Test.YtidgcfgkcidkiaaGreatProg
import Derived.Shelf.Strconv.Itoa0
namespace Go.Proofs.YtidgcfgkcidkiaaGreat.Ch
open Go Go.RowKit Go.Proofs.YtidgcfgkcidkiaaGreat.L Go.Proofs.YtidgcfgkcidkiaaGreat.X
set_option linter.unusedVariables false
set_option linter.unusedSimpArgs false
theorem slice_all {α : Type} {R : Rep α} {A : Nat → Prop} {w : World} {v : Value} {l : List α} (h : SliceK R A w v l) : ∀ x ∈ l, ∃ cs, R.K A w cs x := by
  obtain ⟨ad, c, rfl, h1, h2, h3⟩ := h
  intro x hx
  rcases h3 with rfl | ⟨b, pre, live, rest, T, fz, rfl, _, hb, hc⟩
  · cases hx
  · obtain ⟨i, hi⟩ := List.mem_iff_getElem?.1 hx
    obtain ⟨cs, k1, _⟩ := hc.get hi
    exact ⟨cs, k1⟩
theorem wt_catL (l : List (List Int)) : (catL l).length + l.length + 1 ≤ wtL (wtL fun _ => 1) l := by
  unfold catL wtL
  induction l with
  | nil => simp
  | cons x l ih =>
    have hx : (x.map fun _ => 1).sum = x.length := by
      clear ih
      induction x with
      | nil => rfl
      | cons y x ih => simp only [List.map_cons, List.sum_cons, ih, List.length_cons]; omega
    simp only [List.flatten_cons, List.length_append, List.map_cons, List.sum_cons, List.length_cons, hx]
    omega
theorem lay_read {A : Nat → Prop} {w : World} {cs : List Value} {l : LayD} (h : LayO.K A w cs l) (hb : wtY l ≤ 1048576) : l.ok ∧ (∀ s ∈ l.segs, s.chains.length ≤ 1000000000) := by
  obtain ⟨c1, c2, _, _, c3, c4, _, ⟨v, _, hs⟩, _⟩ := h
  have h1 : ∀ x : SegD, 1 ≤ wtS x := fun x => by unfold wtS wtL; omega
  have key : ∀ s ∈ l.segs, (catL s.chains).length + s.chains.length ≤ 1048576 := by
    intro s hm
    have h2 := wtL_mem (wt := wtS) hm
    have h3 := wt_catL s.chains
    have h4 : wtS s = wtL (wtL fun _ => 1) s.chains := rfl
    unfold wtY at hb
    omega
  refine ⟨⟨fun s hm => ⟨?_, ?_⟩, ?_⟩, fun s hm => ?_⟩
  · have := key s hm
    exact ⟨by omega, by omega⟩
  · obtain ⟨cs, c1, c2, _, ⟨_, hk⟩, _⟩ := slice_all hs s hm
    exact hk.u64.1
  · have := wtL_len h1 l.segs
    unfold wtY at hb
    omega
  · have := key s hm
    omega
theorem cell_read {A : Nat → Prop} {w : World} {cs : List Value} {c : CellD} (h : CellO.K A w cs c) (hb : wtC c ≤ 1048576) : c.ok := by
  obtain ⟨c1, c2, _, _, c3, c4, _, ⟨v, _, hd⟩, _⟩ := h
  have h1 := wtL_len (wt := fun _ => 1) (fun _ => Nat.le_refl 1) c.data
  have h2 := wtL_len (wt := fun _ => 1) (fun _ => Nat.le_refl 1) c.backs
  unfold wtC at hb
  refine ⟨fun n hn => ?_, by omega, by omega⟩
  obtain ⟨cs, _, hk⟩ := slice_all hd n hn
  have := hk.u8
  omega
theorem msg_read {A : Nat → Prop} {w : World} {cs : List Value} {m : MsgD} (h : MsgO.K A w cs m) (hb : wtM m ≤ 1048576) : m.ok ∧ (∀ s ∈ m.lay.segs, s.chains.length ≤ 1000000000) := by
  obtain ⟨_, _, _, _, _, _, _, _, _, _, _, _, _, _, _, _, _, _, _, _, _, _, _, _, _, _, _, _, _, _, _, _, _, _, _, hc, _, _, _, _, _, _, _, _, _, _, _, _, _, _, _, _, hl⟩ := h
  have h1 := wtL_len (wt := fun _ => 1) (fun _ => Nat.le_refl 1) m.streams
  have h2 := wtL_len (wt := fun _ => 1) (fun _ => Nat.le_refl 1) m.backs
  unfold wtM at hb
  obtain ⟨l1, l2⟩ := lay_read (l := m.lay) hl (by omega)
  exact ⟨⟨cell_read (c := m.cell) hc (by omega), by omega, by omega, ⟨fun s hs => (l1.1 s hs).1, l1.2⟩⟩, l2⟩
def ActO : Rep ActD := iso (pair (num .i64) (pair (num .i64) (pair MsgO boolR))) fun x => (x.kind, x.n, x.m, x.own)
theorem reads_act : Reads ActO encAct := reads_of (reads_iso _ (reads_pair (reads_num .i64) (reads_pair (reads_num .i64) (reads_pair reads_msg reads_bool)))) fun _ => rfl
def wtA (x : ActD) : Nat := wtM x.m
theorem acts_lst {A : Nat → Prop} {w : World} {v : Value} {l : List ActD} (h : SliceK ActO A w v l) : VR (ctx0 w) (.lst 25 (l.map encAct)) v := .pure (reads_slice (R := ActO) (by decide) reads_act h)
end Go.Proofs.YtidgcfgkcidkiaaGreat.Ch
namespace Go.Proofs.YtidgcfgkcidkiaaGreat.Ch
open Go Go.RowKit Go.Proofs.YtidgcfgkcidkiaaGreat.L Go.Proofs.YtidgcfgkcidkiaaGreat.X
set_option linter.unusedVariables false
set_option linter.unusedSimpArgs false
end Go.Proofs.YtidgcfgkcidkiaaGreat.Ch
namespace Go.Proofs.YtidgcfgkcidkiaaGreat.Ch
open Go Go.RowKit Go.Proofs.YtidgcfgkcidkiaaGreat.L Go.Proofs.YtidgcfgkcidkiaaGreat.X
set_option linter.unusedVariables false
set_option linter.unusedSimpArgs false
end Go.Proofs.YtidgcfgkcidkiaaGreat.Ch
namespace Go.Proofs.YtidgcfgkcidkiaaGreat.Ch
open Go Go.RowKit Go.Proofs.YtidgcfgkcidkiaaGreat.L Go.Proofs.YtidgcfgkcidkiaaGreat.X
set_option linter.unusedVariables false
set_option linter.unusedSimpArgs false
def u64A (n : Int) : AV := .int .u64 n
def putO (ws vs : List Int) : List X.Obj := [.vars 46 [.row 2 1 ws.length], .vars 132 [.row 3 1 vs.length], .row 3 1 (ws.map intA), .row 22 1 (vs.map u64A)]
theorem put_first (w n : Int) : ACalls Tryz.prog 112 [.int .i64 w, .int .u64 n, .ptr 0 0, .ptr 1 0] [.vars 46 [.nils], .vars 132 [.nils]] (.tup []) (putO [w] [n]) := by
  refine acallsK mixed Tryz.func112 rfl [0, 1, 2, 3] 1000 ([.ls [intA w], .ls [u64A n]]) [0, 1] [0, 1, 3, 5] (ob := [(1 : Nat) * (8 : Nat) ≤ (140737488355328 : Nat),
 [AV.int IntKind.i64 w] = [AV.int IntKind.i64 w],
 (1 : Nat) * (8 : Nat) ≤ (140737488355328 : Nat),
 [AV.int IntKind.u64 n] = [AV.int IntKind.u64 n]]) (by kernel_rfl) ⟨rfl, rfl⟩ ⟨?z0, ?z1, ?z2, ?z3, trivial⟩
  case z0|z1|z2|z3 => first | exact rfl | (simp [putO, intA, u64A] <;> omega) | omega
theorem put_more (ws vs : List Int) (w n : Int) (h1 : ws.length ≤ 1000000) (h2 : vs.length ≤ 1000000) : ACalls Tryz.prog 112 [.int .i64 w, .int .u64 n, .ptr 0 0, .ptr 1 0] (putO ws vs) (.tup []) (putO (ws ++ [w]) (vs ++ [n])) := by
  have e1 : ws.map intA ++ [.int .i64 w] = (ws ++ [w]).map intA := by simp [intA]
  have e2 : vs.map u64A ++ [.int .u64 n] = (vs ++ [n]).map u64A := by simp [u64A]
  have s1 : ((ws.map intA).length + 1) * 8 ≤ 140737488355328 := by rw [List.length_map]; omega
  have s2 : ((vs.map u64A).length + 1) * 8 ≤ 140737488355328 := by rw [List.length_map]; omega
  refine acallsK mixed Tryz.func112 rfl [0, 1, 2, 3] 1000 ([.ls ((ws ++ [w]).map intA), .ls ((vs ++ [n]).map u64A)]) [0, 1, 2, 3] [0, 1, 5, 7] (v1 := .tup []) (objs1 := [.vars 46 [.row 2 1 (List.length (List.map intA (ws ++ [w])))], .vars 132 [.row 3 1 (List.length (List.map u64A (vs ++ [n])))], .row 3 1 (List.map intA (ws ++ [w])), .row 22 1 (List.map u64A (vs ++ [n]))]) (ob := [(List.length (List.map intA ws) + (1 : Nat)) * (8 : Nat) ≤ (140737488355328 : Nat),
 List.map intA ws ++ [.int .i64 w] = List.map intA (ws ++ [w]),
 (List.length (List.map u64A vs) + (1 : Nat)) * (8 : Nat) ≤ (140737488355328 : Nat),
 List.map u64A vs ++ [.int .u64 n] = List.map u64A (vs ++ [n])]) (by kernel_rfl) (by first | exact rfl | exact ⟨rfl, rfl⟩ | (simp [putO, intA, u64A]; done) | (first | exact e1 | exact e2 | exact s1 | exact s2 | omega)) ⟨?z0, ?z1, ?z2, ?z3, trivial⟩
  case z0|z1|z2|z3 => first | exact rfl | (simp [putO, intA, u64A] <;> omega) | omega | (first | exact e1 | exact e2 | exact s1 | exact s2 | omega)
def putP (ps : List (Int × Int)) : List X.Obj := putO (ps.map (·.1)) (ps.map (·.2))
theorem putP_more (ps : List (Int × Int)) (w n : Int) (h : ps.length ≤ 1000000) : ACalls Tryz.prog 112 [.int .i64 w, .int .u64 n, .ptr 0 0, .ptr 1 0] (putP ps) (.tup []) (putP (ps ++ [(w, n)])) := by
  have q := put_more (ps.map (·.1)) (ps.map (·.2)) w n (by rw [List.length_map]; exact h) (by rw [List.length_map]; exact h)
  have e : putP (ps ++ [(w, n)]) = putO (ps.map (·.1) ++ [w]) (ps.map (·.2) ++ [n]) := by simp [putP]
  rw [e]
  exact q
def chainP (c : List Int) : List (Int × Int) := (2, (c.length : Int) - 1) :: c.map (5, ·)
def segP (s : SegD) : List (Int × Int) := (20, s.at_) :: (2, (s.chains.length : Int) - 1) :: s.chains.flatMap chainP
theorem wu (x : Int) (h0 : 0 ≤ x) (h1 : x < 18446744073709551616) : IntKind.u64.wrap x = x := by simp [IntKind.wrap, IntKind.signed, IntKind.bits]; omega
theorem enc_units (l : LayD) (k0 : Nat) (s : SegD) (k1 : Nat) (c : List Int) (hc : ∀ x ∈ c, 0 ≤ x ∧ x < 32) (hcl : c.length ≤ 1000) : ∀ (n k : Nat) (ps : List (Int × Int)), c.length = k + n → ps.length + n ≤ 100000 →
    ALoop Tryz.prog 0 Tryz.f66.ntmps (loopB Tryz.f66 2) ⟨[(68, .int .i64 k), (67, .int .i64 c.length), (66, .lst 1 (c.map intA)), (56, .int .i64 k1), (55, .int .i64 s.chains.length), (54, .lst 1 (s.chains.map encU)), (38, .int .i64 k0), (37, .int .i64 l.segs.length), (36, .lst 2 (l.segs.map encS)), (6, .fn 112 [.ptr 0 0, .ptr 1 0]), (5, .ptr 1 0), (4, .ptr 0 0)], putP ps⟩ (.exit 4) ⟨[(56, .int .i64 k1), (55, .int .i64 s.chains.length), (54, .lst 1 (s.chains.map encU)), (38, .int .i64 k0), (37, .int .i64 l.segs.length), (36, .lst 2 (l.segs.map encS)), (6, .fn 112 [.ptr 0 0, .ptr 1 0]), (5, .ptr 1 0), (4, .ptr 0 0)], putP (ps ++ (c.drop k).map (5, ·))⟩
  | 0, k, ps, h, hp => by
    rw [List.drop_eq_nil_of_le (by omega), List.map_nil, List.append_nil]
    refine aloopK mixed [0, 1, 2, 3, 4, 5, 6, 8, 10, 12, 13, 17, 36, 37, 38, 39, 54, 55, 56, 57, 66, 67, 68, 69] 1000 ([.go, .f]) [56, 55, 54, 38, 37, 36, 6, 5, 4] [0, 1, 2, 3] (ob := [decide ((↑k : Int) < (c.length : Int)) = false]) (by kernel_rfl) rfl ⟨(by first | exact rfl | (simp [putP, putO]; done) | (simp [putP, putO]; omega) | omega), trivial⟩
  | n + 1, k, ps, h, hp => by
    obtain ⟨x, hx⟩ := get_of (l := c) (k := k) (by omega)
    have hx2 := hc x (List.mem_of_getElem? hx)
    have hk : k < c.length := by omega
    have hw : IntKind.i64.wrap ((k : Int) + 1) = ((k + 1 : Nat) : Int) := wrap64 (by omega)
    have hu := wu x hx2.1 (by omega)
    have ih := enc_units l k0 s k1 c hc hcl n (k + 1) (ps ++ [(5, x)]) (by omega) (by rw [List.length_append, List.length_cons, List.length_nil]; omega)
    have hg := idx_at hx
    rw [show ps ++ [(5, x)] ++ (c.drop (k + 1)).map (5, ·) = ps ++ (c.drop k).map (5, ·) by rw [drop_of hx]; simp] at ih
    refine aloopK mixed [0, 1, 2, 3, 4, 5, 6, 8, 10, 12, 13, 17, 36, 37, 38, 39, 54, 55, 56, 57, 66, 67, 68, 69] 1000 ([.go, .t, .ix k, .el (intA x), .n x, .call [0, 1, 2, 3] false false (.tup []) (putP (ps ++ [(5, x)])), .n ((k + 1 : Nat) : Int), .lp [68, 67, 66, 56, 55, 54, 38, 37, 36, 6, 5, 4] [0, 1, 6, 7] (.exit 4) ⟨[(56, .int .i64 k1), (55, .int .i64 s.chains.length), (54, .lst 1 (s.chains.map encU)), (38, .int .i64 k0), (37, .int .i64 l.segs.length), (36, .lst 2 (l.segs.map encS)), (6, .fn 112 [.ptr 0 0, .ptr 1 0]), (5, .ptr 1 0), (4, .ptr 0 0)], putP (ps ++ (c.drop k).map (5, ·))⟩]) [56, 55, 54, 38, 37, 36, 6, 5, 4] [0, 1, 2, 3] (ob := [decide ((↑k : Int) < (c.length : Int)) = true,
 k < List.length (List.map intA c),
 (↑k : Int) = (↑k : Int),
 (List.map intA c)[k]? = some (.int .i64 x),
 IntKind.wrap IntKind.u64 x = x,
 _,
 IntKind.i64.wrap ((↑k : Int) + (1 : Int)) = (↑(k + (1 : Nat)) : Int),
 _]) (by kernel_rfl) rfl ⟨?z0, ?z1, ?z2, ?z3, ?z4, (putP_more ps 5 x (by omega)), ?z5, ih, trivial⟩
    case z0|z1|z2|z3|z4|z5 => first | exact rfl | (simp [putP, putO, hx, intA] <;> omega) | omega | (first | exact hg | exact hu | exact hw | omega)
structure Ch4 (c : List Int) : Prop where
  p : 1 ≤ c.length
  m : c.length ≤ 4
  u : ∀ x ∈ c, 0 ≤ x ∧ x < 32
theorem chainP_len {c : List Int} (h : Ch4 c) : (chainP c).length ≤ 5 := by
  have := h.m
  simp [chainP]; omega
theorem enc_chains (l : LayD) (k0 : Nat) (s : SegD) (hs : ∀ c ∈ s.chains, Ch4 c) (hsl : s.chains.length ≤ 1000) : ∀ (n k : Nat) (ps : List (Int × Int)), s.chains.length = k + n → ps.length + 5 * n ≤ 100000 →
    ALoop Tryz.prog 0 Tryz.f66.ntmps (loopB Tryz.f66 1) ⟨[(56, .int .i64 k), (55, .int .i64 s.chains.length), (54, .lst 1 (s.chains.map encU)), (38, .int .i64 k0), (37, .int .i64 l.segs.length), (36, .lst 2 (l.segs.map encS)), (6, .fn 112 [.ptr 0 0, .ptr 1 0]), (5, .ptr 1 0), (4, .ptr 0 0)], putP ps⟩ (.exit 2) ⟨[(38, .int .i64 k0), (37, .int .i64 l.segs.length), (36, .lst 2 (l.segs.map encS)), (6, .fn 112 [.ptr 0 0, .ptr 1 0]), (5, .ptr 1 0), (4, .ptr 0 0)], putP (ps ++ (s.chains.drop k).flatMap chainP)⟩
  | 0, k, ps, h, hp => by
    rw [List.drop_eq_nil_of_le (by omega), List.flatMap_nil, List.append_nil]
    refine aloopK mixed [0, 1, 2, 3, 4, 5, 6, 8, 10, 12, 13, 17, 36, 37, 38, 39, 54, 55, 56, 57, 66, 67, 68, 69] 1000 ([.go, .f]) [38, 37, 36, 6, 5, 4] [0, 1, 2, 3] (ob := [decide ((↑k : Int) < (s.chains.length : Int)) = false]) (by kernel_rfl) rfl ⟨(by first | exact rfl | (simp [putP, putO]; done) | (simp [putP, putO]; omega) | omega), trivial⟩
  | n + 1, k, ps, h, hp => by
    obtain ⟨c, hx⟩ := get_of (l := s.chains) (k := k) (by omega)
    have hc := hs c (List.mem_of_getElem? hx)
    have h1 := hc.p
    have h2 := hc.m
    have hk : k < s.chains.length := by omega
    have hw : IntKind.i64.wrap ((k : Int) + 1) = ((k + 1 : Nat) : Int) := wrap64 (by omega)
    have hw1 : IntKind.i64.wrap ((c.length : Int) - 1) = (c.length : Int) - 1 := wrap_i (by omega) (by omega)
    have hu := wu ((c.length : Int) - 1) (by omega) (by omega)
    have hin := enc_units l k0 s k c hc.u (by omega) c.length 0 (ps ++ [(2, (c.length : Int) - 1)]) (by omega) (by rw [List.length_append, List.length_cons, List.length_nil]; omega)
    rw [List.drop_zero, show ps ++ [(2, (c.length : Int) - 1)] ++ c.map (5, ·) = ps ++ chainP c by simp [chainP]] at hin
    have hcl := chainP_len hc
    have ih := enc_chains l k0 s hs hsl n (k + 1) (ps ++ chainP c) (by omega) (by rw [List.length_append]; omega)
    rw [show ps ++ chainP c ++ (s.chains.drop (k + 1)).flatMap chainP = ps ++ (s.chains.drop k).flatMap chainP by rw [drop_of hx]; simp] at ih
    refine aloopK mixed [0, 1, 2, 3, 4, 5, 6, 8, 10, 12, 13, 17, 36, 37, 38, 39, 54, 55, 56, 57, 66, 67, 68, 69] 1000 ([.go, .t, .ix k, .el (encU c), .n c.length, .n ((c.length : Int) - 1), .n ((c.length : Int) - 1), .call [0, 1, 2, 3] false false (.tup []) (putP (ps ++ [(2, (c.length : Int) - 1)])), .n c.length, .lp [68, 67, 66, 56, 55, 54, 38, 37, 36, 6, 5, 4] [0, 1, 6, 7] (.exit 4) ⟨[(56, .int .i64 k), (55, .int .i64 s.chains.length), (54, .lst 1 (s.chains.map encU)), (38, .int .i64 k0), (37, .int .i64 l.segs.length), (36, .lst 2 (l.segs.map encS)), (6, .fn 112 [.ptr 0 0, .ptr 1 0]), (5, .ptr 1 0), (4, .ptr 0 0)], putP (ps ++ chainP c)⟩, .n ((k + 1 : Nat) : Int), .lp [56, 55, 54, 38, 37, 36, 6, 5, 4] [0, 1, 2, 3] (.exit 2) ⟨[(38, .int .i64 k0), (37, .int .i64 l.segs.length), (36, .lst 2 (l.segs.map encS)), (6, .fn 112 [.ptr 0 0, .ptr 1 0]), (5, .ptr 1 0), (4, .ptr 0 0)], putP (ps ++ (s.chains.drop k).flatMap chainP)⟩]) [38, 37, 36, 6, 5, 4] [0, 1, 2, 3] (ob := [decide ((↑k : Int) < (s.chains.length : Int)) = true,
 k < List.length (List.map encU s.chains),
 (↑k : Int) = (↑k : Int),
 (List.map encU s.chains)[k]? = some (.lst (nat_lit 1) (List.map intA c)),
 ((List.map intA c).length : Int) = (c.length : Int),
 IntKind.i64.wrap ((c.length : Int) - (1 : Int)) = (c.length : Int) - (1 : Int),
 IntKind.u64.wrap ((c.length : Int) - (1 : Int)) = (c.length : Int) - (1 : Int),
 _,
 ((List.map intA c).length : Int) = (c.length : Int),
 _,
 IntKind.i64.wrap ((↑k : Int) + (1 : Int)) = (↑(k + (1 : Nat)) : Int),
 _]) (by kernel_rfl) rfl ⟨?z0, ?z1, ?z2, ?z3, ?z4, ?z5, ?z6, (putP_more ps 2 ((c.length : Int) - 1) (by omega)), ?z7, hin, ?z8, ih, trivial⟩
    case z0|z1|z2|z3|z4|z5|z6|z7|z8 => first | exact rfl | (simp [putP, putO, hx, encU] <;> omega) | omega | (first | exact hw1 | exact hu | exact hw | omega)
structure Seg4 (s : SegD) : Prop where
  at0 : 0 ≤ s.at_
  at1 : s.at_ < 1048576
  p : 1 ≤ s.chains.length
  m : s.chains.length ≤ 4
  u : ∀ c ∈ s.chains, Ch4 c
theorem flat_len : ∀ (l : List (List Int)), (∀ c ∈ l, Ch4 c) → (l.flatMap chainP).length ≤ 5 * l.length
  | [], _ => by simp
  | c :: r, h => by
    have h1 := chainP_len (h c (by simp))
    have h2 := flat_len r fun c hc => h c (by simp [hc])
    rw [List.flatMap_cons, List.length_append, List.length_cons]; omega
theorem segP_len {s : SegD} (h : Seg4 s) : (segP s).length ≤ 22 := by
  have h1 := flat_len s.chains h.u
  have := h.m
  simp only [segP, List.length_cons]; omega
theorem enc_segs (l : LayD) (hs : ∀ s ∈ l.segs, Seg4 s) (hsl : l.segs.length ≤ 1000) : ∀ (n k : Nat) (ps : List (Int × Int)), l.segs.length = k + n → ps.length + 22 * n ≤ 90000 →
    ALoop Tryz.prog 0 Tryz.f66.ntmps (loopB Tryz.f66 0) ⟨[(38, .int .i64 k), (37, .int .i64 l.segs.length), (36, .lst 2 (l.segs.map encS)), (6, .fn 112 [.ptr 0 0, .ptr 1 0]), (5, .ptr 1 0), (4, .ptr 0 0)], putP ps⟩ (.exit 0) ⟨[(6, .fn 112 [.ptr 0 0, .ptr 1 0]), (5, .ptr 1 0), (4, .ptr 0 0)], putP (ps ++ (l.segs.drop k).flatMap segP)⟩
  | 0, k, ps, h, hp => by
    rw [List.drop_eq_nil_of_le (by omega), List.flatMap_nil, List.append_nil]
    refine aloopK mixed [0, 1, 2, 3, 4, 5, 6, 8, 10, 12, 13, 17, 36, 37, 38, 39, 54, 55, 56, 57, 66, 67, 68, 69] 1000 ([.go, .f]) [6, 5, 4] [0, 1, 2, 3] (ob := [decide ((↑k : Int) < (l.segs.length : Int)) = false]) (by kernel_rfl) rfl ⟨(by first | exact rfl | (simp [putP, putO]; done) | (simp [putP, putO]; omega) | omega), trivial⟩
  | n + 1, k, ps, h, hp => by
    obtain ⟨s, hx⟩ := get_of (l := l.segs) (k := k) (by omega)
    have hc := hs s (List.mem_of_getElem? hx)
    have h1 := hc.p
    have h2 := hc.m
    have hk : k < l.segs.length := by omega
    have hw : IntKind.i64.wrap ((k : Int) + 1) = ((k + 1 : Nat) : Int) := wrap64 (by omega)
    have hw1 : IntKind.i64.wrap ((s.chains.length : Int) - 1) = (s.chains.length : Int) - 1 := wrap_i (by omega) (by omega)
    have hu := wu ((s.chains.length : Int) - 1) (by omega) (by omega)
    have hin := enc_chains l k s hc.u (by omega) s.chains.length 0 (ps ++ [(20, s.at_)] ++ [(2, (s.chains.length : Int) - 1)]) (by omega) (by simp only [List.length_append, List.length_cons, List.length_nil]; omega)
    rw [List.drop_zero, show ps ++ [(20, s.at_)] ++ [(2, (s.chains.length : Int) - 1)] ++ s.chains.flatMap chainP = ps ++ segP s by simp [segP]] at hin
    have hcl := segP_len hc
    have ih := enc_segs l hs hsl n (k + 1) (ps ++ segP s) (by omega) (by rw [List.length_append]; omega)
    rw [show ps ++ segP s ++ (l.segs.drop (k + 1)).flatMap segP = ps ++ (l.segs.drop k).flatMap segP by rw [drop_of hx]; simp] at ih
    refine aloopK mixed [0, 1, 2, 3, 4, 5, 6, 8, 10, 12, 13, 17, 36, 37, 38, 39, 54, 55, 56, 57, 66, 67, 68, 69] 1000 ([.go, .t, .ix k, .el (encS s), .call [0, 1, 2, 3] false false (.tup []) (putP (ps ++ [(20, s.at_)])), .n s.chains.length, .n ((s.chains.length : Int) - 1), .n ((s.chains.length : Int) - 1), .call [0, 1, 7, 8] false false (.tup []) (putP (ps ++ [(20, s.at_)] ++ [(2, (s.chains.length : Int) - 1)])), .n s.chains.length, .lp [56, 55, 54, 38, 37, 36, 6, 5, 4] [0, 1, 11, 12] (.exit 2) ⟨[(38, .int .i64 k), (37, .int .i64 l.segs.length), (36, .lst 2 (l.segs.map encS)), (6, .fn 112 [.ptr 0 0, .ptr 1 0]), (5, .ptr 1 0), (4, .ptr 0 0)], putP (ps ++ segP s)⟩, .n ((k + 1 : Nat) : Int), .lp [38, 37, 36, 6, 5, 4] [0, 1, 2, 3] (.exit 0) ⟨[(6, .fn 112 [.ptr 0 0, .ptr 1 0]), (5, .ptr 1 0), (4, .ptr 0 0)], putP (ps ++ (l.segs.drop k).flatMap segP)⟩]) [6, 5, 4] [0, 1, 2, 3] (ob := [decide ((↑k : Int) < (l.segs.length : Int)) = true,
 k < List.length (List.map encS l.segs),
 (↑k : Int) = (↑k : Int),
 (List.map encS l.segs)[k]? = some (.agg [.int .u64 s.at_, .lst (nat_lit 1) (List.map encU s.chains)]),
 _,
 ((List.map encU s.chains).length : Int) = (s.chains.length : Int),
 IntKind.i64.wrap ((s.chains.length : Int) - (1 : Int)) = (s.chains.length : Int) - (1 : Int),
 IntKind.u64.wrap ((s.chains.length : Int) - (1 : Int)) = (s.chains.length : Int) - (1 : Int),
 _,
 ((List.map encU s.chains).length : Int) = (s.chains.length : Int),
 _,
 IntKind.i64.wrap ((↑k : Int) + (1 : Int)) = (↑(k + (1 : Nat)) : Int),
 _]) (by kernel_rfl) rfl ⟨?z0, ?z1, ?z2, ?z3, (putP_more ps 20 s.at_ (by omega)), ?z4, ?z5, ?z6, (putP_more (ps ++ [(20, s.at_)]) 2 ((s.chains.length : Int) - 1) (by simp only [List.length_append, List.length_cons, List.length_nil]; omega)), ?z7, hin, ?z8, ih, trivial⟩
    case z0|z1|z2|z3|z4|z5|z6|z7|z8 => first | exact rfl | (simp [putP, putO, hx, encS] <;> omega) | omega | (first | exact hw1 | exact hu | exact hw | omega)
end Go.Proofs.YtidgcfgkcidkiaaGreat.Ch
namespace Go.Proofs.YtidgcfgkcidkiaaGreat.Ch
open Go Go.RowKit Go.Proofs.YtidgcfgkcidkiaaGreat.L Go.Proofs.YtidgcfgkcidkiaaGreat.X
set_option linter.unusedVariables false
set_option linter.unusedSimpArgs false
def headP (l : LayD) : List (Int × Int) := [(21, l.epoch), (5, l.seq), (2, (l.segs.length : Int) - 1)]
def layP (l : LayD) : List (Int × Int) := headP l ++ l.segs.flatMap segP
theorem encode_ac (l : LayD) (hs : ∀ s ∈ l.segs, Seg4 s) (h1 : 1 ≤ l.segs.length) (h2 : l.segs.length ≤ 4) (h3 : 0 ≤ l.seq) (h4 : l.seq < 32) (hl : ACalls Tryz.prog 93 [encL l] [] (.bool true) [])
    (bs : List Int) (b : Bool) (hP : ACalls Tryz.prog 113 [.lst 1 (((layP l).map (·.1)).map intA), .lst 1 (((layP l).map (·.2)).map u64A)] [] (.tup [.row 0 1 bs.length, .bool b]) [.row 5 1 (bs.map byteA)]) :
    ACalls Tryz.prog 66 [encL l] [] (.tup [.row 0 1 bs.length, .int .i64 0]) [.row 5 1 (bs.map byteA)] := by
  have hlp := enc_segs l hs (by omega) l.segs.length 0 (headP l) (by omega) (by simp [headP]; omega)
  rw [List.drop_zero] at hlp
  have q1 := put_more [21] [l.epoch] 5 l.seq (by simp) (by simp)
  have q2 := put_more [21, 5] [l.epoch, l.seq] 2 ((l.segs.length : Int) - 1) (by simp) (by simp)
  have w1 := wu l.seq h3 (by omega)
  have w2 : IntKind.i64.wrap ((l.segs.length : Int) - 1) = (l.segs.length : Int) - 1 := wrap_i (by omega) (by omega)
  have w3 := wu ((l.segs.length : Int) - 1) (by omega) (by omega)
  refine acallsK mixed Tryz.func66 rfl [0, 1, 2, 3, 4, 5, 6, 8, 10, 12, 13, 17, 36, 37, 38, 39, 54, 55, 56, 57, 66, 67, 68, 69] 1000 ([.call [] false true (.bool true) [], .call [1, 2] false false (.tup []) (putO [21] [l.epoch]), .n l.seq, .call [1, 2, 5, 6] false false (.tup []) (putO [21, 5] [l.epoch, l.seq]), .n l.segs.length, .n ((l.segs.length : Int) - 1), .n ((l.segs.length : Int) - 1), .call [1, 2, 9, 10] false false (.tup []) (putO [21, 5, 2] [l.epoch, l.seq, (l.segs.length : Int) - 1]), .n l.segs.length, .lp [38, 37, 36, 6, 5, 4] [1, 2, 13, 14] (.exit 0) ⟨[(6, .fn 112 [.ptr 0 0, .ptr 1 0]), (5, .ptr 1 0), (4, .ptr 0 0)], putP (layP l)⟩, .call [] false false (.tup [.row 0 1 bs.length, .bool b]) [.row 5 1 (bs.map byteA)]]) [] [4] (ob := [_,
 _,
 IntKind.u64.wrap l.seq = l.seq,
 _,
 ((List.map encS l.segs).length : Int) = (l.segs.length : Int),
 IntKind.i64.wrap ((l.segs.length : Int) - (1 : Int)) = (l.segs.length : Int) - (1 : Int),
 IntKind.u64.wrap ((l.segs.length : Int) - (1 : Int)) = (l.segs.length : Int) - (1 : Int),
 _,
 ((List.map encS l.segs).length : Int) = (l.segs.length : Int),
 _,
 _]) (by kernel_rfl) ⟨rfl, rfl⟩ ⟨hl, (put_first 21 l.epoch), ?z0, q1, ?z1, ?z2, ?z3, q2, ?z4, hlp, hP, trivial⟩
  case z0|z1|z2|z3|z4 => first | exact rfl | (simp [encL, celL, putO, putP] <;> omega) | omega | (first | exact w1 | exact w2 | exact w3 | omega)
end Go.Proofs.YtidgcfgkcidkiaaGreat.Ch
namespace Go.Proofs.YtidgcfgkcidkiaaGreat.Ch
open Go Go.RowKit Go.Proofs.YtidgcfgkcidkiaaGreat.L Go.Proofs.YtidgcfgkcidkiaaGreat.X
set_option linter.unusedVariables false
set_option linter.unusedSimpArgs false
theorem sum_bound : ∀ (ws : List Int), (∀ x ∈ ws, 0 ≤ x ∧ x ≤ 64) → 0 ≤ ws.sum ∧ ws.sum ≤ 64 * ws.length
  | [], _ => by simp
  | x :: r, h => by
    have h1 := h x (by simp)
    have h2 := sum_bound r fun y hy => h y (by simp [hy])
    simp only [List.sum_cons, List.length_cons]; omega
theorem whole_loop (ws : List Int) (hw : ∀ x ∈ ws, 0 ≤ x ∧ x ≤ 64) (hl : ws.length ≤ 1000000) : ∀ (n k : Nat) (s : Int), ws.length = k + n → 0 ≤ s → s + 64 * n ≤ 64000000 →
    ALoop Tryz.prog 0 Tryz.f135.ntmps (loopB Tryz.f135 0) ⟨[(8, .int .i64 k), (7, .int .i64 ws.length), (6, .lst 1 (ws.map intA)), (3, .int .i64 s)], []⟩ (.exit 0) ⟨[(3, .int .i64 (s + (ws.drop k).sum))], []⟩
  | 0, k, s, h, h0, h1 => by
    rw [List.drop_eq_nil_of_le (by omega), List.sum_nil, Int.add_zero]
    refine aloopK mixed [0, 2, 3, 5, 6, 7, 8, 9] 1000 ([.go, .f]) [3] [] (ob := [decide ((↑k : Int) < (ws.length : Int)) = false]) (by kernel_rfl) rfl ⟨(by first | exact rfl | (simp []; done) | (simp []; omega) | omega), trivial⟩
  | n + 1, k, s, h, h0, h1 => by
    obtain ⟨x, hx⟩ := get_of (l := ws) (k := k) (by omega)
    have hx2 := hw x (List.mem_of_getElem? hx)
    have hk : k < ws.length := by omega
    have hw1 : IntKind.i64.wrap ((k : Int) + 1) = ((k + 1 : Nat) : Int) := wrap64 (by omega)
    have hs : IntKind.i64.wrap (s + x) = s + x := wrap_i (by omega) (by omega)
    have hg := idx_at hx
    have ih := whole_loop ws hw hl n (k + 1) (s + x) (by omega) (by omega) (by omega)
    rw [show s + x + (ws.drop (k + 1)).sum = s + (ws.drop k).sum by rw [drop_of hx, List.sum_cons]; omega] at ih
    refine aloopK mixed [0, 2, 3, 5, 6, 7, 8, 9] 1000 ([.go, .t, .ix k, .el (intA x), .n (s + x), .n ((k + 1 : Nat) : Int), .lp [8, 7, 6, 3] [] (.exit 0) ⟨[(3, .int .i64 (s + (ws.drop k).sum))], []⟩]) [3] [] (ob := [decide ((↑k : Int) < (ws.length : Int)) = true,
 k < List.length (List.map intA ws),
 (↑k : Int) = (↑k : Int),
 (List.map intA ws)[k]? = some (.int .i64 x),
 IntKind.i64.wrap (s + x) = s + x,
 IntKind.i64.wrap ((↑k : Int) + (1 : Int)) = (↑(k + (1 : Nat)) : Int),
 _]) (by kernel_rfl) rfl ⟨?z0, ?z1, ?z2, ?z3, ?z4, ?z5, ih, trivial⟩
    case z0|z1|z2|z3|z4|z5 => first | exact rfl | (simp [hx, intA] <;> omega) | omega | (first | exact hg | exact hw1 | exact hs | omega)
theorem whole_ac (ws : List Int) (hw : ∀ x ∈ ws, 0 ≤ x ∧ x ≤ 64) (hl : ws.length ≤ 1000000) : ACalls Tryz.prog 135 [.lst 1 (ws.map intA)] [] (.int .i64 ((ws.sum + 7) / 8)) [] := by
  have h := whole_loop ws hw hl ws.length 0 0 (by omega) (by omega) (by omega)
  rw [List.drop_zero, Int.zero_add] at h
  obtain ⟨b0, b1⟩ := sum_bound ws hw
  have s1 : IntKind.i64.wrap (ws.sum + 8) = ws.sum + 8 := wrap_i (by omega) (by omega)
  have s2 : IntKind.i64.wrap (ws.sum + 8 - 1) = ws.sum + 7 := by rw [show ws.sum + 8 - 1 = ws.sum + 7 by omega]; exact wrap_i (by omega) (by omega)
  have s3 : IntKind.i64.wrap (Int.tdiv (ws.sum + 7) 8) = (ws.sum + 7) / 8 := by rw [Int.tdiv_eq_ediv_of_nonneg (by omega)]; exact wrap_i (by omega) (by omega)
  refine acallsK mixed Tryz.func135 rfl [0, 2, 3, 5, 6, 7, 8, 9] 1000 ([.n ws.length, .lp [8, 7, 6, 3] [] (.exit 0) ⟨[(3, .int .i64 ws.sum)], []⟩, .n (ws.sum + 8), .n (ws.sum + 7), .n ((ws.sum + 7) / 8)]) [] [] (ob := [((List.map intA ws).length : Int) = (ws.length : Int),
 _,
 IntKind.i64.wrap (List.sum ws + (8 : Int)) = List.sum ws + (8 : Int),
 IntKind.i64.wrap (List.sum ws + (8 : Int) - (1 : Int)) = List.sum ws + (7 : Int),
 (8 : Int) ≠ (0 : Int),
 IntKind.i64.wrap (Int.tdiv (List.sum ws + (7 : Int)) (8 : Int)) = (List.sum ws + (7 : Int)) / (8 : Int)]) (by kernel_rfl) ⟨rfl, rfl⟩ ⟨?z0, h, ?z1, ?z2, ?z3, ?z4, trivial⟩
  case z0|z1|z2|z3|z4 => first | exact rfl | (simp [] <;> omega) | omega | (first | exact s1 | exact s2 | exact s3 | omega)
end Go.Proofs.YtidgcfgkcidkiaaGreat.Ch
namespace Go.Proofs.YtidgcfgkcidkiaaGreat.Ch
set_option linter.unusedVariables false
set_option linter.unusedSimpArgs false
/-- The number that bytes are. -/
def valB : List Nat → Nat
  | [] => 0
  | b :: r => b * 2 ^ (8 * r.length) + valB r
def digs : Nat → Nat → List Nat
  | 0, _ => []
  | k + 1, N => (N / 2 ^ (8 * k) % 256) :: digs k N
theorem valB_lt : ∀ (bs : List Nat), (∀ b ∈ bs, b < 256) → valB bs < 2 ^ (8 * bs.length)
  | [], _ => by simp [valB]
  | b :: r, h => by
    have h1 := h b (by simp)
    have h2 := valB_lt r fun x hx => h x (by simp [hx])
    have h3 : (b + 1) * 2 ^ (8 * r.length) ≤ 256 * 2 ^ (8 * r.length) := Nat.mul_le_mul_right _ (by omega)
    have h4 : 2 ^ (8 * (b :: r).length) = 256 * 2 ^ (8 * r.length) := by rw [List.length_cons, Nat.mul_add, Nat.pow_add, Nat.mul_comm]
    rw [h4]
    rw [Nat.succ_mul] at h3
    simp only [valB]
    omega
theorem valB_set : ∀ (bs : List Nat) (q x y : Nat), bs[q]? = some x → valB (bs.set q y) + x * 2 ^ (8 * (bs.length - 1 - q)) = valB bs + y * 2 ^ (8 * (bs.length - 1 - q))
  | [], q, x, y, h => by simp at h
  | b :: r, 0, x, y, h => by
    simp at h; subst h
    simp only [List.set_cons_zero, valB, List.length_cons, Nat.add_sub_cancel, Nat.sub_zero]
    omega
  | b :: r, q + 1, x, y, h => by
    have ih := valB_set r q x y (by simpa using h)
    simp only [List.set_cons_succ, valB, List.length_cons, List.length_set, Nat.add_sub_cancel]
    rw [show r.length - (q + 1) = r.length - 1 - q by omega]
    omega
theorem valB_get : ∀ (bs : List Nat) (q x : Nat), (∀ b ∈ bs, b < 256) → bs[q]? = some x → valB bs / 2 ^ (8 * (bs.length - 1 - q)) % 256 = x
  | [], q, x, _, h => by simp at h
  | b :: r, 0, x, hb, h => by
    simp at h; subst h
    have h1 := valB_lt r fun x hx => hb x (by simp [hx])
    have h2 := hb b (by simp)
    simp only [valB, List.length_cons, Nat.add_sub_cancel, Nat.sub_zero]
    rw [Nat.mul_comm, Nat.mul_add_div (Nat.two_pow_pos _), Nat.div_eq_of_lt h1, Nat.add_zero, Nat.mod_eq_of_lt h2]
  | b :: r, q + 1, x, hb, h => by
    have ih := valB_get r q x (fun x hx => hb x (by simp [hx])) (by simpa using h)
    have hq : q < r.length := (List.getElem?_eq_some_iff.1 (by simpa using h : r[q]? = some x)).1
    simp only [valB, List.length_cons, Nat.add_sub_cancel]
    rw [show r.length - (q + 1) = r.length - 1 - q by omega]
    have e : b * 2 ^ (8 * r.length) = 2 ^ (8 * (r.length - 1 - q)) * (256 * (b * 2 ^ (8 * q))) := by
      have : 2 ^ (8 * r.length) = 2 ^ (8 * (r.length - 1 - q)) * (256 * 2 ^ (8 * q)) := by
        rw [show (256 : Nat) = 2 ^ 8 by rfl, ← Nat.pow_add, ← Nat.pow_add]; congr 1; omega
      rw [this]
      simp only [Nat.mul_left_comm]
    rw [e, Nat.mul_add_div (Nat.two_pow_pos _), Nat.mul_add_mod]
    exact ih
theorem digs_len : ∀ (k N : Nat), (digs k N).length = k
  | 0, _ => rfl
  | k + 1, N => by simp [digs, digs_len k N]
theorem digs_lt : ∀ (k N : Nat), ∀ b ∈ digs k N, b < 256
  | 0, _, b, h => by simp [digs] at h
  | k + 1, N, b, h => by
    simp only [digs, List.mem_cons] at h
    rcases h with rfl | h
    · exact Nat.mod_lt _ (by decide)
    · exact digs_lt k N b h
theorem digs_mod : ∀ (k M N : Nat), digs k (M * 2 ^ (8 * k) + N) = digs k N
  | 0, _, _ => rfl
  | k + 1, M, N => by
    have e : M * 2 ^ (8 * (k + 1)) = (M * 256) * 2 ^ (8 * k) := by rw [Nat.mul_add, Nat.pow_add, Nat.mul_assoc]; congr 1; rw [Nat.mul_comm]
    simp only [digs]
    rw [e, digs_mod k (M * 256) N, Nat.mul_comm (M * 256), Nat.mul_add_div (Nat.two_pow_pos _), Nat.mul_comm M, Nat.mul_add_mod]
/-- Bytes are what their number's are. -/
theorem digs_val : ∀ (bs : List Nat), (∀ b ∈ bs, b < 256) → digs bs.length (valB bs) = bs
  | [], _ => rfl
  | b :: r, h => by
    have h1 := valB_lt r fun x hx => h x (by simp [hx])
    have h2 := h b (by simp)
    simp only [List.length_cons, digs, valB]
    rw [digs_mod, digs_val r fun x hx => h x (by simp [hx]), Nat.mul_comm, Nat.mul_add_div (Nat.two_pow_pos _), Nat.div_eq_of_lt h1, Nat.add_zero, Nat.mod_eq_of_lt h2]
theorem valB_digs : ∀ (k N : Nat), N < 2 ^ (8 * k) → valB (digs k N) = N
  | 0, N, h => by simp at h; subst h; rfl
  | k + 1, N, h => by
    have h1 : N / 2 ^ (8 * k) < 256 := by
      rw [Nat.div_lt_iff_lt_mul (Nat.two_pow_pos _)]
      rw [Nat.mul_add, Nat.pow_add, Nat.mul_comm] at h; exact h
    have e := Nat.div_add_mod N (2 ^ (8 * k))
    simp only [digs, valB, digs_len]
    rw [Nat.mod_eq_of_lt h1]
    have := digs_mod k (N / 2 ^ (8 * k)) (N % 2 ^ (8 * k))
    rw [Nat.mul_comm] at this
    rw [e] at this
    rw [this, valB_digs k _ (Nat.mod_lt _ (Nat.two_pow_pos _))]
    rw [Nat.mul_comm]; exact e
/-- A number's top and rest. -/
theorem mod_top (V n t : Nat) (h : t ≤ n) : V % 2 ^ n = V / 2 ^ (n - t) % 2 ^ t * 2 ^ (n - t) + V % 2 ^ (n - t) := by
  have := Nat.mod_mul (x := V) (a := 2 ^ (n - t)) (b := 2 ^ t)
  rw [← Nat.pow_add, show n - t + t = n by omega] at this
  rw [this, Nat.mul_comm]; omega
/-- A byte of the number: its bits from first on. -/
theorem byte_bits (bs : List Nat) (q x first take : Nat) (hb : ∀ b ∈ bs, b < 256) (hx : bs[q]? = some x) (hf : first + take ≤ 8) : x / 2 ^ (8 - first - take) % 2 ^ take = valB bs / 2 ^ (8 * bs.length - (8 * q + first) - take) % 2 ^ take := by
  have h1 := valB_get bs q x hb hx
  have hq : q < bs.length := (List.getElem?_eq_some_iff.1 hx).1
  have e : 8 * bs.length - (8 * q + first) - take = 8 * (bs.length - 1 - q) + (8 - first - take) := by omega
  rw [e, Nat.pow_add, ← Nat.div_div_eq_div_mul, ← h1]
  rw [show (256 : Nat) = 2 ^ (8 - first - take) * 2 ^ (first + take) by rw [← Nat.pow_add, show 8 - first - take + (first + take) = 8 by omega]]
  rw [Nat.mod_mul_right_div_self, Nat.pow_add, Nat.mod_mul_left_mod]
/-- What stands behind at is nothing yet: so a byte's bits are. -/
theorem byte_zero (bs : List Nat) (q x first : Nat) (hb : ∀ b ∈ bs, b < 256) (hx : bs[q]? = some x) (hf : first ≤ 8) (hz : 2 ^ (8 * bs.length - (8 * q + first)) ∣ valB bs) : x % 2 ^ (8 - first) = 0 := by
  have h1 := valB_get bs q x hb hx
  have hq : q < bs.length := (List.getElem?_eq_some_iff.1 hx).1
  obtain ⟨c, hc⟩ := hz
  have e : 8 * bs.length - (8 * q + first) = 8 * (bs.length - 1 - q) + (8 - first) := by omega
  rw [e, Nat.pow_add, Nat.mul_assoc] at hc
  rw [hc, Nat.mul_div_cancel_left _ (Nat.two_pow_pos _)] at h1
  rw [← h1]
  rw [show (256 : Nat) = 2 ^ (8 - first) * 2 ^ first by rw [← Nat.pow_add, show 8 - first + first = 8 by omega]]
  rw [Nat.mod_mul_right_mod, Nat.mul_mod_right]
/-- Bits are laid into a byte. -/
theorem byte_lay (bs : List Nat) (q x first take p : Nat) (hx : bs[q]? = some x) (hf : first + take ≤ 8) : valB (bs.set q (x + p * 2 ^ (8 - first - take))) = valB bs + p * 2 ^ (8 * bs.length - (8 * q + first) - take) := by
  have h1 := valB_set bs q x (x + p * 2 ^ (8 - first - take)) hx
  have hq : q < bs.length := (List.getElem?_eq_some_iff.1 hx).1
  have e : 8 * bs.length - (8 * q + first) - take = (8 - first - take) + 8 * (bs.length - 1 - q) := by omega
  rw [e, Nat.pow_add, ← Nat.mul_assoc]
  rw [Nat.add_mul] at h1
  omega

/-- Numbers one behind the other. -/
def packN : List (Nat × Nat) → Nat := fun ps => ps.foldl (fun a p => a * 2 ^ p.1 + p.2) 0
def wid : List (Nat × Nat) → Nat
  | [] => 0
  | p :: r => p.1 + wid r
theorem wid_app : ∀ (a b : List (Nat × Nat)), wid (a ++ b) = wid a + wid b
  | [], b => by simp [wid]
  | p :: r, b => by simp [wid, wid_app r b]; omega
theorem fold_from : ∀ (ps : List (Nat × Nat)) (a : Nat), ps.foldl (fun a p => a * 2 ^ p.1 + p.2) a = a * 2 ^ wid ps + packN ps
  | [], a => by simp [wid, packN]
  | p :: r, a => by
    have h1 := fold_from r (a * 2 ^ p.1 + p.2)
    have h2 := fold_from r (0 * 2 ^ p.1 + p.2)
    simp only [List.foldl_cons, packN, wid] at h1 h2 ⊢
    rw [h1, h2, Nat.add_mul, Nat.zero_mul, Nat.zero_add, Nat.pow_add, Nat.mul_assoc]; omega
theorem packN_app (a b : List (Nat × Nat)) : packN (a ++ b) = packN a * 2 ^ wid b + packN b := by
  show (a ++ b).foldl _ 0 = _
  rw [List.foldl_append]
  exact fold_from b (packN a)
theorem packN_lt : ∀ (ps : List (Nat × Nat)), (∀ p ∈ ps, p.2 < 2 ^ p.1) → packN ps < 2 ^ wid ps
  | [], _ => by simp [packN, wid]
  | p :: r, h => by
    have h1 := h p (by simp)
    have h2 := packN_lt r fun x hx => h x (by simp [hx])
    have h3 := packN_app [p] r
    have h4 : packN [p] = p.2 := by simp [packN]
    rw [List.singleton_append, h4] at h3
    rw [h3, wid, Nat.pow_add]
    have h5 : (p.2 + 1) * 2 ^ wid r ≤ 2 ^ p.1 * 2 ^ wid r := Nat.mul_le_mul_right _ h1
    rw [Nat.succ_mul] at h5
    omega
/-- What stands in it, is read. -/
theorem packN_get (pre post : List (Nat × Nat)) (w v pad : Nat) (hp : ∀ p ∈ post, p.2 < 2 ^ p.1) (hv : v < 2 ^ w) : packN (pre ++ (w, v) :: post) * 2 ^ pad / 2 ^ (wid post + pad) % 2 ^ w = v := by
  have h1 := packN_lt post hp
  rw [show pre ++ (w, v) :: post = (pre ++ [(w, v)]) ++ post by simp, packN_app, packN_app]
  rw [Nat.add_comm (wid post), Nat.pow_add, ← Nat.div_div_eq_div_mul, Nat.mul_div_cancel _ (Nat.two_pow_pos _)]
  rw [Nat.mul_comm _ (2 ^ wid post), Nat.mul_add_div (Nat.two_pow_pos _), Nat.div_eq_of_lt h1, Nat.add_zero]
  rw [show wid [(w, v)] = w by simp [wid], show packN [(w, v)] = v by simp [packN], Nat.mul_comm, Nat.mul_add_mod, Nat.mod_eq_of_lt hv]
/-- The bytes of numbers. -/
def packB (ps : List (Nat × Nat)) : List Nat := digs ((wid ps + 7) / 8) (packN ps * 2 ^ (8 * ((wid ps + 7) / 8) - wid ps))
theorem packB_len (ps : List (Nat × Nat)) : (packB ps).length = (wid ps + 7) / 8 := digs_len _ _
theorem packB_val (ps : List (Nat × Nat)) (h : ∀ p ∈ ps, p.2 < 2 ^ p.1) : valB (packB ps) = packN ps * 2 ^ (8 * ((wid ps + 7) / 8) - wid ps) := by
  refine valB_digs _ _ ?_
  have h1 := packN_lt ps h
  have e : 2 ^ (8 * ((wid ps + 7) / 8)) = 2 ^ wid ps * 2 ^ (8 * ((wid ps + 7) / 8) - wid ps) := by rw [← Nat.pow_add]; congr 1; omega
  rw [e]
  exact Nat.mul_lt_mul_of_pos_right h1 (Nat.two_pow_pos _)
end Go.Proofs.YtidgcfgkcidkiaaGreat.Ch
namespace Go.Proofs.YtidgcfgkcidkiaaGreat.Ch
open Go Go.RowKit Go.Proofs.YtidgcfgkcidkiaaGreat.L Go.Proofs.YtidgcfgkcidkiaaGreat.X
set_option linter.unusedVariables false
set_option linter.unusedSimpArgs false
def byN (n : Nat) : AV := .int .u8 (n : Int)
theorem sh1 : ∀ t, t < 9 → IntKind.u8.wrap (1 * 2 ^ (min ((t : Nat) : Int).toNat IntKind.u8.bits)) = ((2 ^ t % 256 : Nat) : Int) := by decide +kernel
theorem sh2 : ∀ t, t < 9 → IntKind.u8.wrap (((2 ^ t % 256 : Nat) : Int) - 1) = ((2 ^ t - 1 : Nat) : Int) := by decide +kernel
theorem sh3 : ∀ f, f < 8 → ∀ t, t < 9 → f + t ≤ 8 → IntKind.u8.wrap (((2 ^ t - 1 : Nat) : Int) * 2 ^ (min ((8 - f - t : Nat) : Int).toNat IntKind.u8.bits)) = (((2 ^ t - 1) * 2 ^ (8 - f - t) : Nat) : Int) := by decide +kernel
theorem sh4 : ∀ f, f < 8 → ∀ t, t < 9 → f + t ≤ 8 → ∀ x, x < 256 → IntKind.u8.wrap ((x : Nat) * 2 ^ (min ((8 - f - t : Nat) : Int).toNat IntKind.u8.bits)) = ((x * 2 ^ (8 - f - t) % 256 : Nat) : Int) := by decide +kernel
theorem sh5 : ∀ f, f < 8 → ∀ t, t < 9 → f + t ≤ 8 → ∀ x, x < 256 → IntKind.u8.wrap (BitVec.ofInt IntKind.u8.bits ((x * 2 ^ (8 - f - t) % 256 : Nat) : Int) &&& BitVec.ofInt IntKind.u8.bits (((2 ^ t - 1) * 2 ^ (8 - f - t) : Nat) : Int)).toNat = ((x % 2 ^ t * 2 ^ (8 - f - t) : Nat) : Int) := by decide +kernel
theorem sh6 : ∀ f, f < 8 → ∀ t, t < 9 → f + t ≤ 8 → ∀ x, x < 256 → x % 2 ^ (8 - f) = 0 → IntKind.u8.wrap (BitVec.ofInt IntKind.u8.bits (x : Nat) &&& ~~~ BitVec.ofInt IntKind.u8.bits (((2 ^ t - 1) * 2 ^ (8 - f - t) : Nat) : Int)).toNat = ((x : Nat) : Int) := by decide +kernel
theorem sh7 : ∀ f, f < 8 → ∀ x, x < 256 → IntKind.u8.wrap ((x : Nat) * 2 ^ (min ((f : Nat) : Int).toNat IntKind.u8.bits)) = ((x * 2 ^ f % 256 : Nat) : Int) := by decide +kernel
theorem sh8 : ∀ f, f < 8 → ∀ t, t < 9 → f + t ≤ 8 → ∀ x, x < 256 → Int.fdiv ((x * 2 ^ f % 256 : Nat) : Int) (2 ^ (min ((8 - t : Nat) : Int).toNat IntKind.u8.bits)) = ((x / 2 ^ (8 - f - t) % 2 ^ t : Nat) : Int) := by decide +kernel
theorem or8 (X Y i : Nat) (hX : X < 256) (h : X % 2 ^ i = 0) (hY : Y < 2 ^ i) (hs : X + Y < 256) : IntKind.u8.wrap (BitVec.ofInt IntKind.u8.bits (X : Int) ||| BitVec.ofInt IntKind.u8.bits (Y : Int)).toNat = ((X + Y : Nat) : Int) := by
  have e1 : (BitVec.ofInt IntKind.u8.bits (X : Int)).toNat = X := by
    rw [BitVec.toNat_ofInt]; show ((X : Int) % ((2 ^ 8 : Nat) : Int)).toNat = X; omega
  have e2 : (BitVec.ofInt IntKind.u8.bits (Y : Int)).toNat = Y := by
    rw [BitVec.toNat_ofInt]; show ((Y : Int) % ((2 ^ 8 : Nat) : Int)).toNat = Y; omega
  have e3 : X = 2 ^ i * (X / 2 ^ i) := by have := Nat.div_add_mod X (2 ^ i); omega
  rw [BitVec.toNat_or, e1, e2]
  have e4 : X ||| Y = X + Y := by rw [e3, ← Nat.two_pow_add_eq_or_of_lt hY]
  rw [e4]
  simp [IntKind.wrap, IntKind.signed, IntKind.bits]
  omega
theorem or64 (v p t : Nat) (hp : p < 2 ^ t) (h : v * 2 ^ t + p < 2 ^ 64) : IntKind.u64.wrap (BitVec.ofInt IntKind.u64.bits ((v * 2 ^ t : Nat) : Int) ||| BitVec.ofInt IntKind.u64.bits (p : Int)).toNat = ((v * 2 ^ t + p : Nat) : Int) := by
  generalize hX : v * 2 ^ t = X at h ⊢
  have e1 : (BitVec.ofInt IntKind.u64.bits (X : Int)).toNat = X := by
    rw [BitVec.toNat_ofInt]; show ((X : Int) % ((2 ^ 64 : Nat) : Int)).toNat = X; omega
  have e2 : (BitVec.ofInt IntKind.u64.bits (p : Int)).toNat = p := by
    rw [BitVec.toNat_ofInt]; show ((p : Int) % ((2 ^ 64 : Nat) : Int)).toNat = p; omega
  rw [BitVec.toNat_or, e1, e2]
  have e4 : X ||| p = X + p := by rw [← hX, Nat.mul_comm, ← Nat.two_pow_add_eq_or_of_lt hp]
  rw [e4]
  simp [IntKind.wrap, IntKind.signed, IntKind.bits]
  omega
theorem fdivN (v k : Nat) (hk : k ≤ 64) : Int.fdiv (v : Int) (2 ^ (min ((k : Nat) : Int).toNat IntKind.u64.bits)) = ((v / 2 ^ k : Nat) : Int) := by
  rw [Int.fdiv_eq_ediv_of_nonneg _ (Int.le_of_lt (Int.pow_pos (by decide)))]
  rw [show min ((k : Nat) : Int).toNat IntKind.u64.bits = k by simp [IntKind.bits]; omega]
  simp
theorem mnN (a b c : Nat) (h : c = min a b) : L.mn (a : Int) (b : Int) = (c : Int) := by
  subst h; unfold L.mn; split <;> omega
theorem wN (x : Int) (n : Nat) (h : x = n) (hb : n < 9223372036854775808) : IntKind.i64.wrap x = (n : Int) := by
  subst h; simp [IntKind.wrap, IntKind.signed, IntKind.bits]; omega
theorem w8 (x : Nat) : IntKind.u8.wrap (x : Int) = ((x % 256 : Nat) : Int) := by
  simp [IntKind.wrap, IntKind.signed, IntKind.bits]
theorem set_round (bs bs' : List Nat) (at_ n v q first take x y : Nat) (hx : bs[q]? = some x) (hat : at_ = 8 * q + first) (hf : first < 8) (ht : 1 ≤ take) (hft : first + take ≤ 8) (hm : take = min (8 - first) n)
    (hb : x < 256) (hz : x % 2 ^ (8 - first) = 0) (hn : n ≤ 64) (hl : bs.length ≤ 1099511627776) (hy : y = x + v / 2 ^ (n - take) % 2 ^ take * 2 ^ (8 - first - take))
    (ih : ALoop Tryz.prog 1 Tryz.f136.ntmps (loopB Tryz.f136 0) ⟨[(0, .row 0 1 bs.length), (1, .int .i64 ((at_ + take : Nat) : Int)), (2, .int .i64 ((n - take : Nat) : Int)), (3, .int .u64 v)], [.row 5 1 ((bs.set q y).map byN)]⟩ (.exit 0) ⟨[], [.row 5 1 (bs'.map byN)]⟩) :
    ALoop Tryz.prog 1 Tryz.f136.ntmps (loopB Tryz.f136 0) ⟨[(0, .row 0 1 bs.length), (1, .int .i64 at_), (2, .int .i64 n), (3, .int .u64 v)], [.row 5 1 (bs.map byN)]⟩ (.exit 0) ⟨[], [.row 5 1 (bs'.map byN)]⟩ := by
  have hq : q < bs.length := (List.getElem?_eq_some_iff.1 hx).1
  have hpp : v / 2 ^ (n - take) % 2 ^ take < 2 ^ take := Nat.mod_lt _ (Nat.two_pow_pos _)
  have hpl : v / 2 ^ (n - take) % 2 ^ take * 2 ^ (8 - first - take) < 2 ^ (8 - first) := by
    have : 2 ^ (8 - first) = 2 ^ take * 2 ^ (8 - first - take) := by rw [← Nat.pow_add]; congr 1; omega
    rw [this]; exact Nat.mul_lt_mul_of_pos_right hpp (Nat.two_pow_pos _)
  have hyl : x + v / 2 ^ (n - take) % 2 ^ take * 2 ^ (8 - first - take) < 256 := by
    have e : 256 = 2 ^ (8 - first) * 2 ^ first := by rw [← Nat.pow_add, show 8 - first + first = 8 by omega]
    have e2 := Nat.div_add_mod x (2 ^ (8 - first))
    have e3 : x / 2 ^ (8 - first) < 2 ^ first := by rw [Nat.div_lt_iff_lt_mul (Nat.two_pow_pos _), Nat.mul_comm, ← e]; exact hb
    have e4 : 2 ^ (8 - first) * (x / 2 ^ (8 - first) + 1) ≤ 2 ^ (8 - first) * 2 ^ first := Nat.mul_le_mul_left _ e3
    rw [Nat.mul_add] at e4
    omega
  have o1 : Int.tmod (at_ : Int) 8 = (first : Int) := by rw [Int.tmod_eq_emod_of_nonneg (by omega)]; omega
  have o2 : IntKind.i64.wrap (8 - (first : Int)) = ((8 - first : Nat) : Int) := wN _ _ (by omega) (by omega)
  have o3 : L.mn ((8 - first : Nat) : Int) (n : Int) = (take : Int) := mnN _ _ _ hm
  have o4 : IntKind.i64.wrap (((8 - first : Nat) : Int) - (take : Int)) = ((8 - first - take : Nat) : Int) := wN _ _ (by omega) (by omega)
  have o5 := sh1 take (by omega)
  have o6 := sh2 take (by omega)
  have o7 := sh3 first hf take (by omega) hft
  have o8 : IntKind.i64.wrap ((n : Int) - (take : Int)) = ((n - take : Nat) : Int) := wN _ _ (by omega) (by omega)
  have o9 := fdivN v (n - take) (by omega)
  have o10 := w8 (v / 2 ^ (n - take))
  have o11 := sh4 first hf take (by omega) hft (v / 2 ^ (n - take) % 256) (Nat.mod_lt _ (by decide))
  have o12 : IntKind.i64.wrap (Int.tdiv (at_ : Int) 8) = (q : Int) := by rw [Int.tdiv_eq_ediv_of_nonneg (by omega)]; exact wN _ _ (by omega) (by omega)
  have o13 := sh6 first hf take (by omega) hft x hb hz
  have o14 := sh5 first hf take (by omega) hft (v / 2 ^ (n - take) % 256) (Nat.mod_lt _ (by decide))
  have o14' : v / 2 ^ (n - take) % 256 % 2 ^ take = v / 2 ^ (n - take) % 2 ^ take := by
    rw [show (256 : Nat) = 2 ^ take * 2 ^ (8 - take) by rw [← Nat.pow_add, show take + (8 - take) = 8 by omega]]
    exact Nat.mod_mul_right_mod _ _ _
  rw [o14'] at o14
  have o15 := or8 x _ (8 - first) hb hz hpl hyl
  rw [← hy] at o15
  have o16 : IntKind.i64.wrap ((at_ : Int) + (take : Int)) = ((at_ + take : Nat) : Int) := wN _ _ (by omega) (by omega)
  have o17 : (bs.map byN)[q]? = some (byN x) := by rw [List.getElem?_map, hx]; rfl
  rw [List.map_set] at ih
  refine aloopK mixed [0, 1, 2, 3, 8, 9, 10, 11, 12, 14] 1000 ([.go, .t, .n first, .n ((8 - first : Nat) : Int), .n take, .n ((8 - first : Nat) : Int), .n ((8 - first - take : Nat) : Int), .n ((2 ^ take % 256 : Nat) : Int), .n ((2 ^ take - 1 : Nat) : Int), .n (((2 ^ take - 1) * 2 ^ (8 - first - take) : Nat) : Int), .n ((n - take : Nat) : Int), .n ((v / 2 ^ (n - take) : Nat) : Int), .n ((v / 2 ^ (n - take) % 256 : Nat) : Int), .n ((v / 2 ^ (n - take) % 256 * 2 ^ (8 - first - take) % 256 : Nat) : Int), .n q, .n q, .ix q, .el (byN x), .n (x : Int), .n ((v / 2 ^ (n - take) % 2 ^ take * 2 ^ (8 - first - take) : Nat) : Int), .n (y : Int), .ix q, .el (byN x), .n ((at_ + take : Nat) : Int), .n ((n - take : Nat) : Int), .lp [0, 1, 2, 3] [0] (.exit 0) ⟨[], [.row 5 1 (bs'.map byN)]⟩]) [] [0] (ob := [decide ((↑n : Int) > (0 : Int)) = true,
 (8 : Int) ≠ (0 : Int),
 Int.tmod (↑at_ : Int) (8 : Int) = (↑first : Int),
 IntKind.i64.wrap ((8 : Int) - (↑first : Int)) = (↑((8 : Nat) - first) : Int),
 mn (↑((8 : Nat) - first) : Int) (↑n : Int) = (↑take : Int),
 IntKind.i64.wrap ((8 : Int) - (↑first : Int)) = (↑((8 : Nat) - first) : Int),
 IntKind.i64.wrap ((↑((8 : Nat) - first) : Int) - (↑take : Int)) = (↑((8 : Nat) - first - take) : Int),
 (0 : Int) ≤ (↑take : Int),
 IntKind.u8.wrap ((1 : Int) * (2 : Int) ^ min (Int.toNat (↑take : Int)) (IntKind.bits IntKind.u8)) = (↑((2 : Nat) ^ take % (256 : Nat)) : Int),
 IntKind.u8.wrap ((↑((2 : Nat) ^ take % (256 : Nat)) : Int) - (1 : Int)) = (↑((2 : Nat) ^ take - (1 : Nat)) : Int),
 (0 : Int) ≤ (↑((8 : Nat) - first - take) : Int),
 IntKind.u8.wrap ((↑((2 : Nat) ^ take - (1 : Nat)) : Int) * (2 : Int) ^ min (Int.toNat (↑((8 : Nat) - first - take) : Int)) (IntKind.bits IntKind.u8)) = (↑(((2 : Nat) ^ take - (1 : Nat)) * (2 : Nat) ^ ((8 : Nat) - first - take)) : Int),
 IntKind.i64.wrap ((↑n : Int) - (↑take : Int)) = (↑(n - take) : Int),
 (0 : Int) ≤ (↑(n - take) : Int),
 Int.fdiv (↑v : Int) ((2 : Int) ^ min (Int.toNat (↑(n - take) : Int)) (IntKind.bits IntKind.u64)) = (↑(v / (2 : Nat) ^ (n - take)) : Int),
 IntKind.u8.wrap (↑(v / (2 : Nat) ^ (n - take)) : Int) = (↑(v / (2 : Nat) ^ (n - take) % (256 : Nat)) : Int),
 (0 : Int) ≤ (↑((8 : Nat) - first - take) : Int),
 IntKind.u8.wrap ((↑(v / (2 : Nat) ^ (n - take) % (256 : Nat)) : Int) * (2 : Int) ^ min (Int.toNat (↑((8 : Nat) - first - take) : Int)) (IntKind.bits IntKind.u8)) = (↑(v / (2 : Nat) ^ (n - take) % (256 : Nat) * (2 : Nat) ^ ((8 : Nat) - first - take) % (256 : Nat)) : Int),
 (8 : Int) ≠ (0 : Int),
 IntKind.i64.wrap (Int.tdiv (↑at_ : Int) (8 : Int)) = (↑q : Int),
 (8 : Int) ≠ (0 : Int),
 IntKind.i64.wrap (Int.tdiv (↑at_ : Int) (8 : Int)) = (↑q : Int),
 q < List.length bs,
 (↑q : Int) = (↑q : Int),
 (List.map byN bs)[q]? = some (.int .u8 (↑x : Int)),
 IntKind.u8.wrap (↑(BitVec.toNat (BitVec.ofInt (IntKind.bits IntKind.u8) (↑x : Int) &&& ~~~BitVec.ofInt (IntKind.bits IntKind.u8) (↑(((2 : Nat) ^ take - (1 : Nat)) * (2 : Nat) ^ ((8 : Nat) - first - take)) : Int))) : Int) = (↑x : Int),
 IntKind.u8.wrap (↑(BitVec.toNat (BitVec.ofInt (IntKind.bits IntKind.u8) (↑(v / (2 : Nat) ^ (n - take) % (256 : Nat) * (2 : Nat) ^ ((8 : Nat) - first - take) % (256 : Nat)) : Int) &&& BitVec.ofInt (IntKind.bits IntKind.u8) (↑(((2 : Nat) ^ take - (1 : Nat)) * (2 : Nat) ^ ((8 : Nat) - first - take)) : Int))) : Int) = (↑(v / (2 : Nat) ^ (n - take) % (2 : Nat) ^ take * (2 : Nat) ^ ((8 : Nat) - first - take)) : Int),
 IntKind.u8.wrap (↑(BitVec.toNat (BitVec.ofInt (IntKind.bits IntKind.u8) (↑x : Int) ||| BitVec.ofInt (IntKind.bits IntKind.u8) (↑(v / (2 : Nat) ^ (n - take) % (2 : Nat) ^ take * (2 : Nat) ^ ((8 : Nat) - first - take)) : Int))) : Int) = (↑y : Int),
 q < List.length bs,
 (↑q : Int) = (↑q : Int),
 (List.map byN bs)[q]? = some (.int .u8 (↑x : Int)),
 IntKind.i64.wrap ((↑at_ : Int) + (↑take : Int)) = (↑(at_ + take) : Int),
 IntKind.i64.wrap ((↑n : Int) - (↑take : Int)) = (↑(n - take) : Int),
 _]) (by kernel_rfl) rfl ⟨?z0, ?z1, ?z2, ?z3, ?z4, ?z5, ?z6, ?z7, ?z8, ?z9, ?z10, ?z11, ?z12, ?z13, ?z14, ?z15, ?z16, ?z17, ?z18, ?z19, ?z20, ?z21, ?z22, ?z23, ?z24, ?z25, ?z26, ?z27, ?z28, ?z29, ?z30, ?z31, ?z32, ih, trivial⟩
  case z0|z1|z2|z3|z4|z5|z6|z7|z8|z9|z10|z11|z12|z13|z14|z15|z16|z17|z18|z19|z20|z21|z22|z23|z24|z25|z26|z27|z28|z29|z30|z31|z32 => first | exact rfl | (simp [byN] <;> omega) | omega | (first | exact o1 | exact o2 | exact o3 | exact o4 | exact o5 | exact o6 | exact o7 | exact o8 | exact o9 | exact o10 | exact o11 | exact o12 | exact o13 | exact o14 | exact o15 | exact o16 | exact o17 | (simp; omega) | omega)
theorem get_round (bs : List Nat) (at_ n v v' q first take x : Nat) (hx : bs[q]? = some x) (hat : at_ = 8 * q + first) (hf : first < 8) (ht : 1 ≤ take) (hft : first + take ≤ 8) (hm : take = min (8 - first) n)
    (hb : x < 256) (hn : n ≤ 64) (hv : v < 2 ^ (64 - n)) (hl : bs.length ≤ 1099511627776)
    (ih : ALoop Tryz.prog 0 Tryz.f115.ntmps (loopB Tryz.f115 0) ⟨[(8, .int .u64 ((v * 2 ^ take + x / 2 ^ (8 - first - take) % 2 ^ take : Nat) : Int)), (0, .lst 1 (bs.map byN)), (1, .int .i64 ((at_ + take : Nat) : Int)), (2, .int .i64 ((n - take : Nat) : Int))], []⟩ (.exit 0) ⟨[(8, .int .u64 v')], []⟩) :
    ALoop Tryz.prog 0 Tryz.f115.ntmps (loopB Tryz.f115 0) ⟨[(8, .int .u64 v), (0, .lst 1 (bs.map byN)), (1, .int .i64 at_), (2, .int .i64 n)], []⟩ (.exit 0) ⟨[(8, .int .u64 v')], []⟩ := by
  have hq : q < bs.length := (List.getElem?_eq_some_iff.1 hx).1
  have hpp : x / 2 ^ (8 - first - take) % 2 ^ take < 2 ^ take := Nat.mod_lt _ (Nat.two_pow_pos _)
  have hpc : x / 2 ^ (8 - first - take) % 2 ^ take < 256 := Nat.lt_of_lt_of_le hpp (by rw [show (256 : Nat) = 2 ^ 8 by rfl]; exact Nat.pow_le_pow_right (by decide) (by omega))
  have hvt : v * 2 ^ take + x / 2 ^ (8 - first - take) % 2 ^ take < 2 ^ 64 := by
    have e1 : (v + 1) * 2 ^ take ≤ 2 ^ (64 - n) * 2 ^ take := Nat.mul_le_mul_right _ hv
    rw [← Nat.pow_add, Nat.succ_mul] at e1
    have e2 : 2 ^ (64 - n + take) ≤ 2 ^ 64 := Nat.pow_le_pow_right (by decide) (by omega)
    omega
  have o1 : Int.tmod (at_ : Int) 8 = (first : Int) := by rw [Int.tmod_eq_emod_of_nonneg (by omega)]; omega
  have o2 : IntKind.i64.wrap (8 - (first : Int)) = ((8 - first : Nat) : Int) := wN _ _ (by omega) (by omega)
  have o3 : L.mn ((8 - first : Nat) : Int) (n : Int) = (take : Int) := mnN _ _ _ hm
  have o4 : IntKind.i64.wrap (8 - (take : Int)) = ((8 - take : Nat) : Int) := wN _ _ (by omega) (by omega)
  have o5 := sh7 first hf x hb
  have o6 := sh8 first hf take (by omega) hft x hb
  have o8 : IntKind.i64.wrap ((n : Int) - (take : Int)) = ((n - take : Nat) : Int) := wN _ _ (by omega) (by omega)
  have o9 : IntKind.u64.wrap ((v : Int) * 2 ^ (min ((take : Nat) : Int).toNat IntKind.u64.bits)) = ((v * 2 ^ take : Nat) : Int) := by
    rw [show min ((take : Nat) : Int).toNat IntKind.u64.bits = take by simp [IntKind.bits]; omega]
    rw [show (v : Int) * 2 ^ take = ((v * 2 ^ take : Nat) : Int) by simp]
    exact wu _ (by omega) (by omega)
  have o10 : IntKind.u64.wrap ((x / 2 ^ (8 - first - take) % 2 ^ take : Nat) : Int) = ((x / 2 ^ (8 - first - take) % 2 ^ take : Nat) : Int) := wu _ (by omega) (by omega)
  have o11 := or64 v _ take hpp hvt
  have o12 : IntKind.i64.wrap (Int.tdiv (at_ : Int) 8) = (q : Int) := by rw [Int.tdiv_eq_ediv_of_nonneg (by omega)]; exact wN _ _ (by omega) (by omega)
  have o16 : IntKind.i64.wrap ((at_ : Int) + (take : Int)) = ((at_ + take : Nat) : Int) := wN _ _ (by omega) (by omega)
  have o17 : (bs.map byN)[q]? = some (byN x) := by rw [List.getElem?_map, hx]; rfl
  refine aloopK mixed [0, 1, 2, 6, 7, 8, 9, 10, 11, 16, 18] 1000 ([.go, .t, .n first, .n ((8 - first : Nat) : Int), .n take, .n q, .ix q, .el (byN x), .n ((x * 2 ^ first % 256 : Nat) : Int), .n ((8 - take : Nat) : Int), .n ((x / 2 ^ (8 - first - take) % 2 ^ take : Nat) : Int), .n ((v * 2 ^ take : Nat) : Int), .n ((x / 2 ^ (8 - first - take) % 2 ^ take : Nat) : Int), .n ((v * 2 ^ take + x / 2 ^ (8 - first - take) % 2 ^ take : Nat) : Int), .n ((at_ + take : Nat) : Int), .n ((n - take : Nat) : Int), .lp [8, 0, 1, 2] [] (.exit 0) ⟨[(8, .int .u64 v')], []⟩]) [8] [] (ob := [decide ((↑n : Int) > (0 : Int)) = true,
 (8 : Int) ≠ (0 : Int),
 Int.tmod (↑at_ : Int) (8 : Int) = (↑first : Int),
 IntKind.i64.wrap ((8 : Int) - (↑first : Int)) = (↑((8 : Nat) - first) : Int),
 mn (↑((8 : Nat) - first) : Int) (↑n : Int) = (↑take : Int),
 (8 : Int) ≠ (0 : Int),
 IntKind.i64.wrap (Int.tdiv (↑at_ : Int) (8 : Int)) = (↑q : Int),
 q < List.length (List.map byN bs),
 (↑q : Int) = (↑q : Int),
 (List.map byN bs)[q]? = some (.int .u8 (↑x : Int)),
 (0 : Int) ≤ (↑first : Int),
 IntKind.u8.wrap ((↑x : Int) * (2 : Int) ^ min (Int.toNat (↑first : Int)) (IntKind.bits IntKind.u8)) = (↑(x * (2 : Nat) ^ first % (256 : Nat)) : Int),
 IntKind.i64.wrap ((8 : Int) - (↑take : Int)) = (↑((8 : Nat) - take) : Int),
 (0 : Int) ≤ (↑((8 : Nat) - take) : Int),
 Int.fdiv (↑(x * (2 : Nat) ^ first % (256 : Nat)) : Int) ((2 : Int) ^ min (Int.toNat (↑((8 : Nat) - take) : Int)) (IntKind.bits IntKind.u8)) = (↑(x / (2 : Nat) ^ ((8 : Nat) - first - take) % (2 : Nat) ^ take) : Int),
 (0 : Int) ≤ (↑take : Int),
 IntKind.u64.wrap ((↑v : Int) * (2 : Int) ^ min (Int.toNat (↑take : Int)) (IntKind.bits IntKind.u64)) = (↑(v * (2 : Nat) ^ take) : Int),
 IntKind.u64.wrap (↑(x / (2 : Nat) ^ ((8 : Nat) - first - take) % (2 : Nat) ^ take) : Int) = (↑(x / (2 : Nat) ^ ((8 : Nat) - first - take) % (2 : Nat) ^ take) : Int),
 IntKind.u64.wrap (↑(BitVec.toNat (BitVec.ofInt (IntKind.bits IntKind.u64) (↑(v * (2 : Nat) ^ take) : Int) ||| BitVec.ofInt (IntKind.bits IntKind.u64) (↑(x / (2 : Nat) ^ ((8 : Nat) - first - take) % (2 : Nat) ^ take) : Int))) : Int) = (↑(v * (2 : Nat) ^ take + x / (2 : Nat) ^ ((8 : Nat) - first - take) % (2 : Nat) ^ take) : Int),
 IntKind.i64.wrap ((↑at_ : Int) + (↑take : Int)) = (↑(at_ + take) : Int),
 IntKind.i64.wrap ((↑n : Int) - (↑take : Int)) = (↑(n - take) : Int),
 _]) (by kernel_rfl) rfl ⟨?z0, ?z1, ?z2, ?z3, ?z4, ?z5, ?z6, ?z7, ?z8, ?z9, ?z10, ?z11, ?z12, ?z13, ?z14, ?z15, ?z16, ?z17, ?z18, ?z19, ?z20, ih, trivial⟩
  case z0|z1|z2|z3|z4|z5|z6|z7|z8|z9|z10|z11|z12|z13|z14|z15|z16|z17|z18|z19|z20 => first | exact rfl | (simp [byN] <;> omega) | omega | (first | exact o1 | exact o2 | exact o3 | exact o4 | exact o5 | exact o6 | exact o8 | exact o9 | exact o10 | exact o11 | exact o12 | exact o16 | exact o17 | (simp; omega) | omega)
end Go.Proofs.YtidgcfgkcidkiaaGreat.Ch
namespace Go.Proofs.YtidgcfgkcidkiaaGreat.Ch
open Go Go.RowKit Go.Proofs Go.Shelf Go.Proofs.YtidgcfgkcidkiaaGreat.L Go.Proofs.YtidgcfgkcidkiaaGreat.X
set_option linter.unusedVariables false
def lenLays_ren : Ren := ⟨fun x => match x with | 129 => 134 | n => n, fun x => match x with | 53 => 22 | 3 => 3 | 4 => 4 | 46 => 98 | 5 => 5 | 9 => 9 | n => n, fun n => n⟩
theorem lenLays : Lays.n129 Tryz.prog lenLays_ren where
  mixed := by kernel_rfl
  f129 := Tryz.func134.trans (congrArg some rfl)
  t3 := Tryz.underlying3
  a3 := Tryz.isAgg3
  z3 := Tryz.sizeOf3
  v3 := Tryz.zeroValue3
  t4 := Tryz.underlying4
  a4 := Tryz.isAgg4
  z4 := Tryz.sizeOf4
  v4 := Tryz.zeroValue4
  t5 := Tryz.underlying5
  a5 := Tryz.isAgg5
  z5 := Tryz.sizeOf5
  v5 := Tryz.zeroValue5
  t9 := Tryz.underlying9
  a9 := Tryz.isAgg9
  z9 := Tryz.sizeOf9
  v9 := Tryz.zeroValue9
  t46 := Tryz.underlying98
  a46 := Tryz.isAgg98
  z46 := Tryz.sizeOf98
  v46 := Tryz.zeroValue98
  t53 := Tryz.underlying22
  a53 := Tryz.isAgg22
  z53 := Tryz.sizeOf22
  v53 := Tryz.zeroValue22
theorem bitLenAux_le : ∀ (f x n : Nat), x < 2 ^ n → Lib.bitLenAux f x ≤ n
  | 0, x, n, h => by simp [Lib.bitLenAux]
  | f + 1, x, 0, h => by simp at h; subst h; simp [Lib.bitLenAux]
  | f + 1, x, n + 1, h => by
    simp only [Lib.bitLenAux]
    split
    · exact Nat.zero_le _
    · have := bitLenAux_le f (x / 2) n (by rw [Nat.pow_succ] at h; omega)
      omega
theorem len64_ac (x n : Nat) (hx : x < 2 ^ 64) : ACalls Tryz.prog 134 [.int .u64 x] [] (.int .i64 (Lib.bitLen x)) [] := by
  refine ⟨⟨_, Tryz.func134, rfl, rfl⟩, fun K w cs hR hcs => ?_⟩
  obtain ⟨v, vs, rfl, hv, hvs⟩ := hcs.cons_inv
  obtain rfl := hvs.nil_inv
  obtain rfl := hv.int_inv
  refine (Any.bits_Len64 lenLays x w (by omega) (by omega)).mono ?_
  rintro e w' ⟨rfl, rfl⟩
  exact ⟨K, _, rfl, hR, .pure (.int _ _), (Grow.refl _ K w').toC⟩
end Go.Proofs.YtidgcfgkcidkiaaGreat.Ch
namespace Go.Proofs.YtidgcfgkcidkiaaGreat.Ch
open Go Go.RowKit Go.Proofs.YtidgcfgkcidkiaaGreat.L Go.Proofs.YtidgcfgkcidkiaaGreat.X
set_option linter.unusedVariables false
set_option linter.unusedSimpArgs false
/-- n bits of v laid at a place of bytes whose rest is nothing yet. -/
def layB (bs : List Nat) (at_ n v : Nat) : List Nat := digs bs.length (valB bs + v % 2 ^ n * 2 ^ (8 * bs.length - at_ - n))
theorem split8 (at_ n : Nat) (hn : 0 < n) : ∃ q first take, at_ = 8 * q + first ∧ first < 8 ∧ 1 ≤ take ∧ first + take ≤ 8 ∧ take = min (8 - first) n ∧ take ≤ n :=
  ⟨at_ / 8, at_ % 8, min (8 - at_ % 8) n, by omega, by omega, by omega, by omega, rfl, by omega⟩
theorem set_loop (v : Nat) : ∀ (n at_ : Nat) (bs : List Nat), n ≤ 64 → (∀ b ∈ bs, b < 256) → bs.length ≤ 1099511627776 → at_ + n ≤ 8 * bs.length → 2 ^ (8 * bs.length - at_) ∣ valB bs →
    ALoop Tryz.prog 1 Tryz.f136.ntmps (loopB Tryz.f136 0) ⟨[(0, .row 0 1 bs.length), (1, .int .i64 at_), (2, .int .i64 n), (3, .int .u64 v)], [.row 5 1 (bs.map byN)]⟩ (.exit 0) ⟨[], [.row 5 1 ((layB bs at_ n v).map byN)]⟩ := by
  intro n
  induction n using Nat.strongRecOn with
  | ind n ih =>
    intro at_ bs hn hb hl hat hz
    by_cases h0 : n = 0
    · subst h0
      have e : layB bs at_ 0 v = bs := by simp [layB, Nat.mod_one, digs_val bs hb]
      rw [e]
      refine aloopK mixed [0, 1, 2, 3, 8, 9, 10, 11, 12, 14] 1000 ([.go, .f]) [] [0] (ob := [decide ((↑(0 : Nat) : Int) > (0 : Int)) = false]) (by kernel_rfl) rfl ⟨(by first | exact rfl | (simp []; done) | (simp []; omega) | omega | ((simp))), trivial⟩
    · obtain ⟨q, first, take, h1, h2, h3, h4, h5, h6⟩ := split8 at_ n (by omega)
      obtain ⟨x, hx⟩ := get_of (l := bs) (k := q) (by omega)
      have hxl := hb x (List.mem_of_getElem? hx)
      have hzz := byte_zero bs q x first hb hx (by omega) (by rw [← h1]; exact hz)
      have hlay := byte_lay bs q x first take (v / 2 ^ (n - take) % 2 ^ take) hx h4
      have hpp : v / 2 ^ (n - take) % 2 ^ take < 2 ^ take := Nat.mod_lt _ (Nat.two_pow_pos _)
      have hyl : x + v / 2 ^ (n - take) % 2 ^ take * 2 ^ (8 - first - take) < 256 := by
        have hpl : v / 2 ^ (n - take) % 2 ^ take * 2 ^ (8 - first - take) < 2 ^ (8 - first) := by
          have : 2 ^ (8 - first) = 2 ^ take * 2 ^ (8 - first - take) := by rw [← Nat.pow_add]; congr 1; omega
          rw [this]; exact Nat.mul_lt_mul_of_pos_right hpp (Nat.two_pow_pos _)
        have e : 256 = 2 ^ (8 - first) * 2 ^ first := by rw [← Nat.pow_add, show 8 - first + first = 8 by omega]
        have e2 := Nat.div_add_mod x (2 ^ (8 - first))
        have e3 : x / 2 ^ (8 - first) < 2 ^ first := by rw [Nat.div_lt_iff_lt_mul (Nat.two_pow_pos _), Nat.mul_comm, ← e]; exact hxl
        have e4 : 2 ^ (8 - first) * (x / 2 ^ (8 - first) + 1) ≤ 2 ^ (8 - first) * 2 ^ first := Nat.mul_le_mul_left _ e3
        rw [Nat.mul_add] at e4
        omega
      generalize hy : x + v / 2 ^ (n - take) % 2 ^ take * 2 ^ (8 - first - take) = y at hlay hyl
      rw [← h1] at hlay
      have hls : (bs.set q y).length = bs.length := List.length_set
      have hdvd : 2 ^ (8 * bs.length - (at_ + take)) ∣ valB (bs.set q y) := by
        rw [hlay]
        refine Nat.dvd_add ?_ ?_
        · exact Nat.dvd_trans (Nat.pow_dvd_pow 2 (by omega)) hz
        · rw [Nat.sub_sub]; exact Nat.dvd_mul_left _ _
      have hih := ih (n - take) (by omega) (at_ + take) (bs.set q y) (by omega) (fun b hbm => by
        rcases List.mem_or_eq_of_mem_set hbm with h | h
        · exact hb b h
        · rw [h]; exact hyl) (by rw [hls]; exact hl) (by rw [hls]; omega) (by rw [hls]; exact hdvd)
      have e : layB (bs.set q y) (at_ + take) (n - take) v = layB bs at_ n v := by
        unfold layB
        rw [hls, hlay]
        congr 1
        rw [mod_top v n take h6, Nat.add_mul, Nat.mul_assoc, ← Nat.pow_add, Nat.add_assoc]
        congr 2
        · congr 2; omega
        · congr 2; omega
      rw [e, hls] at hih
      exact set_round bs (layB bs at_ n v) at_ n v q first take x y hx h1 h2 h3 h4 h5 hxl hzz hn hl hy.symm hih
theorem set_tu (v n at_ : Nat) (bs : List Nat) (hn : n ≤ 64) (hb : ∀ b ∈ bs, b < 256) (hl : bs.length ≤ 1099511627776) (hat : at_ + n ≤ 8 * bs.length) (hz : 2 ^ (8 * bs.length - at_) ∣ valB bs) :
    ATurn Tryz.prog 136 [.row 0 1 bs.length, .int .i64 at_, .int .i64 n, .int .u64 v] 5 1 (bs.map byN) ((layB bs at_ n v).map byN) (.tup []) := by
  have h := set_loop v n at_ bs hn hb hl hat hz
  refine aturnK mixed Tryz.func136 rfl [0, 1, 2, 3, 8, 9, 10, 11, 12, 14] 1000 ([.lp [0, 1, 2, 3] [0] (.exit 0) ⟨[], [.row 5 1 ((layB bs at_ n v).map byN)]⟩]) (v1 := .tup []) (xs1 := List.map byN (layB bs at_ n v)) (ob := [ALoop Tryz.prog 1 59 (loopB Tryz.f136 0) { env := [(0, .row 0 1 (List.length bs)), (1, .int .i64 (↑at_ : Int)), (2, .int .i64 (↑n : Int)), (3, .int .u64 (↑v : Int))], objs := [.row 5 1 (List.map byN bs)] } (Ex.exit 0) { env := [], objs := [.row 5 1 (List.map byN (layB bs at_ n v))] }]) (by kernel_rfl) (by first | exact rfl | exact ⟨rfl, rfl⟩ | (simp []; done)) ?q64_l ?q64_f rfl ⟨?q64_1, trivial⟩
  · simp [layB, digs_len]
  · intro x hx
    obtain ⟨b, _, rfl⟩ := List.mem_map.1 hx
    rfl
  · exact h
/-- n bits from a place on. -/
def bitsAt (bs : List Nat) (at_ n : Nat) : Nat := valB bs / 2 ^ (8 * bs.length - at_ - n) % 2 ^ n
theorem get_loop (bs : List Nat) (hb : ∀ b ∈ bs, b < 256) (hl : bs.length ≤ 1099511627776) : ∀ (n at_ v : Nat), n ≤ 64 → at_ + n ≤ 8 * bs.length → v < 2 ^ (64 - n) →
    ALoop Tryz.prog 0 Tryz.f115.ntmps (loopB Tryz.f115 0) ⟨[(8, .int .u64 v), (0, .lst 1 (bs.map byN)), (1, .int .i64 at_), (2, .int .i64 n)], []⟩ (.exit 0) ⟨[(8, .int .u64 ((v * 2 ^ n + bitsAt bs at_ n : Nat) : Int))], []⟩ := by
  intro n
  induction n using Nat.strongRecOn with
  | ind n ih =>
    intro at_ v hn hat hv
    by_cases h0 : n = 0
    · subst h0
      have e : v * 2 ^ 0 + bitsAt bs at_ 0 = v := by simp [bitsAt, Nat.mod_one]
      rw [e]
      refine aloopK mixed [0, 1, 2, 6, 7, 8, 9, 10, 11, 16, 18] 1000 ([.go, .f]) [8] [] (ob := [decide ((↑(0 : Nat) : Int) > (0 : Int)) = false]) (by kernel_rfl) rfl ⟨(by first | exact rfl | (simp []; done) | (simp []; omega) | omega | ((simp))), trivial⟩
    · obtain ⟨q, first, take, h1, h2, h3, h4, h5, h6⟩ := split8 at_ n (by omega)
      obtain ⟨x, hx⟩ := get_of (l := bs) (k := q) (by omega)
      have hxl := hb x (List.mem_of_getElem? hx)
      have hbits := byte_bits bs q x first take hb hx h4
      rw [← h1] at hbits
      have hpp : x / 2 ^ (8 - first - take) % 2 ^ take < 2 ^ take := Nat.mod_lt _ (Nat.two_pow_pos _)
      have hv2 : v * 2 ^ take + x / 2 ^ (8 - first - take) % 2 ^ take < 2 ^ (64 - (n - take)) := by
        have e1 : (v + 1) * 2 ^ take ≤ 2 ^ (64 - n) * 2 ^ take := Nat.mul_le_mul_right _ hv
        rw [← Nat.pow_add, Nat.succ_mul, show 64 - n + take = 64 - (n - take) by omega] at e1
        omega
      have hih := ih (n - take) (by omega) (at_ + take) (v * 2 ^ take + x / 2 ^ (8 - first - take) % 2 ^ take) (by omega) (by omega) hv2
      have e : (v * 2 ^ take + x / 2 ^ (8 - first - take) % 2 ^ take) * 2 ^ (n - take) + bitsAt bs (at_ + take) (n - take) = v * 2 ^ n + bitsAt bs at_ n := by
        have m := mod_top (valB bs / 2 ^ (8 * bs.length - at_ - n)) n take h6
        rw [Nat.div_div_eq_div_mul, ← Nat.pow_add, show 8 * bs.length - at_ - n + (n - take) = 8 * bs.length - at_ - take by omega] at m
        unfold bitsAt
        rw [m, hbits, Nat.add_mul, Nat.mul_assoc, ← Nat.pow_add, show take + (n - take) = n by omega, show 8 * bs.length - (at_ + take) - (n - take) = 8 * bs.length - at_ - n by omega, Nat.add_assoc]
      rw [e] at hih
      exact get_round bs at_ n v _ q first take x hx h1 h2 h3 h4 h5 hxl hn hv hl hih
theorem within_bits (bs : List Nat) (at_ n : Nat) (hl : bs.length ≤ 1099511627776) (hn : n ≤ 64) (hat : at_ + n ≤ 8 * bs.length) : ACalls Tryz.prog 137 [.lst 1 (bs.map byN), .int .i64 at_, .int .i64 n] [] (.bool true) [] := by
  have o1 : IntKind.i64.wrap (8 * (bs.length : Int)) = ((8 * bs.length : Nat) : Int) := wN _ _ (by omega) (by omega)
  have o2 : IntKind.i64.wrap (((8 * bs.length : Nat) : Int) - (at_ : Int)) = ((8 * bs.length - at_ : Nat) : Int) := wN _ _ (by omega) (by omega)
  refine acallsK mixed Tryz.func137 rfl [0, 1, 2, 6] 1000 ([.t, .t, .t, .n (bs.length : Int), .n ((8 * bs.length : Nat) : Int), .t, .n (bs.length : Int), .n ((8 * bs.length : Nat) : Int), .n ((8 * bs.length - at_ : Nat) : Int), .t]) [] [] (ob := [decide ((↑n : Int) ≥ (0 : Int)) = true,
 decide ((↑n : Int) ≤ (64 : Int)) = true,
 decide ((↑at_ : Int) ≥ (0 : Int)) = true,
 ((List.map byN bs).length : Int) = (bs.length : Int),
 IntKind.i64.wrap ((8 : Int) * (bs.length : Int)) = (↑((8 : Nat) * List.length bs) : Int),
 decide ((↑at_ : Int) ≤ (↑((8 : Nat) * List.length bs) : Int)) = true,
 ((List.map byN bs).length : Int) = (bs.length : Int),
 IntKind.i64.wrap ((8 : Int) * (bs.length : Int)) = (↑((8 : Nat) * List.length bs) : Int),
 IntKind.i64.wrap ((↑((8 : Nat) * List.length bs) : Int) - (↑at_ : Int)) = (↑((8 : Nat) * List.length bs - at_) : Int),
 decide ((↑n : Int) ≤ (↑((8 : Nat) * List.length bs - at_) : Int)) = true]) (by kernel_rfl) ⟨rfl, rfl⟩ ⟨?z0, ?z1, ?z2, ?z3, ?z4, ?z5, ?z6, ?z7, ?z8, ?z9, trivial⟩
  case z0|z1|z2|z3|z4|z5|z6|z7|z8|z9 => first | exact rfl | (simp [] <;> omega) | omega | (first | exact o1 | exact o2 | (simp; omega))
theorem get_ac (bs : List Nat) (at_ n : Nat) (hb : ∀ b ∈ bs, b < 256) (hl : bs.length ≤ 1099511627776) (hn : n ≤ 64) (hat : at_ + n ≤ 8 * bs.length) : ACalls Tryz.prog 115 [.lst 1 (bs.map byN), .int .i64 at_, .int .i64 n] [] (.tup [.int .u64 (bitsAt bs at_ n), .bool true]) [] := by
  have h := get_loop bs hb hl n at_ 0 hn hat (Nat.two_pow_pos _)
  rw [Nat.zero_mul, Nat.zero_add] at h
  have hw := within_bits bs at_ n hl hn hat
  refine acallsK mixed Tryz.func115 rfl [0, 1, 2, 6, 7, 8, 9, 10, 11, 16, 18] 1000 ([.call [] false true (.bool true) [], .lp [8, 0, 1, 2] [] (.exit 0) ⟨[(8, .int .u64 (bitsAt bs at_ n))], []⟩]) [] [] (ob := [_,
 _]) (by kernel_rfl) ⟨rfl, rfl⟩ ⟨hw, h, trivial⟩
end Go.Proofs.YtidgcfgkcidkiaaGreat.Ch
namespace Go.Proofs.YtidgcfgkcidkiaaGreat.Ch
open Go Go.RowKit Go.Proofs.YtidgcfgkcidkiaaGreat.L Go.Proofs.YtidgcfgkcidkiaaGreat.X
set_option linter.unusedVariables false
set_option linter.unusedSimpArgs false
def wsA (ps : List (Nat × Nat)) : List AV := ps.map fun p => .int .i64 (p.1 : Int)
def vsA (ps : List (Nat × Nat)) : List AV := ps.map fun p => .int .u64 (p.2 : Int)
structure Packs (ps : List (Nat × Nat)) : Prop where
  w : ∀ p ∈ ps, p.1 ≤ 64
  v : ∀ p ∈ ps, p.2 < 2 ^ p.1
  n : ps.length ≤ 1000000
theorem wid_le : ∀ (ps : List (Nat × Nat)), (∀ p ∈ ps, p.1 ≤ 64) → wid ps ≤ 64 * ps.length
  | [], _ => by simp [wid]
  | p :: r, h => by
    have h1 := h p (by simp)
    have h2 := wid_le r fun x hx => h x (by simp [hx])
    simp only [wid, List.length_cons]; omega
theorem wid_sum : ∀ (ps : List (Nat × Nat)), (ps.map fun p => (p.1 : Int)).sum = (wid ps : Int)
  | [] => rfl
  | p :: r => by simp [wid, wid_sum r]
theorem digs_zero : ∀ (k : Nat), digs k 0 = List.replicate k 0
  | 0 => rfl
  | k + 1 => by simp [digs, digs_zero k, List.replicate_succ]
theorem take_next {ps : List (Nat × Nat)} {k : Nat} {p : Nat × Nat} (h : ps[k]? = some p) : ps.take (k + 1) = ps.take k ++ [p] := by rw [List.take_add_one, h]; rfl
/-- The bytes, when k of the numbers are in. -/
def rowP (ps : List (Nat × Nat)) (L k : Nat) : List Nat := digs L (packN (ps.take k) * 2 ^ (8 * L - wid (ps.take k)))
theorem check_loop (ps : List (Nat × Nat)) (h : Packs ps) : ∀ (n k : Nat), ps.length = k + n →
    ALoop Tryz.prog 0 Tryz.f113.ntmps (loopB Tryz.f113 0) ⟨[(19, .int .i64 k), (18, .int .i64 ps.length), (17, .lst 1 (wsA ps)), (0, .lst 1 (wsA ps)), (1, .lst 1 (vsA ps))], []⟩ (.exit 0) ⟨[(0, .lst 1 (wsA ps)), (1, .lst 1 (vsA ps))], []⟩
  | 0, k, e => by
    refine aloopK mixed [0, 1, 4, 5, 6, 7, 8, 9, 10, 11, 16, 17, 18, 19, 20, 38, 43, 44, 45, 46] 1000 ([.go, .f]) [0, 1] [] (ob := [decide ((↑k : Int) < (ps.length : Int)) = false]) (by kernel_rfl) rfl ⟨(by first | exact rfl | (simp []; done) | (simp []; omega) | omega), trivial⟩
  | n + 1, k, e => by
    obtain ⟨p, hp⟩ := get_of (l := ps) (k := k) (by omega)
    have hw := h.w p (List.mem_of_getElem? hp)
    have hv := h.v p (List.mem_of_getElem? hp)
    have hlen := h.n
    have hk : k < ps.length := by omega
    have ih := check_loop ps h n (k + 1) (by omega)
    have o1 : IntKind.i64.wrap ((k : Int) + 1) = ((k + 1 : Nat) : Int) := wrap64 (by omega)
    have o2 : (wsA ps)[k]? = some (.int .i64 (p.1 : Int)) := by simp [wsA, hp]
    have o3 : (vsA ps)[k]? = some (.int .u64 (p.2 : Int)) := by simp [vsA, hp]
    have o4 := bitLenAux_le 64 p.2 p.1 hv
    have o5 : decide ((Lib.bitLen p.2 : Int) > (p.1 : Int)) = false := decide_eq_false (by show ¬ ((Lib.bitLenAux 64 p.2 : Nat) : Int) > (p.1 : Int); omega)
    have o6 : k < (wsA ps).length := by simp [wsA, hk]
    have o7 : k < (vsA ps).length := by simp [vsA, hk]
    have o8 : p.2 < 2 ^ 64 := Nat.lt_of_lt_of_le hv (Nat.pow_le_pow_right (by decide) hw)
    refine aloopK mixed [0, 1, 4, 5, 6, 7, 8, 9, 10, 11, 16, 17, 18, 19, 20, 38, 43, 44, 45, 46] 1000 ([.go, .t, .ix k, .el (.int .i64 (p.1 : Int)), .f, .f, .ix k, .el (.int .u64 (p.2 : Int)), .call [] false true (.int .i64 (Lib.bitLen p.2)) [], .f, .n ((k + 1 : Nat) : Int), .lp [19, 18, 17, 0, 1] [] (.exit 0) ⟨[(0, .lst 1 (wsA ps)), (1, .lst 1 (vsA ps))], []⟩]) [0, 1] [] (ob := [decide ((↑k : Int) < (ps.length : Int)) = true,
 k < List.length (wsA ps),
 (↑k : Int) = (↑k : Int),
 (wsA ps)[k]? = some (.int .i64 (↑p.1 : Int)),
 decide ((↑p.1 : Int) < (0 : Int)) = false,
 decide ((↑p.1 : Int) > (64 : Int)) = false,
 k < List.length (vsA ps),
 (↑k : Int) = (↑k : Int),
 (vsA ps)[k]? = some (.int .u64 (↑p.2 : Int)),
 _,
 decide ((↑(Lib.bitLen p.2) : Int) > (↑p.1 : Int)) = false,
 IntKind.i64.wrap ((↑k : Int) + (1 : Int)) = (↑(k + (1 : Nat)) : Int),
 _]) (by kernel_rfl) rfl ⟨?z0, ?z1, ?z2, ?z3, ?z4, ?z5, ?z6, ?z7, ?z8, (len64_ac p.2 0 o8), ?z9, ?z10, ih, trivial⟩
    case z0|z1|z2|z3|z4|z5|z6|z7|z8|z9|z10 => first | exact rfl | (simp [] <;> omega) | omega | (first | exact o1 | exact o2 | exact o3 | exact o5 | exact o6 | exact o7 | (simp; omega))
theorem pack_loop (ps : List (Nat × Nat)) (h : Packs ps) (L : Nat) (hL : wid ps ≤ 8 * L) (hL2 : L ≤ 100000000) : ∀ (n k : Nat), ps.length = k + n →
    ALoop Tryz.prog 0 Tryz.f113.ntmps (loopB Tryz.f113 1) ⟨[(45, .int .i64 k), (44, .int .i64 ps.length), (43, .lst 1 (wsA ps)), (9, .int .i64 (wid (ps.take k))), (8, .row 0 1 L), (1, .lst 1 (vsA ps))], [.row 5 1 ((rowP ps L k).map byN)]⟩ (.exit 2) ⟨[(8, .row 0 1 L)], [.row 5 1 ((rowP ps L ps.length).map byN)]⟩
  | 0, k, e => by
    have : k = ps.length := by omega
    subst this
    refine aloopK mixed [0, 1, 4, 5, 6, 7, 8, 9, 10, 11, 16, 17, 18, 19, 20, 38, 43, 44, 45, 46] 1000 ([.go, .f]) [8] [0] (ob := [decide ((ps.length : Int) < (ps.length : Int)) = false]) (by kernel_rfl) rfl ⟨(by first | exact rfl | (simp []; done) | (simp []; omega) | omega), trivial⟩
  | n + 1, k, e => by
    obtain ⟨p, hp⟩ := get_of (l := ps) (k := k) (by omega)
    have hw := h.w p (List.mem_of_getElem? hp)
    have hv := h.v p (List.mem_of_getElem? hp)
    have hlen := h.n
    have hk : k < ps.length := by omega
    have ih := pack_loop ps h L hL hL2 n (k + 1) (by omega)
    have o1 : IntKind.i64.wrap ((k : Int) + 1) = ((k + 1 : Nat) : Int) := wrap64 (by omega)
    have o2 : (wsA ps)[k]? = some (.int .i64 (p.1 : Int)) := by simp [wsA, hp]
    have o3 : (vsA ps)[k]? = some (.int .u64 (p.2 : Int)) := by simp [vsA, hp]
    have o6 : k < (wsA ps).length := by simp [wsA, hk]
    have o7 : k < (vsA ps).length := by simp [vsA, hk]
    have tn := take_next hp
    have wn : wid (ps.take (k + 1)) = wid (ps.take k) + p.1 := by rw [tn, wid_app]; simp [wid]
    have hwid : wid (ps.take (k + 1)) ≤ wid ps := by
      have := wid_app (ps.take (k + 1)) (ps.drop (k + 1))
      rw [List.take_append_drop] at this; omega
    have o8 : IntKind.i64.wrap ((wid (ps.take k) : Int) + (p.1 : Int)) = (wid (ps.take (k + 1)) : Int) := wN _ _ (by omega) (by omega)
    have hlt : packN (ps.take k) < 2 ^ wid (ps.take k) := packN_lt _ fun x hx => h.v x (List.mem_of_mem_take hx)
    have hR : packN (ps.take k) * 2 ^ (8 * L - wid (ps.take k)) < 2 ^ (8 * L) := by
      have e : 2 ^ (8 * L) = 2 ^ wid (ps.take k) * 2 ^ (8 * L - wid (ps.take k)) := by rw [← Nat.pow_add]; congr 1; omega
      rw [e]; exact Nat.mul_lt_mul_of_pos_right hlt (Nat.two_pow_pos _)
    have hRl : (rowP ps L k).length = L := digs_len _ _
    have hRv : valB (rowP ps L k) = packN (ps.take k) * 2 ^ (8 * L - wid (ps.take k)) := valB_digs _ _ hR
    have o9 : L = ((rowP ps L k).map byN).length := by simp [hRl]
    have hset := set_tu p.2 p.1 (wid (ps.take k)) (rowP ps L k) hw (digs_lt _ _) (by omega) (by omega) (by rw [hRl, hRv]; exact Nat.dvd_mul_left _ _)
    have el : layB (rowP ps L k) (wid (ps.take k)) p.1 p.2 = rowP ps L (k + 1) := by
      unfold layB
      rw [hRl, hRv]
      show _ = digs L _
      congr 1
      rw [wn, tn, packN_app]
      have e1 : 2 ^ (8 * L - wid (ps.take k)) = 2 ^ p.1 * 2 ^ (8 * L - wid (ps.take k) - p.1) := by rw [← Nat.pow_add]; congr 1; omega
      have e2 : wid [p] = p.1 := by simp [wid]
      have e3 : packN [p] = p.2 := by simp [packN]
      rw [e1, e2, e3, Nat.mod_eq_of_lt hv, Nat.add_mul, Nat.mul_assoc, Nat.sub_sub]
    rw [el, hRl] at hset
    have o10 : ((rowP ps L (k + 1)).map byN).length = ((rowP ps L k).map byN).length := by simp [rowP, digs_len]
    refine aloopK mixed [0, 1, 4, 5, 6, 7, 8, 9, 10, 11, 16, 17, 18, 19, 20, 38, 43, 44, 45, 46] 1000 ([.go, .t, .ix k, .el (.int .i64 (p.1 : Int)), .ix k, .el (.int .u64 (p.2 : Int)), .tu 0 ((rowP ps L (k + 1)).map byN) (.tup []), .n (wid (ps.take (k + 1)) : Int), .n ((k + 1 : Nat) : Int), .lp [45, 44, 43, 9, 8, 1] [0] (.exit 2) ⟨[(8, .row 0 1 L)], [.row 5 1 ((rowP ps L ps.length).map byN)]⟩]) [8] [0] (ob := [decide ((↑k : Int) < (ps.length : Int)) = true,
 k < List.length (wsA ps),
 (↑k : Int) = (↑k : Int),
 (wsA ps)[k]? = some (.int .i64 (↑p.1 : Int)),
 k < List.length (vsA ps),
 (↑k : Int) = (↑k : Int),
 (vsA ps)[k]? = some (.int .u64 (↑p.2 : Int)),
 List.length (List.map byN (rowP ps L (k + (1 : Nat)))) = List.length (List.map byN (rowP ps L k)),
 _,
 IntKind.i64.wrap ((↑(wid (List.take k ps)) : Int) + (↑p.1 : Int)) = (↑(wid (List.take (k + (1 : Nat)) ps)) : Int),
 IntKind.i64.wrap ((↑k : Int) + (1 : Int)) = (↑(k + (1 : Nat)) : Int),
 _]) (by kernel_rfl) rfl ⟨?z0, ?z1, ?z2, ?z3, ?z4, ?z5, ?z6, ?z7, hset, ?z8, ?z9, ih, trivial⟩
    case z0|z1|z2|z3|z4|z5|z6|z7|z8|z9 => first | exact rfl | (simp [] <;> omega) | omega | (first | exact o1 | exact o2 | exact o3 | exact o6 | exact o7 | exact o8 | exact o10 | (simp; omega))
theorem pack_ac (ps : List (Nat × Nat)) (h : Packs ps) : ACalls Tryz.prog 113 [.lst 1 (wsA ps), .lst 1 (vsA ps)] [] (.tup [.row 0 1 (packB ps).length, .bool true]) [.row 5 1 ((packB ps).map byN)] := by
  have hl := h.n
  have hwl := wid_le ps h.w
  have h1 := check_loop ps h ps.length 0 (by omega)
  generalize hL : (wid ps + 7) / 8 = L
  have hw := whole_ac (ps.map fun p => (p.1 : Int)) (by
    intro x hx
    obtain ⟨p, hp, rfl⟩ := List.mem_map.1 hx
    have := h.w p hp
    exact ⟨by omega, by omega⟩) (by rw [List.length_map]; exact hl)
  rw [wid_sum, show ((wid ps : Int) + 7) / 8 = (L : Int) by omega, List.map_map] at hw
  have h2 := pack_loop ps h L (by omega) (by omega) ps.length 0 (by omega)
  have e0 : (rowP ps L 0).map byN = List.replicate L (.int .u8 0) := by
    simp [rowP, packN, digs_zero, List.map_replicate, byN]
  have e1 : rowP ps L ps.length = packB ps := by
    simp [rowP, packB, List.take_length, hL]
  rw [e0, e1] at h2
  have o1 : (packB ps).length = L := by rw [packB_len, hL]
  have o2 : (wsA ps).length = ps.length := by simp [wsA]
  have o3 : (vsA ps).length = ps.length := by simp [vsA]
  refine acallsK mixed Tryz.func113 rfl [0, 1, 4, 5, 6, 7, 8, 9, 10, 11, 16, 17, 18, 19, 20, 38, 43, 44, 45, 46] 1000 ([.n (ps.length : Int), .n (ps.length : Int), .f, .n (ps.length : Int), .lp [19, 18, 17, 0, 1] [] (.exit 0) ⟨[(0, .lst 1 (wsA ps)), (1, .lst 1 (vsA ps))], []⟩, .call [] false true (.int .i64 (L : Int)) [], .ix L, .ix L, .n (ps.length : Int), .lp [45, 44, 43, 9, 8, 1] [0] (.exit 2) ⟨[(8, .row 0 1 L)], [.row 5 1 ((packB ps).map byN)]⟩]) [] [0] (v1 := .tup [.row 0 1 L, .bool true]) (objs1 := [.row 5 1 (List.map byN (packB ps))]) (ob := [((wsA ps).length : Int) = (ps.length : Int),
 ((vsA ps).length : Int) = (ps.length : Int),
 ((ps.length : Int) != (ps.length : Int)) = false,
 ((wsA ps).length : Int) = (ps.length : Int),
 _,
 _,
 L ≤ L,
 L ≤ (140737488355328 : Nat),
 L * (1 : Nat) ≤ (140737488355328 : Nat),
 (↑L : Int) = (↑L : Int),
 (↑L : Int) = (↑L : Int),
 ((wsA ps).length : Int) = (ps.length : Int),
 _]) (by kernel_rfl) (by first | exact rfl | exact ⟨rfl, rfl⟩ | (simp [o1, o2, o3, wsA, vsA]; done) | (omega)) ⟨?z0, ?z1, ?z2, ?z3, h1, hw, ?z4, ?z5, ?z6, ?z7, ?z8, ?z9, h2, trivial⟩
  case z0|z1|z2|z3|z4|z5|z6|z7|z8|z9 => first | exact rfl | (simp [o1, o2, o3, wsA, vsA] <;> omega) | omega | (omega)
end Go.Proofs.YtidgcfgkcidkiaaGreat.Ch
namespace Go.Proofs.YtidgcfgkcidkiaaGreat.Ch
open Go Go.RowKit Go.Proofs.YtidgcfgkcidkiaaGreat.L Go.Proofs.YtidgcfgkcidkiaaGreat.X
set_option linter.unusedVariables false
set_option linter.unusedSimpArgs false
structure Lay4 (l : LayD) : Prop where
  e0 : 1 ≤ l.epoch
  e1 : l.epoch ≤ 1048576
  q0 : 0 ≤ l.seq
  q1 : l.seq < 32
  p : 1 ≤ l.segs.length
  m : l.segs.length ≤ 4
  s : ∀ s ∈ l.segs, Seg4 s
theorem rest_fine : ∀ (p : Option Int) (l : List SegD), restB p l = true → ∀ s ∈ l, fineB s = true
  | _, [], _, s, hs => by simp at hs
  | none, x :: r, h, s, hs => by
    simp only [restB, Bool.and_eq_true] at h
    rcases List.mem_cons.1 hs with rfl | hs
    · exact h.1
    · exact rest_fine _ r h.2 s hs
  | some a, x :: r, h, s, hs => by
    simp only [restB, Bool.and_eq_true] at h
    rcases List.mem_cons.1 hs with rfl | hs
    · exact h.1
    · exact rest_fine _ r h.2.2 s hs
theorem fine_seg4 {s : SegD} (h : fineB s = true) (h0 : 0 ≤ s.at_) : Seg4 s := by
  have h' := h
  simp only [fineB, Bool.and_eq_true, decide_eq_true_eq, lenB] at h'
  exact ⟨h0, h'.1, by omega, by omega, fun c hc => let q := fine_chain h hc; ⟨by have := q.pos; omega, q.most, q.all⟩⟩
theorem right_lay4 {l : LayD} (h : rightL l = true) (h0 : ∀ s ∈ l.segs, 0 ≤ s.at_) : Lay4 l := by
  simp only [rightL, Bool.and_eq_true, decide_eq_true_eq, lenB, outB, inB, Bool.not_eq_true', Bool.not_eq_false', Bool.and_eq_false_iff, decide_eq_false_iff_not] at h
  obtain ⟨h1, h2, h3, h4, h5, h6⟩ := h
  refine ⟨h1, h2, ?_, ?_, by omega, by omega, fun s hs => fine_seg4 (rest_fine _ _ h6 s hs) (h0 s hs)⟩
  · exact h3.1
  · exact h3.2
def natP (p : Int × Int) : Nat × Nat := (p.1.toNat, p.2.toNat)
structure Fit (p : Int × Int) : Prop where
  w0 : 0 ≤ p.1
  w1 : p.1 ≤ 64
  v0 : 0 ≤ p.2
  v1 : p.2.toNat < 2 ^ p.1.toNat
def layQ (l : LayD) : List (Nat × Nat) := (layP l).map natP
/-- A layout's bytes. -/
def bytL (l : LayD) : List Nat := packB (layQ l)
theorem fit5 {x : Int} (h0 : 0 ≤ x) (h : x < 32) : Fit (5, x) := ⟨by show (0 : Int) ≤ 5; decide, by show (5 : Int) ≤ 64; decide, h0, by show x.toNat < 32; omega⟩
theorem fit2 {x : Int} (h0 : 0 ≤ x) (h : x < 4) : Fit (2, x) := ⟨by show (0 : Int) ≤ 2; decide, by show (2 : Int) ≤ 64; decide, h0, by show x.toNat < 4; omega⟩
theorem fit20 {x : Int} (h0 : 0 ≤ x) (h : x < 1048576) : Fit (20, x) := ⟨by show (0 : Int) ≤ 20; decide, by show (20 : Int) ≤ 64; decide, h0, by show x.toNat < 1048576; omega⟩
theorem fit21 {x : Int} (h0 : 0 ≤ x) (h : x < 2097152) : Fit (21, x) := ⟨by show (0 : Int) ≤ 21; decide, by show (21 : Int) ≤ 64; decide, h0, by show x.toNat < 2097152; omega⟩
theorem chain_fit {c : List Int} (h : Ch4 c) : ∀ p ∈ chainP c, Fit p := by
  intro p hp
  have h1 := h.p
  have h2 := h.m
  rcases List.mem_cons.1 hp with rfl | hp
  · exact fit2 (by omega) (by omega)
  · obtain ⟨x, hx, rfl⟩ := List.mem_map.1 hp
    exact fit5 (h.u x hx).1 (h.u x hx).2
theorem seg_fit {s : SegD} (h : Seg4 s) : ∀ p ∈ segP s, Fit p := by
  intro p hp
  have h1 := h.p
  have h2 := h.m
  rcases List.mem_cons.1 hp with rfl | hp
  · exact fit20 h.at0 h.at1
  · rcases List.mem_cons.1 hp with rfl | hp
    · exact fit2 (by omega) (by omega)
    · obtain ⟨c, hc, hp⟩ := List.mem_flatMap.1 hp
      exact chain_fit (h.u c hc) p hp
theorem lay_fit {l : LayD} (h : Lay4 l) : ∀ p ∈ layP l, Fit p := by
  intro p hp
  have h1 := h.p
  have h2 := h.m
  have h3 := h.e0
  have h4 := h.e1
  rcases List.mem_append.1 hp with hp | hp
  · simp only [headP, List.mem_cons, List.not_mem_nil, or_false] at hp
    rcases hp with rfl | rfl | rfl
    · exact fit21 (by omega) (by omega)
    · exact fit5 h.q0 h.q1
    · exact fit2 (by omega) (by omega)
  · obtain ⟨s, hs, hp⟩ := List.mem_flatMap.1 hp
    exact seg_fit (h.s s hs) p hp
theorem segs_len : ∀ (l : List SegD), (∀ s ∈ l, Seg4 s) → (l.flatMap segP).length ≤ 22 * l.length
  | [], _ => by simp
  | s :: r, h => by
    have h1 := h s (by simp)
    have h2 := segs_len r fun x hx => h x (by simp [hx])
    have h3 := flat_len s.chains h1.u
    have h4 := h1.m
    simp only [List.flatMap_cons, List.length_append, List.length_cons, segP]
    omega
theorem lay_packs {l : LayD} (h : Lay4 l) : Packs (layQ l) := by
  have hf := lay_fit h
  refine ⟨fun p hp => ?_, fun p hp => ?_, ?_⟩
  · obtain ⟨q, hq, rfl⟩ := List.mem_map.1 hp
    have := hf q hq
    have h1 := this.w1
    show q.1.toNat ≤ 64
    omega
  · obtain ⟨q, hq, rfl⟩ := List.mem_map.1 hp
    exact (hf q hq).v1
  · have h1 := segs_len l.segs h.s
    have h2 := h.m
    simp only [layQ, layP, headP, List.length_map, List.length_append, List.length_cons, List.length_nil]
    omega
theorem ws_layQ {ps : List (Int × Int)} (h : ∀ p ∈ ps, Fit p) : wsA (ps.map natP) = (ps.map (·.1)).map intA ∧ vsA (ps.map natP) = (ps.map (·.2)).map u64A := by
  constructor
  · simp only [wsA, List.map_map]
    refine List.map_congr_left fun p hp => ?_
    have := (h p hp).w0
    show intA ((p.1.toNat : Nat) : Int) = intA p.1
    rw [Int.toNat_of_nonneg this]
  · simp only [vsA, List.map_map]
    refine List.map_congr_left fun p hp => ?_
    have := (h p hp).v0
    show u64A ((p.2.toNat : Nat) : Int) = u64A p.2
    rw [Int.toNat_of_nonneg this]
theorem encode_full (l : LayD) (h : Lay4 l) (hr : rightL l = true) (hok : l.ok) : ACalls Tryz.prog 66 [encL l] [] (.tup [.row 0 1 (bytL l).length, .int .i64 0]) [.row 5 1 ((bytL l).map byN)] := by
  have hp := pack_ac (layQ l) (lay_packs h)
  obtain ⟨e1, e2⟩ := ws_layQ (lay_fit h)
  have c := rightL_ac l (fun s hs => (hok.1 s hs).1) hok.2
  rw [hr] at c
  unfold layQ at hp
  rw [e1, e2] at hp
  have e3 : (packB ((layP l).map natP)).map byN = ((packB ((layP l).map natP)).map Int.ofNat).map byteA := by simp [byN, byteA]
  rw [e3] at hp
  have := encode_ac l h.s h.p h.m h.q0 h.q1 c ((packB ((layP l).map natP)).map Int.ofNat) true (by rw [List.length_map]; exact hp)
  rw [← e3, List.length_map] at this
  exact this
end Go.Proofs.YtidgcfgkcidkiaaGreat.Ch
namespace Go.Proofs.YtidgcfgkcidkiaaGreat.Ch
open Go Go.RowKit Go.Proofs.YtidgcfgkcidkiaaGreat.L Go.Proofs.YtidgcfgkcidkiaaGreat.X
set_option linter.unusedVariables false
set_option linter.unusedSimpArgs false
def decA (bs : List Nat) (a : Nat) : List X.Obj := [.vars 27 [.lst 1 (bs.map byN)], .vars 3 [.int .i64 a], .vars 4 [.bool true]]
theorem wid_packs {pre post : List (Nat × Nat)} {w v : Nat} (h : Packs (pre ++ (w, v) :: post)) : w ≤ 64 ∧ v < 2 ^ w ∧ wid pre + w ≤ wid (pre ++ (w, v) :: post) ∧ wid (pre ++ (w, v) :: post) ≤ 64000000 := by
  have h1 := h.w (w, v) (by simp)
  have h2 := h.v (w, v) (by simp)
  have h3 := wid_le _ h.w
  have h4 := h.n
  refine ⟨h1, h2, ?_, by omega⟩
  rw [wid_app]; simp only [wid]; omega
theorem dec_get (PS pre post : List (Nat × Nat)) (w v : Nat) (h : Packs PS) (hp : PS = pre ++ (w, v) :: post) :
    ACalls Tryz.prog 114 [.int .i64 w, .ptr 0 0, .ptr 1 0, .ptr 2 0] (decA (packB PS) (wid pre)) (.int .u64 v) (decA (packB PS) (wid pre + w)) := by
  subst hp
  obtain ⟨h1, h2, h3, h4⟩ := wid_packs h
  have hl := packB_len (pre ++ (w, v) :: post)
  have hg := get_ac (packB (pre ++ (w, v) :: post)) (wid pre) w (digs_lt _ _) (by omega) h1 (by omega)
  have e : bitsAt (packB (pre ++ (w, v) :: post)) (wid pre) w = v := by
    unfold bitsAt
    rw [packB_val _ h.v, hl]
    have e1 : 8 * ((wid (pre ++ (w, v) :: post) + 7) / 8) - wid pre - w = wid post + (8 * ((wid (pre ++ (w, v) :: post) + 7) / 8) - wid (pre ++ (w, v) :: post)) := by
      have : wid (pre ++ (w, v) :: post) = wid pre + (w + wid post) := by rw [wid_app]; rfl
      omega
    rw [e1]
    exact packN_get pre post w v _ (fun p hp => h.v p (by simp [hp])) h2
  rw [e] at hg
  have o1 : IntKind.i64.wrap ((wid pre : Int) + (w : Int)) = ((wid pre + w : Nat) : Int) := wN _ _ (by omega) (by omega)
  refine acallsK mixed Tryz.func114 rfl [0, 1, 2, 3, 5, 6, 7] 1000 ([.call [] false true (.tup [.int .u64 v, .bool true]) [], .n ((wid pre + w : Nat) : Int), .t]) [] [0, 1, 2] (ob := [_,
 IntKind.i64.wrap ((↑(wid pre) : Int) + (↑w : Int)) = (↑(wid pre + w) : Int),
 true = true]) (by kernel_rfl) ⟨rfl, rfl⟩ ⟨hg, ?z0, ?z1, trivial⟩
  case z0|z1 => first | exact rfl | (simp [decA] <;> omega) | omega | (exact o1)
theorem flatMap_eq {α β : Type} {f g : α → List β} (h : ∀ x, f x = g x) (l : List α) : l.flatMap f = l.flatMap g := by rw [show f = g from funext h]
def chN (c : List Int) : List (Nat × Nat) := (2, c.length - 1) :: c.map fun x => (5, x.toNat)
def sgN (s : SegD) : List (Nat × Nat) := (20, s.at_.toNat) :: (2, s.chains.length - 1) :: s.chains.flatMap chN
theorem layQ_eq (l : LayD) (h : Lay4 l) : layQ l = (21, l.epoch.toNat) :: (5, l.seq.toNat) :: (2, l.segs.length - 1) :: l.segs.flatMap sgN := by
  have e1 : ∀ c, (chainP c).map natP = chN c := by
    intro c
    simp only [chainP, chN, List.map_cons, List.map_map, natP]
    congr 1
    · congr 1; omega
  have e2 : ∀ s, (segP s).map natP = sgN s := by
    intro s
    simp only [segP, sgN, List.map_cons, List.map_flatMap, natP]
    congr 2
    · congr 1; omega
    · exact flatMap_eq e1 _
  simp only [layQ, layP, headP, List.map_append, List.map_cons, List.map_nil, List.map_flatMap, natP, List.cons_append, List.nil_append]
  congr 3
  · congr 1; omega
  · exact flatMap_eq e2 _
def envL (n : Nat) : X.Env := [(8, .int .u64 n), (7, .ptr 4 0), (6, .fn 114 [.ptr 0 0, .ptr 2 0, .ptr 3 0]), (5, .ptr 3 0), (3, .int .i64 0), (2, .ptr 1 0), (1, .ptr 0 0)]
def decL (bs : List Nat) (a : Nat) (e q : Int) (segs : List SegD) : List X.Obj := [.vars 27 [.lst 1 (bs.map byN)], .vars 25 [.int .u64 0, .nils, .int .i64 0], .vars 3 [.int .i64 a], .vars 4 [.bool true], .vars 25 [.int .u64 e, .row 5 2 segs.length, .int .i64 q], .row 82 2 (segs.map encS)]
def decS (bs : List Nat) (a : Nat) (e q : Int) (segs : List SegD) (f : Int) (cs : List (List Int)) : List X.Obj := decL bs a e q segs ++ [.vars 82 [.int .u64 f, .row 7 1 cs.length], .row 46 1 (cs.map encU)]
def decC (bs : List Nat) (a : Nat) (e q : Int) (segs : List SegD) (f : Int) (cs : List (List Int)) (c : List Int) : List X.Obj := decS bs a e q segs f cs ++ [.row 3 1 (c.map intA)]
theorem dec_units (PS post : List (Nat × Nat)) (h : Packs PS) (e q : Int) (segs : List SegD) (f : Int) (cs : List (List Int)) (sn nc : Nat) (c : List Int) (hc : ∀ x ∈ c, 0 ≤ x ∧ x < 32) (h1 : 1 ≤ c.length) (h2 : c.length ≤ 4) : ∀ (n k : Nat) (pre : List (Nat × Nat)), c.length = k + n → PS = pre ++ ((c.drop k).map fun x => (5, x.toNat)) ++ post →
    ALoop Tryz.prog 0 Tryz.f67.ntmps (loopB Tryz.f67 2) ⟨(12, .int .u64 ((c.length - 1 : Nat) : Int)) :: (11, .row 8 1 k) :: (10, .int .u64 nc) :: (9, .ptr 6 0) :: envL sn, decC (packB PS) (wid pre) e q segs f cs (c.take k)⟩ (.exit 4) ⟨(11, .row 8 1 c.length) :: (10, .int .u64 nc) :: (9, .ptr 6 0) :: envL sn, decC (packB PS) (wid pre + 5 * n) e q segs f cs c⟩
  | 0, k, pre, hn, hp => by
    have ek : c.take k = c := List.take_of_length_le (by omega)
    have hk : k = c.length := by omega
    subst hk
    rw [ek]
    have o1 : IntKind.i64.wrap ((c.length - 1 : Nat) : Int) = ((c.length - 1 : Nat) : Int) := wN _ _ rfl (by omega)
    refine aloopK mixed [0, 1, 2, 3, 4, 5, 6, 7, 8, 9, 10, 11, 12, 13, 14, 33, 47, 57, 92] 1000 ([.go, .t, .n (c.length : Int), .n ((c.length - 1 : Nat) : Int), .f]) [11, 10, 9, 8, 7, 6, 5, 3, 2, 1] [0, 1, 2, 3, 4, 5, 6, 7, 8] (ob := [true = true,
 (c.length : Int) = (c.length : Int),
 IntKind.i64.wrap (↑(List.length c - (1 : Nat)) : Int) = (↑(List.length c - (1 : Nat)) : Int),
 decide ((c.length : Int) ≤ (↑(List.length c - (1 : Nat)) : Int)) = false]) (by kernel_rfl) rfl ⟨?z0, ?z1, ?z2, ?z3, trivial⟩
    case z0|z1|z2|z3 => first | exact rfl | (simp [decC, decS, decL, envL] <;> omega) | omega | (first | exact o1 | (simp; omega))
  | n + 1, k, pre, hn, hp => by
    obtain ⟨x, hx⟩ := get_of (l := c) (k := k) (by omega)
    have hx2 := hc x (List.mem_of_getElem? hx)
    have hp' : PS = pre ++ (5, x.toNat) :: (((c.drop (k + 1)).map fun x => (5, x.toNat)) ++ post) := by rw [hp, drop_of hx]; simp
    have hg := dec_get PS pre _ 5 x.toNat h hp'
    have ew : wid (pre ++ [(5, x.toNat)]) = wid pre + 5 := by rw [wid_app]; rfl
    have ih := dec_units PS post h e q segs f cs sn nc c hc h1 h2 n (k + 1) (pre ++ [(5, x.toNat)]) (by omega) (by rw [hp']; simp)
    rw [ew, show wid pre + 5 + 5 * n = wid pre + 5 * (n + 1) by omega] at ih
    have o1 : IntKind.i64.wrap ((c.length - 1 : Nat) : Int) = ((c.length - 1 : Nat) : Int) := wN _ _ rfl (by omega)
    have o2 : IntKind.i64.wrap ((x.toNat : Nat) : Int) = x := by rw [Int.toNat_of_nonneg hx2.1]; exact wrap_i (by omega) (by omega)
    have o3 : (c.take k).map intA ++ [.int .i64 x] = (c.take (k + 1)).map intA := by rw [List.take_add_one, hx]; simp [intA]
    have o4 : ((c.take k).map intA).length = k := by simp; omega
    have o5 : (List.map intA (List.take (k + 1) c)).length = k + 1 := by simp; omega
    have o6 : ((k : Nat) : Int) ≤ ((c.length - 1 : Nat) : Int) := by omega
    refine aloopK mixed [0, 1, 2, 3, 4, 5, 6, 7, 8, 9, 10, 11, 12, 13, 14, 33, 47, 57, 92] 1000 ([.go, .t, .n (k : Int), .n ((c.length - 1 : Nat) : Int), .t, .call [0, 2, 3] false false (.int .u64 (x.toNat : Int)) (decA (packB PS) (wid pre + 5)), .n x, .ls ((c.take (k + 1)).map intA), .lp [12, 11, 10, 9, 8, 7, 6, 5, 3, 2, 1] [0, 1, 2, 3, 4, 5, 6, 7, 10] (.exit 4) ⟨(11, .row 8 1 c.length) :: (10, .int .u64 nc) :: (9, .ptr 6 0) :: envL sn, decC (packB PS) (wid pre + 5 * (n + 1)) e q segs f cs c⟩]) [11, 10, 9, 8, 7, 6, 5, 3, 2, 1] [0, 1, 2, 3, 4, 5, 6, 7, 8] (ob := [true = true,
 (↑k : Int) = (↑k : Int),
 IntKind.i64.wrap (↑(List.length c - (1 : Nat)) : Int) = (↑(List.length c - (1 : Nat)) : Int),
 decide ((↑k : Int) ≤ (↑(List.length c - (1 : Nat)) : Int)) = true,
 ACalls Tryz.prog 114 [.int .i64 5, .ptr 0 0, .ptr 1 0, .ptr 2 0] [.vars 27 [.lst 1 (List.map byN (packB PS))], .vars 3 [.int .i64 (↑(wid pre) : Int)], .vars 4 [.bool true]] (.int .u64 (↑(Int.toNat x) : Int)) [.vars 27 [.lst 1 (List.map byN (packB PS))], .vars 3 [.int .i64 (↑(wid pre + 5) : Int)], .vars 4 [.bool true]],
 IntKind.i64.wrap (↑(Int.toNat x) : Int) = x,
 (List.length (List.map intA (List.take k c)) + (1 : Nat)) * (8 : Nat) ≤ (140737488355328 : Nat),
 List.map intA (List.take k c) ++ [.int .i64 x] = List.map intA (List.take (k + (1 : Nat)) c),
 ALoop Tryz.prog 0 95 (loopB Tryz.f67 2) { env := [(12, .int .u64 (↑(List.length c - 1) : Int)), (11, .row 8 1 (List.length (List.map intA (List.take (k + 1) c)))), (10, .int .u64 (↑nc : Int)), (9, .ptr 6 0), (8, .int .u64 (↑sn : Int)), (7, .ptr 4 0), (6, .fn 114 [.ptr 0 0, .ptr 2 0, .ptr 3 0]), (5, .ptr 3 0), (3, .int .i64 0), (2, .ptr 1 0), (1, .ptr 0 0)], objs := [.vars 27 [.lst 1 (List.map byN (packB PS))], .vars 25 [.int .u64 0, .nils, .int .i64 0], .vars 3 [.int .i64 (↑(wid pre + 5) : Int)], .vars 4 [.bool true], .vars 25 [.int .u64 e, .row 5 2 (List.length segs), .int .i64 q], .row 82 2 (List.map encS segs), .vars 82 [.int .u64 f, .row 7 1 (List.length cs)], .row 46 1 (List.map encU cs), .row 3 1 (List.map intA (List.take (k + 1) c))] } (Ex.exit 4) { env := [(11, .row 8 1 (List.length c)), (10, .int .u64 (↑nc : Int)), (9, .ptr 6 0), (8, .int .u64 (↑sn : Int)), (7, .ptr 4 0), (6, .fn 114 [.ptr 0 0, .ptr 2 0, .ptr 3 0]), (5, .ptr 3 0), (3, .int .i64 0), (2, .ptr 1 0), (1, .ptr 0 0)], objs := [.vars 27 [.lst 1 (List.map byN (packB PS))], .vars 25 [.int .u64 0, .nils, .int .i64 0], .vars 3 [.int .i64 (↑(wid pre + 5 * (n + 1)) : Int)], .vars 4 [.bool true], .vars 25 [.int .u64 e, .row 5 2 (List.length segs), .int .i64 q], .row 82 2 (List.map encS segs), .vars 82 [.int .u64 f, .row 7 1 (List.length cs)], .row 46 1 (List.map encU cs), .row 3 1 (List.map intA c)] }]) (by kernel_rfl) rfl ⟨?z4, ?z5, ?z6, ?z7, ?q79_1, ?z8, ?z9, ?z10, ?q79_2, trivial⟩
    case z4|z5|z6|z7|z8|z9|z10 => first | exact rfl | (simp [decC, decS, decL, decA, envL] <;> omega) | omega | (first | exact o1 | exact o2 | exact o3 | exact o4 | exact o5 | exact o6 | (simp; omega))
    · exact hg
    · rw [o5]; exact ih
end Go.Proofs.YtidgcfgkcidkiaaGreat.Ch
namespace Go.Proofs.YtidgcfgkcidkiaaGreat.Ch
open Go Go.RowKit Go.Proofs.YtidgcfgkcidkiaaGreat.L Go.Proofs.YtidgcfgkcidkiaaGreat.X
set_option linter.unusedVariables false
set_option linter.unusedSimpArgs false
theorem wid_chN (c : List Int) : wid (chN c) = 2 + 5 * c.length := by
  have : ∀ l : List Int, wid (l.map fun x => (5, x.toNat)) = 5 * l.length := by
    intro l
    induction l with
    | nil => rfl
    | cons x r ih => simp only [List.map_cons, wid, ih, List.length_cons]; omega
  simp only [chN, wid, this]
theorem dec_chains (PS post : List (Nat × Nat)) (h : Packs PS) (e q : Int) (segs : List SegD) (f : Int) (cs : List (List Int)) (sn : Nat) (hc : ∀ c ∈ cs, Ch4 c) (h1 : 1 ≤ cs.length) (h2 : cs.length ≤ 4) : ∀ (n k : Nat) (pre : List (Nat × Nat)), cs.length = k + n → PS = pre ++ (cs.drop k).flatMap chN ++ post →
    ALoop Tryz.prog 0 Tryz.f67.ntmps (loopB Tryz.f67 1) ⟨(10, .int .u64 ((cs.length - 1 : Nat) : Int)) :: (9, .ptr 6 0) :: envL sn, decS (packB PS) (wid pre) e q segs f (cs.take k)⟩ (.exit 2) ⟨(9, .ptr 6 0) :: envL sn, decS (packB PS) (wid pre + wid ((cs.drop k).flatMap chN)) e q segs f cs⟩
  | 0, k, pre, hn, hp => by
    have ek : cs.take k = cs := List.take_of_length_le (by omega)
    have ed : cs.drop k = [] := List.drop_eq_nil_of_le (by omega)
    rw [ek, ed, List.flatMap_nil, wid, Nat.add_zero]
    have o1 : IntKind.i64.wrap ((cs.length - 1 : Nat) : Int) = ((cs.length - 1 : Nat) : Int) := wN _ _ rfl (by omega)
    refine aloopK mixed [0, 1, 2, 3, 4, 5, 6, 7, 8, 9, 10, 11, 12, 13, 14, 33, 47, 57, 92] 1000 ([.go, .t, .n (cs.length : Int), .n ((cs.length - 1 : Nat) : Int), .f]) [9, 8, 7, 6, 5, 3, 2, 1] [0, 1, 2, 3, 4, 5, 6, 7] (ob := [true = true,
 (cs.length : Int) = (cs.length : Int),
 IntKind.i64.wrap (↑(List.length cs - (1 : Nat)) : Int) = (↑(List.length cs - (1 : Nat)) : Int),
 decide ((cs.length : Int) ≤ (↑(List.length cs - (1 : Nat)) : Int)) = false]) (by kernel_rfl) rfl ⟨?z0, ?z1, ?z2, ?z3, trivial⟩
    case z0|z1|z2|z3 => first | exact rfl | (simp [decC, decS, decL, envL] <;> omega) | omega | (first | exact o1 | (simp; omega))
  | n + 1, k, pre, hn, hp => by
    obtain ⟨c, hx⟩ := get_of (l := cs) (k := k) (by omega)
    have hx2 := hc c (List.mem_of_getElem? hx)
    have c1 := hx2.p
    have c2 := hx2.m
    have ed := drop_of hx
    have hp1 : PS = pre ++ (2, c.length - 1) :: ((c.map fun x => (5, x.toNat)) ++ ((cs.drop (k + 1)).flatMap chN ++ post)) := by rw [hp, ed]; simp [chN]
    have hg := dec_get PS pre _ 2 (c.length - 1) h hp1
    have ew : wid (pre ++ [(2, c.length - 1)]) = wid pre + 2 := by rw [wid_app]; rfl
    have hin := dec_units PS ((cs.drop (k + 1)).flatMap chN ++ post) h e q segs f (cs.take k) sn (cs.length - 1) c hx2.u c1 c2 c.length 0 (pre ++ [(2, c.length - 1)]) (by omega) (by rw [hp1]; simp)
    rw [ew] at hin
    have ew2 : wid (pre ++ chN c) = wid pre + 2 + 5 * c.length := by rw [wid_app, wid_chN]; omega
    have ih := dec_chains PS post h e q segs f cs sn hc h1 h2 n (k + 1) (pre ++ chN c) (by omega) (by rw [hp, ed]; simp)
    rw [ew2, show wid pre + 2 + 5 * c.length + wid ((cs.drop (k + 1)).flatMap chN) = wid pre + wid ((cs.drop k).flatMap chN) by rw [ed, List.flatMap_cons, wid_app, wid_chN]; omega] at ih
    have o1 : IntKind.i64.wrap ((cs.length - 1 : Nat) : Int) = ((cs.length - 1 : Nat) : Int) := wN _ _ rfl (by omega)
    have o3 : (cs.take k).map encU ++ [encU c] = (cs.take (k + 1)).map encU := by rw [List.take_add_one, hx]; simp
    have o4 : ((cs.take k).map encU).length = k := by simp; omega
    have o5 : (cs.take (k + 1)).length = k + 1 := by simp; omega
    have o6 : ((k : Nat) : Int) ≤ ((cs.length - 1 : Nat) : Int) := by omega
    have o7 : (((cs.take k).length : Nat) : Int) = (k : Int) := by simp; omega
    refine aloopK mixed [0, 1, 2, 3, 4, 5, 6, 7, 8, 9, 10, 11, 12, 13, 14, 33, 47, 57, 92] 1000 ([.go, .t, .n (k : Int), .n ((cs.length - 1 : Nat) : Int), .t, .call [0, 2, 3] false false (.int .u64 ((c.length - 1 : Nat) : Int)) (decA (packB PS) (wid pre + 2)), .mk 11 3 1, .lp [12, 11, 10, 9, 8, 7, 6, 5, 3, 2, 1] [0, 1, 2, 3, 4, 5, 6, 7, 8] (.exit 4) ⟨(11, .row 8 1 c.length) :: (10, .int .u64 ((cs.length - 1 : Nat) : Int)) :: (9, .ptr 6 0) :: envL sn, decC (packB PS) (wid pre + 2 + 5 * c.length) e q segs f (cs.take k) c⟩, .fo 67 [8], .ls ((cs.take (k + 1)).map encU), .lp [10, 9, 8, 7, 6, 5, 3, 2, 1] [0, 1, 2, 3, 4, 5, 6, 10] (.exit 2) ⟨(9, .ptr 6 0) :: envL sn, decS (packB PS) (wid pre + wid ((cs.drop k).flatMap chN)) e q segs f cs⟩]) [9, 8, 7, 6, 5, 3, 2, 1] [0, 1, 2, 3, 4, 5, 6, 7] (ob := [true = true,
 ((List.take k cs).length : Int) = (↑k : Int),
 IntKind.i64.wrap (↑(List.length cs - (1 : Nat)) : Int) = (↑(List.length cs - (1 : Nat)) : Int),
 decide ((↑k : Int) ≤ (↑(List.length cs - (1 : Nat)) : Int)) = true,
 ACalls Tryz.prog 114 [.int .i64 2, .ptr 0 0, .ptr 1 0, .ptr 2 0] [.vars 27 [.lst 1 (List.map byN (packB PS))], .vars 3 [.int .i64 (↑(wid pre) : Int)], .vars 4 [.bool true]] (.int .u64 (↑(List.length c - 1) : Int)) [.vars 27 [.lst 1 (List.map byN (packB PS))], .vars 3 [.int .i64 (↑(wid pre + 2) : Int)], .vars 4 [.bool true]],
 ALoop Tryz.prog 0 95 (loopB Tryz.f67 2) { env := [(12, .int .u64 (↑(List.length c - 1) : Int)), (11, .row 8 1 0), (10, .int .u64 (↑(List.length cs - 1) : Int)), (9, .ptr 6 0), (8, .int .u64 (↑sn : Int)), (7, .ptr 4 0), (6, .fn 114 [.ptr 0 0, .ptr 2 0, .ptr 3 0]), (5, .ptr 3 0), (3, .int .i64 0), (2, .ptr 1 0), (1, .ptr 0 0)], objs := [.vars 27 [.lst 1 (List.map byN (packB PS))], .vars 25 [.int .u64 0, .nils, .int .i64 0], .vars 3 [.int .i64 (↑(wid pre + 2) : Int)], .vars 4 [.bool true], .vars 25 [.int .u64 e, .row 5 2 (List.length segs), .int .i64 q], .row 82 2 (List.map encS segs), .vars 82 [.int .u64 f, .row 7 1 (List.length (List.take k cs))], .row 46 1 (List.map encU (List.take k cs)), .row 3 1 []] } (Ex.exit 4) { env := [(11, .row 8 1 (List.length c)), (10, .int .u64 (↑(List.length cs - 1) : Int)), (9, .ptr 6 0), (8, .int .u64 (↑sn : Int)), (7, .ptr 4 0), (6, .fn 114 [.ptr 0 0, .ptr 2 0, .ptr 3 0]), (5, .ptr 3 0), (3, .int .i64 0), (2, .ptr 1 0), (1, .ptr 0 0)], objs := [.vars 27 [.lst 1 (List.map byN (packB PS))], .vars 25 [.int .u64 0, .nils, .int .i64 0], .vars 3 [.int .i64 (↑(wid pre + 2 + 5 * List.length c) : Int)], .vars 4 [.bool true], .vars 25 [.int .u64 e, .row 5 2 (List.length segs), .int .i64 q], .row 82 2 (List.map encS segs), .vars 82 [.int .u64 f, .row 7 1 (List.length (List.take k cs))], .row 46 1 (List.map encU (List.take k cs)), .row 3 1 (List.map intA c)] },
 (List.length (List.map encU (List.take k cs)) + (1 : Nat)) * (24 : Nat) ≤ (140737488355328 : Nat),
 List.map encU (List.take k cs) ++ [.lst (nat_lit 1) (List.map intA c)] = List.map encU (List.take (k + (1 : Nat)) cs),
 ALoop Tryz.prog 0 95 (loopB Tryz.f67 1) { env := [(10, .int .u64 (↑(List.length cs - 1) : Int)), (9, .ptr 6 0), (8, .int .u64 (↑sn : Int)), (7, .ptr 4 0), (6, .fn 114 [.ptr 0 0, .ptr 2 0, .ptr 3 0]), (5, .ptr 3 0), (3, .int .i64 0), (2, .ptr 1 0), (1, .ptr 0 0)], objs := [.vars 27 [.lst 1 (List.map byN (packB PS))], .vars 25 [.int .u64 0, .nils, .int .i64 0], .vars 3 [.int .i64 (↑(wid pre + 2 + 5 * List.length c) : Int)], .vars 4 [.bool true], .vars 25 [.int .u64 e, .row 5 2 (List.length segs), .int .i64 q], .row 82 2 (List.map encS segs), .vars 82 [.int .u64 f, .row 7 1 (List.length (List.map encU (List.take (k + 1) cs)))], .row 46 1 (List.map encU (List.take (k + 1) cs))] } (Ex.exit 2) { env := [(9, .ptr 6 0), (8, .int .u64 (↑sn : Int)), (7, .ptr 4 0), (6, .fn 114 [.ptr 0 0, .ptr 2 0, .ptr 3 0]), (5, .ptr 3 0), (3, .int .i64 0), (2, .ptr 1 0), (1, .ptr 0 0)], objs := [.vars 27 [.lst 1 (List.map byN (packB PS))], .vars 25 [.int .u64 0, .nils, .int .i64 0], .vars 3 [.int .i64 (↑(wid pre + wid (List.flatMap chN (List.drop k cs))) : Int)], .vars 4 [.bool true], .vars 25 [.int .u64 e, .row 5 2 (List.length segs), .int .i64 q], .row 82 2 (List.map encS segs), .vars 82 [.int .u64 f, .row 7 1 (List.length cs)], .row 46 1 (List.map encU cs)] }]) (by kernel_rfl) rfl ⟨?z4, ?z5, ?z6, ?z7, ?q42_1, ?q42_2, ?z8, ?z9, ?q42_3, trivial⟩
    case z4|z5|z6|z7|z8|z9 => first | exact rfl | (simp [decC, decS, decL, decA, envL] <;> omega) | omega | (first | exact o1 | exact o3 | exact o4 | exact o6 | exact o7 | (simp; omega))
    · exact hg
    · exact hin
    · rw [List.length_map]; exact ih
theorem wid_sgN (s : SegD) : wid (sgN s) = 22 + wid (s.chains.flatMap chN) := by simp only [sgN, wid]; omega
theorem dec_segs (PS post : List (Nat × Nat)) (h : Packs PS) (e q : Int) (segs : List SegD) (hs : ∀ s ∈ segs, Seg4 s) (h1 : 1 ≤ segs.length) (h2 : segs.length ≤ 4) : ∀ (n k : Nat) (pre : List (Nat × Nat)), segs.length = k + n → PS = pre ++ (segs.drop k).flatMap sgN ++ post →
    ALoop Tryz.prog 0 Tryz.f67.ntmps (loopB Tryz.f67 0) ⟨envL (segs.length - 1), decL (packB PS) (wid pre) e q (segs.take k)⟩ (.exit 0) ⟨envL (segs.length - 1), decL (packB PS) (wid pre + wid ((segs.drop k).flatMap sgN)) e q segs⟩
  | 0, k, pre, hn, hp => by
    have ek : segs.take k = segs := List.take_of_length_le (by omega)
    have ed : segs.drop k = [] := List.drop_eq_nil_of_le (by omega)
    rw [ek, ed, List.flatMap_nil, wid, Nat.add_zero]
    have o1 : IntKind.i64.wrap ((segs.length - 1 : Nat) : Int) = ((segs.length - 1 : Nat) : Int) := wN _ _ rfl (by omega)
    refine aloopK mixed [0, 1, 2, 3, 4, 5, 6, 7, 8, 9, 10, 11, 12, 13, 14, 33, 47, 57, 92] 1000 ([.go, .t, .n (segs.length : Int), .n ((segs.length - 1 : Nat) : Int), .f]) [8, 7, 6, 5, 3, 2, 1] [0, 1, 2, 3, 4, 5] (ob := [true = true,
 (segs.length : Int) = (segs.length : Int),
 IntKind.i64.wrap (↑(List.length segs - (1 : Nat)) : Int) = (↑(List.length segs - (1 : Nat)) : Int),
 decide ((segs.length : Int) ≤ (↑(List.length segs - (1 : Nat)) : Int)) = false]) (by kernel_rfl) rfl ⟨?z0, ?z1, ?z2, ?z3, trivial⟩
    case z0|z1|z2|z3 => first | exact rfl | (simp [decC, decS, decL, envL] <;> omega) | omega | (first | exact o1 | (simp; omega))
  | n + 1, k, pre, hn, hp => by
    obtain ⟨s, hx⟩ := get_of (l := segs) (k := k) (by omega)
    have hx2 := hs s (List.mem_of_getElem? hx)
    have c0 := hx2.at0
    have c1 := hx2.p
    have c2 := hx2.m
    have ed := drop_of hx
    have hp1 : PS = pre ++ (20, s.at_.toNat) :: ((2, s.chains.length - 1) :: (s.chains.flatMap chN ++ ((segs.drop (k + 1)).flatMap sgN ++ post))) := by rw [hp, ed]; simp [sgN]
    have hg1 := dec_get PS pre _ 20 s.at_.toNat h hp1
    have ew1 : wid (pre ++ [(20, s.at_.toNat)]) = wid pre + 20 := by rw [wid_app]; rfl
    have hg2 := dec_get PS (pre ++ [(20, s.at_.toNat)]) (s.chains.flatMap chN ++ ((segs.drop (k + 1)).flatMap sgN ++ post)) 2 (s.chains.length - 1) h (by rw [hp1]; simp)
    rw [ew1] at hg2
    have ew2 : wid (pre ++ [(20, s.at_.toNat), (2, s.chains.length - 1)]) = wid pre + 20 + 2 := by rw [wid_app]; simp [wid]
    have hin := dec_chains PS ((segs.drop (k + 1)).flatMap sgN ++ post) h e q (segs.take k) s.at_ s.chains (segs.length - 1) hx2.u c1 c2 s.chains.length 0 (pre ++ [(20, s.at_.toNat), (2, s.chains.length - 1)]) (by omega) (by rw [hp1]; simp)
    rw [ew2, List.drop_zero] at hin
    have ew3 : wid (pre ++ sgN s) = wid pre + 20 + 2 + wid (s.chains.flatMap chN) := by rw [wid_app, wid_sgN]; omega
    have ih := dec_segs PS post h e q segs hs h1 h2 n (k + 1) (pre ++ sgN s) (by omega) (by rw [hp, ed]; simp)
    rw [ew3, show wid pre + 20 + 2 + wid (s.chains.flatMap chN) + wid ((segs.drop (k + 1)).flatMap sgN) = wid pre + wid ((segs.drop k).flatMap sgN) by rw [ed, List.flatMap_cons, wid_app, wid_sgN]; omega] at ih
    rw [Int.toNat_of_nonneg c0] at hg1
    have o1 : IntKind.i64.wrap ((segs.length - 1 : Nat) : Int) = ((segs.length - 1 : Nat) : Int) := wN _ _ rfl (by omega)
    have o3 : (segs.take k).map encS ++ [.agg [.int .u64 s.at_, .lst 1 (s.chains.map encU)]] = (segs.take (k + 1)).map encS := by rw [List.take_add_one, hx, List.map_append]; rfl
    have o6 : ((k : Nat) : Int) ≤ ((segs.length - 1 : Nat) : Int) := by omega
    have o7 : (((segs.take k).length : Nat) : Int) = (k : Int) := by simp; omega
    refine aloopK mixed [0, 1, 2, 3, 4, 5, 6, 7, 8, 9, 10, 11, 12, 13, 14, 33, 47, 57, 92] 1000 ([.go, .t, .n (k : Int), .n ((segs.length - 1 : Nat) : Int), .t, .call [0, 2, 3] false false (.int .u64 s.at_) (decA (packB PS) (wid pre + 20)), .call [0, 2, 3] false false (.int .u64 ((s.chains.length - 1 : Nat) : Int)) (decA (packB PS) (wid pre + 20 + 2)), .mkc 6 1 46 1, .lp [10, 9, 8, 7, 6, 5, 3, 2, 1] [0, 1, 2, 3, 4, 5, 6, 7] (.exit 2) ⟨(9, .ptr 6 0) :: envL (segs.length - 1), decS (packB PS) (wid pre + 20 + 2 + wid (s.chains.flatMap chN)) e q (segs.take k) s.at_ s.chains⟩, .fo 73 [7], .ls ((segs.take (k + 1)).map encS), .lp [8, 7, 6, 5, 3, 2, 1] [0, 1, 2, 3, 4, 9] (.exit 0) ⟨envL (segs.length - 1), decL (packB PS) (wid pre + wid ((segs.drop k).flatMap sgN)) e q segs⟩]) [8, 7, 6, 5, 3, 2, 1] [0, 1, 2, 3, 4, 5] (ob := [true = true,
 ((List.take k segs).length : Int) = (↑k : Int),
 IntKind.i64.wrap (↑(List.length segs - (1 : Nat)) : Int) = (↑(List.length segs - (1 : Nat)) : Int),
 decide ((↑k : Int) ≤ (↑(List.length segs - (1 : Nat)) : Int)) = true,
 ACalls Tryz.prog 114 [.int .i64 20, .ptr 0 0, .ptr 1 0, .ptr 2 0] [.vars 27 [.lst 1 (List.map byN (packB PS))], .vars 3 [.int .i64 (↑(wid pre) : Int)], .vars 4 [.bool true]] (.int .u64 s.at_) [.vars 27 [.lst 1 (List.map byN (packB PS))], .vars 3 [.int .i64 (↑(wid pre + 20) : Int)], .vars 4 [.bool true]],
 ACalls Tryz.prog 114 [.int .i64 2, .ptr 0 0, .ptr 1 0, .ptr 2 0] [.vars 27 [.lst 1 (List.map byN (packB PS))], .vars 3 [.int .i64 (↑(wid pre + 20) : Int)], .vars 4 [.bool true]] (.int .u64 (↑(List.length s.chains - 1) : Int)) [.vars 27 [.lst 1 (List.map byN (packB PS))], .vars 3 [.int .i64 (↑(wid pre + 20 + 2) : Int)], .vars 4 [.bool true]],
 ALoop Tryz.prog 0 95 (loopB Tryz.f67 1) { env := [(10, .int .u64 (↑(List.length s.chains - 1) : Int)), (9, .ptr 6 0), (8, .int .u64 (↑(List.length segs - 1) : Int)), (7, .ptr 4 0), (6, .fn 114 [.ptr 0 0, .ptr 2 0, .ptr 3 0]), (5, .ptr 3 0), (3, .int .i64 0), (2, .ptr 1 0), (1, .ptr 0 0)], objs := [.vars 27 [.lst 1 (List.map byN (packB PS))], .vars 25 [.int .u64 0, .nils, .int .i64 0], .vars 3 [.int .i64 (↑(wid pre + 20 + 2) : Int)], .vars 4 [.bool true], .vars 25 [.int .u64 e, .row 5 2 (List.length (List.take k segs)), .int .i64 q], .row 82 2 (List.map encS (List.take k segs)), .vars 82 [.int .u64 s.at_, .row 7 1 0], .row 46 1 []] } (Ex.exit 2) { env := [(9, .ptr 6 0), (8, .int .u64 (↑(List.length segs - 1) : Int)), (7, .ptr 4 0), (6, .fn 114 [.ptr 0 0, .ptr 2 0, .ptr 3 0]), (5, .ptr 3 0), (3, .int .i64 0), (2, .ptr 1 0), (1, .ptr 0 0)], objs := [.vars 27 [.lst 1 (List.map byN (packB PS))], .vars 25 [.int .u64 0, .nils, .int .i64 0], .vars 3 [.int .i64 (↑(wid pre + 20 + 2 + wid (List.flatMap chN s.chains)) : Int)], .vars 4 [.bool true], .vars 25 [.int .u64 e, .row 5 2 (List.length (List.take k segs)), .int .i64 q], .row 82 2 (List.map encS (List.take k segs)), .vars 82 [.int .u64 s.at_, .row 7 1 (List.length s.chains)], .row 46 1 (List.map encU s.chains)] },
 (List.length (List.map encS (List.take k segs)) + (1 : Nat)) * (32 : Nat) ≤ (140737488355328 : Nat),
 List.map encS (List.take k segs) ++ [.agg [.int .u64 s.at_, .lst (nat_lit 1) (List.map encU s.chains)]] = List.map encS (List.take (k + (1 : Nat)) segs),
 ALoop Tryz.prog 0 95 (loopB Tryz.f67 0) { env := [(8, .int .u64 (↑(List.length segs - 1) : Int)), (7, .ptr 4 0), (6, .fn 114 [.ptr 0 0, .ptr 2 0, .ptr 3 0]), (5, .ptr 3 0), (3, .int .i64 0), (2, .ptr 1 0), (1, .ptr 0 0)], objs := [.vars 27 [.lst 1 (List.map byN (packB PS))], .vars 25 [.int .u64 0, .nils, .int .i64 0], .vars 3 [.int .i64 (↑(wid pre + 20 + 2 + wid (List.flatMap chN s.chains)) : Int)], .vars 4 [.bool true], .vars 25 [.int .u64 e, .row 5 2 (List.length (List.map encS (List.take (k + 1) segs))), .int .i64 q], .row 82 2 (List.map encS (List.take (k + 1) segs))] } (Ex.exit 0) { env := [(8, .int .u64 (↑(List.length segs - 1) : Int)), (7, .ptr 4 0), (6, .fn 114 [.ptr 0 0, .ptr 2 0, .ptr 3 0]), (5, .ptr 3 0), (3, .int .i64 0), (2, .ptr 1 0), (1, .ptr 0 0)], objs := [.vars 27 [.lst 1 (List.map byN (packB PS))], .vars 25 [.int .u64 0, .nils, .int .i64 0], .vars 3 [.int .i64 (↑(wid pre + wid (List.flatMap sgN (List.drop k segs))) : Int)], .vars 4 [.bool true], .vars 25 [.int .u64 e, .row 5 2 (List.length segs), .int .i64 q], .row 82 2 (List.map encS segs)] }]) (by kernel_rfl) rfl ⟨?z4, ?z5, ?z6, ?z7, ?q78_1, ?q78_2, ?q78_3, ?z8, ?z9, ?q78_4, trivial⟩
    case z4|z5|z6|z7|z8|z9 => first | exact rfl | (simp [decC, decS, decL, decA, envL] <;> omega) | omega | (first | exact o1 | exact o3 | exact o6 | exact o7 | (simp; omega))
    · exact hg1
    · exact hg2
    · exact hin
    · rw [List.length_map]; exact ih
end Go.Proofs.YtidgcfgkcidkiaaGreat.Ch
namespace Go.Proofs.YtidgcfgkcidkiaaGreat.Ch
open Go Go.RowKit Go.Proofs.YtidgcfgkcidkiaaGreat.L Go.Proofs.YtidgcfgkcidkiaaGreat.X
set_option linter.unusedVariables false
set_option linter.unusedSimpArgs false
theorem byN_byteA (bs : List Nat) : bs.map byN = (bs.map Int.ofNat).map byteA := by simp [byN, byteA]
theorem decode_full (l : LayD) (h : Lay4 l) (hr : rightL l = true) (hok : l.ok) : ACalls Tryz.prog 67 [.lst 1 ((bytL l).map byN)] [] (.tup [encL l, .int .i64 0]) [] := by
  have hP := lay_packs h
  have hq := layQ_eq l h
  have f0 := h.e0
  have f1 := h.e1
  have f2 := h.q0
  have f3 := h.q1
  have f4 := h.p
  have f5 := h.m
  have g1 := dec_get (layQ l) [] _ 21 l.epoch.toNat hP hq
  have g2 := dec_get (layQ l) [(21, l.epoch.toNat)] _ 5 l.seq.toNat hP hq
  have g3 := dec_get (layQ l) [(21, l.epoch.toNat), (5, l.seq.toNat)] _ 2 (l.segs.length - 1) hP hq
  have g4 := dec_segs (layQ l) [] hP l.epoch l.seq l.segs h.s f4 f5 l.segs.length 0 [(21, l.epoch.toNat), (5, l.seq.toNat), (2, l.segs.length - 1)] (by omega) (by rw [hq]; simp)
  have e := encode_full l h hr hok
  have hb : Bytes ((bytL l).map Int.ofNat) := by
    intro x hx
    obtain ⟨b, hb, rfl⟩ := List.mem_map.1 hx
    have := digs_lt _ _ b hb
    exact ⟨by simp, by simp; omega⟩
  have q := bytesEqual_ac ((bytL l).map Int.ofNat) ((bytL l).map Int.ofNat) hb hb
  rw [beq_self_eq_true, ← byN_byteA] at q
  rw [Int.toNat_of_nonneg (by omega)] at g1
  have o1 : IntKind.i64.wrap ((l.seq.toNat : Nat) : Int) = l.seq := by rw [Int.toNat_of_nonneg f2]; exact wrap_i (by omega) (by omega)
  refine acallsK mixed Tryz.func67 rfl [0, 1, 2, 3, 4, 5, 6, 7, 8, 9, 10, 11, 12, 13, 14, 33, 47, 57, 92] 1000 ([.call [0, 2, 3] false false (.int .u64 l.epoch) (decA (packB (layQ l)) 21), .call [0, 2, 3] false false (.int .u64 (l.seq.toNat : Int)) (decA (packB (layQ l)) 26), .n l.seq, .call [0, 2, 3] false false (.int .u64 ((l.segs.length - 1 : Nat) : Int)) (decA (packB (layQ l)) 28), .mkc 4 1 82 2, .lp [8, 7, 6, 5, 3, 2, 1] [0, 1, 2, 3, 4, 5] (.exit 0) ⟨envL (l.segs.length - 1), decL (packB (layQ l)) (28 + wid (l.segs.flatMap sgN)) l.epoch l.seq l.segs⟩, .fo 78 [5], .call [] false false (.tup [.row 0 1 (bytL l).length, .int .i64 0]) [.row 5 1 ((bytL l).map byN)], .t, .f, .call [] false true (.bool true) []]) [] [] (ob := [_,
 _,
 IntKind.i64.wrap (↑(Int.toNat l.seq) : Int) = l.seq,
 _,
 _,
 _,
 true = true,
 ((0 : Int) != (0 : Int)) = false,
 _]) (by kernel_rfl) ⟨rfl, rfl⟩ ⟨g1, g2, ?z0, g3, g4, e, ?z1, ?z2, q, trivial⟩
  case z0|z1|z2 => first | exact rfl | (simp [decC, decS, decL, decA, envL] <;> omega) | omega | (first | exact o1 | (simp; omega))
end Go.Proofs.YtidgcfgkcidkiaaGreat.Ch
namespace Go.Proofs.YtidgcfgkcidkiaaGreat.Ch
open Go Go.RowKit Go.Proofs.YtidgcfgkcidkiaaGreat.L Go.Proofs.YtidgcfgkcidkiaaGreat.X
set_option linter.unusedVariables false
set_option linter.unusedSimpArgs false
inductive WeakA : AV → AV → Prop where
  | same (a) : WeakA a a
  | nil (sz) (h : 0 < sz) : WeakA .nils (.lst sz [])
inductive WeakL : List AV → List AV → Prop where
  | nil : WeakL [] []
  | cons {a b us vs} (h : WeakA a b) (t : WeakL us vs) : WeakL (a :: us) (b :: vs)
theorem WeakA.vr {K : Ctx} {a b : AV} {c : Value} (h : WeakA a b) (hv : VR K a c) : VR K b c := by
  cases h with
  | same => exact hv
  | nil sz h => exact nils_lst sz h hv
theorem WeakL.vrs {K : Ctx} : ∀ {us vs : List AV} {ds : List Value}, WeakL us vs → VRs K us ds → VRs K vs ds
  | _, _, _, .nil, hv => hv
  | _, _, ds, .cons h t, hv => by
    obtain ⟨c, cs, rfl, h1, h2⟩ := hv.cons_inv
    exact .cons (h.vr h1) (t.vrs h2)
theorem WeakL.agg {K : Ctx} {us vs : List AV} {c : Value} (h : WeakL us vs) (hv : VR K (.agg us) c) : VR K (.agg vs) c := by
  obtain ⟨ds, rfl, hd⟩ := hv.agg_inv
  simpa using VR.mkAgg (h.vrs hd)

theorem outnil : ACalls Tryz.prog 19 [.nilp] [] .nils [] := by
  refine acallsK mixed Tryz.func19 rfl [0, 2, 3, 5] 1000 ([]) [] [] (ob := []) (by kernel_rfl) ⟨rfl, rfl⟩ trivial
end Go.Proofs.YtidgcfgkcidkiaaGreat.Ch
namespace Go.Proofs.YtidgcfgkcidkiaaGreat.Ch
open Go Go.RowKit Go.Proofs.YtidgcfgkcidkiaaGreat.L Go.Proofs.YtidgcfgkcidkiaaGreat.X
set_option linter.unusedVariables false
set_option linter.unusedSimpArgs false
structure RdD where
  client : Int
  id : Int
  lay : LayD
  a : Int
  fill : Bool
  last : Int
  at_ : Int
  cell : CellD
  e : Int
  ticks : Int
  asked : Int
  out : List AV
def celT (r : RdD) : List AV := [.int .i64 r.client, .int .i64 r.id] ++ celL r.lay ++ [.int .u64 r.a, .bool r.fill, .int .i64 r.last, .int .i64 r.at_] ++ celC r.cell ++ [.int .i64 r.e, .int .i64 r.ticks, .int .i64 r.asked]
def rdO (r : RdD) : List X.Obj := [.vars 106 (.nilp :: celT r ++ [.row 1 22 r.out.length]), .row 50 22 r.out]
def rdS (r : RdD) (s : SetD) : List X.Obj := [.vars 106 (.ptr 2 0 :: celT r ++ [.row 1 22 r.out.length]), .row 50 22 r.out, .vars 86 (celS s ++ [.row 3 22 s.out.length]), .row 50 22 s.out]
def elR (r : RdD) : AV := .agg (.nilp :: celT r ++ [.lst 22 r.out])
def readR (r : RdD) : AV := .lpt 17 [elR r] 0 0
theorem reads_rd {f : FuncId} {r : RdD} {args : List AV} {v : AV} {objs' : List X.Obj} (ha : ∀ K w (cs : List Value), Rel K (getO (rdO r)) w → VRs K args cs → VRs (ctx0 w) args cs) (hv : flatB v = true) (h : ACalls Tryz.prog f (readR r :: args) [] v objs') : AReads Tryz.prog f (.ptr 0 0 :: args) (rdO r) v :=
  areads_of (fun K K' c => flat_VR hv) h fun K w cs hR hcs => by
    obtain ⟨c, cs', rfl, h1, h2⟩ := hcs.cons_inv
    exact .cons (read_vars (T := 106) (T2 := 50) (pre := .nilp :: celT r) (xs := r.out) (sz := 22) rfl hR h1) (ha K w cs' hR h2)
theorem self_l (r : RdD) : ACalls Tryz.prog 116 [readR r] [] (.agg [.int .i64 4, .int .i64 r.client]) [] := by
  refine acallsK mixed Tryz.func116 rfl [0, 2] 1000 ([.el (elR r)]) [] [] (ob := [[AV.agg [AV.nilp, AV.int IntKind.i64 (RdD.client r), AV.int IntKind.i64 (RdD.id r), AV.int IntKind.u64 (LayD.epoch (RdD.lay r)), AV.lst (nat_lit 2) (List.map encS (LayD.segs (RdD.lay r))), AV.int IntKind.i64 (LayD.seq (RdD.lay r)), AV.int IntKind.u64 (RdD.a r), AV.bool (RdD.fill r), AV.int IntKind.i64 (RdD.last r), AV.int IntKind.i64 (RdD.at_ r), AV.int IntKind.i64 (CellD.kind (RdD.cell r)), AV.lst (nat_lit 1) (List.map byteA (CellD.data (RdD.cell r))), AV.lst (nat_lit 3) (List.map encB (CellD.backs (RdD.cell r))), AV.int IntKind.i64 (RdD.e r), AV.int IntKind.i64 (RdD.ticks r), AV.int IntKind.i64 (RdD.asked r), AV.lst (nat_lit 22) (RdD.out r)]][nat_lit 0]? = some (AV.agg [AV.nilp, AV.int IntKind.i64 (RdD.client r), AV.int IntKind.i64 (RdD.id r), AV.int IntKind.u64 (LayD.epoch (RdD.lay r)), AV.lst (nat_lit 2) (List.map encS (LayD.segs (RdD.lay r))), AV.int IntKind.i64 (LayD.seq (RdD.lay r)), AV.int IntKind.u64 (RdD.a r), AV.bool (RdD.fill r), AV.int IntKind.i64 (RdD.last r), AV.int IntKind.i64 (RdD.at_ r), AV.int IntKind.i64 (CellD.kind (RdD.cell r)), AV.lst (nat_lit 1) (List.map byteA (CellD.data (RdD.cell r))), AV.lst (nat_lit 3) (List.map encB (CellD.backs (RdD.cell r))), AV.int IntKind.i64 (RdD.e r), AV.int IntKind.i64 (RdD.ticks r), AV.int IntKind.i64 (RdD.asked r), AV.lst (nat_lit 22) (RdD.out r)])]) (by kernel_rfl) ⟨rfl, rfl⟩ ⟨(by first | exact rfl | (simp [elR, celT]; done) | (simp [elR, celT]; omega) | omega), trivial⟩
theorem unit_l (r : RdD) : ACalls Tryz.prog 117 [readR r] [] (.agg [.int .i64 1, .int .i64 r.last]) [] := by
  refine acallsK mixed Tryz.func117 rfl [0, 2] 1000 ([.el (elR r)]) [] [] (ob := [[AV.agg [AV.nilp, AV.int IntKind.i64 (RdD.client r), AV.int IntKind.i64 (RdD.id r), AV.int IntKind.u64 (LayD.epoch (RdD.lay r)), AV.lst (nat_lit 2) (List.map encS (LayD.segs (RdD.lay r))), AV.int IntKind.i64 (LayD.seq (RdD.lay r)), AV.int IntKind.u64 (RdD.a r), AV.bool (RdD.fill r), AV.int IntKind.i64 (RdD.last r), AV.int IntKind.i64 (RdD.at_ r), AV.int IntKind.i64 (CellD.kind (RdD.cell r)), AV.lst (nat_lit 1) (List.map byteA (CellD.data (RdD.cell r))), AV.lst (nat_lit 3) (List.map encB (CellD.backs (RdD.cell r))), AV.int IntKind.i64 (RdD.e r), AV.int IntKind.i64 (RdD.ticks r), AV.int IntKind.i64 (RdD.asked r), AV.lst (nat_lit 22) (RdD.out r)]][nat_lit 0]? = some (AV.agg [AV.nilp, AV.int IntKind.i64 (RdD.client r), AV.int IntKind.i64 (RdD.id r), AV.int IntKind.u64 (LayD.epoch (RdD.lay r)), AV.lst (nat_lit 2) (List.map encS (LayD.segs (RdD.lay r))), AV.int IntKind.i64 (LayD.seq (RdD.lay r)), AV.int IntKind.u64 (RdD.a r), AV.bool (RdD.fill r), AV.int IntKind.i64 (RdD.last r), AV.int IntKind.i64 (RdD.at_ r), AV.int IntKind.i64 (CellD.kind (RdD.cell r)), AV.lst (nat_lit 1) (List.map byteA (CellD.data (RdD.cell r))), AV.lst (nat_lit 3) (List.map encB (CellD.backs (RdD.cell r))), AV.int IntKind.i64 (RdD.e r), AV.int IntKind.i64 (RdD.ticks r), AV.int IntKind.i64 (RdD.asked r), AV.lst (nat_lit 22) (RdD.out r)])]) (by kernel_rfl) ⟨rfl, rfl⟩ ⟨(by first | exact rfl | (simp [elR, celT]; done) | (simp [elR, celT]; omega) | omega), trivial⟩
theorem rself (r : RdD) : AReads Tryz.prog 116 [.ptr 0 0] (rdO r) (.agg [.int .i64 4, .int .i64 r.client]) := reads_rd (fun K w cs _ h => by rw [h.nil_inv]; exact .nil) rfl (self_l r)
theorem runit (r : RdD) : AReads Tryz.prog 117 [.ptr 0 0] (rdO r) (.agg [.int .i64 1, .int .i64 r.last]) := reads_rd (fun K w cs _ h => by rw [h.nil_inv]; exact .nil) rfl (unit_l r)
def rdM (r : RdD) : AV := .agg [.int .i64 2, .int .i64 4, .int .i64 r.client, .int .i64 1, .int .i64 r.last, .int .i64 r.id, .int .i64 0, .int .u64 r.lay.epoch, .int .u64 r.a, .int .i64 0, .int .i64 0, .nils, .nils, .nils, .nils, .int .i64 0, .int .i64 0, .int .i64 0, .int .i64 0, .int .u64 0, .nils, .int .i64 0]
def askR (r : RdD) : RdD := { r with out := r.out ++ [rdM r], ticks := 0, asked := r.asked + 1 }
structure RdD.ok (r : RdD) : Prop where
  cell : r.cell.ok
  out : r.out.length ≤ 900
  t0 : 0 ≤ r.ticks
  t1 : r.ticks ≤ 6
  k0 : 0 ≤ r.asked
  k1 : r.asked ≤ 5
theorem rask (r : RdD) (h1 : r.out.length ≤ 1000) (h2 : 0 ≤ r.asked) (h3 : r.asked ≤ 100) : ACalls Tryz.prog 68 [.ptr 0 0] (rdO r) (.tup []) (rdO (askR r)) := by
  have q1 := rself r
  have q2 := runit r
  have s1 : (r.out.length + 1) * 256 ≤ 140737488355328 := by omega
  have s2 : IntKind.i64.wrap (r.asked + 1) = r.asked + 1 := wrap_i (by omega) (by omega)
  refine acallsK mixed Tryz.func68 rfl [0] 1000 ([.rd [0, 1] (.agg [.int .i64 4, .int .i64 r.client]), .rd [0, 1] (.agg [.int .i64 1, .int .i64 r.last]), .ls (r.out ++ [rdM r]), .n (r.asked + 1)]) [] [0, 3] (ob := [_,
 _,
 (List.length (RdD.out r) + (1 : Nat)) * (256 : Nat) ≤ (140737488355328 : Nat),
 RdD.out r ++ [.agg [.int .i64 (2 : Int), .int .i64 (4 : Int), .int .i64 (RdD.client r), .int .i64 (1 : Int), .int .i64 (RdD.last r), .int .i64 (RdD.id r), .int .i64 (0 : Int), .int .u64 (RdD.lay r).epoch, .int .u64 (RdD.a r), .int .i64 (0 : Int), .int .i64 (0 : Int), .nils, .nils, .nils, .nils, .int .i64 (0 : Int), .int .i64 (0 : Int), .int .i64 (0 : Int), .int .i64 (0 : Int), .int .u64 (0 : Int), .nils, .int .i64 (0 : Int)]] = RdD.out r ++ [rdM r],
 IntKind.i64.wrap (RdD.asked r + (1 : Int)) = RdD.asked r + (1 : Int)]) (by kernel_rfl) ⟨rfl, rfl⟩ ⟨q1, q2, ?z0, ?z1, ?z2, trivial⟩
  case z0|z1|z2 => first | exact rfl | (simp [rdO, celT, askR, rdM, celL] <;> omega) | omega | (first | exact s1 | exact s2 | omega)
def startR (r : RdD) : RdD := askR { r with at_ := 1 }
theorem rstart (r : RdD) (h : r.at_ = 0) (h1 : r.out.length ≤ 1000) (h2 : 0 ≤ r.asked) (h3 : r.asked ≤ 100) : ACalls Tryz.prog 32 [.ptr 0 0] (rdO r) (.int .i64 0) (rdO (startR r)) := by
  have q := rask { r with at_ := 1 } h1 h2 h3
  refine acallsK mixed Tryz.func32 rfl [0, 2, 3, 6] 1000 ([.f, .call [0, 1] false false (.tup []) (rdO (startR r))]) [] [0, 3] (ob := [(RdD.at_ r != (0 : Int)) = false,
 _]) (by kernel_rfl) ⟨rfl, rfl⟩ ⟨(by first | exact rfl | (simp [rdO, celT, startR, askR, celL, h]; done) | (simp [rdO, celT, startR, askR, celL, h]; omega) | omega), q, trivial⟩
theorem rstart_no (r : RdD) (h : ¬ r.at_ = 0) : ACalls Tryz.prog 32 [.ptr 0 0] (rdO r) (.int .i64 131) (rdO r) := by
  refine acallsK mixed Tryz.func32 rfl [0, 2, 3, 6] 1000 ([.t]) [] [0, 1] (ob := [(RdD.at_ r != (0 : Int)) = true]) (by kernel_rfl) ⟨rfl, rfl⟩ ⟨(by first | exact rfl | (simp [rdO, celT, celL, h]; done) | (simp [rdO, celT, celL, h]; omega) | omega), trivial⟩
theorem rstart_noS (r : RdD) (s : SetD) (h : ¬ r.at_ = 0) : ACalls Tryz.prog 32 [.ptr 0 0] (rdS r s) (.int .i64 131) (rdS r s) := by
  refine acallsK mixed Tryz.func32 rfl [0, 2, 3, 6] 1000 ([.t]) [] [0, 1, 2, 3] (ob := [(RdD.at_ r != (0 : Int)) = true]) (by kernel_rfl) ⟨rfl, rfl⟩ ⟨(by first | exact rfl | (simp [rdS, celT, celL, h]; done) | (simp [rdS, celT, celL, h]; omega) | omega), trivial⟩
def endR (r : RdD) (c : CellD) (e : Int) : RdD := { r with at_ := 3, cell := c, e := e }
theorem rend (r : RdD) (c : CellD) (e : Int) (h1 : c.data.length ≤ 1099511627776) (h2 : c.backs.length ≤ 1099511627776) : ACalls Tryz.prog 73 [.ptr 0 0, encC c, .int .i64 e] (rdO r) (.tup []) (rdO (endR r c e)) := by
  have q1 := clone_byte_ac c.data h1
  have q2 := clone_back_ac c.backs h2
  refine acallsK mixed Tryz.func73 rfl [0, 1, 2, 4] 1000 ([.call [] false false (.row 0 1 c.data.length) [.row 5 1 (c.data.map byteA)], .call [] false false (.row 0 3 c.backs.length) [.row 94 3 (c.backs.map encB)]]) [3, 4] [0, 1] (ob := [_,
 _]) (by kernel_rfl) ⟨rfl, rfl⟩ ⟨q1, q2, trivial⟩
theorem rendS (r : RdD) (s : SetD) (c : CellD) (e : Int) (h1 : c.data.length ≤ 1099511627776) (h2 : c.backs.length ≤ 1099511627776) : ACalls Tryz.prog 73 [.ptr 0 0, encC c, .int .i64 e] (rdS r s) (.tup []) (rdS (endR r c e) s) := by
  have q1 := clone_byte_ac c.data h1
  have q2 := clone_back_ac c.backs h2
  refine acallsK mixed Tryz.func73 rfl [0, 1, 2, 4] 1000 ([.call [] false false (.row 0 1 c.data.length) [.row 5 1 (c.data.map byteA)], .call [] false false (.row 0 3 c.backs.length) [.row 94 3 (c.backs.map encB)]]) [5, 6] [0, 1, 2, 3] (ob := [_,
 _]) (by kernel_rfl) ⟨rfl, rfl⟩ ⟨q1, q2, trivial⟩
theorem rend0 (r : RdD) (e : Int) : ACalls Tryz.prog 73 [.ptr 0 0, .agg [.int .i64 0, .nils, .nils], .int .i64 e] (rdO r) (.tup []) (rdO (endR r cell0 e)) := by
  refine ACalls.weak (rend r cell0 e (by simp [cell0]) (by simp [cell0])) fun K ds h => ?_
  obtain ⟨c0, cs, rfl, h0, h1⟩ := h.cons_inv
  obtain ⟨c1, cs, rfl, h2, h3⟩ := h1.cons_inv
  exact .cons h0 (.cons (nilcell h2) h3)
def settledR (r : RdD) (s : SetD) : RdD := if s.over = true then endR r s.cell s.e else r
theorem rsettled (r : RdD) (s : SetD) (hs : s.ok) : ACalls Tryz.prog 70 [.ptr 0 0] (rdS r s) (.tup []) (rdS (settledR r s) s) := by
  have q := overE s hs
  unfold toldC toldE at q
  unfold settledR
  cases h : s.over with
  | false =>
    rw [h] at q
    rw [if_neg (by decide), if_neg (by decide)] at q
    rw [if_neg (by decide)]
    refine acallsK mixed Tryz.func70 rfl [0, 2, 3, 4, 14] 1000 ([.call [2, 3] false false (.tup [encC cell0, .int .i64 0, .bool false]) (setO s)]) [] [0, 1, 2, 5] (ob := [_]) (by kernel_rfl) ⟨rfl, rfl⟩ ⟨q, trivial⟩
  | true =>
    rw [h] at q
    rw [if_pos rfl, if_pos rfl] at q
    rw [if_pos rfl]
    have q2 := rendS r s s.cell s.e (by have := hs.cell.d; omega) (by have := hs.cell.b; omega)
    refine acallsK mixed Tryz.func70 rfl [0, 2, 3, 4, 14] 1000 ([.call [2, 3] false false (.tup [encC s.cell, .int .i64 s.e, .bool true]) (setO s), .call [0, 1, 2, 5] false false (.tup []) (rdS (endR r s.cell s.e) s)]) [] [0, 8, 2, 10] (ob := [_,
 _]) (by kernel_rfl) ⟨rfl, rfl⟩ ⟨q, q2, trivial⟩
theorem rsettledD (r : RdD) (s : SetD) (hs : s.ok) : ACallsD Tryz.prog 70 [.ptr 0 0] (rdS r s) (.tup []) (rdS (settledR r s) s) := by
  have q := overE s hs
  unfold toldC toldE at q
  unfold settledR
  cases h : s.over with
  | false =>
    rw [h] at q
    rw [if_neg (by decide), if_neg (by decide)] at q
    rw [if_neg (by decide)]
    refine acallsDK mixed Tryz.func70 rfl [0, 2, 3, 4, 14] 1000 ([.call [2, 3] false false (.tup [encC cell0, .int .i64 0, .bool false]) (setO s)]) [] [0, 1, 2, 5] (ob := [_]) (by kernel_rfl) ⟨rfl, rfl⟩ ⟨q, trivial⟩
  | true =>
    rw [h] at q
    rw [if_pos rfl, if_pos rfl] at q
    rw [if_pos rfl]
    have q2 := rendS r s s.cell s.e (by have := hs.cell.d; omega) (by have := hs.cell.b; omega)
    refine acallsDK mixed Tryz.func70 rfl [0, 2, 3, 4, 14] 1000 ([.call [2, 3] false false (.tup [encC s.cell, .int .i64 s.e, .bool true]) (setO s), .call [0, 1, 2, 5] false false (.tup []) (rdS (endR r s.cell s.e) s)]) [] [0, 8, 2, 10] (ob := [_,
 _]) (by kernel_rfl) ⟨rfl, rfl⟩ ⟨q, q2, trivial⟩
theorem eq2_f {a b c d : Int} (h : ¬ (a = b ∧ c = d)) : (a == b && (c == d && true)) = false := by
  by_cases h1 : a = b <;> by_cases h2 : c = d <;> simp [h1, h2] at h ⊢
theorem eq2_t {a b c d : Int} (h : ¬ ¬ (a = b ∧ c = d)) : (a == b && (c == d && true)) = true := by
  obtain ⟨h1, h2⟩ := Classical.not_not.1 h
  simp [h1, h2]
def mineB (r : RdD) (m : MsgD) : Bool := if ¬ r.at_ = 1 then false else if rightM m = false then false else if ¬ m.kind = 14 then false else if ¬ m.of_ = 2 then false else if ¬ m.id = r.id then false else if ¬ m.addr = r.a then false else if ¬ (m.tr = 4 ∧ m.tn = r.client) then false else if ¬ (m.fr = 1 ∧ m.fn = r.last) then false else true
theorem mineB_e0 (r : RdD) (m : MsgD) (hm : m.ok) (h1 : ¬ r.at_ = 1) : ACalls Tryz.prog 71 [.ptr 0 0, encM m] (rdO r) (.bool (mineB r m)) (rdO r) := by
  rw [show mineB r m = false by unfold mineB; rw [if_pos h1]]
  refine acallsK mixed Tryz.func71 rfl [0, 1, 3, 4] 1000 ([.f]) [] [0, 1] (ob := [(RdD.at_ r == (1 : Int)) = false]) (by kernel_rfl) ⟨rfl, rfl⟩ ⟨(by first | exact rfl | (simp [rdO, celT, encM, celM, celC, celL, h1]; done) | (simp [rdO, celT, encM, celM, celC, celL, h1]; omega) | omega | (first | exact eq2_f (by assumption) | exact eq2_t (by assumption) | omega)), trivial⟩
theorem mineB_e1 (r : RdD) (m : MsgD) (hm : m.ok) (h1 : ¬ (¬ r.at_ = 1)) (h2 : rightM m = false) : ACalls Tryz.prog 71 [.ptr 0 0, encM m] (rdO r) (.bool (mineB r m)) (rdO r) := by
  have q1 := rightM_ac m hm
  rw [h2] at q1
  rw [show mineB r m = false by unfold mineB; rw [if_neg h1, if_pos h2]]
  refine acallsK mixed Tryz.func71 rfl [0, 1, 3, 4] 1000 ([.t, .call [] false true (.bool false) []]) [] [0, 1] (ob := [(RdD.at_ r == (1 : Int)) = true,
 ACalls Tryz.prog 51 [(encM m)] [] (.bool false) []]) (by kernel_rfl) ⟨rfl, rfl⟩ ⟨(by first | exact rfl | (simp [rdO, celT, encM, celM, celC, celL, h1, h2]; done) | (simp [rdO, celT, encM, celM, celC, celL, h1, h2]; omega) | omega | (first | exact eq2_f (by assumption) | exact eq2_t (by assumption) | omega)), ?q134_1, trivial⟩
  · exact q1
theorem mineB_e2 (r : RdD) (m : MsgD) (hm : m.ok) (h1 : ¬ (¬ r.at_ = 1)) (h2 : rightM m = true) (h3 : ¬ m.kind = 14) : ACalls Tryz.prog 71 [.ptr 0 0, encM m] (rdO r) (.bool (mineB r m)) (rdO r) := by
  have q1 := rightM_ac m hm
  rw [h2] at q1
  rw [show mineB r m = false by unfold mineB; rw [if_neg h1, if_neg (by rw [h2]; decide), if_pos h3]]
  refine acallsK mixed Tryz.func71 rfl [0, 1, 3, 4] 1000 ([.t, .call [] false true (.bool true) [], .f]) [] [0, 1] (ob := [(RdD.at_ r == (1 : Int)) = true,
 ACalls Tryz.prog 51 [(encM m)] [] (.bool true) [],
 (m.kind == (14 : Int)) = false]) (by kernel_rfl) ⟨rfl, rfl⟩ ⟨?z0, ?q140_1, ?z1, trivial⟩
  case z0|z1 => first | exact rfl | (simp [rdO, celT, encM, celM, celC, celL, h1, h2, h3] <;> omega) | omega | (first | exact eq2_f (by assumption) | exact eq2_t (by assumption) | omega)
  · exact q1
theorem mineB_e3 (r : RdD) (m : MsgD) (hm : m.ok) (h1 : ¬ (¬ r.at_ = 1)) (h2 : rightM m = true) (h3 : ¬ (¬ m.kind = 14)) (h4 : ¬ m.of_ = 2) : ACalls Tryz.prog 71 [.ptr 0 0, encM m] (rdO r) (.bool (mineB r m)) (rdO r) := by
  have q1 := rightM_ac m hm
  rw [h2] at q1
  rw [show mineB r m = false by unfold mineB; rw [if_neg h1, if_neg (by rw [h2]; decide), if_neg h3, if_pos h4]]
  refine acallsK mixed Tryz.func71 rfl [0, 1, 3, 4] 1000 ([.t, .call [] false true (.bool true) [], .t, .f]) [] [0, 1] (ob := [(RdD.at_ r == (1 : Int)) = true,
 ACalls Tryz.prog 51 [(encM m)] [] (.bool true) [],
 (m.kind == (14 : Int)) = true,
 (m.of_ == (2 : Int)) = false]) (by kernel_rfl) ⟨rfl, rfl⟩ ⟨?z0, ?q146_1, ?z1, ?z2, trivial⟩
  case z0|z1|z2 => first | exact rfl | (simp [rdO, celT, encM, celM, celC, celL, h1, h2, h3, h4] <;> omega) | omega | (first | exact eq2_f (by assumption) | exact eq2_t (by assumption) | omega)
  · exact q1
theorem mineB_e4 (r : RdD) (m : MsgD) (hm : m.ok) (h1 : ¬ (¬ r.at_ = 1)) (h2 : rightM m = true) (h3 : ¬ (¬ m.kind = 14)) (h4 : ¬ (¬ m.of_ = 2)) (h5 : ¬ m.id = r.id) : ACalls Tryz.prog 71 [.ptr 0 0, encM m] (rdO r) (.bool (mineB r m)) (rdO r) := by
  have q1 := rightM_ac m hm
  rw [h2] at q1
  rw [show mineB r m = false by unfold mineB; rw [if_neg h1, if_neg (by rw [h2]; decide), if_neg h3, if_neg h4, if_pos h5]]
  refine acallsK mixed Tryz.func71 rfl [0, 1, 3, 4] 1000 ([.t, .call [] false true (.bool true) [], .t, .t, .f]) [] [0, 1] (ob := [(RdD.at_ r == (1 : Int)) = true,
 ACalls Tryz.prog 51 [(encM m)] [] (.bool true) [],
 (m.kind == (14 : Int)) = true,
 (m.of_ == (2 : Int)) = true,
 (m.id == RdD.id r) = false]) (by kernel_rfl) ⟨rfl, rfl⟩ ⟨?z0, ?q152_1, ?z1, ?z2, ?z3, trivial⟩
  case z0|z1|z2|z3 => first | exact rfl | (simp [rdO, celT, encM, celM, celC, celL, h1, h2, h3, h4, h5] <;> omega) | omega | (first | exact eq2_f (by assumption) | exact eq2_t (by assumption) | omega)
  · exact q1
theorem mineB_e5 (r : RdD) (m : MsgD) (hm : m.ok) (h1 : ¬ (¬ r.at_ = 1)) (h2 : rightM m = true) (h3 : ¬ (¬ m.kind = 14)) (h4 : ¬ (¬ m.of_ = 2)) (h5 : ¬ (¬ m.id = r.id)) (h6 : ¬ m.addr = r.a) : ACalls Tryz.prog 71 [.ptr 0 0, encM m] (rdO r) (.bool (mineB r m)) (rdO r) := by
  have q1 := rightM_ac m hm
  rw [h2] at q1
  rw [show mineB r m = false by unfold mineB; rw [if_neg h1, if_neg (by rw [h2]; decide), if_neg h3, if_neg h4, if_neg h5, if_pos h6]]
  refine acallsK mixed Tryz.func71 rfl [0, 1, 3, 4] 1000 ([.t, .call [] false true (.bool true) [], .t, .t, .t, .f]) [] [0, 1] (ob := [(RdD.at_ r == (1 : Int)) = true,
 ACalls Tryz.prog 51 [(encM m)] [] (.bool true) [],
 (m.kind == (14 : Int)) = true,
 (m.of_ == (2 : Int)) = true,
 (m.id == RdD.id r) = true,
 (m.addr == RdD.a r) = false]) (by kernel_rfl) ⟨rfl, rfl⟩ ⟨?z0, ?q158_1, ?z1, ?z2, ?z3, ?z4, trivial⟩
  case z0|z1|z2|z3|z4 => first | exact rfl | (simp [rdO, celT, encM, celM, celC, celL, h1, h2, h3, h4, h5, h6] <;> omega) | omega | (first | exact eq2_f (by assumption) | exact eq2_t (by assumption) | omega)
  · exact q1
theorem mineB_e6 (r : RdD) (m : MsgD) (hm : m.ok) (h1 : ¬ (¬ r.at_ = 1)) (h2 : rightM m = true) (h3 : ¬ (¬ m.kind = 14)) (h4 : ¬ (¬ m.of_ = 2)) (h5 : ¬ (¬ m.id = r.id)) (h6 : ¬ (¬ m.addr = r.a)) (h7 : ¬ (m.tr = 4 ∧ m.tn = r.client)) : ACalls Tryz.prog 71 [.ptr 0 0, encM m] (rdO r) (.bool (mineB r m)) (rdO r) := by
  have q1 := rightM_ac m hm
  rw [h2] at q1
  rw [show mineB r m = false by unfold mineB; rw [if_neg h1, if_neg (by rw [h2]; decide), if_neg h3, if_neg h4, if_neg h5, if_neg h6, if_pos h7]]
  refine acallsK mixed Tryz.func71 rfl [0, 1, 3, 4] 1000 ([.t, .call [] false true (.bool true) [], .t, .t, .t, .t, .rd [0, 1] (.agg [.int .i64 4, .int .i64 r.client]), .f]) [] [0, 1] (ob := [(RdD.at_ r == (1 : Int)) = true,
 _,
 (m.kind == (14 : Int)) = true,
 (m.of_ == (2 : Int)) = true,
 (m.id == RdD.id r) = true,
 (m.addr == RdD.a r) = true,
 _,
 (m.tr == (4 : Int) && (m.tn == RdD.client r && true)) = false]) (by kernel_rfl) ⟨rfl, rfl⟩ ⟨?z0, q1, ?z1, ?z2, ?z3, ?z4, (rself r), ?z5, trivial⟩
  case z0|z1|z2|z3|z4|z5 => first | exact rfl | (simp [rdO, celT, encM, celM, celC, celL, h1, h2, h3, h4, h5, h6, h7] <;> omega) | omega | (first | exact eq2_f (by assumption) | exact eq2_t (by assumption) | omega)
theorem mineB_e7 (r : RdD) (m : MsgD) (hm : m.ok) (h1 : ¬ (¬ r.at_ = 1)) (h2 : rightM m = true) (h3 : ¬ (¬ m.kind = 14)) (h4 : ¬ (¬ m.of_ = 2)) (h5 : ¬ (¬ m.id = r.id)) (h6 : ¬ (¬ m.addr = r.a)) (h7 : ¬ (¬ (m.tr = 4 ∧ m.tn = r.client))) (h8 : ¬ (m.fr = 1 ∧ m.fn = r.last)) : ACalls Tryz.prog 71 [.ptr 0 0, encM m] (rdO r) (.bool (mineB r m)) (rdO r) := by
  have q1 := rightM_ac m hm
  rw [h2] at q1
  rw [show mineB r m = false by unfold mineB; rw [if_neg h1, if_neg (by rw [h2]; decide), if_neg h3, if_neg h4, if_neg h5, if_neg h6, if_neg h7, if_pos h8]]
  refine acallsK mixed Tryz.func71 rfl [0, 1, 3, 4] 1000 ([.t, .call [] false true (.bool true) [], .t, .t, .t, .t, .rd [0, 1] (.agg [.int .i64 4, .int .i64 r.client]), .t, .rd [0, 1] (.agg [.int .i64 1, .int .i64 r.last]), .f]) [] [0, 1] (ob := [(RdD.at_ r == (1 : Int)) = true,
 _,
 (m.kind == (14 : Int)) = true,
 (m.of_ == (2 : Int)) = true,
 (m.id == RdD.id r) = true,
 (m.addr == RdD.a r) = true,
 _,
 (m.tr == (4 : Int) && (m.tn == RdD.client r && true)) = true,
 _,
 (m.fr == (1 : Int) && (m.fn == RdD.last r && true)) = false]) (by kernel_rfl) ⟨rfl, rfl⟩ ⟨?z0, q1, ?z1, ?z2, ?z3, ?z4, (rself r), ?z5, (runit r), ?z6, trivial⟩
  case z0|z1|z2|z3|z4|z5|z6 => first | exact rfl | (simp [rdO, celT, encM, celM, celC, celL, h1, h2, h3, h4, h5, h6, h7, h8] <;> omega) | omega | (first | exact eq2_f (by assumption) | exact eq2_t (by assumption) | omega)
theorem mineB_e8 (r : RdD) (m : MsgD) (hm : m.ok) (h1 : ¬ (¬ r.at_ = 1)) (h2 : rightM m = true) (h3 : ¬ (¬ m.kind = 14)) (h4 : ¬ (¬ m.of_ = 2)) (h5 : ¬ (¬ m.id = r.id)) (h6 : ¬ (¬ m.addr = r.a)) (h7 : ¬ (¬ (m.tr = 4 ∧ m.tn = r.client))) (h8 : ¬ (¬ (m.fr = 1 ∧ m.fn = r.last))) : ACalls Tryz.prog 71 [.ptr 0 0, encM m] (rdO r) (.bool (mineB r m)) (rdO r) := by
  have q1 := rightM_ac m hm
  rw [h2] at q1
  rw [show mineB r m = true by unfold mineB; rw [if_neg h1, if_neg (by rw [h2]; decide), if_neg h3, if_neg h4, if_neg h5, if_neg h6, if_neg h7, if_neg h8]]
  refine acallsK mixed Tryz.func71 rfl [0, 1, 3, 4] 1000 ([.t, .call [] false true (.bool true) [], .t, .t, .t, .t, .rd [0, 1] (.agg [.int .i64 4, .int .i64 r.client]), .t, .rd [0, 1] (.agg [.int .i64 1, .int .i64 r.last]), .t]) [] [0, 1] (ob := [(RdD.at_ r == (1 : Int)) = true,
 _,
 (m.kind == (14 : Int)) = true,
 (m.of_ == (2 : Int)) = true,
 (m.id == RdD.id r) = true,
 (m.addr == RdD.a r) = true,
 _,
 (m.tr == (4 : Int) && (m.tn == RdD.client r && true)) = true,
 _,
 (m.fr == (1 : Int) && (m.fn == RdD.last r && true)) = true]) (by kernel_rfl) ⟨rfl, rfl⟩ ⟨?z0, q1, ?z1, ?z2, ?z3, ?z4, (rself r), ?z5, (runit r), ?z6, trivial⟩
  case z0|z1|z2|z3|z4|z5|z6 => first | exact rfl | (simp [rdO, celT, encM, celM, celC, celL, h1, h2, h3, h4, h5, h6, h7, h8] <;> omega) | omega | (first | exact eq2_f (by assumption) | exact eq2_t (by assumption) | omega)
theorem mineB_ac (r : RdD) (m : MsgD) (hm : m.ok) : ACalls Tryz.prog 71 [.ptr 0 0, encM m] (rdO r) (.bool (mineB r m)) (rdO r) := by
  by_cases h1 : ¬ r.at_ = 1
  · exact mineB_e0 r m hm h1
  cases h2 : rightM m with
  | false => exact mineB_e1 r m hm h1 h2
  | true =>
    by_cases h3 : ¬ m.kind = 14
    · exact mineB_e2 r m hm h1 h2 h3
    by_cases h4 : ¬ m.of_ = 2
    · exact mineB_e3 r m hm h1 h2 h3 h4
    by_cases h5 : ¬ m.id = r.id
    · exact mineB_e4 r m hm h1 h2 h3 h4 h5
    by_cases h6 : ¬ m.addr = r.a
    · exact mineB_e5 r m hm h1 h2 h3 h4 h5 h6
    by_cases h7 : ¬ (m.tr = 4 ∧ m.tn = r.client)
    · exact mineB_e6 r m hm h1 h2 h3 h4 h5 h6 h7
    by_cases h8 : ¬ (m.fr = 1 ∧ m.fn = r.last)
    · exact mineB_e7 r m hm h1 h2 h3 h4 h5 h6 h7 h8
    exact mineB_e8 r m hm h1 h2 h3 h4 h5 h6 h7 h8
theorem rmine_S (r : RdD) (s : SetD) (m : MsgD) (h : ¬ r.at_ = 1) : ACalls Tryz.prog 71 [.ptr 0 0, encM m] (rdS r s) (.bool false) (rdS r s) := by
  refine acallsK mixed Tryz.func71 rfl [0, 1, 3, 4] 1000 ([.f]) [] [0, 1, 2, 3] (ob := [(RdD.at_ r == (1 : Int)) = false]) (by kernel_rfl) ⟨rfl, rfl⟩ ⟨(by first | exact rfl | (simp [rdS, celT, celL, h]; done) | (simp [rdS, celT, celL, h]; omega) | omega), trivial⟩
end Go.Proofs.YtidgcfgkcidkiaaGreat.Ch
namespace Go.Proofs.YtidgcfgkcidkiaaGreat.Ch
open Go Go.RowKit Go.Proofs.YtidgcfgkcidkiaaGreat.L Go.Proofs.YtidgcfgkcidkiaaGreat.X
set_option linter.unusedVariables false
set_option linter.unusedSimpArgs false
def lastU (u : List Int) : Int := (u[u.length - 1]?).getD 0
def readyR (cl id : Int) (l : LayD) (a : Int) (f : Bool) (u : List Int) : RdD := ⟨cl, id, l, a, f, lastU u, 0, cell0, 0, 0, 0, []⟩
structure AsksR (cl id : Int) (l : LayD) (a : Int) : Prop where
  cl0 : 0 ≤ cl
  cl1 : cl < 4
  id0 : 0 ≤ id
  id1 : id < 1048576
  lay : rightL l = true
  at_ : a < 1048576
def cellJ : CellD := ⟨2, [], []⟩
theorem rightJ : rightC cellJ = true := by decide
set_option maxRecDepth 100000 in
theorem rnew_yes (cl id : Int) (l : LayD) (a : Int) (f : Bool) (hl : l.ok) (ha : 0 ≤ a) (h : AsksR cl id l a) :
    ∃ u, chainL l a = some u ∧ Units u ∧ ACalls Tryz.prog 30 [.int .i64 cl, .int .i64 id, encL l, .int .u64 a, .bool f] [] (.tup [.ptr 0 0, .int .i64 0]) (rdO (readyR cl id l a f u)) := by
  obtain ⟨u, hu, hU, c1⟩ := chain_yes l a hl.1 hl.2 h.lay ha h.at_
  have h4 := right_lay4 h.lay fun s hs => (hl.1 s hs).2
  have c2 := encode_full l h4 h.lay hl
  have c3 := decode_full l h4 h.lay hl
  have g1 := h.cl0
  have g2 := h.cl1
  have g3 := h.id0
  have g4 := h.id1
  have g5 := hU.pos
  have g6 : ((u.length : Int) == 0) = false := by rw [beq_eq_false_iff_ne]; omega
  have gm := hU.most
  obtain ⟨v, hv⟩ := get_of (l := u) (k := u.length - 1) (by omega)
  have g7 : IntKind.i64.wrap ((u.length : Int) - 1) = ((u.length - 1 : Nat) : Int) := wN _ _ (by omega) (by omega)
  have g8 := idx_at hv
  have g9 : u.length - 1 < (u.map intA).length := by simp; omega
  have gl : lastU u = v := by unfold lastU; rw [hv]; rfl
  refine ⟨u, hu, hU, ?_⟩
  have key : ACalls Tryz.prog 30 [.int .i64 cl, .int .i64 id, encL l, .int .u64 a, .bool f] [] (.tup [.ptr 0 0, .int .i64 0]) [.vars 106 ([.nilp, .int .i64 cl, .int .i64 id] ++ celL l ++ [.int .u64 a, .bool f, .int .i64 v, .int .i64 0, .int .i64 0, .nils, .nils, .int .i64 0, .int .i64 0, .int .i64 0, .row 1 22 0]), .row 50 22 []] := by
    refine acallsK mixed Tryz.func30 rfl [0, 1, 2, 3, 4, 7, 10, 11, 12, 13, 15, 16, 38] 1000 ([.call [] true false (.row 0 1 u.length) [.row 3 1 (u.map intA)], .f, .f, .f, .f, .n u.length, .f, .call [] false false (.tup [.row 0 1 (bytL l).length, .int .i64 0]) [.row 5 1 ((bytL l).map byN)], .call [] false false (.tup [encL l, .int .i64 0]) [], .n u.length, .n ((u.length - 1 : Nat) : Int), .ix (u.length - 1), .el (.int .i64 v), .mkc 4 16 50 22]) [] [4, 5] (ob := [_,
 decide (cl < (0 : Int)) = false,
 decide (cl ≥ (4 : Int)) = false,
 decide (id < (0 : Int)) = false,
 decide (id > (1048575 : Int)) = false,
 ((List.map intA u).length : Int) = (u.length : Int),
 ((u.length : Int) == (0 : Int)) = false,
 _,
 _,
 ((List.map intA u).length : Int) = (u.length : Int),
 IntKind.i64.wrap ((u.length : Int) - (1 : Int)) = (↑(List.length u - (1 : Nat)) : Int),
 List.length u - (1 : Nat) < List.length (List.map intA u),
 (↑(List.length u - (1 : Nat)) : Int) = (↑(List.length u - (1 : Nat)) : Int),
 (List.map intA u)[List.length u - (1 : Nat)]? = some (.int .i64 v)]) (by kernel_rfl) ⟨rfl, rfl⟩ ⟨c1, ?z0, ?z1, ?z2, ?z3, ?z4, ?z5, c2, c3, ?z6, ?z7, ?z8, ?z9, ?z10, trivial⟩
    case z0|z1|z2|z3|z4|z5|z6|z7|z8|z9|z10 => first | exact rfl | (simp [encL, celL, g1, g2, g3, g4] <;> omega) | omega | (first | exact g6 | exact g7 | exact g8 | exact g9 | omega)
  refine ACalls.post key (fun K c h => h) fun K w h => ?_
  refine rel_cells h fun ds hd => ?_
  unfold readyR
  rw [gl]
  refine WeakL.vrs ?_ hd
  repeat' first | exact .nil | exact WeakA.same _ | exact WeakA.nil _ (by decide) | refine WeakL.cons ?_ ?_
theorem rnew_no (cl id : Int) (l : LayD) (a : Int) (f : Bool) (hl : l.ok) (ha : 0 ≤ a) (h : ¬ AsksR cl id l a) :
    ACalls Tryz.prog 30 [.int .i64 cl, .int .i64 id, encL l, .int .u64 a, .bool f] [] (.tup [.nilp, .int .i64 1]) [] := by
  by_cases hc : rightL l = true ∧ a < 1048576
  · obtain ⟨u, hu, hU, c1⟩ := chain_yes l a hl.1 hl.2 hc.1 ha hc.2
    by_cases h1 : cl < 0
    · refine acallsK mixed Tryz.func30 rfl [0, 1, 2, 3, 4, 7, 10, 11, 12, 13, 15, 16, 38] 1000 ([.call [] true false (.row 0 1 u.length) [.row 3 1 (u.map intA)], .t]) [] [] (ob := [_,
 decide (cl < (0 : Int)) = true]) (by kernel_rfl) ⟨rfl, rfl⟩ ⟨c1, (by first | exact rfl | (simp [encL, celL, h1]; done) | (simp [encL, celL, h1]; omega) | omega | (omega)), trivial⟩
    by_cases h2 : 4 ≤ cl
    · refine acallsK mixed Tryz.func30 rfl [0, 1, 2, 3, 4, 7, 10, 11, 12, 13, 15, 16, 38] 1000 ([.call [] true false (.row 0 1 u.length) [.row 3 1 (u.map intA)], .f, .t]) [] [] (ob := [_,
 decide (cl < (0 : Int)) = false,
 decide (cl ≥ (4 : Int)) = true]) (by kernel_rfl) ⟨rfl, rfl⟩ ⟨c1, ?z0, ?z1, trivial⟩
      case z0|z1 => first | exact rfl | (simp [encL, celL, h1, h2] <;> omega) | omega | (omega)
    by_cases h3 : id < 0
    · refine acallsK mixed Tryz.func30 rfl [0, 1, 2, 3, 4, 7, 10, 11, 12, 13, 15, 16, 38] 1000 ([.call [] true false (.row 0 1 u.length) [.row 3 1 (u.map intA)], .f, .f, .t]) [] [] (ob := [_,
 decide (cl < (0 : Int)) = false,
 decide (cl ≥ (4 : Int)) = false,
 decide (id < (0 : Int)) = true]) (by kernel_rfl) ⟨rfl, rfl⟩ ⟨c1, ?z2, ?z3, ?z4, trivial⟩
      case z2|z3|z4 => first | exact rfl | (simp [encL, celL, h1, h2, h3] <;> omega) | omega | (omega)
    by_cases h4 : 1048576 ≤ id
    · refine acallsK mixed Tryz.func30 rfl [0, 1, 2, 3, 4, 7, 10, 11, 12, 13, 15, 16, 38] 1000 ([.call [] true false (.row 0 1 u.length) [.row 3 1 (u.map intA)], .f, .f, .f, .t]) [] [] (ob := [_,
 decide (cl < (0 : Int)) = false,
 decide (cl ≥ (4 : Int)) = false,
 decide (id < (0 : Int)) = false,
 decide (id > (1048575 : Int)) = true]) (by kernel_rfl) ⟨rfl, rfl⟩ ⟨c1, ?z5, ?z6, ?z7, ?z8, trivial⟩
      case z5|z6|z7|z8 => first | exact rfl | (simp [encL, celL, h1, h2, h3, h4] <;> omega) | omega | (omega)
    exact absurd ⟨by omega, by omega, by omega, by omega, hc.1, hc.2⟩ h
  · have c1 := chain_no l a (fun s h => (hl.1 s h).1) hl.2 (by
      cases hr : rightL l with
      | false => exact .inl rfl
      | true => exact .inr (Int.not_lt.1 fun h => hc ⟨hr, h⟩))
    by_cases h1 : cl < 0
    · refine acallsK mixed Tryz.func30 rfl [0, 1, 2, 3, 4, 7, 10, 11, 12, 13, 15, 16, 38] 1000 ([.call [] true false .nils [], .t]) [] [] (ob := [_,
 decide (cl < (0 : Int)) = true]) (by kernel_rfl) ⟨rfl, rfl⟩ ⟨c1, (by first | exact rfl | (simp [encL, celL, h1]; done) | (simp [encL, celL, h1]; omega) | omega | (omega)), trivial⟩
    by_cases h2 : 4 ≤ cl
    · refine acallsK mixed Tryz.func30 rfl [0, 1, 2, 3, 4, 7, 10, 11, 12, 13, 15, 16, 38] 1000 ([.call [] true false .nils [], .f, .t]) [] [] (ob := [_,
 decide (cl < (0 : Int)) = false,
 decide (cl ≥ (4 : Int)) = true]) (by kernel_rfl) ⟨rfl, rfl⟩ ⟨c1, ?z9, ?z10, trivial⟩
      case z9|z10 => first | exact rfl | (simp [encL, celL, h1, h2] <;> omega) | omega | (omega)
    by_cases h3 : id < 0
    · refine acallsK mixed Tryz.func30 rfl [0, 1, 2, 3, 4, 7, 10, 11, 12, 13, 15, 16, 38] 1000 ([.call [] true false .nils [], .f, .f, .t]) [] [] (ob := [_,
 decide (cl < (0 : Int)) = false,
 decide (cl ≥ (4 : Int)) = false,
 decide (id < (0 : Int)) = true]) (by kernel_rfl) ⟨rfl, rfl⟩ ⟨c1, ?z11, ?z12, ?z13, trivial⟩
      case z11|z12|z13 => first | exact rfl | (simp [encL, celL, h1, h2, h3] <;> omega) | omega | (omega)
    by_cases h4 : 1048576 ≤ id
    · refine acallsK mixed Tryz.func30 rfl [0, 1, 2, 3, 4, 7, 10, 11, 12, 13, 15, 16, 38] 1000 ([.call [] true false .nils [], .f, .f, .f, .t]) [] [] (ob := [_,
 decide (cl < (0 : Int)) = false,
 decide (cl ≥ (4 : Int)) = false,
 decide (id < (0 : Int)) = false,
 decide (id > (1048575 : Int)) = true]) (by kernel_rfl) ⟨rfl, rfl⟩ ⟨c1, ?z14, ?z15, ?z16, ?z17, trivial⟩
      case z14|z15|z16|z17 => first | exact rfl | (simp [encL, celL, h1, h2, h3, h4] <;> omega) | omega | (omega)
    refine acallsK mixed Tryz.func30 rfl [0, 1, 2, 3, 4, 7, 10, 11, 12, 13, 15, 16, 38] 1000 ([.call [] true false .nils [], .f, .f, .f, .f, .t]) [] [] (ob := [_,
 decide (cl < (0 : Int)) = false,
 decide (cl ≥ (4 : Int)) = false,
 decide (id < (0 : Int)) = false,
 decide (id > (1048575 : Int)) = false,
 ((0 : Int) == (0 : Int)) = true]) (by kernel_rfl) ⟨rfl, rfl⟩ ⟨c1, ?z18, ?z19, ?z20, ?z21, ?z22, trivial⟩
    case z18|z19|z20|z21|z22 => first | exact rfl | (simp [encL, celL, h1, h2, h3, h4] <;> omega) | omega | (omega)
/-- What settle makes. -/
def settleR (r : RdD) : RdD := { r with at_ := 2 }
def setlS (r : RdD) (u : List Int) (v : Int) : SetD := startS (fresh r.client r.id r.lay r.a cellJ u) v
structure RdD.fit (r : RdD) : Prop where
  ask : AsksR r.client r.id r.lay r.a
  lay : r.lay.ok
  a0 : 0 ≤ r.a
set_option maxRecDepth 100000 in
theorem rsettle (r : RdD) (h : r.fit) {u : List Int} (hu : chainL r.lay r.a = some u) {v : Int} (hv : u[0]? = some v) :
    ACalls Tryz.prog 72 [.ptr 0 0] (rdO r) (.tup []) (rdS (settleR r) (setlS r u v)) := by
  have hA := h.ask
  obtain ⟨u', hu', hU, c1⟩ := new_yes r.client r.id r.lay r.a cellJ h.lay h.a0 (by simp [cellJ]) (by simp [cellJ]) ⟨hA.cl0, hA.cl1, hA.id0, hA.id1, hA.lay, hA.at_, rightJ⟩
  rw [hu] at hu'
  injection hu' with hu'
  subst hu'
  have c1' : ACalls Tryz.prog 8 [.int .i64 r.client, .int .i64 r.id, encL r.lay, .int .u64 r.a, .agg [.int .i64 2, .nils, .nils]] [] (.tup [.ptr 0 0, .int .i64 0]) (setO (fresh r.client r.id r.lay r.a cellJ u)) := by
    refine ACalls.weak c1 fun K ds h => ?_
    obtain ⟨x0, cs, rfl, y0, h⟩ := h.cons_inv
    obtain ⟨x1, cs, rfl, y1, h⟩ := h.cons_inv
    obtain ⟨x2, cs, rfl, y2, h⟩ := h.cons_inv
    obtain ⟨x3, cs, rfl, y3, h⟩ := h.cons_inv
    obtain ⟨x4, cs, rfl, y4, h⟩ := h.cons_inv
    exact .cons y0 (.cons y1 (.cons y2 (.cons y3 (.cons (nilcell y4) h))))
  have c2 := start_ac (fresh r.client r.id r.lay r.a cellJ u) rfl hv (by simp [fresh, cellJ]) (by simp [fresh, cellJ]) (by simp [fresh]) (by simp [fresh]) (by simp [fresh])
  refine acallsK mixed Tryz.func72 rfl [0] 1000 ([.call [] false false (.tup [.ptr 0 0, .int .i64 0]) (setO (fresh r.client r.id r.lay r.a cellJ u)), .call [2, 3] false false (.int .i64 0) (setO (setlS r u v))]) [] [0, 1, 2, 5] (ob := [_,
 _]) (by kernel_rfl) ⟨rfl, rfl⟩ ⟨c1', c2, trivial⟩
/-- What comes of a reply that is its own, but one that makes it settle. -/
def heardR (r : RdD) (m : MsgD) : RdD := if ¬ m.err = 0 then endR r cell0 m.err else if rightC m.cell = false then endR r cell0 71 else endR r m.cell 0
theorem rhear_no (r : RdD) (m : MsgD) (hm : m.ok) (h0 : ¬ r.at_ = 2) (h : mineB r m = false) : ACalls Tryz.prog 35 [.ptr 0 0, encM m] (rdO r) (.bool false) (rdO r) := by
  have q := mineB_ac r m hm
  rw [h] at q
  refine acallsK mixed Tryz.func35 rfl [0, 1, 3, 4, 5, 8, 21, 30, 42, 51] 1000 ([.f, .call [0, 1] false false (.bool false) (rdO r)]) [] [0, 4] (ob := [(RdD.at_ r == (2 : Int)) = false,
 _]) (by kernel_rfl) ⟨rfl, rfl⟩ ⟨(by first | exact rfl | (simp [rdO, celT, celL, encM, celM, celC, h0]; done) | (simp [rdO, celT, celL, encM, celM, celC, h0]; omega) | omega), q, trivial⟩
theorem rhear_settle (r : RdD) (m : MsgD) (hm : m.ok) (h0 : ¬ r.at_ = 2) (h : mineB r m = true) (h1 : m.err = 82) (h2 : r.fill = true) (hf : r.fit) {u : List Int} (hu : chainL r.lay r.a = some u) {v : Int} (hv : u[0]? = some v) :
    ACalls Tryz.prog 35 [.ptr 0 0, encM m] (rdO r) (.bool true) (rdS (settleR r) (setlS r u v)) := by
  have q := mineB_ac r m hm
  rw [h] at q
  have q2 := rsettle r hf hu hv
  refine acallsK mixed Tryz.func35 rfl [0, 1, 3, 4, 5, 8, 21, 30, 42, 51] 1000 ([.f, .call [0, 1] false false (.bool true) (rdO r), .t, .t, .call [0, 4] false false (.tup []) (rdS (settleR r) (setlS r u v))]) [] [0, 6, 7, 8] (ob := [(RdD.at_ r == (2 : Int)) = false,
 _,
 (m.err == (82 : Int)) = true,
 RdD.fill r = true,
 _]) (by kernel_rfl) ⟨rfl, rfl⟩ ⟨?z0, q, ?z1, ?z2, q2, trivial⟩
  case z0|z1|z2 => first | exact rfl | (simp [rdO, rdS, celT, celL, encM, celM, celC, h0, h1, h2] <;> omega) | omega
theorem rhear_err (r : RdD) (m : MsgD) (hm : m.ok) (h0 : ¬ r.at_ = 2) (h : mineB r m = true) (h1 : ¬ (m.err = 82 ∧ r.fill = true)) (h2 : ¬ m.err = 0) :
    ACalls Tryz.prog 35 [.ptr 0 0, encM m] (rdO r) (.bool true) (rdO (heardR r m)) := by
  have q := mineB_ac r m hm
  rw [h] at q
  have q2 := rend0 r m.err
  rw [show heardR r m = endR r cell0 m.err by unfold heardR; rw [if_pos h2]]
  by_cases h3 : m.err = 82
  · have h4 : r.fill = false := by simpa [h3] using h1
    refine acallsK mixed Tryz.func35 rfl [0, 1, 3, 4, 5, 8, 21, 30, 42, 51] 1000 ([.f, .call [0, 1] false false (.bool true) (rdO r), .t, .f, .t, .call [0, 4] false false (.tup []) (rdO (endR r cell0 m.err))]) [] [0, 6] (ob := [(RdD.at_ r == (2 : Int)) = false,
 _,
 (m.err == (82 : Int)) = true,
 RdD.fill r = false,
 (m.err != (0 : Int)) = true,
 _]) (by kernel_rfl) ⟨rfl, rfl⟩ ⟨?z0, q, ?z1, ?z2, ?z3, q2, trivial⟩
    case z0|z1|z2|z3 => first | exact rfl | (simp [rdO, celT, celL, encM, celM, celC, h0, h2, h3, h4] <;> omega) | omega
  · refine acallsK mixed Tryz.func35 rfl [0, 1, 3, 4, 5, 8, 21, 30, 42, 51] 1000 ([.f, .call [0, 1] false false (.bool true) (rdO r), .f, .t, .call [0, 4] false false (.tup []) (rdO (endR r cell0 m.err))]) [] [0, 6] (ob := [(RdD.at_ r == (2 : Int)) = false,
 _,
 (m.err == (82 : Int)) = false,
 (m.err != (0 : Int)) = true,
 _]) (by kernel_rfl) ⟨rfl, rfl⟩ ⟨?z4, q, ?z5, ?z6, q2, trivial⟩
    case z4|z5|z6 => first | exact rfl | (simp [rdO, celT, celL, encM, celM, celC, h0, h2, h3] <;> omega) | omega
theorem rhear_cell (r : RdD) (m : MsgD) (hm : m.ok) (h0 : ¬ r.at_ = 2) (h : mineB r m = true) (h2 : m.err = 0) :
    ACalls Tryz.prog 35 [.ptr 0 0, encM m] (rdO r) (.bool true) (rdO (heardR r m)) := by
  have q := mineB_ac r m hm
  rw [h] at q
  have q3 := right_ac m.cell
  cases h3 : rightC m.cell with
  | false =>
    rw [h3] at q3
    have q2 := rend0 r 71
    rw [show heardR r m = endR r cell0 71 by unfold heardR; rw [if_neg (by simp [h2]), if_pos h3]]
    refine acallsK mixed Tryz.func35 rfl [0, 1, 3, 4, 5, 8, 21, 30, 42, 51] 1000 ([.f, .call [0, 1] false false (.bool true) (rdO r), .f, .f, .call [] false true (.bool false) [], .call [0, 4] false false (.tup []) (rdO (endR r cell0 71))]) [] [0, 6] (ob := [(RdD.at_ r == (2 : Int)) = false,
 _,
 (m.err == (82 : Int)) = false,
 (m.err != (0 : Int)) = false,
 _,
 _]) (by kernel_rfl) ⟨rfl, rfl⟩ ⟨?z0, q, ?z1, ?z2, q3, q2, trivial⟩
    case z0|z1|z2 => first | exact rfl | (simp [rdO, celT, celL, encM, celM, celC, h0, h2] <;> omega) | omega
  | true =>
    rw [h3] at q3
    have q2 := rend r m.cell 0 (by have := hm.cell.d; omega) (by have := hm.cell.b; omega)
    rw [show heardR r m = endR r m.cell 0 by unfold heardR; rw [if_neg (by simp [h2]), if_neg (by rw [h3]; decide)]]
    refine acallsK mixed Tryz.func35 rfl [0, 1, 3, 4, 5, 8, 21, 30, 42, 51] 1000 ([.f, .call [0, 1] false false (.bool true) (rdO r), .f, .f, .call [] false true (.bool true) [], .call [0, 4] false false (.tup []) (rdO (endR r m.cell 0))]) [] [0, 6] (ob := [(RdD.at_ r == (2 : Int)) = false,
 _,
 (m.err == (82 : Int)) = false,
 (m.err != (0 : Int)) = false,
 _,
 _]) (by kernel_rfl) ⟨rfl, rfl⟩ ⟨?z3, q, ?z4, ?z5, q3, q2, trivial⟩
    case z3|z4|z5 => first | exact rfl | (simp [rdO, celT, celL, encM, celM, celC, h0, h2] <;> omega) | omega
/-- While it settles. -/
theorem rhearS (r : RdD) (s s' : SetD) (m : MsgD) (b : Bool) (h : r.at_ = 2) (hs : s'.ok) (q : ACalls Tryz.prog 14 [.ptr 0 0, encM m] (setO s) (.bool b) (setO s')) :
    ACalls Tryz.prog 35 [.ptr 0 0, encM m] (rdS r s) (.bool b) (rdS (settledR r s') s') := by
  have q2 := rsettledD r s' hs
  refine acallsFD mixed Tryz.func35 rfl (t := 4) (f2 := 70) rfl [0, 1, 3, 4, 5, 8, 21, 30, 42, 51] 1000 ([.t, .call [2, 3] false false (.bool b) (setO s')]) [] [0, 1, 2, 6] (v1 := .bool b) (os1 := [.vars 106 [.ptr 2 0, .int .i64 (RdD.client r), .int .i64 (RdD.id r), .int .u64 (RdD.lay r).epoch, .lst 2 (List.map encS (RdD.lay r).segs), .int .i64 (RdD.lay r).seq, .int .u64 (RdD.a r), .bool (RdD.fill r), .int .i64 (RdD.last r), .int .i64 (RdD.at_ r), .int .i64 (RdD.cell r).kind, .lst 1 (List.map byteA (RdD.cell r).data), .lst 3 (List.map encB (RdD.cell r).backs), .int .i64 (RdD.e r), .int .i64 (RdD.ticks r), .int .i64 (RdD.asked r), .row 1 22 (List.length (RdD.out r))], .row 50 22 (RdD.out r), .vars 86 [.int .i64 (s'.client), .int .i64 (s'.id), .int .u64 (s'.epoch), .int .u64 (s'.a), .int .i64 (s'.cell).kind, .lst 1 (List.map byteA (s'.cell).data), .lst 3 (List.map encB (s'.cell).backs), .lst 1 (List.map intA (s'.chain)), .int .i64 (↑(s'.at_) : Int), .bool (s'.started), .bool (s'.over), .int .i64 (s'.e), .int .i64 (s'.ticks), .int .i64 (s'.writes), .row 3 22 (List.length (s'.out))], .row 50 22 (s'.out)]) (ob := [(RdD.at_ r == (2 : Int)) = true,
 ACalls Tryz.prog 14 [.ptr 0 0, (encM m)] [.vars 86 (celS s ++ [.row 1 22 (List.length s.out)]), .row 50 22 s.out] (.bool b) [.vars 86 [.int .i64 (s'.client), .int .i64 (s'.id), .int .u64 (s'.epoch), .int .u64 (s'.a), .int .i64 (s'.cell).kind, .lst 1 (List.map byteA (s'.cell).data), .lst 3 (List.map encB (s'.cell).backs), .lst 1 (List.map intA (s'.chain)), .int .i64 (↑(s'.at_) : Int), .bool (s'.started), .bool (s'.over), .int .i64 (s'.e), .int .i64 (s'.ticks), .int .i64 (s'.writes), .row 1 22 (List.length (s'.out))], .row 50 22 (s'.out)]]) (by kernel_rfl) (by first | exact rfl | exact ⟨rfl, rfl⟩ | (simp [rdS, celT, celL, encM, celM, celC, h, setO]; done)) rfl ?q166_d ⟨(by first | exact rfl | (simp [rdS, celT, celL, encM, celM, celC, h, setO]; done) | (simp [rdS, celT, celL, encM, celM, celC, h, setO]; omega) | omega), ?q166_1, trivial⟩
  · exact q2
  · exact q
theorem rhearS_no (r : RdD) (s : SetD) (m : MsgD) (h : ¬ r.at_ = 2) (h1 : ¬ r.at_ = 1) : ACalls Tryz.prog 35 [.ptr 0 0, encM m] (rdS r s) (.bool false) (rdS r s) := by
  have q := rmine_S r s m h1
  refine acallsK mixed Tryz.func35 rfl [0, 1, 3, 4, 5, 8, 21, 30, 42, 51] 1000 ([.f, .call [0, 1, 2, 3] false false (.bool false) (rdS r s)]) [] [0, 6, 2, 8] (ob := [(RdD.at_ r == (2 : Int)) = false,
 _]) (by kernel_rfl) ⟨rfl, rfl⟩ ⟨(by first | exact rfl | (simp [rdS, celT, celL, encM, celM, celC, h]; done) | (simp [rdS, celT, celL, encM, celM, celC, h]; omega) | omega), q, trivial⟩
def tickR (r : RdD) : RdD := if ¬ r.at_ = 1 then r else if r.ticks + 1 < 6 then { r with ticks := r.ticks + 1 } else if 5 ≤ r.asked then endR { r with ticks := r.ticks + 1 } cell0 162 else askR { r with ticks := r.ticks + 1 }
theorem rtick (r : RdD) (hr : r.ok) (h2 : ¬ r.at_ = 2) : ACalls Tryz.prog 37 [.ptr 0 0] (rdO r) (.int .i64 0) (rdO (tickR r)) := by
  have t0 := hr.t0
  have t1 := hr.t1
  have k0 := hr.k0
  have k1 := hr.k1
  have ho := hr.out
  have w1 : IntKind.i64.wrap (r.ticks + 1) = r.ticks + 1 := wrap_i (by omega) (by omega)
  unfold tickR
  by_cases h : r.at_ = 1
  · rw [if_neg (by simp [h])]
    by_cases h3 : r.ticks + 1 < 6
    · rw [if_pos h3]
      refine acallsK mixed Tryz.func37 rfl [0, 2, 4, 8, 9, 18, 31, 36] 1000 ([.f, .t, .n (r.ticks + 1), .t]) [] [0, 1] (v1 := .int .i64 0) (objs1 := [.vars 106 [.nilp, .int .i64 (RdD.client r), .int .i64 (RdD.id r), .int .u64 (RdD.lay r).epoch, .lst 2 (List.map encS (RdD.lay r).segs), .int .i64 (RdD.lay r).seq, .int .u64 (RdD.a r), .bool (RdD.fill r), .int .i64 (RdD.last r), .int .i64 (RdD.at_ r), .int .i64 (RdD.cell r).kind, .lst 1 (List.map byteA (RdD.cell r).data), .lst 3 (List.map encB (RdD.cell r).backs), .int .i64 (RdD.e r), .int .i64 (RdD.ticks r + 1), .int .i64 (RdD.asked r), .row 1 22 (List.length (RdD.out r))], .row 50 22 (RdD.out r)]) (ob := [(RdD.at_ r == (2 : Int)) = false,
 (RdD.at_ r == (1 : Int)) = true,
 IntKind.i64.wrap (RdD.ticks r + (1 : Int)) = RdD.ticks r + (1 : Int),
 decide (RdD.ticks r + (1 : Int) < (6 : Int)) = true]) (by kernel_rfl) (by first | exact rfl | exact ⟨rfl, rfl⟩ | (simp [rdO, celT, celL, h, h3]; done) | (first | exact w1 | omega)) ⟨?z0, ?z1, ?z2, ?z3, trivial⟩
      case z0|z1|z2|z3 => first | exact rfl | (simp [rdO, celT, celL, h, h3] <;> omega) | omega | (first | exact w1 | omega)
    · rw [if_neg h3]
      by_cases h4 : 5 ≤ r.asked
      · rw [if_pos h4]
        have q := rend0 { r with ticks := r.ticks + 1 } 162
        refine acallsK mixed Tryz.func37 rfl [0, 2, 4, 8, 9, 18, 31, 36] 1000 ([.f, .t, .n (r.ticks + 1), .f, .t, .call [0, 1] false false (.tup []) (rdO (endR { r with ticks := r.ticks + 1 } cell0 162))]) [] [0, 3] (v1 := .int .i64 0) (objs1 := [.vars 106 [.nilp, .int .i64 (RdD.client (endR { client := RdD.client r, id := RdD.id r, lay := RdD.lay r, a := RdD.a r, fill := RdD.fill r, last := RdD.last r, at_ := RdD.at_ r, cell := RdD.cell r, e := RdD.e r, ticks := RdD.ticks r + 1, asked := RdD.asked r, out := RdD.out r } cell0 162)), .int .i64 (RdD.id (endR { client := RdD.client r, id := RdD.id r, lay := RdD.lay r, a := RdD.a r, fill := RdD.fill r, last := RdD.last r, at_ := RdD.at_ r, cell := RdD.cell r, e := RdD.e r, ticks := RdD.ticks r + 1, asked := RdD.asked r, out := RdD.out r } cell0 162)), .int .u64 (LayD.epoch (RdD.lay (endR { client := RdD.client r, id := RdD.id r, lay := RdD.lay r, a := RdD.a r, fill := RdD.fill r, last := RdD.last r, at_ := RdD.at_ r, cell := RdD.cell r, e := RdD.e r, ticks := RdD.ticks r + 1, asked := RdD.asked r, out := RdD.out r } cell0 162))), .lst 2 (List.map encS (LayD.segs (RdD.lay (endR { client := RdD.client r, id := RdD.id r, lay := RdD.lay r, a := RdD.a r, fill := RdD.fill r, last := RdD.last r, at_ := RdD.at_ r, cell := RdD.cell r, e := RdD.e r, ticks := RdD.ticks r + 1, asked := RdD.asked r, out := RdD.out r } cell0 162)))), .int .i64 (LayD.seq (RdD.lay (endR { client := RdD.client r, id := RdD.id r, lay := RdD.lay r, a := RdD.a r, fill := RdD.fill r, last := RdD.last r, at_ := RdD.at_ r, cell := RdD.cell r, e := RdD.e r, ticks := RdD.ticks r + 1, asked := RdD.asked r, out := RdD.out r } cell0 162))), .int .u64 (RdD.a (endR { client := RdD.client r, id := RdD.id r, lay := RdD.lay r, a := RdD.a r, fill := RdD.fill r, last := RdD.last r, at_ := RdD.at_ r, cell := RdD.cell r, e := RdD.e r, ticks := RdD.ticks r + 1, asked := RdD.asked r, out := RdD.out r } cell0 162)), .bool (RdD.fill (endR { client := RdD.client r, id := RdD.id r, lay := RdD.lay r, a := RdD.a r, fill := RdD.fill r, last := RdD.last r, at_ := RdD.at_ r, cell := RdD.cell r, e := RdD.e r, ticks := RdD.ticks r + 1, asked := RdD.asked r, out := RdD.out r } cell0 162)), .int .i64 (RdD.last (endR { client := RdD.client r, id := RdD.id r, lay := RdD.lay r, a := RdD.a r, fill := RdD.fill r, last := RdD.last r, at_ := RdD.at_ r, cell := RdD.cell r, e := RdD.e r, ticks := RdD.ticks r + 1, asked := RdD.asked r, out := RdD.out r } cell0 162)), .int .i64 (RdD.at_ (endR { client := RdD.client r, id := RdD.id r, lay := RdD.lay r, a := RdD.a r, fill := RdD.fill r, last := RdD.last r, at_ := RdD.at_ r, cell := RdD.cell r, e := RdD.e r, ticks := RdD.ticks r + 1, asked := RdD.asked r, out := RdD.out r } cell0 162)), .int .i64 (CellD.kind (RdD.cell (endR { client := RdD.client r, id := RdD.id r, lay := RdD.lay r, a := RdD.a r, fill := RdD.fill r, last := RdD.last r, at_ := RdD.at_ r, cell := RdD.cell r, e := RdD.e r, ticks := RdD.ticks r + 1, asked := RdD.asked r, out := RdD.out r } cell0 162))), .lst 1 [], .lst 3 [], .int .i64 (RdD.e (endR { client := RdD.client r, id := RdD.id r, lay := RdD.lay r, a := RdD.a r, fill := RdD.fill r, last := RdD.last r, at_ := RdD.at_ r, cell := RdD.cell r, e := RdD.e r, ticks := RdD.ticks r + 1, asked := RdD.asked r, out := RdD.out r } cell0 162)), .int .i64 (RdD.ticks (endR { client := RdD.client r, id := RdD.id r, lay := RdD.lay r, a := RdD.a r, fill := RdD.fill r, last := RdD.last r, at_ := RdD.at_ r, cell := RdD.cell r, e := RdD.e r, ticks := RdD.ticks r + 1, asked := RdD.asked r, out := RdD.out r } cell0 162)), .int .i64 (RdD.asked (endR { client := RdD.client r, id := RdD.id r, lay := RdD.lay r, a := RdD.a r, fill := RdD.fill r, last := RdD.last r, at_ := RdD.at_ r, cell := RdD.cell r, e := RdD.e r, ticks := RdD.ticks r + 1, asked := RdD.asked r, out := RdD.out r } cell0 162)), .row 1 22 (List.length (RdD.out (endR { client := RdD.client r, id := RdD.id r, lay := RdD.lay r, a := RdD.a r, fill := RdD.fill r, last := RdD.last r, at_ := RdD.at_ r, cell := RdD.cell r, e := RdD.e r, ticks := RdD.ticks r + 1, asked := RdD.asked r, out := RdD.out r } cell0 162)))], .row 50 22 (RdD.out (endR { client := RdD.client r, id := RdD.id r, lay := RdD.lay r, a := RdD.a r, fill := RdD.fill r, last := RdD.last r, at_ := RdD.at_ r, cell := RdD.cell r, e := RdD.e r, ticks := RdD.ticks r + 1, asked := RdD.asked r, out := RdD.out r } cell0 162))]) (ob := [(RdD.at_ r == (2 : Int)) = false,
 (RdD.at_ r == (1 : Int)) = true,
 IntKind.i64.wrap (RdD.ticks r + (1 : Int)) = RdD.ticks r + (1 : Int),
 decide (RdD.ticks r + (1 : Int) < (6 : Int)) = false,
 decide (RdD.asked r ≥ (5 : Int)) = true,
 ACalls Tryz.prog 73 [.ptr 0 0, .agg [.int .i64 0, .nils, .nils], .int .i64 162] [.vars 106 [.nilp, .int .i64 (RdD.client r), .int .i64 (RdD.id r), .int .u64 (RdD.lay r).epoch, .lst 2 (List.map encS (RdD.lay r).segs), .int .i64 (RdD.lay r).seq, .int .u64 (RdD.a r), .bool (RdD.fill r), .int .i64 (RdD.last r), .int .i64 (RdD.at_ r), .int .i64 (RdD.cell r).kind, .lst 1 (List.map byteA (RdD.cell r).data), .lst 3 (List.map encB (RdD.cell r).backs), .int .i64 (RdD.e r), .int .i64 (RdD.ticks r + 1), .int .i64 (RdD.asked r), .row 1 22 (List.length (RdD.out r))], .row 50 22 (RdD.out r)] (.tup []) [.vars 106 [.nilp, .int .i64 (RdD.client (endR { client := RdD.client r, id := RdD.id r, lay := RdD.lay r, a := RdD.a r, fill := RdD.fill r, last := RdD.last r, at_ := RdD.at_ r, cell := RdD.cell r, e := RdD.e r, ticks := RdD.ticks r + 1, asked := RdD.asked r, out := RdD.out r } cell0 162)), .int .i64 (RdD.id (endR { client := RdD.client r, id := RdD.id r, lay := RdD.lay r, a := RdD.a r, fill := RdD.fill r, last := RdD.last r, at_ := RdD.at_ r, cell := RdD.cell r, e := RdD.e r, ticks := RdD.ticks r + 1, asked := RdD.asked r, out := RdD.out r } cell0 162)), .int .u64 (LayD.epoch (RdD.lay (endR { client := RdD.client r, id := RdD.id r, lay := RdD.lay r, a := RdD.a r, fill := RdD.fill r, last := RdD.last r, at_ := RdD.at_ r, cell := RdD.cell r, e := RdD.e r, ticks := RdD.ticks r + 1, asked := RdD.asked r, out := RdD.out r } cell0 162))), .lst 2 (List.map encS (LayD.segs (RdD.lay (endR { client := RdD.client r, id := RdD.id r, lay := RdD.lay r, a := RdD.a r, fill := RdD.fill r, last := RdD.last r, at_ := RdD.at_ r, cell := RdD.cell r, e := RdD.e r, ticks := RdD.ticks r + 1, asked := RdD.asked r, out := RdD.out r } cell0 162)))), .int .i64 (LayD.seq (RdD.lay (endR { client := RdD.client r, id := RdD.id r, lay := RdD.lay r, a := RdD.a r, fill := RdD.fill r, last := RdD.last r, at_ := RdD.at_ r, cell := RdD.cell r, e := RdD.e r, ticks := RdD.ticks r + 1, asked := RdD.asked r, out := RdD.out r } cell0 162))), .int .u64 (RdD.a (endR { client := RdD.client r, id := RdD.id r, lay := RdD.lay r, a := RdD.a r, fill := RdD.fill r, last := RdD.last r, at_ := RdD.at_ r, cell := RdD.cell r, e := RdD.e r, ticks := RdD.ticks r + 1, asked := RdD.asked r, out := RdD.out r } cell0 162)), .bool (RdD.fill (endR { client := RdD.client r, id := RdD.id r, lay := RdD.lay r, a := RdD.a r, fill := RdD.fill r, last := RdD.last r, at_ := RdD.at_ r, cell := RdD.cell r, e := RdD.e r, ticks := RdD.ticks r + 1, asked := RdD.asked r, out := RdD.out r } cell0 162)), .int .i64 (RdD.last (endR { client := RdD.client r, id := RdD.id r, lay := RdD.lay r, a := RdD.a r, fill := RdD.fill r, last := RdD.last r, at_ := RdD.at_ r, cell := RdD.cell r, e := RdD.e r, ticks := RdD.ticks r + 1, asked := RdD.asked r, out := RdD.out r } cell0 162)), .int .i64 (RdD.at_ (endR { client := RdD.client r, id := RdD.id r, lay := RdD.lay r, a := RdD.a r, fill := RdD.fill r, last := RdD.last r, at_ := RdD.at_ r, cell := RdD.cell r, e := RdD.e r, ticks := RdD.ticks r + 1, asked := RdD.asked r, out := RdD.out r } cell0 162)), .int .i64 (CellD.kind (RdD.cell (endR { client := RdD.client r, id := RdD.id r, lay := RdD.lay r, a := RdD.a r, fill := RdD.fill r, last := RdD.last r, at_ := RdD.at_ r, cell := RdD.cell r, e := RdD.e r, ticks := RdD.ticks r + 1, asked := RdD.asked r, out := RdD.out r } cell0 162))), .lst 1 [], .lst 3 [], .int .i64 (RdD.e (endR { client := RdD.client r, id := RdD.id r, lay := RdD.lay r, a := RdD.a r, fill := RdD.fill r, last := RdD.last r, at_ := RdD.at_ r, cell := RdD.cell r, e := RdD.e r, ticks := RdD.ticks r + 1, asked := RdD.asked r, out := RdD.out r } cell0 162)), .int .i64 (RdD.ticks (endR { client := RdD.client r, id := RdD.id r, lay := RdD.lay r, a := RdD.a r, fill := RdD.fill r, last := RdD.last r, at_ := RdD.at_ r, cell := RdD.cell r, e := RdD.e r, ticks := RdD.ticks r + 1, asked := RdD.asked r, out := RdD.out r } cell0 162)), .int .i64 (RdD.asked (endR { client := RdD.client r, id := RdD.id r, lay := RdD.lay r, a := RdD.a r, fill := RdD.fill r, last := RdD.last r, at_ := RdD.at_ r, cell := RdD.cell r, e := RdD.e r, ticks := RdD.ticks r + 1, asked := RdD.asked r, out := RdD.out r } cell0 162)), .row 1 22 (List.length (RdD.out (endR { client := RdD.client r, id := RdD.id r, lay := RdD.lay r, a := RdD.a r, fill := RdD.fill r, last := RdD.last r, at_ := RdD.at_ r, cell := RdD.cell r, e := RdD.e r, ticks := RdD.ticks r + 1, asked := RdD.asked r, out := RdD.out r } cell0 162)))], .row 50 22 (RdD.out (endR { client := RdD.client r, id := RdD.id r, lay := RdD.lay r, a := RdD.a r, fill := RdD.fill r, last := RdD.last r, at_ := RdD.at_ r, cell := RdD.cell r, e := RdD.e r, ticks := RdD.ticks r + 1, asked := RdD.asked r, out := RdD.out r } cell0 162))]]) (by kernel_rfl) (by first | exact rfl | exact ⟨rfl, rfl⟩ | (simp [rdO, celT, celL, h, h3, h4]; done) | (first | exact w1 | omega)) ⟨?z4, ?z5, ?z6, ?z7, ?z8, ?q191_1, trivial⟩
        case z4|z5|z6|z7|z8 => first | exact rfl | (simp [rdO, celT, celL, h, h3, h4] <;> omega) | omega | (first | exact w1 | omega)
        exact q
      · rw [if_neg h4]
        have q := rask { r with ticks := r.ticks + 1 } (by show r.out.length ≤ 1000; omega) k0 (by show r.asked ≤ 100; omega)
        refine acallsK mixed Tryz.func37 rfl [0, 2, 4, 8, 9, 18, 31, 36] 1000 ([.f, .t, .n (r.ticks + 1), .f, .f, .call [0, 1] false false (.tup []) (rdO (askR { r with ticks := r.ticks + 1 }))]) [] [0, 3] (v1 := .int .i64 0) (objs1 := [.vars 106 [.nilp, .int .i64 (RdD.client (askR { client := RdD.client r, id := RdD.id r, lay := RdD.lay r, a := RdD.a r, fill := RdD.fill r, last := RdD.last r, at_ := RdD.at_ r, cell := RdD.cell r, e := RdD.e r, ticks := RdD.ticks r + 1, asked := RdD.asked r, out := RdD.out r })), .int .i64 (RdD.id (askR { client := RdD.client r, id := RdD.id r, lay := RdD.lay r, a := RdD.a r, fill := RdD.fill r, last := RdD.last r, at_ := RdD.at_ r, cell := RdD.cell r, e := RdD.e r, ticks := RdD.ticks r + 1, asked := RdD.asked r, out := RdD.out r })), .int .u64 (LayD.epoch (RdD.lay (askR { client := RdD.client r, id := RdD.id r, lay := RdD.lay r, a := RdD.a r, fill := RdD.fill r, last := RdD.last r, at_ := RdD.at_ r, cell := RdD.cell r, e := RdD.e r, ticks := RdD.ticks r + 1, asked := RdD.asked r, out := RdD.out r }))), .lst 2 (List.map encS (LayD.segs (RdD.lay (askR { client := RdD.client r, id := RdD.id r, lay := RdD.lay r, a := RdD.a r, fill := RdD.fill r, last := RdD.last r, at_ := RdD.at_ r, cell := RdD.cell r, e := RdD.e r, ticks := RdD.ticks r + 1, asked := RdD.asked r, out := RdD.out r })))), .int .i64 (LayD.seq (RdD.lay (askR { client := RdD.client r, id := RdD.id r, lay := RdD.lay r, a := RdD.a r, fill := RdD.fill r, last := RdD.last r, at_ := RdD.at_ r, cell := RdD.cell r, e := RdD.e r, ticks := RdD.ticks r + 1, asked := RdD.asked r, out := RdD.out r }))), .int .u64 (RdD.a (askR { client := RdD.client r, id := RdD.id r, lay := RdD.lay r, a := RdD.a r, fill := RdD.fill r, last := RdD.last r, at_ := RdD.at_ r, cell := RdD.cell r, e := RdD.e r, ticks := RdD.ticks r + 1, asked := RdD.asked r, out := RdD.out r })), .bool (RdD.fill (askR { client := RdD.client r, id := RdD.id r, lay := RdD.lay r, a := RdD.a r, fill := RdD.fill r, last := RdD.last r, at_ := RdD.at_ r, cell := RdD.cell r, e := RdD.e r, ticks := RdD.ticks r + 1, asked := RdD.asked r, out := RdD.out r })), .int .i64 (RdD.last (askR { client := RdD.client r, id := RdD.id r, lay := RdD.lay r, a := RdD.a r, fill := RdD.fill r, last := RdD.last r, at_ := RdD.at_ r, cell := RdD.cell r, e := RdD.e r, ticks := RdD.ticks r + 1, asked := RdD.asked r, out := RdD.out r })), .int .i64 (RdD.at_ (askR { client := RdD.client r, id := RdD.id r, lay := RdD.lay r, a := RdD.a r, fill := RdD.fill r, last := RdD.last r, at_ := RdD.at_ r, cell := RdD.cell r, e := RdD.e r, ticks := RdD.ticks r + 1, asked := RdD.asked r, out := RdD.out r })), .int .i64 (CellD.kind (RdD.cell (askR { client := RdD.client r, id := RdD.id r, lay := RdD.lay r, a := RdD.a r, fill := RdD.fill r, last := RdD.last r, at_ := RdD.at_ r, cell := RdD.cell r, e := RdD.e r, ticks := RdD.ticks r + 1, asked := RdD.asked r, out := RdD.out r }))), .lst 1 (List.map byteA (CellD.data (RdD.cell (askR { client := RdD.client r, id := RdD.id r, lay := RdD.lay r, a := RdD.a r, fill := RdD.fill r, last := RdD.last r, at_ := RdD.at_ r, cell := RdD.cell r, e := RdD.e r, ticks := RdD.ticks r + 1, asked := RdD.asked r, out := RdD.out r })))), .lst 3 (List.map encB (CellD.backs (RdD.cell (askR { client := RdD.client r, id := RdD.id r, lay := RdD.lay r, a := RdD.a r, fill := RdD.fill r, last := RdD.last r, at_ := RdD.at_ r, cell := RdD.cell r, e := RdD.e r, ticks := RdD.ticks r + 1, asked := RdD.asked r, out := RdD.out r })))), .int .i64 (RdD.e (askR { client := RdD.client r, id := RdD.id r, lay := RdD.lay r, a := RdD.a r, fill := RdD.fill r, last := RdD.last r, at_ := RdD.at_ r, cell := RdD.cell r, e := RdD.e r, ticks := RdD.ticks r + 1, asked := RdD.asked r, out := RdD.out r })), .int .i64 (RdD.ticks (askR { client := RdD.client r, id := RdD.id r, lay := RdD.lay r, a := RdD.a r, fill := RdD.fill r, last := RdD.last r, at_ := RdD.at_ r, cell := RdD.cell r, e := RdD.e r, ticks := RdD.ticks r + 1, asked := RdD.asked r, out := RdD.out r })), .int .i64 (RdD.asked (askR { client := RdD.client r, id := RdD.id r, lay := RdD.lay r, a := RdD.a r, fill := RdD.fill r, last := RdD.last r, at_ := RdD.at_ r, cell := RdD.cell r, e := RdD.e r, ticks := RdD.ticks r + 1, asked := RdD.asked r, out := RdD.out r })), .row 1 22 (List.length (RdD.out (askR { client := RdD.client r, id := RdD.id r, lay := RdD.lay r, a := RdD.a r, fill := RdD.fill r, last := RdD.last r, at_ := RdD.at_ r, cell := RdD.cell r, e := RdD.e r, ticks := RdD.ticks r + 1, asked := RdD.asked r, out := RdD.out r })))], .row 50 22 (RdD.out (askR { client := RdD.client r, id := RdD.id r, lay := RdD.lay r, a := RdD.a r, fill := RdD.fill r, last := RdD.last r, at_ := RdD.at_ r, cell := RdD.cell r, e := RdD.e r, ticks := RdD.ticks r + 1, asked := RdD.asked r, out := RdD.out r }))]) (ob := [(RdD.at_ r == (2 : Int)) = false,
 (RdD.at_ r == (1 : Int)) = true,
 IntKind.i64.wrap (RdD.ticks r + (1 : Int)) = RdD.ticks r + (1 : Int),
 decide (RdD.ticks r + (1 : Int) < (6 : Int)) = false,
 decide (RdD.asked r ≥ (5 : Int)) = false,
 ACalls Tryz.prog 68 [.ptr 0 0] [.vars 106 [.nilp, .int .i64 (RdD.client r), .int .i64 (RdD.id r), .int .u64 (RdD.lay r).epoch, .lst 2 (List.map encS (RdD.lay r).segs), .int .i64 (RdD.lay r).seq, .int .u64 (RdD.a r), .bool (RdD.fill r), .int .i64 (RdD.last r), .int .i64 (RdD.at_ r), .int .i64 (RdD.cell r).kind, .lst 1 (List.map byteA (RdD.cell r).data), .lst 3 (List.map encB (RdD.cell r).backs), .int .i64 (RdD.e r), .int .i64 (RdD.ticks r + 1), .int .i64 (RdD.asked r), .row 1 22 (List.length (RdD.out r))], .row 50 22 (RdD.out r)] (.tup []) [.vars 106 [.nilp, .int .i64 (RdD.client (askR { client := RdD.client r, id := RdD.id r, lay := RdD.lay r, a := RdD.a r, fill := RdD.fill r, last := RdD.last r, at_ := RdD.at_ r, cell := RdD.cell r, e := RdD.e r, ticks := RdD.ticks r + 1, asked := RdD.asked r, out := RdD.out r })), .int .i64 (RdD.id (askR { client := RdD.client r, id := RdD.id r, lay := RdD.lay r, a := RdD.a r, fill := RdD.fill r, last := RdD.last r, at_ := RdD.at_ r, cell := RdD.cell r, e := RdD.e r, ticks := RdD.ticks r + 1, asked := RdD.asked r, out := RdD.out r })), .int .u64 (LayD.epoch (RdD.lay (askR { client := RdD.client r, id := RdD.id r, lay := RdD.lay r, a := RdD.a r, fill := RdD.fill r, last := RdD.last r, at_ := RdD.at_ r, cell := RdD.cell r, e := RdD.e r, ticks := RdD.ticks r + 1, asked := RdD.asked r, out := RdD.out r }))), .lst 2 (List.map encS (LayD.segs (RdD.lay (askR { client := RdD.client r, id := RdD.id r, lay := RdD.lay r, a := RdD.a r, fill := RdD.fill r, last := RdD.last r, at_ := RdD.at_ r, cell := RdD.cell r, e := RdD.e r, ticks := RdD.ticks r + 1, asked := RdD.asked r, out := RdD.out r })))), .int .i64 (LayD.seq (RdD.lay (askR { client := RdD.client r, id := RdD.id r, lay := RdD.lay r, a := RdD.a r, fill := RdD.fill r, last := RdD.last r, at_ := RdD.at_ r, cell := RdD.cell r, e := RdD.e r, ticks := RdD.ticks r + 1, asked := RdD.asked r, out := RdD.out r }))), .int .u64 (RdD.a (askR { client := RdD.client r, id := RdD.id r, lay := RdD.lay r, a := RdD.a r, fill := RdD.fill r, last := RdD.last r, at_ := RdD.at_ r, cell := RdD.cell r, e := RdD.e r, ticks := RdD.ticks r + 1, asked := RdD.asked r, out := RdD.out r })), .bool (RdD.fill (askR { client := RdD.client r, id := RdD.id r, lay := RdD.lay r, a := RdD.a r, fill := RdD.fill r, last := RdD.last r, at_ := RdD.at_ r, cell := RdD.cell r, e := RdD.e r, ticks := RdD.ticks r + 1, asked := RdD.asked r, out := RdD.out r })), .int .i64 (RdD.last (askR { client := RdD.client r, id := RdD.id r, lay := RdD.lay r, a := RdD.a r, fill := RdD.fill r, last := RdD.last r, at_ := RdD.at_ r, cell := RdD.cell r, e := RdD.e r, ticks := RdD.ticks r + 1, asked := RdD.asked r, out := RdD.out r })), .int .i64 (RdD.at_ (askR { client := RdD.client r, id := RdD.id r, lay := RdD.lay r, a := RdD.a r, fill := RdD.fill r, last := RdD.last r, at_ := RdD.at_ r, cell := RdD.cell r, e := RdD.e r, ticks := RdD.ticks r + 1, asked := RdD.asked r, out := RdD.out r })), .int .i64 (CellD.kind (RdD.cell (askR { client := RdD.client r, id := RdD.id r, lay := RdD.lay r, a := RdD.a r, fill := RdD.fill r, last := RdD.last r, at_ := RdD.at_ r, cell := RdD.cell r, e := RdD.e r, ticks := RdD.ticks r + 1, asked := RdD.asked r, out := RdD.out r }))), .lst 1 (List.map byteA (CellD.data (RdD.cell (askR { client := RdD.client r, id := RdD.id r, lay := RdD.lay r, a := RdD.a r, fill := RdD.fill r, last := RdD.last r, at_ := RdD.at_ r, cell := RdD.cell r, e := RdD.e r, ticks := RdD.ticks r + 1, asked := RdD.asked r, out := RdD.out r })))), .lst 3 (List.map encB (CellD.backs (RdD.cell (askR { client := RdD.client r, id := RdD.id r, lay := RdD.lay r, a := RdD.a r, fill := RdD.fill r, last := RdD.last r, at_ := RdD.at_ r, cell := RdD.cell r, e := RdD.e r, ticks := RdD.ticks r + 1, asked := RdD.asked r, out := RdD.out r })))), .int .i64 (RdD.e (askR { client := RdD.client r, id := RdD.id r, lay := RdD.lay r, a := RdD.a r, fill := RdD.fill r, last := RdD.last r, at_ := RdD.at_ r, cell := RdD.cell r, e := RdD.e r, ticks := RdD.ticks r + 1, asked := RdD.asked r, out := RdD.out r })), .int .i64 (RdD.ticks (askR { client := RdD.client r, id := RdD.id r, lay := RdD.lay r, a := RdD.a r, fill := RdD.fill r, last := RdD.last r, at_ := RdD.at_ r, cell := RdD.cell r, e := RdD.e r, ticks := RdD.ticks r + 1, asked := RdD.asked r, out := RdD.out r })), .int .i64 (RdD.asked (askR { client := RdD.client r, id := RdD.id r, lay := RdD.lay r, a := RdD.a r, fill := RdD.fill r, last := RdD.last r, at_ := RdD.at_ r, cell := RdD.cell r, e := RdD.e r, ticks := RdD.ticks r + 1, asked := RdD.asked r, out := RdD.out r })), .row 1 22 (List.length (RdD.out (askR { client := RdD.client r, id := RdD.id r, lay := RdD.lay r, a := RdD.a r, fill := RdD.fill r, last := RdD.last r, at_ := RdD.at_ r, cell := RdD.cell r, e := RdD.e r, ticks := RdD.ticks r + 1, asked := RdD.asked r, out := RdD.out r })))], .row 50 22 (RdD.out (askR { client := RdD.client r, id := RdD.id r, lay := RdD.lay r, a := RdD.a r, fill := RdD.fill r, last := RdD.last r, at_ := RdD.at_ r, cell := RdD.cell r, e := RdD.e r, ticks := RdD.ticks r + 1, asked := RdD.asked r, out := RdD.out r }))]]) (by kernel_rfl) (by first | exact rfl | exact ⟨rfl, rfl⟩ | (simp [rdO, celT, celL, h, h3, h4]; done) | (first | exact w1 | omega)) ⟨?z9, ?z10, ?z11, ?z12, ?z13, ?q195_1, trivial⟩
        case z9|z10|z11|z12|z13 => first | exact rfl | (simp [rdO, celT, celL, h, h3, h4] <;> omega) | omega | (first | exact w1 | omega)
        exact q
  · rw [if_pos h]
    refine acallsK mixed Tryz.func37 rfl [0, 2, 4, 8, 9, 18, 31, 36] 1000 ([.f, .f]) [] [0, 1] (v1 := .int .i64 0) (objs1 := [.vars 106 [.nilp, .int .i64 (RdD.client r), .int .i64 (RdD.id r), .int .u64 (RdD.lay r).epoch, .lst 2 (List.map encS (RdD.lay r).segs), .int .i64 (RdD.lay r).seq, .int .u64 (RdD.a r), .bool (RdD.fill r), .int .i64 (RdD.last r), .int .i64 (RdD.at_ r), .int .i64 (RdD.cell r).kind, .lst 1 (List.map byteA (RdD.cell r).data), .lst 3 (List.map encB (RdD.cell r).backs), .int .i64 (RdD.e r), .int .i64 (RdD.ticks r), .int .i64 (RdD.asked r), .row 1 22 (List.length (RdD.out r))], .row 50 22 (RdD.out r)]) (ob := [(RdD.at_ r == (2 : Int)) = false,
 (RdD.at_ r == (1 : Int)) = false]) (by kernel_rfl) (by first | exact rfl | exact ⟨rfl, rfl⟩ | (simp [rdO, celT, celL, h, h2]; done)) ⟨?z14, ?z15, trivial⟩
    case z14|z15 => first | exact rfl | (simp [rdO, celT, celL, h, h2] <;> omega) | omega
theorem rtickS (r : RdD) (s s' : SetD) (h : r.at_ = 2) (hs : s'.ok) (q : ACalls Tryz.prog 16 [.ptr 0 0] (setO s) (.int .i64 0) (setO s')) :
    ACalls Tryz.prog 37 [.ptr 0 0] (rdS r s) (.int .i64 0) (rdS (settledR r s') s') := by
  have q2 := rsettled r s' hs
  refine acallsK mixed Tryz.func37 rfl [0, 2, 4, 8, 9, 18, 31, 36] 1000 ([.t, .call [2, 3] false false (.int .i64 0) (setO s'), .call [0, 1, 2, 5] false false (.tup []) (rdS (settledR r s') s')]) [] [0, 7, 2, 9] (ob := [(RdD.at_ r == (2 : Int)) = true,
 _,
 _]) (by kernel_rfl) ⟨rfl, rfl⟩ ⟨(by first | exact rfl | (simp [rdS, celT, celL, h, setO]; done) | (simp [rdS, celT, celL, h, setO]; omega) | omega), q, q2, trivial⟩
theorem rtickS_no (r : RdD) (s : SetD) (h : ¬ r.at_ = 2) (h1 : ¬ r.at_ = 1) : ACalls Tryz.prog 37 [.ptr 0 0] (rdS r s) (.int .i64 0) (rdS r s) := by
  refine acallsK mixed Tryz.func37 rfl [0, 2, 4, 8, 9, 18, 31, 36] 1000 ([.f, .f]) [] [0, 1, 2, 3] (ob := [(RdD.at_ r == (2 : Int)) = false,
 (RdD.at_ r == (1 : Int)) = false]) (by kernel_rfl) ⟨rfl, rfl⟩ ⟨?z0, ?z1, trivial⟩
  case z0|z1 => first | exact rfl | (simp [rdS, celT, celL, h, h1] <;> omega) | omega
def emptR (r : RdD) : RdD := { r with out := [] }
theorem rout (r : RdD) (h : r.out.length ≤ 1000) : ACalls Tryz.prog 39 [.ptr 0 0] (rdO r) (.row 2 22 r.out.length) (rdO (emptR r) ++ [.row 50 22 r.out]) := by
  have q := outnil
  have s1 : (r.out.length + 0) * 256 ≤ 140737488355328 := by omega
  refine acallsK mixed Tryz.func39 rfl [0, 2, 3, 5] 1000 ([.call [] false true .nils [], .ls r.out, .mkc 0 16 50 22]) [] [0, 3, 2] (ob := [_,
 (List.length (RdD.out r) + (0 : Nat)) * (256 : Nat) ≤ (140737488355328 : Nat),
 RdD.out r ++ [] = RdD.out r]) (by kernel_rfl) ⟨rfl, rfl⟩ ⟨q, ?z0, ?z1, trivial⟩
  case z0|z1 => first | exact rfl | (simp [rdO, celT, celL, emptR] <;> omega) | omega | (exact s1)
theorem routS (r : RdD) (s : SetD) (h : r.out.length ≤ 1000) (h2 : s.out.length ≤ 1000) : ACalls Tryz.prog 39 [.ptr 0 0] (rdS r s) (.row 4 22 (r.out ++ s.out).length) (rdS (emptR r) (emptied s) ++ [.row 50 22 (r.out ++ s.out)]) := by
  have q := out_ac s
  have s1 : (r.out.length + s.out.length) * 256 ≤ 140737488355328 := by omega
  refine acallsK mixed Tryz.func39 rfl [0, 2, 3, 5] 1000 ([.call [2, 3] false false (.row 2 22 s.out.length) (setO (emptied s) ++ [.row 50 22 s.out]), .ls (r.out ++ s.out), .mkc 0 16 50 22]) [] [0, 8, 2, 5, 7] (ob := [_,
 (List.length (RdD.out r) + List.length s.out) * (256 : Nat) ≤ (140737488355328 : Nat),
 RdD.out r ++ s.out = RdD.out r ++ s.out]) (by kernel_rfl) ⟨rfl, rfl⟩ ⟨q, ?z0, ?z1, trivial⟩
  case z0|z1 => first | exact rfl | (simp [rdS, celT, celL, emptR, emptied, setO] <;> omega) | omega | (exact s1)
def toldRC (r : RdD) : CellD := if r.at_ = 3 then r.cell else cell0
def toldRE (r : RdD) : Int := if r.at_ = 3 then r.e else 0
def overR (r : RdD) : Bool := decide (r.at_ = 3)
theorem rover (r : RdD) (hr : r.cell.ok) : ACalls Tryz.prog 41 [.ptr 0 0] (rdO r) (.tup [encC (toldRC r), .int .i64 (toldRE r), .bool (overR r)]) (rdO r) := by
  unfold toldRC toldRE overR
  by_cases h : r.at_ = 3
  · rw [if_pos h, if_pos h, decide_eq_true h]
    have q1 := clone_byte_ac r.cell.data (by have := hr.d; omega)
    have q2 := clone_back_ac r.cell.backs (by have := hr.b; omega)
    refine acallsK mixed Tryz.func41 rfl [0, 2, 3, 4, 5, 14] 1000 ([.f, .call [] false false (.row 0 1 r.cell.data.length) [.row 5 1 (r.cell.data.map byteA)], .call [] false false (.row 0 3 r.cell.backs.length) [.row 94 3 (r.cell.backs.map encB)]]) [4, 5] [0, 1] (ob := [(RdD.at_ r != (3 : Int)) = false,
 _,
 _]) (by kernel_rfl) ⟨rfl, rfl⟩ ⟨(by first | exact rfl | (simp [rdO, rdS, celT, celL, celC, encC, h]; done) | (simp [rdO, rdS, celT, celL, celC, encC, h]; omega) | omega), q1, q2, trivial⟩
  · rw [if_neg h, if_neg h, decide_eq_false h]
    have key : ACalls Tryz.prog 41 [.ptr 0 0] (rdO r) (.tup [.agg [.int .i64 0, .nils, .nils], .int .i64 0, .bool false]) (rdO r) := by
      refine acallsK mixed Tryz.func41 rfl [0, 2, 3, 4, 5, 14] 1000 ([.t]) [] [0, 1] (ob := [(RdD.at_ r != (3 : Int)) = true]) (by kernel_rfl) ⟨rfl, rfl⟩ ⟨(by first | exact rfl | (simp [rdO, rdS, celT, celL, celC, encC, h]; done) | (simp [rdO, rdS, celT, celL, celC, encC, h]; omega) | omega), trivial⟩
    refine ACalls.post key (fun K c hc => ?_) fun _ _ h => h
    obtain ⟨ds, rfl, hd⟩ := hc.tup_inv
    refine VR.mkTup ⟨hd.1, fun i u d hu hd' => ?_⟩
    match i, hu with
    | 0, hu => injection hu with hu; subst hu; exact nilcell (hd.2 0 _ d rfl hd')
    | 1, hu => exact hd.2 1 _ d hu hd'
    | 2, hu => exact hd.2 2 _ d hu hd'
theorem roverS (r : RdD) (s : SetD) (hr : r.cell.ok) : ACalls Tryz.prog 41 [.ptr 0 0] (rdS r s) (.tup [encC (toldRC r), .int .i64 (toldRE r), .bool (overR r)]) (rdS r s) := by
  unfold toldRC toldRE overR
  by_cases h : r.at_ = 3
  · rw [if_pos h, if_pos h, decide_eq_true h]
    have q1 := clone_byte_ac r.cell.data (by have := hr.d; omega)
    have q2 := clone_back_ac r.cell.backs (by have := hr.b; omega)
    refine acallsK mixed Tryz.func41 rfl [0, 2, 3, 4, 5, 14] 1000 ([.f, .call [] false false (.row 0 1 r.cell.data.length) [.row 5 1 (r.cell.data.map byteA)], .call [] false false (.row 0 3 r.cell.backs.length) [.row 94 3 (r.cell.backs.map encB)]]) [6, 7] [0, 1, 2, 3] (ob := [(RdD.at_ r != (3 : Int)) = false,
 _,
 _]) (by kernel_rfl) ⟨rfl, rfl⟩ ⟨(by first | exact rfl | (simp [rdO, rdS, celT, celL, celC, encC, h]; done) | (simp [rdO, rdS, celT, celL, celC, encC, h]; omega) | omega), q1, q2, trivial⟩
  · rw [if_neg h, if_neg h, decide_eq_false h]
    have key : ACalls Tryz.prog 41 [.ptr 0 0] (rdS r s) (.tup [.agg [.int .i64 0, .nils, .nils], .int .i64 0, .bool false]) (rdS r s) := by
      refine acallsK mixed Tryz.func41 rfl [0, 2, 3, 4, 5, 14] 1000 ([.t]) [] [0, 1, 2, 3] (ob := [(RdD.at_ r != (3 : Int)) = true]) (by kernel_rfl) ⟨rfl, rfl⟩ ⟨(by first | exact rfl | (simp [rdO, rdS, celT, celL, celC, encC, h]; done) | (simp [rdO, rdS, celT, celL, celC, encC, h]; omega) | omega), trivial⟩
    refine ACalls.post key (fun K c hc => ?_) fun _ _ h => h
    obtain ⟨ds, rfl, hd⟩ := hc.tup_inv
    refine VR.mkTup ⟨hd.1, fun i u d hu hd' => ?_⟩
    match i, hu with
    | 0, hu => injection hu with hu; subst hu; exact nilcell (hd.2 0 _ d rfl hd')
    | 1, hu => exact hd.2 1 _ d hu hd'
    | 2, hu => exact hd.2 2 _ d hu hd'
end Go.Proofs.YtidgcfgkcidkiaaGreat.Ch
