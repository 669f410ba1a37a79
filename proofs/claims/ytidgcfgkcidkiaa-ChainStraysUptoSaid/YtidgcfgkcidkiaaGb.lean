/- A library of no program: how abstract values stand in memory; what a call, and a piece of code, does to them. -/
import Derived.Test.YtidgcfgkcidkiaaGa
namespace Go.Proofs.Ytidgcfgkcidkiaa.X
open Go Go.Proofs.Ytidgcfgkcidkiaa.L
set_option linter.unusedVariables false

inductive Kind where
  | hole | gone | var
  | row (sz len : Nat)
  | frz (sz len : Nat)

def Obj.kind : Obj → Kind
  | .hole => .hole
  | .gone => .gone
  | .vars _ _ => .var
  | .row _ sz xs => .row sz xs.length
  | .frz _ sz xs => .frz sz xs.length

/-- Where things stand: cells that stay, blocks, capacities, kinds. -/
structure Ctx where
  M : Nat → Nat → Option Value
  blk : Nat → Nat
  cap : Nat → Nat
  off : Nat → Nat
  kind : Nat → Kind

/-- A value that leads to cells that stay alone. -/
inductive PR (M : Nat → Nat → Option Value) : AV → Value → Prop where
  | bool (b) : PR M (.bool b) (.bool b)
  | int (k n) : PR M (.int k n) (.int k n)
  | str (s) : PR M (.str s) (.string s)
  | nilp : PR M .nilp (.pointer none)
  | nils : PR M .nils (.slice none 0 0)
  | mapn : PR M .mapn (.map none)
  | nilf : PR M .nilf .nilFunc
  | lst (sz : Nat) (xs : List AV) (ad : Option Addr) (c b o : Nat) (f : Nat → Nat → Value) (hsz : 0 < sz) (hc : xs.length ≤ c) (hm : c ≤ maxLen)
      (had : xs = [] ∨ ad = some ⟨b, o, none⟩)
      (hl : ∀ (i : Nat) (x : AV), xs[i]? = some x → x.cells.length = sz)
      (hM : ∀ (i : Nat) (x : AV) (j : Nat) (u : AV), xs[i]? = some x → x.cells[j]? = some u → M b (o + i * sz + j) = some (f i j))
      (h : ∀ (i : Nat) (x : AV) (j : Nat) (u : AV), xs[i]? = some x → x.cells[j]? = some u → PR M u (f i j)) : PR M (.lst sz xs) (.slice ad xs.length c)

/-- A value. -/
inductive VR (K : Ctx) : AV → Value → Prop where
  | pure {u c} (h : PR K.M u c) : VR K u c
  | ptr (id off : Nat) (c : Value) (hk : K.kind id ≠ .hole) (h : K.kind id = .gone ∨ c = .pointer (some ⟨K.blk id, off, none⟩)) (hp : ∃ a, c = .pointer (some a)) : VR K (.ptr id off) c
  | ept (id sz i off : Nat) (c : Value) (hk : K.kind id ≠ .hole) (h : K.kind id = .gone ∨ ∃ n, (K.kind id = .row sz n ∨ K.kind id = .frz sz n) ∧ i < n ∧ c = .pointer (some ⟨K.blk id, K.off id + i * sz + off, none⟩)) (hp : ∃ a, c = .pointer (some a)) : VR K (.ept id sz i off) c
  | lpt (sz : Nat) (xs : List AV) (i off : Nat) (ad : Addr) (n c : Nat) (hx : PR K.M (.lst sz xs) (.slice (some ad) n c)) (hi : i < xs.length) : VR K (.lpt sz xs i off) (.pointer (some ⟨ad.block, ad.off + i * sz + off, none⟩))
  | row (id sz len : Nat) (c : Value) (hk : K.kind id ≠ .hole) (h : K.kind id = .gone ∨ ((K.kind id = .row sz len ∨ K.kind id = .frz sz len) ∧ ∃ ad, c = .slice ad len (K.cap id) ∧ (K.cap id ≠ 0 → ad = some ⟨K.blk id, K.off id, none⟩))) (hp : ∃ ad m, c = .slice ad len m ∧ len ≤ m ∧ m ≤ maxLen ∧ (m ≠ 0 → ∃ a, ad = some a)) : VR K (.row id sz len) c
  | rws (id sz off len : Nat) (c : Value) (hk : K.kind id ≠ .hole) (h : K.kind id = .gone ∨ ∃ n ad m, (K.kind id = .row sz n ∨ K.kind id = .frz sz n) ∧ off + len ≤ n ∧ c = .slice ad len m ∧ (len ≠ 0 → ad = some ⟨K.blk id, K.off id + off * sz, none⟩)) (hp : ∃ ad m, c = .slice ad len m ∧ len ≤ m ∧ m ≤ maxLen ∧ (len ≠ 0 → ∃ a, ad = some a)) : VR K (.rws id sz off len) c
  | fn (f : FuncId) (caps : List AV) (ds : Array Value) (hl : caps.length = ds.size) (h : ∀ (i : Nat) u d, caps[i]? = some u → ds[i]? = some d → VR K u d) : VR K (.fn f caps) (.func (.func f) #[] ds)
  | agg (cs : List AV) (ds : Array Value) (hl : cs.length = ds.size) (h : ∀ (i : Nat) u d, cs[i]? = some u → ds[i]? = some d → VR K u d) : VR K (.agg cs) (.agg ds)
  | tup (cs : List AV) (ds : Array Value) (hl : cs.length = ds.size) (h : ∀ (i : Nat) u d, cs[i]? = some u → ds[i]? = some d → VR K u d) : VR K (.tup cs) (.tuple ds)
  | dead (c : Value) : VR K .dead c

def VRs (K : Ctx) (cs : List AV) (ds : List Value) : Prop := cs.length = ds.length ∧ ∀ (i : Nat) u d, cs[i]? = some u → ds[i]? = some d → VR K u d

/-- The elements of a row, in cells. -/
def PRows (M : Nat → Nat → Option Value) (sz : Nat) (xs : List AV) (ds : List Value) : Prop :=
  ∀ (i : Nat) (x : AV), xs[i]? = some x → x.cells.length = sz ∧ ∀ (j : Nat) (u : AV), x.cells[j]? = some u → ∃ d, ds[i * sz + j]? = some d ∧ PR M u d

def OR (K : Ctx) (w : World) (id : Nat) : Obj → Prop
  | .hole | .gone => True
  | .vars T cs => ∃ ds, w.heap[K.blk id]? = some (.cells ds T (0, 0)) ∧ VRs K cs ds.toList ∧ ∀ u ∈ ds.toList, u.oneCell' = true
  | .row T sz xs => 0 < sz ∧ xs.length ≤ K.cap id ∧ K.cap id ≤ maxLen ∧ (K.cap id ≠ 0 → ∃ ds, w.heap[K.blk id]? = some (.cells ds T (0, 0)) ∧ ds.size = K.off id + K.cap id * sz ∧ PRows K.M sz xs (ds.toList.drop (K.off id)))
  | .frz T sz xs => 0 < sz ∧ xs.length ≤ K.cap id ∧ K.cap id ≤ maxLen ∧ ∀ (i : Nat) (x : AV), xs[i]? = some x → x.cells.length = sz ∧ ∀ (j : Nat) (u : AV), x.cells[j]? = some u → ∃ d, K.M (K.blk id) (K.off id + i * sz + j) = some d ∧ PR K.M u d

/-- What owns its block. -/
def Ctx.own (K : Ctx) (id : Nat) : Prop :=
  match K.kind id with
  | .var => True
  | .row _ _ => K.cap id ≠ 0
  | _ => False
def Ctx.foot (K : Ctx) (b : Nat) : Prop := ∃ id, K.own id ∧ K.blk id = b

structure Rel (K : Ctx) (get : Nat → Obj) (w : World) : Prop where
  kinds : ∀ id, K.kind id = (get id).kind
  mem : ∀ b o v, K.M b o = some v → w.cell? ⟨b, o, none⟩ = some v ∧ v.oneCell' = true
  obj : ∀ id, OR K w id (get id)
  inj : ∀ i j, K.own i → K.own j → K.blk i = K.blk j → i = j
  sep : ∀ id o, K.own id → K.M (K.blk id) o = none

/-- How far memory has gone. -/
structure Grow (m0 : Nat) (K : Ctx) (w : World) (K' : Ctx) (w' : World) : Prop where
  mem : ∀ b o v, K.M b o = some v → K'.M b o = some v
  new : ∀ b o v, K'.M b o = some v → K.M b o = some v ∨ K.foot b ∨ w.heap.size ≤ b
  var : ∀ id, id < m0 → K.kind id = .var → K'.kind id = .var ∧ K'.blk id = K.blk id
  foot : ∀ b, K'.foot b → K.foot b ∨ w.heap.size ≤ b
  keeps : Keeps K.foot w w'

/-- A function with a body of its own. -/
def Enters (P : Program) (f : FuncId) : Prop := ∃ fn, P.funcs[f]? = some fn ∧ fn.body.isNone = false ∧ (fn.name == "runtime.NumGoroutine") = false
/-- What a call does. -/
def ACalls (P : Program) (f : FuncId) (args : List AV) (objs : List Obj) (v : AV) (objs' : List Obj) : Prop :=
  Enters P f ∧ ∀ K w (cs : List Value), Rel K (getO objs) w → VRs K args cs →
    Calls P f cs.toArray w fun e w' => ∃ K' c, e = .returned c ∧ Rel K' (getO objs') w' ∧ VR K' v c ∧ Grow objs.length K w K' w'

/-- What a call tells that leaves all as it is. -/
def AReads (P : Program) (f : FuncId) (args : List AV) (objs : List Obj) (v : AV) : Prop :=
  Enters P f ∧ ∀ K w (cs : List Value), Rel K (getO objs) w → VRs K args cs →
    Calls P f cs.toArray w fun e w' => ∃ c, e = .returned c ∧ Keeps (fun _ => False) w w' ∧ ∀ K', VR K' v c

/-- What a call does that turns a row in its place. -/
def ATurn (P : Program) (f : FuncId) (args : List AV) (T : TypeId) (sz : Nat) (ys xs : List AV) (v : AV) : Prop :=
  Enters P f ∧ ∀ K w (cs : List Value), Rel K (getO [.row T sz ys]) w → VRs K args cs →
    Calls P f cs.toArray w fun e w' => ∃ c, e = .returned c ∧ Rel K (getO [.row T sz xs]) w' ∧ Keeps K.foot w w' ∧ ∀ K', VR K' v c

structure RelS (K : Ctx) (e : Nat → Option AV) (get : Nat → Obj) (a : Act) (w : World) : Prop where
  rel : Rel K get w
  env : ∀ t v, e t = some v → ∃ c, a.tmps[t]? = some c ∧ VR K v c

def Ex.toExit : Ex → Exit
  | .normal => .normal
  | .ret => .ret
  | .exit id => .exit id

/-- What a piece of code does; the first m0 things stay where they are; nt slots. -/
def ACode (P : Program) (m0 nt : Nat) (c : Code) (S : St) (x : Ex) (S' : St) : Prop :=
  ∀ K a w (Q : Exit → Act → World → Prop), RelS K (look S.env) (getO S.objs) a w → a.tmps.size = nt →
    (∀ K' a' w', RelS K' (look S'.env) (getO S'.objs) a' w' → a'.tmps.size = nt → Grow m0 K w K' w' → a'.defers = a.defers → Q x.toExit a' w') → c.wp P Q a w
/-- A loop that is about to go round. -/
def LoopFrom (P : Program) (c : Code) (Q : Exit → Act → World → Prop) (a : Act) (w : World) : Prop :=
  ∀ (b : Frame) (k : List Item) (cs : List Frame), ∃ e a' w', Q e a' w' ∧ Arrives P (lone (b.at a (.code c :: .inLoop c :: k)) cs w) b k cs e a' w'
/-- What a loop does. -/
def ALoop (P : Program) (m0 nt : Nat) (c : Code) (S : St) (x : Ex) (S' : St) : Prop :=
  ∀ K a w (Q : Exit → Act → World → Prop), RelS K (look S.env) (getO S.objs) a w → a.tmps.size = nt →
    (∀ K' a' w', RelS K' (look S'.env) (getO S'.objs) a' w' → a'.tmps.size = nt → Grow m0 K w K' w' → a'.defers = a.defers → Q x.toExit a' w') → LoopFrom P c Q a w
end Go.Proofs.Ytidgcfgkcidkiaa.X
