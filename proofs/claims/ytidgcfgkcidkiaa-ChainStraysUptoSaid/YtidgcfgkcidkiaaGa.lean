/- A library of no program: abstract values, and a run along a path whose open points are answered by a list. -/
import Derived.Test.YtidgcfgkcidkiaaLibD
namespace Go.Proofs.Ytidgcfgkcidkiaa.X
open Go
set_option linter.unusedVariables false

/-- Abstract values. -/
inductive AV where
  | bool (b : Bool)
  | int (k : IntKind) (n : Int)
  | str (s : ByteArray)
  | nilp
  | ptr (id off : Nat)
  | ept (id sz i off : Nat)
  | lpt (sz : Nat) (xs : List AV) (i off : Nat)
  | nils
  | lst (sz : Nat) (xs : List AV)
  | row (id sz len : Nat)
  | rws (id sz off len : Nat)
  | mapn
  | map (id : Nat)
  | nilf
  | fn (f : FuncId) (caps : List AV)
  | agg (cs : List AV)
  | tup (vs : List AV)
  | dead

/-- What stands in memory. -/
inductive Obj where
  | hole
  | gone
  | vars (T : TypeId) (cs : List AV)
  | row (T sz : Nat) (xs : List AV)
  | frz (T sz : Nat) (xs : List AV)

abbrev Env := List (Nat × AV)
structure St where
  env : Env
  objs : List Obj
inductive Ex where
  | normal | ret
  | exit (id : Nat)

/-- Answers at the open points: t, f, k (keep), n: a bool, an int; ix: an index; el: an element; ls: a list; call: the things handed on, are the new rows frozen, are rows lent, the result, the things behind; fz: rows are frozen; lp: the slots and things that are kept, and what comes of a loop; go: a loop's round. -/
inductive Gd where
  | t | f | k
  | n (x : Int)
  | ix (i : Nat)
  | el (x : AV)
  | ls (xs : List AV)
  | call (p : List Nat) (fz bor : Bool) (v : AV) (objs : List Obj)
  | rd (p : List Nat) (v : AV)
  | tu (id : Nat) (xs : List AV) (v : AV)
  | fz (ids : List Nat)
  | fo (d : Nat) (ids : List Nat)
  | mk (t : Nat) (T : TypeId) (sz : Nat)
  | mkc (id k : Nat) (T : TypeId) (sz : Nat)
  | lp (keep p : List Nat) (x : Ex) (S : St)
  | go

def AV.cells : AV → List AV
  | .agg cs => cs
  | v => [v]
def AV.isAgg : AV → Bool
  | .agg _ => true
  | _ => false
/-- One cell that may be stored. -/
def AV.cell : AV → Bool
  | .agg _ | .tup _ | .dead | .ept .. | .lpt .. => false
  | _ => true
/-- One cell that may be a row's. -/
def AV.shar : AV → Bool
  | .bool _ | .int .. | .str _ | .nilp | .nils | .lst .. | .mapn | .nilf => true
  | _ => false
def allB {α : Type} (f : α → Bool) : List α → Bool
  | [] => true
  | x :: xs => match f x with | true => allB f xs | false => false

def look : Env → Nat → Option AV
  | [], _ => none
  | (k, v) :: r, t => match Nat.beq k t with | true => some v | false => look r t
def nth {α : Type} : List α → Nat → Option α
  | [], _ => none
  | x :: _, 0 => some x
  | _ :: xs, n + 1 => nth xs n
def getO : List Obj → Nat → Obj
  | [], _ => .hole
  | x :: _, 0 => x
  | _ :: xs, n + 1 => getO xs n

def cst1 : Value → Option AV
  | .bool b => some (.bool b)
  | .int k n => some (.int k n)
  | .string s => some (.str s)
  | .pointer none => some .nilp
  | .slice none 0 0 => some .nils
  | .map none => some .mapn
  | .nilFunc => some .nilf
  | _ => none
def cstL : List Value → Option (List AV)
  | [] => some []
  | v :: vs => match cst1 v with | some u => (match cstL vs with | some us => some (u :: us) | none => none) | none => none
def cst : Value → Option AV
  | .agg cs => match cstL cs.toList with | some us => some (.agg us) | none => none
  | v => cst1 v
def opv (e : Nat → Option AV) : Operand → Option AV
  | .tmp t => e t
  | .const v => cst v
  | .func f => some (.fn f [])
  | .global _ => none
def opvL (e : Nat → Option AV) : List Operand → Option (List AV)
  | [] => some []
  | x :: xs => match opv e x with | some v => (match opvL e xs with | some vs => some (v :: vs) | none => none) | none => none

/-- What comes of an answer. -/
abbrev Res (α : Type) := Option (α × List Prop × List Gd)

def num (k : IntKind) (raw : Int) : List Gd → Res AV
  | .n x :: g => some (.int k x, [raw = x], g)
  | .k :: g => some (.int k raw, [], g)
  | _ => none
def boo (raw : Bool) : List Gd → Res AV
  | .t :: g => some (.bool true, [raw = true], g)
  | .f :: g => some (.bool false, [raw = false], g)
  | .k :: g => some (.bool raw, [], g)
  | _ => none

def binInt (op : BinOp) (k : IntKind) (a b : Int) (g : List Gd) : Res AV :=
  match op with
  | .add => num k (k.wrap (a + b)) g
  | .sub => num k (k.wrap (a - b)) g
  | .mul => num k (k.wrap (a * b)) g
  | .quo => match num k (k.wrap (a.tdiv b)) g with | some (v, o, g) => some (v, (b ≠ 0) :: o, g) | none => none
  | .rem => match num k (a.tmod b) g with | some (v, o, g) => some (v, (b ≠ 0) :: o, g) | none => none
  | .and => num k (k.wrap (BitVec.ofInt k.bits a &&& BitVec.ofInt k.bits b).toNat) g
  | .or => num k (k.wrap (BitVec.ofInt k.bits a ||| BitVec.ofInt k.bits b).toNat) g
  | .xor => num k (k.wrap (BitVec.ofInt k.bits a ^^^ BitVec.ofInt k.bits b).toNat) g
  | .andNot => num k (k.wrap (BitVec.ofInt k.bits a &&& ~~~ BitVec.ofInt k.bits b).toNat) g
  | .eql => boo (a == b) g
  | .neq => boo (a != b) g
  | .lss => boo (decide (a < b)) g
  | .leq => boo (decide (a ≤ b)) g
  | .gtr => boo (decide (a > b)) g
  | .geq => boo (decide (a ≥ b)) g
  | _ => none

def eqKind (a b : IntKind) : Bool :=
  match a, b with
  | .i8, .i8 | .i16, .i16 | .i32, .i32 | .i64, .i64 | .u8, .u8 | .u16, .u16 | .u32, .u32 | .u64, .u64 => true
  | _, _ => false

def takeN {α : Type} : Nat → List α → Option (List α)
  | 0, _ => some []
  | n + 1, x :: xs => match takeN n xs with | some r => some (x :: r) | none => none
  | _ + 1, [] => none
def dropN {α : Type} : Nat → List α → List α
  | 0, l => l
  | _ + 1, [] => []
  | n + 1, _ :: l => dropN n l
def layN {α : Type} : List α → List α → Option (List α)
  | l, [] => some l
  | _ :: l, y :: ys => match layN l ys with | some r => some (y :: r) | none => none
  | [], _ :: _ => none
def setN {α : Type} : List α → Nat → List α → Option (List α)   -- laid over, all within
  | l, 0, ys => layN l ys
  | x :: l, n + 1, ys => match setN l n ys with | some r => some (x :: r) | none => none
  | [], _ + 1, _ => none
def lenB {α : Type} : List α → Nat → Bool
  | [], 0 => true
  | _ :: xs, n + 1 => lenB xs n
  | _, _ => false
def aggT (P : Program) (T : TypeId) : Option Bool :=
  match P.underlying T with
  | some (.struct _) | some (.array _ _) => some true
  | some _ => some false
  | none => none
/-- The value of type T at off of cells. -/
def partA (P : Program) (T : TypeId) (off : Nat) (cs : List AV) : Option AV :=
  match P.info? T, takeN (P.cellsOf T) (dropN off cs), aggT P T with
  | some _, some l, some true => some (.agg l)
  | some _, some [c], some false => some c
  | _, _, _ => none

def eqS (a b : String) : Bool := a == b
/-- Are two values one? -/
def eqF (rec : TypeId → AV → AV → Option Bool) (part : TypeId → Nat → Option (AV × AV)) : List Field → Option Bool
  | [] => some true
  | f :: r =>
    match eqS f.name "_", part f.type f.offset with
    | false, some (a, b) =>
      match rec f.type a b, eqF rec part r with
      | some p, some q => some (p && q)
      | _, _ => none
    | _, _ => none
def eqE (rec : TypeId → AV → AV → Option Bool) (part : TypeId → Nat → Option (AV × AV)) (el : TypeId) (n : Nat) : Nat → Nat → Option Bool
  | _, 0 => some true
  | i, k + 1 =>
    match part el (i * n) with
    | some (a, b) =>
      match rec el a b, eqE rec part el n (i + 1) k with
      | some p, some q => some (p && q)
      | _, _ => none
    | none => none
def part2 (P : Program) (xs ys : List AV) (T : TypeId) (off : Nat) : Option (AV × AV) :=
  match partA P T off xs, partA P T off ys with
  | some a, some b => some (a, b)
  | _, _ => none
def eqA (P : Program) : Nat → TypeId → AV → AV → Option Bool
  | 0, _, _, _ => none
  | d + 1, T, x, y =>
    match P.underlying T, x, y with
    | some .bool, .bool a, .bool b => some (a == b)
    | some (.int _), .int k a, .int k' b => match eqKind k k' with | true => some (a == b) | false => none
    | some (.struct fs), .agg xs, .agg ys => match P.stoodInHeld T with | false => eqF (eqA P d) (part2 P xs ys) fs.toList | true => none
    | some (.array len el), .agg xs, .agg ys => match P.info? el with | some _ => eqE (eqA P d) (part2 P xs ys) el (P.cellsOf el) 0 len | none => none
    | _, _, _ => none
def binA (P : Program) (op : BinOp) (T : TypeId) (x y : AV) (g : List Gd) : Res AV :=
  match x, y with
  | .int k a, .int k' b =>
    match op with
    | .shl => match num k (k.wrap (a * 2 ^ (min b.toNat k.bits))) g with | some (v, o, g) => some (v, (0 ≤ b) :: o, g) | none => none
    | .shr => match num k (a.fdiv (2 ^ (min b.toNat k.bits))) g with | some (v, o, g) => some (v, (0 ≤ b) :: o, g) | none => none
    | _ => match eqKind k k' with | true => binInt op k a b g | false => none
  | .bool a, .bool b =>
    match P.underlying T, op with
    | some .bool, .eql => boo (a == b) g
    | some .bool, .neq => boo (!(a == b)) g
    | _, _ => none
  | .str a, .str b =>
    match op with
    | .eql => boo (a.toList == b.toList) g
    | .neq => boo (!(a.toList == b.toList)) g
    | _ => none
  | .nilp, .nilp =>
    match P.underlying T, op with
    | some (.pointer _), .eql => some (.bool true, [], g)
    | some (.pointer _), .neq => some (.bool false, [], g)
    | _, _ => none
  | .ptr _ _, .nilp | .nilp, .ptr _ _ =>
    match P.underlying T, op with
    | some (.pointer _), .eql => some (.bool false, [], g)
    | some (.pointer _), .neq => some (.bool true, [], g)
    | _, _ => none
  | .agg xs, .agg ys =>
    match P.eqGuardType P.depth T, eqA P 10 T (.agg xs) (.agg ys), op with
    | false, some r, .eql => boo r g
    | false, some r, .neq => boo (!r) g
    | _, _, _ => none
  | _, _ => none

def fieldOf (P : Program) (T : TypeId) (i : Nat) : Option Field :=
  match P.underlying T with
  | some (.struct fs) => fs[i]?
  | _ => none
def movA (x : AV) (o : Nat) : Option AV :=
  match x with
  | .ptr id off => some (.ptr id (off + o))
  | .ept id sz i off => some (.ept id sz i (off + o))
  | .lpt sz xs i off => some (.lpt sz xs i (off + o))
  | _ => none

/-- An index: as a natural number. -/
def ixA (x : AV) : List Gd → Res Nat
  | .ix i :: g => match x with | .int _ n => some (i, [n = (i : Int)], g) | _ => none
  | _ => none

def indexA (P : Program) (T : TypeId) (x i : AV) (g : List Gd) : Res AV :=
  match ixA i g with
  | none => none
  | some (j, o, g) =>
    match P.underlying T, x with
    | some (.array len e), .ptr id off => match P.info? e with | some _ => some (.ptr id (off + j * P.cellsOf e), (j < len) :: o, g) | none => none
    | some (.array len e), .ept id sz i off => match P.info? e with | some _ => some (.ept id sz i (off + j * P.cellsOf e), (j < len) :: o, g) | none => none
    | some (.slice e), .row id sz len => match P.info? e, Nat.beq (P.cellsOf e) sz with | some _, true => some (.ept id sz j 0, (j < len) :: o, g) | _, _ => none
    | some (.slice e), .rws id sz off len => match P.info? e, Nat.beq (P.cellsOf e) sz with | some _, true => some (.ept id sz (off + j) 0, (j < len) :: o, g) | _, _ => none
    | some (.slice e), .lst sz xs => match P.info? e, Nat.beq (P.cellsOf e) sz with | some _, true => some (.lpt sz xs j 0, (j < xs.length) :: o, g) | _, _ => none
    | _, _ => none

def zerosA (P : Program) (T : TypeId) : Option (List AV) :=
  match P.info? T with
  | some i => match i.zero with | some v => cstL v.cells.toList | none => none
  | none => none
def zeroA (P : Program) (T : TypeId) : Option AV :=
  match P.info? T with
  | some i =>
    match i.zero with
    | some v => (match cst v with | some z => (match lenB z.cells i.size with | true => some z | false => none) | none => none)
    | none => none
  | none => none

def fillA (e : Nat → Option AV) (place : Nat → Option (Nat × Nat)) (cells : List AV) : List (Nat × Operand) → Option (List AV)
  | [] => some cells
  | (i, x) :: r =>
    match place i, opv e x with
    | some (off, size), some v =>
      match lenB v.cells size, allB AV.cell v.cells with
      | true, true => (match setN cells off v.cells with | some c => fillA e place c r | none => none)
      | _, _ => none
    | _, _ => none
def buildA (P : Program) (e : Nat → Option AV) (T : TypeId) (parts : List (Nat × Operand)) : Option (List AV) :=
  match P.info? T, P.underlying T with
  | some it, some (.array _ el) =>
    match it.zero, P.info? el with
    | some z, some ie => (match cstL z.cells.toList with | some zs => fillA e (fun i => some (i * ie.size, ie.size)) zs parts | none => none)
    | _, _ => none
  | some it, some (.struct fields) =>
    match it.zero, fields.toList.mapM (fun f => (P.info? f.type).map fun i => (f.offset, i.size)) with
    | some z, some places => (match cstL z.cells.toList with | some zs => fillA e (nth places) zs parts | none => none)
    | _, _ => none
  | _, _ => none

def boundA (e : Nat → Option AV) (d : Nat) : Option Operand → List Gd → Res Nat
  | none, g => some (d, [], g)
  | some x, g => match opv e x with | some v => ixA v g | none => none
def lsA (raw : List AV) : List Gd → Res (List AV)
  | .ls xs :: g => some (xs, [raw = xs], g)
  | .k :: g => some (raw, [], g)
  | _ => none
def sliceA (P : Program) (e : Nat → Option AV) (T : TypeId) (x : AV) (lo hi : Option Operand) (g : List Gd) : Res AV :=
  match P.underlying T with
  | some (.slice el) =>
    match P.info? el with
    | none => none
    | some _ =>
    match x with
    | .lst sz xs =>
      match boundA e xs.length hi g with
      | none => none
      | some (h, o1, g) =>
        match boundA e 0 lo g with
        | none => none
        | some (l, o2, g) =>
          match lsA ((xs.drop l).take (h - l)) g, Nat.beq (P.cellsOf el) sz with
          | some (ys, o3, g), true => some (.lst sz ys, (l ≤ h) :: (h ≤ xs.length) :: (o1 ++ o2 ++ o3), g)
          | _, _ => none
    | .row id sz n =>
      match boundA e n hi g with
      | none => none
      | some (h, o1, g) =>
        match boundA e 0 lo g, Nat.beq (P.cellsOf el) sz with
        | some (l, o2, g), true => some (.rws id sz l (h - l), (l ≤ h) :: (h ≤ n) :: (o1 ++ o2), g)
        | _, _ => none
    | .rws id sz off n =>
      match boundA e n hi g with
      | none => none
      | some (h, o1, g) =>
        match boundA e 0 lo g, Nat.beq (P.cellsOf el) sz with
        | some (l, o2, g), true => some (.rws id sz (off + l) (h - l), (l ≤ h) :: (h ≤ n) :: (o1 ++ o2), g)
        | _, _ => none
    | _ => none
  | _ => none

def lenA (P : Program) (T : TypeId) (x : AV) (g : List Gd) : Res AV :=
  match P.underlying T, x with
  | some (.slice _), .nils => some (.int .i64 0, [], g)
  | some (.slice _), .lst _ xs => num .i64 xs.length g
  | some (.slice _), .row _ _ n => num .i64 n g
  | some (.slice _), .rws _ _ _ n => num .i64 n g
  | some .string, .str s => num .i64 s.size g
  | some (.array n _), _ => some (.int .i64 n, [], g)
  | _, _ => none

/-- An operation that leaves memory alone. -/
def pureA (P : Program) (e : Nat → Option AV) (o : Oper) (g : List Gd) : Res AV :=
  match o.op with
  | .move x | .assign x => match opv e x with | some v => some (v, [], g) | none => none
  | .pick c a b =>
    match opv e c with
    | some (.bool true) => (match opv e a with | some v => some (v, [], g) | none => none)
    | some (.bool false) => (match opv e b with | some v => some (v, [], g) | none => none)
    | _ => none
  | .nilCheck x =>
    match opv e x with
    | some (.ptr id off) => some (.ptr id off, [], g)
    | some (.ept id sz i off) => some (.ept id sz i off, [], g)
    | some (.lpt sz xs i off) => some (.lpt sz xs i off, [], g)
    | some (.fn f c) => some (.fn f c, [], g)
    | _ => none
  | .binOp op T x y _ => match opv e x, opv e y with | some a, some b => binA P op T a b g | _, _ => none
  | .unOp .not _ x => match opv e x with | some (.bool b) => some (.bool (!b), [], g) | _ => none
  | .unOp .neg _ x => match opv e x with | some (.int k n) => num k (k.wrap (0 - n)) g | _ => none
  | .convert s d x =>
    match P.underlying s, P.underlying d, opv e x with
    | some _, some (.int k), some (.int _ n) => num k (k.wrap n) g
    | some _, some .string, some (.str s) => some (.str s, [], g)
    | _, _, _ => none
  | .fieldAddr T x i =>
    match fieldOf P T i, opv e x with
    | some f, some v =>
      match P.info? f.type, P.cellsOf f.type with
      | some _, _ + 1 => (match movA v f.offset with | some u => some (u, [], g) | none => none)
      | _, _ => none
    | _, _ => none
  | .field T x i =>
    match fieldOf P T i, opv e x with
    | some f, some (.agg cs) => (match partA P f.type f.offset cs with | some u => some (u, [], g) | none => none)
    | _, _ => none
  | .indexAddr T x i => match opv e x, opv e i with | some a, some b => indexA P T a b g | _, _ => none
  | .index T x i =>
    match opv e x, opv e i, P.underlying T with
    | some (.agg cs), some b, some (.array len el) =>
      match ixA b g with
      | some (j, ob, g) => (match partA P el (j * P.cellsOf el) cs with | some u => some (u, (j < len) :: ob, g) | none => none)
      | none => none
    | _, _, _ => none
  | .extract x i => match opv e x with | some (.tup vs) => (match nth vs i with | some v => some (v, [], g) | none => none) | _ => none
  | .slice T x lo hi none => match opv e x with | some v => sliceA P e T v lo hi g | none => none
  | .build T parts =>
    match buildA P e T parts.toList with
    | some cs => some (.agg cs, [], g)
    | none => none
  | .makeFunc (.func f) first caps =>
    match first.toList, opvL e caps.toList with
    | [], some vs => some (.fn f vs, [], g)
    | _, _ => none
  | .call { callee := .builtin .len, args, argTypes } =>
    match args.toList, argTypes.toList with
    | [x], T :: _ => (match opv e x with | some v => lenA P T v g | none => none)
    | _, _ => none
  | .call { callee := .builtin .min, args, argTypes } =>
    match opvL e args.toList with
    | some [.int k a, .int k' b] => num k (L.mn a b) g
    | _ => none
  | .call { callee := .builtin .max, args, argTypes } =>
    match opvL e args.toList with
    | some [.int k a, .int k' b] => num k (L.mx a b) g
    | _ => none
  | _ => none
end Go.Proofs.Ytidgcfgkcidkiaa.X
