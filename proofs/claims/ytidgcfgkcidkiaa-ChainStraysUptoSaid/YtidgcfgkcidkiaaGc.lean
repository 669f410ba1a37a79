/- A library of no program: the run: operations on memory, calls, regions, code. -/
import Derived.Test.YtidgcfgkcidkiaaGb
namespace Go.Proofs.Ytidgcfgkcidkiaa.X
open Go
set_option linter.unusedVariables false

/-- What an operation does: its result (none: it is left out), the things looked at, the things written, how many are new. -/
structure Eff where
  v : Option AV
  rd : List Nat
  wr : List (Nat × Obj)
  nf : Nat

def booV (v : AV) (g : List Gd) : Res AV := match v with | .bool b => boo b g | v => some (v, [], g)
def elA (xs : List AV) (i : Nat) : List Gd → Res AV
  | .el x :: g => some (x, [xs[i]? = some x], g)
  | _ => none
def loadA (P : Program) (e : Nat → Option AV) (get : Nat → Obj) (T : TypeId) (a : AV) (g : List Gd) : Res Eff :=
  match a with
  | .ptr id off =>
    match get id with
    | .vars _ cs =>
      match partA P T off cs with
      | some v => (match booV v g with | some (v, o, g) => some (⟨some v, [id], [], 0⟩, o, g) | none => none)
      | none => none
    | _ => none
  | .ept id sz i off =>
    match get id with
    | .row _ s xs | .frz _ s xs =>
      match elA xs i g, Nat.beq s sz with
      | some (x, o, g), true =>
        match partA P T off x.cells with
        | some v => (match booV v g with | some (v, o', g) => some (⟨some v, [id], [], 0⟩, o ++ o', g) | none => none)
        | none => none
      | _, _ => none
    | _ => none
  | .lpt sz xs i off =>
    match elA xs i g with
    | some (x, o, g) =>
      match partA P T off x.cells with
      | some v => (match booV v g with | some (v, o', g) => some (⟨some v, [], [], 0⟩, o ++ o', g) | none => none)
      | none => none
    | none => none
  | _ => none
def mkEl (x : AV) (cs : List AV) : Option AV :=
  match x, cs with
  | .agg _, cs => some (.agg cs)
  | _, [c] => match c.isAgg with | true => none | false => some c
  | _, _ => none
def storeA (P : Program) (get : Nat → Obj) (T : TypeId) (a v : AV) (g : List Gd) : Res Eff :=
  match P.info? T, lenB v.cells (P.cellsOf T) with
  | some _, true =>
    match a with
    | .ptr id off =>
      match get id, allB AV.cell v.cells with
      | .vars T' cs, true => (match setN cs off v.cells with | some cs' => some (⟨none, [id], [(id, .vars T' cs')], 0⟩, [], g) | none => none)
      | _, _ => none
    | .ept id s i off =>
      match get id, allB AV.shar v.cells with
      | .row T' sz xs, true =>
        match elA xs i g, Nat.beq s sz with
        | some (x, o, g), true =>
          match setN x.cells off v.cells with
          | some cs => (match mkEl x cs with | some x' => some (⟨none, [id], [(id, .row T' sz (xs.set i x'))], 0⟩, o, g) | none => none)
          | none => none
        | _, _ => none
      | _, _ => none
    | _ => none
  | _, _ => none
def elsA (P : Program) (e : Nat → Option AV) (sz : Nat) (xs : List AV) : List (Nat × Operand) → Option (List AV)
  | [] => some xs
  | (i, x) :: r =>
    match opv e x with
    | some v =>
      match lenB v.cells sz, allB AV.shar v.cells with
      | true, true => (match setN xs i [v] with | some c => elsA P e sz c r | none => none)
      | _, _ => none
    | none => none
/-- What is appended. -/
def srcA (get : Nat → Obj) (sz : Nat) : AV → Option (List AV × List Nat)
  | .nils => some ([], [])
  | .lst s ys => match Nat.beq s sz with | true => some (ys, []) | false => none
  | .row id _ n => match get id with | .row _ s ys | .frz _ s ys => (match Nat.beq s sz with | true => some (ys, [id]) | false => none) | _ => none
  | .rws id _ off n => match get id with | .row _ s ys | .frz _ s ys => (match Nat.beq s sz with | true => some ((ys.drop off).take n, [id]) | false => none) | _ => none
  | _ => none
def appendA (P : Program) (get : Nat → Obj) (base : Nat) (tS tX : TypeId) (s x : AV) (g : List Gd) : Res Eff :=
  match P.underlying tS, Nat.beq tS tX with
  | some (.slice el), true =>
    match P.info? el with
    | some i =>
      match srcA get i.size x, zeroA P el with
      | some (ys, rd), some _ =>
        match s with
        | .nils =>
          match i.size, lsA ys g with
          | _ + 1, some (zs, o, g) => some (⟨some (.row base i.size zs.length), rd, [(base, .row el i.size zs)], 1⟩, (ys.length * i.bytes ≤ 140737488355328) :: o, g)
          | _, _ => none
        | .row id _ n =>
          match get id with
          | .row T' sz xs =>
            match Nat.beq T' el, Nat.beq sz i.size, allB (fun r => !(Nat.beq r id)) rd, Nat.ble 1 i.bytes, lsA (xs ++ ys) g with
            | true, true, true, true, some (zs, o, g) => some (⟨some (.row base i.size zs.length), id :: rd, [(id, .gone), (base, .row el i.size zs)], 1⟩, ((xs.length + ys.length) * i.bytes ≤ 140737488355328) :: o, g)
            | _, _, _, _, _ => none
          | _ => none
        | _ => none
      | _, _ => none
    | none => none
  | _, _ => none

def idx : List Nat → Nat → Option Nat
  | [], _ => none
  | p :: ps, i => match Nat.beq p i with | true => some 0 | false => (match idx ps i with | some n => some (n + 1) | none => none)
/-- Seen with other numbers; what has none is a list, if it is frozen, or dead. -/
def ren0 (r : Nat → Option Nat) (get : Nat → Obj) : AV → AV
  | .ptr id off => match r id with | some j => .ptr j off | none => .dead
  | .row id s n => match r id with | some j => .row j s n | none => (match get id with | .frz _ sz xs => .lst sz xs | _ => .dead)
  | .rws id s off n => match r id with | some j => .rws j s off n | none => (match get id with | .frz _ sz xs => .lst sz ((xs.drop off).take n) | _ => .dead)
  | .agg _ | .tup _ | .fn _ _ | .ept .. | .lpt .. | .map _ => .dead
  | v => v
def ren (r : Nat → Option Nat) (get : Nat → Obj) : AV → AV
  | .agg cs => .agg (cs.map (ren0 r get))
  | .fn f cs => .fn f (cs.map (ren0 r get))
  | v => ren0 r get v
def renO (r : Nat → Option Nat) (get : Nat → Obj) : Obj → Obj
  | .vars T cs => .vars T (cs.map (ren0 r get))
  | o => o
/-- Rows that are lent. -/
def lent0 (p : List Nat) (get : Nat → Obj) : AV → List Nat
  | .row id _ _ | .rws id _ _ _ => match idx p id, get id with | none, .row .. => [id] | _, _ => []
  | _ => []
def lentL (p : List Nat) (get : Nat → Obj) : List AV → List Nat
  | [] => []
  | v :: vs => lent0 p get v ++ lentL p get vs
def lents (p : List Nat) (get : Nat → Obj) : List AV → List Nat
  | [] => []
  | .agg cs :: vs | .fn _ cs :: vs => lentL p get cs ++ lents p get vs
  | v :: vs => lent0 p get v ++ lents p get vs
/-- Rows that are named. -/
def hid0 : AV → List Nat
  | .row id _ _ | .rws id _ _ _ => [id]
  | _ => []
def hidL : List AV → List Nat
  | [] => []
  | v :: vs => hid0 v ++ hidL vs
def hids : List AV → List Nat
  | [] => []
  | .agg cs :: vs | .fn _ cs :: vs => hidL cs ++ hids vs
  | v :: vs => hid0 v ++ hids vs
def hidO (get : Nat → Obj) : List Nat → List Nat
  | [] => []
  | id :: ps => (match get id with | .vars _ cs => hidL cs | _ => []) ++ hidO get ps
def hasN (l : List Nat) (n : Nat) : Bool :=
  match l with
  | [] => false
  | x :: xs => match Nat.beq x n with | true => true | false => hasN xs n
/-- With some rows frozen. -/
def frzG (ids : List Nat) (get : Nat → Obj) (i : Nat) : Obj :=
  match get i, hasN ids i with
  | .row T sz xs, true => .frz T sz xs
  | o, _ => o
def flat0 : AV → Bool
  | .bool _ | .int .. | .str _ | .nilp | .nils | .mapn | .nilf => true
  | _ => false
def flatB : AV → Bool
  | .agg cs => allB flat0 cs
  | .tup vs => allB flat0 vs
  | v => flat0 v
/-- The number here of a callee's thing. -/
def outN (p : List Nat) (get : Nat → Obj) (base j : Nat) : Nat :=
  match nth p j with
  | some id => (match get id with | .vars .. => id | _ => base + j)
  | none => base + j
def outO (fz : Bool) (m j : Nat) (o : Obj) : Obj :=
  match o, fz, Nat.ble m j with
  | .row T sz xs, true, true => .frz T sz xs
  | o, _, _ => o
def mapO (r : AV → AV) : Obj → Obj
  | .vars T cs => .vars T (cs.map r)
  | o => o
/-- What a callee's things become. -/
def outW (p : List Nat) (get : Nat → Obj) (fz : Bool) (base m : Nat) (r : AV → AV) : Nat → List Obj → List (Nat × Obj)
  | _, [] => []
  | j, o :: os => (outN p get base j, mapO r (outO fz m j o)) :: outW p get fz base m r (j + 1) os
def fits (get : Nat → Obj) : List Nat → List Obj → Bool
  | [], _ => true
  | id :: ps, o :: os =>
    match get id, o with
    | .vars .., .vars .. => fits get ps os
    | .row .., _ => fits get ps os
    | _, _ => false
  | _ :: _, [] => false
def goneW (get : Nat → Obj) : List Nat → List (Nat × Obj)
  | [] => []
  | id :: ps => match get id with | .row .. => (id, .gone) :: goneW get ps | _ => goneW get ps
def nodupB : List Nat → Bool
  | [] => true
  | x :: xs => match hasN xs x with | true => false | false => nodupB xs
def callA (P : Program) (get : Nat → Obj) (base : Nat) (f : FuncId) (args : List AV) : List Gd → Res Eff
  | .call p fz bor v objs :: g =>
    let br := lents p get args
    let rd := p ++ hids args ++ hidO get p
    let get' := frzG br get
    let args' := args.map (ren (idx p) get')
    let sub := p.map fun id => renO (idx p) get' (get' id)
    match bor with
    | true =>
      match p, flatB v with
      | [], true => some (⟨some v, rd, [], 0⟩, [ACalls P f args' [] v objs], g)
      | _, _ => none
    | false =>
      match fits get p objs, nodupB p with
      | true, true =>
        let r := fun j => some (outN p get base j)
        let m := p.length
        let getC := fun j => match outO fz m j (getO objs j) with | .frz T sz xs => .frz T sz xs | _ => .hole
        let rr := fun j => match getC j with | .frz .. => none | _ => r j
        some (⟨some (match v with | .tup vs => .tup (vs.map (ren rr getC)) | v => ren rr getC v), rd,
          (br.map fun id => (id, get' id)) ++ goneW get p ++ outW p get fz base m (ren0 rr getC) 0 objs, objs.length⟩, [ACalls P f args' sub v objs], g)
      | _, _ => none
  | .rd p v :: g =>
    match lents p get args, nodupB p with
    | [], true => some (⟨some v, p ++ hids args ++ hidO get p, [], 0⟩, [AReads P f (args.map (ren (idx p) get)) (p.map fun id => renO (idx p) get (get id)) v], g)
    | _, _ => none
  | .tu id xs v :: g =>
    match lents [id] get args, get id with
    | [], .row T sz ys => some (⟨some v, id :: hids args, [(id, .row T sz xs)], 0⟩, [xs.length = ys.length, ATurn P f (args.map (ren (idx [id]) get)) T sz ys xs v], g)
    | _, _ => none
  | _ => none

def memA (P : Program) (e : Nat → Option AV) (get : Nat → Obj) (base : Nat) (o : Oper) (g : List Gd) : Res Eff :=
  match o.op with
  | .load T x => match opv e x with | some a => loadA P e get T a g | none => none
  | .store T x y => match opv e x, opv e y with | some a, some v => storeA P get T a v g | _, _ => none
  | .alloc T => match zerosA P T with | some cs => some (⟨some (.ptr base 0), [], [(base, .vars T cs)], 1⟩, [], g) | none => none
  | .box T x =>
    match opv e x with
    | some v => (match allB AV.cell v.cells with | true => some (⟨some (.ptr base 0), [], [(base, .vars T v.cells)], 1⟩, [], g) | false => none)
    | none => none
  | .buildSlice T len parts =>
    match P.underlying T with
    | some (.slice el) =>
      match P.info? el, zeroA P el with
      | some i, some z =>
        match i.size, Nat.ble (len * i.size) 16777216, elsA P e i.size (List.replicate len z) parts.toList with
        | _ + 1, true, some xs => some (⟨some (.row base i.size len), [], [(base, .row el i.size xs)], 1⟩, [], g)
        | _, _, _ => none
      | _, _ => none
    | _ => none
  | .makeSlice T l c =>
    match P.underlying T, opv e l, opv e c with
    | some (.slice el), some lv, some cv =>
      match P.info? el, zeroA P el, ixA lv g with
      | some i, some z, some (n, o1, g) =>
        match i.size, ixA cv g with
        | _ + 1, some (m, o2, g) => some (⟨some (.row base i.size n), [], [(base, .row el i.size (List.replicate n z))], 1⟩, (n ≤ m) :: (m ≤ 140737488355328) :: (m * i.bytes ≤ 140737488355328) :: (o1 ++ o2), g)
        | _, _ => none
      | _, _, _ => none
    | _, _, _ => none
  | .call { callee := .builtin .append, args, argTypes } =>
    match opvL e args.toList, argTypes.toList with
    | some [s, x], [tS, tX] => appendA P get base tS tX s x g
    | _, _ => none
  | .call { callee := .value f, args, argTypes } =>
    match opv e f, opvL e args.toList with
    | some (.fn f caps), some vs => callA P get base f (vs ++ caps) g
    | _, _ => none
  | _ => none

/-- One operation. -/
def opA (P : Program) (e : Nat → Option AV) (get : Nat → Obj) (base : Nat) (o : Oper) (g : List Gd) : Res Eff :=
  match pureA P e o g with
  | some (v, ob, g) => some (⟨some v, [], [], 0⟩, ob, g)
  | none => memA P e get base o g
/-- A frozen row is a list. -/
def conv0 (get : Nat → Obj) : AV → AV
  | .row id s n => match get id with | .frz _ sz xs => .lst sz xs | _ => .row id s n
  | .rws id s off n => match get id with | .frz _ sz xs => .lst sz ((xs.drop off).take n) | _ => .rws id s off n
  | v => v
def conv (get : Nat → Obj) : AV → AV
  | .agg cs => .agg (cs.map (conv0 get))
  | v => conv0 get v
def onlyG (ids : List Nat) (get : Nat → Obj) (i : Nat) : Obj := match hasN ids i with | true => get i | false => .hole
def convE (h : Nat → Obj) (e : Nat → Option AV) (t : Nat) : Option AV := match e t with | some v => some (conv h v) | none => none
/-- Rows are frozen ahead of an operation. -/
def opFo (P : Program) (e : Nat → Option AV) (get : Nat → Obj) (base : Nat) (o : Oper) (ids : List Nat) (g : List Gd) : Res Eff :=
  match opA P (convE (onlyG ids (frzG ids get)) e) (frzG ids get) base o g with
  | some (E, ob, g) => some (⟨E.v, ids ++ E.rd, (ids.map fun id => (id, frzG ids get id)) ++ E.wr, E.nf⟩, ob, g)
  | none => none
def eqDst : Option Nat → Nat → Bool
  | some d, k => Nat.beq d k
  | none, _ => false
/-- Rows may be frozen ahead of an operation: of the one whose slot is named. -/
def opF (P : Program) (e : Nat → Option AV) (get : Nat → Obj) (base : Nat) (o : Oper) (g : List Gd) : Res Eff :=
  match g with
  | .fo d ids :: g' =>
    match eqDst o.dst d with
    | true => opFo P e get base o ids g'
    | false => opA P e get base o g
  | _ => opA P e get base o g
/-- One operation of a region: is it wanted? -/
def stepA (P : Program) (ds : List (Option Nat)) (e : Nat → Option AV) (get : Nat → Obj) (base : Nat) (o : Oper) (g : List Gd) : Res Eff :=
  match o.guard with
  | none => opF P e get base o g
  | some (j, want) =>
    match nth ds j with
    | some (some t) =>
      match e t, want with
      | some (.bool true), true | some (.bool false), false => opF P e get base o g
      | some (.bool _), _ | some (.tup []), _ => some (⟨some (.tup []), [], [], 0⟩, [], g)
      | _, _ => none
    | _ => none

def killE : Env → Nat → Env
  | [], _ => []
  | (k, v) :: r, t => match Nat.beq k t with | true => killE r t | false => (k, v) :: killE r t
def putE (e : Env) : Option Nat → Option AV → Env
  | none, _ => e
  | some t, some v => (t, v) :: e
  | some t, none => killE e t
def setO : List Obj → Nat → Obj → List Obj
  | [], 0, o => [o]
  | [], n + 1, o => .hole :: setO [] n o
  | _ :: l, 0, o => o :: l
  | x :: l, n + 1, o => x :: setO l n o
def setsO (l : List Obj) : List (Nat × Obj) → List Obj
  | [] => l
  | (n, o) :: r => setsO (setO l n o) r

structure Rc where
  dst : Option Nat
  ss : List Nat
  rd : List Nat
  ws : List Nat
def slotsOf (ds : List (Option Nat)) (o : Oper) : List Nat :=
  o.op.operands.toList.filterMap (fun | .tmp t => some t | _ => none) ++
  match o.guard with
  | some (j, _) => (match nth ds j with | some (some t) => [t] | _ => [])
  | none => []
def rangeN (b : Nat) : Nat → List Nat
  | 0 => []
  | n + 1 => b :: rangeN (b + 1) n
def dstB (nt : Nat) : Option Nat → Bool
  | some d => Nat.blt d nt
  | none => true
def runOps (P : Program) (nt : Nat) (ds : List (Option Nat)) : List Oper → Env → List Obj → List Gd → Option (Env × List Obj × List Rc × List Prop × List Gd)
  | [], e, os, g => some (e, os, [], [], g)
  | o :: r, e, os, g =>
    match stepA P ds (look e) (getO os) os.length o g, dstB nt o.dst with
    | some (f, ob, g), true =>
      match runOps P nt ds r (putE e o.dst f.v) (setsO os f.wr) g with
      | some (e', os', rs, ob', g') => some (e', os', ⟨o.dst, slotsOf ds o, f.rd, rangeN os.length f.nf ++ f.wr.map (·.1)⟩ :: rs, ob ++ ob', g')
      | none => none
    | _, _ => none

def meets (a b : List Nat) : Bool :=
  match a with
  | [] => false
  | x :: xs => match hasN b x with | true => true | false => meets xs b
def hasO (l : List Nat) : Option Nat → Bool
  | some t => hasN l t
  | none => false
def eqO : Option Nat → Option Nat → Bool
  | some a, some b => Nat.beq a b
  | _, _ => false
def conf (r s : Rc) : Bool :=
  hasO s.ss r.dst || hasO r.ss s.dst || eqO r.dst s.dst || meets r.ws (s.rd ++ s.ws) || meets s.ws r.rd
def bindsB (e : Edge) : Bool := Region.binds .any e
/-- Of each operation, which ones come ahead of it: one bit each. -/
def maskOf (acc : List Nat) : List Edge → Nat
  | [] => 0
  | e :: es => match bindsB e, nth acc e.on with
    | true, some m => (2 ^ e.on ||| m) ||| maskOf acc es
    | _, _ => maskOf acc es
def masks : List Nat → List Oper → List Nat
  | acc, [] => acc
  | acc, o :: os => masks (acc ++ [maskOf acc o.after.toList]) os
/-- Whoever is in the way of operation i, ahead of it in the text, comes ahead of it in any order. -/
def okOne (r : Rc) (m : Nat) : Nat → List Rc → Bool
  | _, [] => true
  | j, s :: rs => match conf s r, m.testBit j with | true, false => false | _, _ => okOne r m (j + 1) rs
def edgesB (i : Nat) : List Edge → Bool
  | [] => true
  | e :: es => match bindsB e, Nat.blt e.on i with | true, false => false | _, _ => edgesB i es
def edgesAll : Nat → List Oper → Bool
  | _, [] => true
  | i, o :: os => match edgesB i o.after.toList with | true => edgesAll (i + 1) os | false => false
def okAll : List Rc → List Rc → List Nat → Bool
  | _, [], _ => true
  | ahead, r :: rs, m :: ms => match okOne r m 0 ahead with | true => okAll (ahead ++ [r]) rs ms | false => false
  | _, _ :: _, [] => false

def keepE (cr : List Nat) : Env → Env
  | [] => []
  | (k, v) :: r => match hasN cr k with | true => (k, v) :: keepE cr r | false => keepE cr r
def frzO (ids : List Nat) : Nat → List Obj → List Obj
  | _, [] => []
  | i, o :: os => (match o, hasN ids i with | .row T sz xs, true => .frz T sz xs | o, _ => o) :: frzO ids (i + 1) os
def convO (get : Nat → Obj) : Obj → Obj
  | .vars T cs => .vars T (cs.map (conv0 get))
  | o => o
def admS (ids : List Nat) (S : St) : St :=
  let os := frzO ids 0 S.objs
  ⟨S.env.map fun kv => (kv.1, conv (getO os) kv.2), os.map (convO (getO os))⟩
def runRegion (P : Program) (cr : List Nat) (nt : Nat) (ops : Array Oper) (draw : Bool) (S : St) (g : List Gd) : Res St :=
  match runOps P nt (ops.toList.map (·.dst)) ops.toList S.env S.objs g with
  | some (e, os, rs, ob, g) =>
    match draw with
    | false => some (⟨keepE cr e, os⟩, ob, g)
    | true => (match edgesAll 0 ops.toList, okAll [] rs (masks [] ops.toList) with | true, true => some (⟨keepE cr e, os⟩, ob, g) | _, _ => none)
  | none => none

/-- The first m things stay where they are. -/
def startsB : Nat → Nat → List Nat → Bool
  | _, 0, _ => true
  | i, m + 1, p :: ps => match Nat.beq p i with | true => startsB (i + 1) m ps | false => false
  | _, _ + 1, [] => false
def keepS (keep : List Nat) (f : AV → AV) (e : Env) : Env :=
  match keep with
  | [] => []
  | t :: ts => match look e t with | some v => (t, f v) :: keepS ts f e | none => keepS ts f e
def reS (keep p : List Nat) (S : St) : St :=
  ⟨keepS keep (ren (idx p) (getO S.objs)) S.env, p.map fun id => renO (idx p) (getO S.objs) (getO S.objs id)⟩

/-- A nil slice is seen as an empty row of one's own. -/
def mkS (t : Nat) (T : TypeId) (sz : Nat) (S : St) : Option St :=
  match look S.env t, sz with
  | some .nils, _ + 1 => some ⟨(t, .row S.objs.length sz 0) :: S.env, S.objs ++ [.row T sz []]⟩
  | _, _ => none
def mkcS (id k : Nat) (T : TypeId) (sz : Nat) (S : St) : Option St :=
  match getO S.objs id, sz with
  | .vars T' cs, _ + 1 =>
    match nth cs k, setN cs k [.row S.objs.length sz 0] with
    | some .nils, some cs' => some ⟨S.env, setO (S.objs ++ [.row T sz []]) id (.vars T' cs')⟩
    | _, _ => none
  | _, _ => none
def runC (P : Program) (cr : List Nat) (m0 nt : Nat) : Nat → Code → St → List Gd → Option (Ex × St × List Prop × List Gd)
  | 0, _, _, _ => none
  | n + 1, c, S, .fz ids :: g => runC P cr m0 nt n c (admS ids S) g
  | n + 1, .loop c, S, .mk t T sz :: g => match mkS t T sz S with | some S' => runC P cr m0 nt n (.loop c) S' g | none => none
  | n + 1, .loop c, S, .mkc id k T sz :: g => match mkcS id k T sz S with | some S' => runC P cr m0 nt n (.loop c) S' g | none => none
  | n + 1, .ret, S, .mk t T sz :: g => match mkS t T sz S with | some S' => runC P cr m0 nt n (.ret) S' g | none => none
  | n + 1, .ret, S, .mkc id k T sz :: g => match mkcS id k T sz S with | some S' => runC P cr m0 nt n (.ret) S' g | none => none
  | n + 1, .skip, S, g => some (.normal, S, [], g)
  | n + 1, .ret, S, g => some (.ret, S, [], g)
  | n + 1, .exit id, S, g => some (.exit id, S, [], g)
  | n + 1, .seq a b, S, g =>
    match runC P cr m0 nt n a S g with
    | some (.normal, S', ob, g) => (match runC P cr m0 nt n b S' g with | some (x, S', ob', g) => some (x, S', ob ++ ob', g) | none => none)
    | r => r
  | n + 1, .block id c, S, g =>
    match runC P cr m0 nt n c S g with
    | some (.exit i, S', ob, g) => (match Nat.beq i id with | true => some (.normal, S', ob, g) | false => some (.exit i, S', ob, g))
    | r => r
  | n + 1, .cond c a b, S, g =>
    match opv (look S.env) c with
    | some (.bool true) => runC P cr m0 nt n a S g
    | some (.bool false) => runC P cr m0 nt n b S g
    | _ => none
  | n + 1, .region _ ops draw, S, g => match runRegion P cr nt ops draw S g with | some (S', ob, g) => some (.normal, S', ob, g) | none => none
  | n + 1, .loop c, S, .lp keep p x S' :: g =>
    match startsB 0 m0 p, nodupB p with
    | true, true => some (x, S', [ALoop P m0 nt c (reS keep p S) x S'], g)
    | _, _ => none
  | n + 1, .loop c, S, .go :: g =>
    match runC P cr m0 nt n c S g with
    | some (.normal, S', ob, g) => (match runC P cr m0 nt n (.loop c) S' g with | some (x, S', ob', g) => some (x, S', ob ++ ob', g) | none => none)
    | r => r
  | _, _, _, _ => none
end Go.Proofs.Ytidgcfgkcidkiaa.X
