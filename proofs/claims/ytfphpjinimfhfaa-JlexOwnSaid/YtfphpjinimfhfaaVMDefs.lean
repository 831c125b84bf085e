import Derived.Orders
import Derived.Below
import Derived.Laws.Append
import Derived.KernelRfl
/-!
A machine of values for Go functions as the model has them: lists for slices that nobody writes over, named cells for what is written. 'code', 'callA' run a function's code in one order; VMSim shows that the model's runs agree in every order.
-/
namespace Go.Proofs.Ytfphpjinimfhfaa.VM

inductive Tip where
  | lost | full | tag (n : Nat)
  deriving DecidableEq, Inhabited

inductive AV where
  | undef
  | bool (b : Bool)
  | int (k : IntKind) (n : Int)
  | str (s : List UInt8)
  | nul
  | ptr (n off : Nat)
  | cptr (cs : List AV) (off : Nat)
  | nils
  | lst (xs : List AV) (t : Tip)
  | hnd (n off len size : Nat)
  | func (fn : Fn) (first captured : List AV)
  | nilFunc
  | iface (t : TypeId) (v : AV)
  | nilIface
  | agg (cs : List AV)
  | tuple (vs : List AV)
  | iter (n : Nat)
  deriving Inhabited

mutual
def AV.eqb : AV → AV → Bool
  | .undef, .undef => true
  | .bool a, .bool b => a == b
  | .int j a, .int k b => decide (j = k) && decide (a = b)
  | .str a, .str b => decide (a = b)
  | .nul, .nul => true
  | .ptr a b, .ptr c d => a == c && b == d
  | .cptr a b, .cptr c d => AV.eqbL a c && b == d
  | .nils, .nils => true
  | .lst a s, .lst b t => AV.eqbL a b && decide (s = t)
  | .hnd a b c d, .hnd e f g h => a == e && b == f && c == g && d == h
  | .func f a b, .func g c d => decide (f = g) && AV.eqbL a c && AV.eqbL b d
  | .nilFunc, .nilFunc => true
  | .iface t v, .iface u w => decide (t = u) && AV.eqb v w
  | .nilIface, .nilIface => true
  | .agg a, .agg b => AV.eqbL a b
  | .tuple a, .tuple b => AV.eqbL a b
  | .iter a, .iter b => a == b
  | _, _ => false
def AV.eqbL : List AV → List AV → Bool
  | [], [] => true
  | a :: l, b :: m => AV.eqb a b && AV.eqbL l m
  | _, _ => false
end

inductive Blk where
  | cells (cs : List AV)
  | tip (ty : TypeId)
  | iter (s : List UInt8) (pos : Nat)
  | raw (o : Obj)
  /-- A variable of a type, alone in its block, that was not written yet. -/
  | own (ty : TypeId) (cs : List AV)
  deriving Inhabited

structure St where
  next : Nat
  mem : Nat → Option Blk

def upd {α : Type} (f : Nat → α) (n : Nat) (v : α) : Nat → α := fun m => if m = n then v else f m

def St.set (S : St) (n : Nat) (b : Option Blk) : St := { S with mem := upd S.mem n b }
def St.new (S : St) (b : Blk) : St := { next := S.next + 1, mem := upd S.mem S.next (some b) }
def St.cells (S : St) (n : Nat) : Option (List AV) := match S.mem n with | some (.cells cs) => some cs | some (.own _ cs) => some cs | _ => none

inductive Res where
  | ret (v : AV)
  | panic (v : AV)
  deriving Inhabited

/-- What a function does with its callees' answers. -/
inductive Script where
  | done (r : Option (Res × St))
  | call (g : FuncId) (args : List AV) (S : St) (k : Res → St → Script)
def Script.run (cf : FuncId → List AV → St → Option (Res × St)) : Script → Option (Res × St)
  | .done r => r
  | .call g a S k => (cf g a S).bind fun r => (k r.1 r.2).run cf

structure Cfg where
  keep : FuncId → Bool
  ro : FuncId → Option Tmp → Bool
  hnd : FuncId → Bool
  intr : FuncId → Option (List AV → St → Option (AV × St))
  /-- What it answers is written no more. -/
  frz : FuncId → Bool := fun _ => false
  /-- Variables of which it is known that they are alone in their blocks. -/
  own : TypeId → Bool := fun _ => false
  /-- Functions that are told by what they do with their callees. -/
  hook : FuncId → Option (List AV → St → Script) := fun _ => none
  /-- Functions whose callees may panic (walked so). -/
  pan : FuncId → Bool := fun _ => false
  /-- What is handed to it is written no more. -/
  fza : FuncId → Bool := fun _ => false

/-- What the package-level variables hold, as addresses of what nobody writes. -/
class Glob where
  gl : Nat → AV
  okw : World → Prop

abbrev CF := FuncId → List AV → St → Option (Res × St)

def ofLeaf : Value → AV
  | .bool b => .bool b
  | .int k n => .int k n
  | .string s => .str s.data.toList
  | .pointer none => .nul
  | .slice none 0 0 => .nils
  | .nilFunc => .nilFunc
  | .nilIface => .nilIface
  | _ => .undef

def ofValue : Value → AV
  | .agg cs => .agg (cs.toList.map ofLeaf)
  | .tuple ⟨[]⟩ => .tuple []
  | v => ofLeaf v

def AV.cells : AV → List AV
  | .agg cs => cs
  | v => [v]

/-- May be stored into one cell. -/
def AV.leafOk : AV → Bool
  | .undef | .agg _ | .tuple _ => false
  | _ => true

def AV.known : AV → Bool
  | .undef => false
  | _ => true

/-- Nothing may be appended to it but by a copy. -/
def AV.shedLeaf : AV → AV
  | .lst xs _ => .lst xs .lost
  | v => v
def AV.shed : AV → AV
  | .agg cs => .agg (cs.map AV.shedLeaf)
  | v => v.shedLeaf
def AV.shed2 : AV → AV
  | .tuple vs => .tuple (vs.map AV.shed)
  | v => v.shed

section
variable (P : Program) (C : Cfg) (cf : CF) (f : FuncId)

def szA (t : TypeId) : Option Nat := (P.info? t).map (·.size)
def bytesA (t : TypeId) : Option Nat := (P.info? t).map (·.bytes)
def isAggA (t : TypeId) : Option Bool :=
  match P.underlying t with
  | some (.struct _) | some (.array _ _) => some true
  | some _ => some false
  | none => none
def zeroA (t : TypeId) : Option AV := ((P.info? t).bind (·.zero)).bind fun v => if (ofValue v).known then some (ofValue v) else none
/-- A slice type's element type. -/
def elemA (t : TypeId) : Option TypeId := match P.underlying t with | some (.slice e) => some e | _ => none

def partA (ag : Bool) (s : Nat) (cs : List AV) (off : Nat) : Option AV :=
  if ag then (if off + s ≤ cs.length then some (.agg ((cs.drop off).take s)) else none) else cs[off]?

def loadA (S : St) (t : TypeId) (addr : AV) : Option AV :=
  match szA P t, isAggA P t, addr with
  | some s, some ag, .ptr n off => (S.cells n).bind fun cs => partA ag s cs off
  | some s, some ag, .cptr cs off => partA ag s cs off
  | _, _, _ => none

def setsA : List AV → Nat → List AV → List AV
  | cs, _, [] => cs
  | cs, off, v :: vs => setsA (cs.set off v) (off + 1) vs

def storeA (S : St) (t : TypeId) (addr v : AV) : Option St :=
  match szA P t, addr with
  | some s, .ptr n off => (S.cells n).bind fun cs =>
      if v.cells.length = s ∧ v.cells.all AV.leafOk = true ∧ off + s ≤ cs.length then some (S.set n (some (.cells (setsA cs off v.cells)))) else none
  | _, _ => none

def fillA (place : Nat → Option (Nat × Nat)) (cells : List AV) : List (Nat × AV) → Option (List AV)
  | [] => some cells
  | (i, v) :: rest =>
    match place i with
    | none => none
    | some (off, size) => if v.known = true ∧ v.cells.length = size ∧ off + v.cells.length ≤ cells.length then fillA place (setsA cells off v.cells) rest else none

/-- Elements out of cells. -/
def chunk (ag : Bool) (s : Nat) : Nat → List AV → List AV
  | 0, _ => []
  | n + 1, cs => (if ag then .agg (cs.take s) else cs.headD .undef) :: chunk ag s n (cs.drop s)

def buildA (t : TypeId) (parts : List (Nat × AV)) : Option AV :=
  match zeroA P t, P.underlying t with
  | some z, some (.struct fields) =>
    ((fields.toList.mapM fun f => (szA P f.type).map fun s => (f.offset, s)).bind fun places =>
      fillA (places[·]?) z.cells parts).map .agg
  | some z, some (.array _ e) =>
    (szA P e).bind fun s => (fillA (fun i => some (i * s, s)) z.cells parts).map .agg
  | _, _ => none

def rep (z : List AV) : Nat → List AV
  | 0 => []
  | n + 1 => z ++ rep z n

/-- No struct or array. -/
def AV.plain : AV → Bool
  | .agg _ => false
  | _ => true
def chunkOk (ag : Bool) (s : Nat) (cs : List AV) : Bool := ag || (decide (s = 1) && cs.all AV.plain)

def buildSliceA (S : St) (t : TypeId) (len : Nat) (parts : List (Nat × AV)) : Option (AV × St) :=
  (elemA P t).bind fun e => (szA P e).bind fun s => (isAggA P e).bind fun ag => (zeroA P e).bind fun z =>
    if z.cells.length = s ∧ 0 < s ∧ len * s ≤ 2 ^ 24 then
      (fillA (fun i => some (i * s, s)) (rep z.cells len) parts).bind fun cs =>
        if C.hnd f then some (.hnd S.next 0 len s, S.new (.cells cs))
        else if chunkOk ag s cs = true then some (.lst ((chunk ag s len cs).map AV.shed) .full, S) else none
    else none

def makeSliceA (S : St) (t : TypeId) (len cap : AV) : Option (AV × St) :=
  match len, cap with
  | .int _ l, .int _ c =>
    (elemA P t).bind fun e => (szA P e).bind fun s => (bytesA P e).bind fun by_ => (zeroA P e).bind fun z =>
      if z.cells.length = s ∧ 0 < s ∧ 0 ≤ l ∧ l ≤ c ∧ c * by_ ≤ 140737488355328 ∧ c ≤ 140737488355328 then
        some (.hnd S.next 0 l.toNat s, S.new (.cells (rep z.cells l.toNat)))
      else none
  | _, _ => none

/-- The elements of a slice (or a string's bytes). -/
def elemsA (S : St) (ag : Bool) (s : Nat) : AV → Option (List AV)
  | .nils => some []
  | .lst xs _ => some xs
  | .hnd n off len s' => (S.cells n).bind fun cs => if s' = s ∧ off + len * s ≤ cs.length ∧ chunkOk ag s cs = true then some (chunk ag s len (cs.drop off)) else none
  | .str b => if s = 1 then some (b.map fun c => .int .u8 c.toNat) else none
  | _ => none

def flat (xs : List AV) : List AV := xs.flatMap AV.cells

/-- All elements have so many cells, and each may be stored. -/
def wellA (s : Nat) (xs : List AV) : Bool := xs.all fun x => decide (x.cells.length = s) && x.cells.all AV.leafOk

def freshA (S : St) (s : Nat) (xs : List AV) (e : TypeId) : AV × St :=
  if C.hnd f then (.hnd S.next 0 xs.length s, S.new (.cells (flat xs)))
  else (.lst xs (.tag S.next), S.new (.tip e))

def sizeOk (by_ n : Nat) : Bool := decide (n * by_ ≤ 140737488355328) && decide (n ≤ 140737488355328)

def appendB (S : St) (e : TypeId) (s : Nat) (ag : Bool) (by_ : Nat) (z x y : AV) : Option (AV × St) :=
  (elemsA S ag s y).bind fun ys0 =>
    if 0 < s ∧ z.cells.length = s ∧ wellA s (ys0.map AV.shed) = true then
      match x with
      | .nils => if (ys0.map AV.shed).length = 0 then some (.nils, S) else if sizeOk by_ (ys0.map AV.shed).length = true then some (freshA C f S s (ys0.map AV.shed) e) else none
      | .lst xs .full =>
        if (ys0.map AV.shed).length = 0 then some (.lst xs .full, S)
        else if sizeOk by_ (xs.length + (ys0.map AV.shed).length) = true ∧ wellA s xs = true then some (freshA C f S s (xs ++ ys0.map AV.shed) e) else none
      | .lst xs (.tag n) =>
        if (ys0.map AV.shed).length = 0 then some (.lst xs (.tag n), S)
        else if sizeOk by_ (xs.length + (ys0.map AV.shed).length) = true ∧ wellA s xs = true then
          match S.mem n with
          | some (.tip ty) => if ty = e then some (.lst (xs ++ ys0.map AV.shed) (.tag S.next), (S.set n none).new (.tip e)) else none
          | _ => none
        else none
      | .lst xs .lost => if (ys0.map AV.shed).length = 0 then some (.lst xs .lost, S) else none
      | .hnd n off len s' =>
        if (ys0.map AV.shed).length = 0 then some (.hnd n off len s', S)
        else (S.cells n).bind fun cs =>
          if s' = s ∧ sizeOk by_ (len + (ys0.map AV.shed).length) = true ∧ off + len * s ≤ cs.length ∧ (cs.all AV.leafOk) = true then
            some (.hnd S.next 0 (len + (ys0.map AV.shed).length) s, (S.set n none).new (.cells ((cs.drop off).take (len * s) ++ flat (ys0.map AV.shed))))
          else none
      | _ => none
    else none

/-- So many zeros behind none. -/
def zerosA (S : St) (s by_ : Nat) (z x y : AV) : Option (AV × St) :=
  match x, y with
  | .nils, .int _ n => if 0 < n ∧ 0 < s ∧ z.cells.length = s ∧ sizeOk by_ n.toNat = true ∧ C.hnd f = true then some (.hnd S.next 0 n.toNat s, S.new (.cells (rep z.cells n.toNat))) else none
  | _, _ => none

def appendA (S : St) (argTypes : List TypeId) (x y : AV) : Option (AV × St) :=
  match argTypes with
  | [t, u] =>
    (elemA P t).bind fun e => (szA P e).bind fun s => (isAggA P e).bind fun ag => (bytesA P e).bind fun by_ => (zeroA P e).bind fun z =>
      match P.underlying u with
      | some (.slice _) => appendB C f S e s ag by_ z x y
      | some .string => appendB C f S e s ag by_ z x y
      | some (.int _) => zerosA C f S s by_ z x y
      | _ => none
  | _ => none

def copyA (S : St) (argTypes : List TypeId) (x y : AV) : Option (AV × St) :=
  match argTypes with
  | [t, u] =>
    (elemA P t).bind fun e => (szA P e).bind fun s => (isAggA P e).bind fun ag =>
      (match P.underlying u with | some (.slice _) => some () | some .string => some () | _ => none).bind fun _ =>
      (elemsA S ag s y).bind fun ys =>
        if wellA s (ys.map AV.shed) = true then
          match x with
          | .nils => if ys.length = 0 then some (.int .i64 0, S) else none
          | .hnd n off len s' =>
            (S.cells n).bind fun cs =>
              if s' = s ∧ 0 < s ∧ ys.length ≤ len ∧ off + len * s ≤ cs.length then
                some (.int .i64 (ys.length : Nat), S.set n (some (.cells (setsA cs off (flat (ys.map AV.shed))))))
              else none
          | _ => none
        else none
  | _ => none

/-- One behind the other. -/
def mapS (g : AV → St → Option (AV × St)) : List AV → St → Option (List AV × St)
  | [], S => some ([], S)
  | x :: l, S => (g x S).bind fun r => (mapS g l r.2).map fun q => (r.1 :: q.1, q.2)
/-- Written arrays that are written no more are lists. -/
def frzA : Nat → AV → St → Option (AV × St)
  | 0, _, _ => none
  | k + 1, v, S => match v with
    | .agg cs => (mapS (frzA k) cs S).map fun r => (.agg r.1, r.2)
    | .tuple vs => (mapS (frzA k) vs S).map fun r => (.tuple r.1, r.2)
    | .hnd n off len s => match S.mem n with
      | some (.cells cs) => if off + len * s ≤ cs.length then
          (mapS (frzA k) ((cs.drop off).take (len * s)) (S.set n none)).bind fun r =>
            if chunkOk (s != 1) s r.1 = true then some (.lst (chunk (s != 1) s len r.1) .lost, r.2) else none
        else none
      | _ => none
    | v => some (v, S)

def lenA : AV → Option Nat
  | .str s => some s.length
  | .nils => some 0
  | .lst xs _ => some xs.length
  | .hnd _ _ len _ => some len
  | _ => none

/-- A bound of a cut. -/
def boundA (d : Nat) (top : Nat) : Option AV → Option Nat
  | none => some d
  | some (.int _ i) => if 0 ≤ i ∧ i ≤ top then some i.toNat else none
  | some _ => none

def headOk (s : Nat) : List AV → Bool
  | [] => true
  | x :: _ => decide (x.cells.length = s)

def sliceA (t : TypeId) (x : AV) (lo hi mx : Option AV) : Option AV :=
  match P.underlying t, x with
  | some .string, .str s =>
    if mx.isSome then none else
    (boundA s.length s.length hi).bind fun h => (boundA 0 h lo).bind fun l => some (.str ((s.take h).drop l))
  | some (.slice e), .nils => (szA P e).bind fun _ =>
    if mx.isSome = true ∧ hi.isNone = true then none else
    (boundA 0 0 mx).bind fun m => (boundA 0 m hi).bind fun h => (boundA 0 h lo).bind fun _ => some .nils
  | some (.slice e), .lst xs t => (szA P e).bind fun s => if headOk s xs = true then
    match mx with
    | none =>
      (boundA xs.length xs.length hi).bind fun h => (boundA 0 h lo).bind fun l =>
        some (.lst ((xs.take h).drop l) (if h = xs.length then (match t with | .tag n => if l < h then .tag n else .lost | t => t) else .lost))
    | some m =>
      if hi.isNone then none else
      (boundA 0 xs.length (some m)).bind fun m =>
        (boundA 0 m hi).bind fun h => (boundA 0 h lo).bind fun l => some (.lst ((xs.take h).drop l) (if h = m then .full else .lost))
    else none
  | some (.slice e), .hnd n off len s' =>
    if mx.isSome = true ∧ hi.isNone = true then none else
    (szA P e).bind fun s => (boundA len len mx).bind fun m => (boundA len m hi).bind fun h => (boundA 0 h lo).bind fun l =>
      if s' = s then (if mx.isSome = true ∧ m = l then some (.lst [] .full) else if l < h ∨ l = 0 then some (.hnd n (off + l * s) (h - l) s) else some (.lst [] .lost)) else none
  | _, _ => none

def indexAddrA (t : TypeId) (x i : AV) : Option AV :=
  match P.underlying t, i with
  | some (.slice e), .int _ i =>
    (szA P e).bind fun s =>
      match x with
      | .lst xs _ => if 0 ≤ i ∧ i < xs.length then (match xs[i.toNat]? with | some v => if v.cells.length = s then some (.cptr v.cells 0) else none | none => none) else none
      | .hnd n off len s' => if s' = s ∧ 0 ≤ i ∧ i < len then some (.ptr n (off + i.toNat * s)) else none
      | _ => none
  | some (.array len e), .int _ i =>
    (szA P e).bind fun s =>
      match x with
      | .ptr n off => if 0 ≤ i ∧ i < len then some (.ptr n (off + i.toNat * s)) else none
      | .cptr cs off => if 0 ≤ i ∧ i < len then some (.cptr cs (off + i.toNat * s)) else none
      | _ => none
  | _, _ => none

def indexA (t : TypeId) (x i : AV) : Option AV :=
  match P.underlying t, x, i with
  | some .string, .str s, .int _ i => if 0 ≤ i then (s[i.toNat]?).map fun b => .int .u8 b.toNat else none
  | some (.array len e), .agg cs, .int _ i =>
    (szA P e).bind fun s => (isAggA P e).bind fun ag => if 0 ≤ i ∧ i < len then partA ag s cs (i.toNat * s) else none
  | _, _, _ => none

def fieldsA (t : TypeId) (i : Nat) : Option Field := match P.underlying t with | some (.struct fs) => fs[i]? | _ => none

def fieldAddrA (t : TypeId) (x : AV) (i : Nat) : Option AV :=
  (fieldsA P t i).bind fun fd => (szA P fd.type).bind fun s => if s = 0 then none else
    match x with
    | .ptr n off => some (.ptr n (off + fd.offset))
    | .cptr cs off => some (.cptr cs (off + fd.offset))
    | _ => none

def fieldA (t : TypeId) (x : AV) (i : Nat) : Option AV :=
  (fieldsA P t i).bind fun fd =>
    match x with
    | .agg cs => (szA P fd.type).bind fun s => (isAggA P fd.type).bind fun ag => partA ag s cs fd.offset
    | _ => none

def intA (op : BinOp) (k : IntKind) (x y : Int) : Option AV :=
  match op with
  | .add => some (.int k (k.wrap (x + y)))
  | .sub => some (.int k (k.wrap (x - y)))
  | .mul => some (.int k (k.wrap (x * y)))
  | .quo => if y = 0 then none else some (.int k (k.wrap (x.tdiv y)))
  | .rem => if y = 0 then none else some (.int k (x.tmod y))
  | .and => some (.int k (k.wrap (BitVec.ofInt k.bits x &&& BitVec.ofInt k.bits y).toNat))
  | .or => some (.int k (k.wrap (BitVec.ofInt k.bits x ||| BitVec.ofInt k.bits y).toNat))
  | .xor => some (.int k (k.wrap (BitVec.ofInt k.bits x ^^^ BitVec.ofInt k.bits y).toNat))
  | .andNot => some (.int k (k.wrap (BitVec.ofInt k.bits x &&& ~~~ BitVec.ofInt k.bits y).toNat))
  | .eql => some (.bool (x == y))
  | .neq => some (.bool (x != y))
  | .lss => some (.bool (decide (x < y)))
  | .leq => some (.bool (decide (x ≤ y)))
  | .gtr => some (.bool (decide (x > y)))
  | .geq => some (.bool (decide (x ≥ y)))
  | _ => none

def strA (op : BinOp) (x y : List UInt8) : Option AV :=
  let eq := x == y
  let lt := Op.bytesLess x y
  match op with
  | .add => if x.length + y.length ≤ 140737488355328 then some (.str (x ++ y)) else none
  | .eql => some (.bool eq)
  | .neq => some (.bool !eq)
  | .lss => some (.bool lt)
  | .leq => some (.bool (lt || eq))
  | .gtr => some (.bool !(lt || eq))
  | .geq => some (.bool !lt)
  | _ => none

/-- Whether two values of one cell are equal. -/
def eqLeaf (d : Option TypeDesc) (x y : AV) : Option Bool :=
  match d, x, y with
  | some .bool, .bool a, .bool b => some (a == b)
  | some (.int _), .int j a, .int k b => if j = k then some (a == b) else none
  | some .string, .str a, .str b => some (a == b)
  | some (.pointer _), .nul, .nul => some true
  | some (.pointer _), .nul, .ptr _ _ | some (.pointer _), .ptr _ _, .nul => some false
  | some (.pointer _), .nul, .cptr _ _ | some (.pointer _), .cptr _ _, .nul => some false
  | some (.interface _), .nilIface, .nilIface => some true
  | some (.interface _), .nilIface, .iface _ _ | some (.interface _), .iface _ _, .nilIface => some false
  | some (.slice _), .nils, .nils => some true
  | some (.slice _), .nils, .lst _ _ | some (.slice _), .lst _ _, .nils => some false
  | some (.slice _), .nils, .hnd _ _ _ _ | some (.slice _), .hnd _ _ _ _, .nils => some false
  | some (.func _ _ _), .nilFunc, .nilFunc => some true
  | some (.func _ _ _), .nilFunc, .func _ _ _ | some (.func _ _ _), .func _ _ _, .nilFunc => some false
  | _, _, _ => none

def eqFields (cs ds : List AV) : List Field → Option Bool
  | [] => some true
  | fd :: fs =>
    if fd.name = "_" then none else
    match cs[fd.offset]?, ds[fd.offset]? with
    | some a, some b => (eqLeaf (P.underlying fd.type) a b).bind fun r => if r then eqFields cs ds fs else some false
    | _, _ => none

def eqA (t : TypeId) (x y : AV) : Option Bool :=
  match P.underlying t, x, y with
  | some (.struct fs), .agg a, .agg b =>
    if P.stoodInHeld t || P.eqGuardType P.depth t then none else eqFields P a b fs.toList
  | d, a, b => eqLeaf d a b

def binA (op : BinOp) (t : TypeId) (x y : AV) (xc yc : Bool) : Option AV :=
  match op, x, y with
  | .shl, .int k a, .int _ b => if b < 0 then none else some (.int k (k.wrap (a * 2 ^ min b.toNat k.bits)))
  | .shr, .int k a, .int _ b => if b < 0 then none else some (.int k (a.fdiv (2 ^ min b.toNat k.bits)))
  | op, .int k a, .int j b => if k = j then intA op k a b else none
  | op, .str a, .str b => strA op a b
  | .eql, .nilIface, .nilIface => (match P.underlying t with | some (.interface _) => if xc || yc then some (.bool true) else none | _ => none)
  | .neq, .nilIface, .nilIface => (match P.underlying t with | some (.interface _) => if xc || yc then some (.bool false) else none | _ => none)
  | .eql, x, y => (eqA P t x y).map .bool
  | .neq, x, y => (eqA P t x y).map fun b => .bool !b
  | _, _, _ => none

def unA (op : UnOp) (x : AV) : Option AV :=
  match op, x with
  | .neg, .int k n => some (.int k (k.wrap (0 - n)))
  | .xor, .int k n => intA .xor k (if k.signed then -1 else k.max) n
  | .not, .bool b => some (.bool !b)
  | _, _ => none

def bytesOfA : List AV → Option (List UInt8)
  | [] => some []
  | .int .u8 n :: l => (bytesOfA l).map (UInt8.ofNat n.toNat :: ·)
  | _ => none

def convertA (S : St) (src dst : TypeId) (x : AV) : Option AV :=
  match P.underlying src, P.underlying dst, x with
  | some (.int _), some (.int k), .int _ n => some (.int k (k.wrap n))
  | some (.int _), some .string, .int _ n => some (.str (Utf8.encode n).data.toList)
  | some .string, some .string, .str s => some (.str s)
  | some .string, some (.slice e), .str s =>
    match P.underlying e with
    | some (.int .u8) => some (.lst (s.map fun c => .int .u8 c.toNat) .lost)
    | _ => none
  | some (.slice e), some .string, x =>
    match P.underlying e, x with
    | some (.int .u8), .nils => some (.str [])
    | some (.int .u8), .lst xs _ => (bytesOfA xs).map .str
    | some (.int .u8), .hnd n off len s' => (S.cells n).bind fun cs => if s' = 1 ∧ off + len ≤ cs.length then (bytesOfA ((cs.drop off).take len)).map .str else none
    | _, _ => none
  | _, _, _ => none

/-- Constant bytes, converted: a list from now on. -/
def cnvA (S : St) (t : TypeId) (x : AV) : Option (AV × St) :=
  match P.underlying t, x with
  | some (.slice e), .hnd n off len s =>
    (match P.underlying e, S.mem n with
    | some (.int .u8), some (.cells cs) => if s = 1 ∧ off + len ≤ cs.length ∧ cs.all AV.plain = true then some (.lst ((cs.drop off).take len) .lost, S.set n none) else none
    | _, _ => none)
  | _, _ => none

def mnA : List AV → Option AV
  | [] => none
  | x :: rest => rest.foldlM (fun x y => match x, y with | .int k a, .int _ b => some (.int k (if b < a then b else a)) | _, _ => none) x
def mxA : List AV → Option AV
  | [] => none
  | x :: rest => rest.foldlM (fun x y => match x, y with | .int k a, .int _ b => some (.int k (if b > a then b else a)) | _, _ => none) x

def evA [Glob] (env : List AV) : Operand → AV
  | .tmp t => env.getD t .undef
  | .const v => ofValue v
  | .func g => .func (.func g) [] []
  | .global g => Glob.gl g

def nextA (S : St) (x : AV) : Option (AV × St) :=
  match x with
  | .iter n =>
    match S.mem n with
    | some (.iter s pos) =>
      if pos < s.length then
        let r := Utf8.decode ⟨s.toArray⟩ pos
        some (.tuple [.bool true, .int .i64 pos, .int .i32 r.1], S.set n (some (.iter s (pos + r.2))))
      else some (.tuple [.bool false], S)
    | _ => none
  | _ => none

def retA (r : AV × St) : Option (Res × St) := some (.ret r.1, r.2)

def isConstA : Operand → Bool
  | .const _ => true
  | _ => false

def builtinA (b : Builtin) (tys : Array TypeId) (args : List AV) (S : St) : Option (Res × St) :=
  match b, args with
  | .len, [x] => (tys[0]?).bind fun t => (match P.underlying t, x with
    | some .string, .str s => retA (.int .i64 s.length, S)
    | some (.slice _), .str _ => none
    | some (.slice _), x => (lenA x).bind fun n => retA (.int .i64 n, S)
    | _, _ => none)
  | .cap, [x] => (tys[0]?).bind fun t => (match P.underlying t, x with
    | some (.slice _), .nils => retA (.int .i64 0, S)
    | some (.slice _), .lst xs .full => retA (.int .i64 xs.length, S)
    | _, _ => none)
  | .append, [x, y] => (appendA P C f S tys.toList x y).bind retA
  | .copy, [x, y] => (copyA P S tys.toList x y).bind retA
  | .min, args => (mnA args).bind fun v => retA (v, S)
  | .max, args => (mxA args).bind fun v => retA (v, S)
  | _, _ => none

def callOpA [Glob] (env : List AV) (S : St) (c : Call) : Option (Res × St) :=
  match c.callee with
  | .builtin b => builtinA P C f b c.argTypes (c.args.toList.map (evA env)) S
  | .invoke _ _ => none
  | .value g => (match evA env g with
    | .func (.func g) first captured => cf g (first ++ c.args.toList.map (evA env) ++ captured) S
    | _ => none)

def opA [Glob] (env : List AV) (S : St) (o : Oper) : Option (Res × St) :=
  match o.op with
  | .move x | .assign x => retA (evA env x, S)
  | .pick c a b => match evA env c with | .bool b' => retA (if b' then evA env a else evA env b, S) | _ => none
  | .alloc t => (zeroA P t).bind fun z => retA (.ptr S.next 0, S.new (if C.own t = true then .own t z.cells else .cells z.cells))
  | .box _ x => match evA env x with
    | .undef => none
    | .tuple _ => none
    | v => if C.ro f o.dst = true then retA (.cptr v.cells 0, S) else retA (.ptr S.next 0, S.new (.cells v.cells))
  | .build t parts => (buildA P t (parts.toList.map fun p => (p.1, evA env p.2))).bind fun v => retA (v, S)
  | .buildSlice t len parts => (buildSliceA P C f S t len (parts.toList.map fun p => (p.1, evA env p.2))).bind retA
  | .load t a => (loadA P S t (evA env a)).bind fun v => retA (v, S)
  | .store t a x => (storeA P S t (evA env a) (evA env x)).bind fun S' => retA (.tuple [], S')
  | .nilCheck x => match evA env x with
    | .ptr n off => retA (.ptr n off, S)
    | .cptr cs off => retA (.cptr cs off, S)
    | .func (.func g) a b => retA (.func (.func g) a b, S)
    | _ => none
  | .binOp op t x y _ => (binA P op t (evA env x) (evA env y) (isConstA x) (isConstA y)).bind fun v => retA (v, S)
  | .unOp op _ x => (unA op (evA env x)).bind fun v => retA (v, S)
  | .convert s d x => match (if s = d then cnvA P S s (evA env x) else none) with
    | some r => retA r
    | none => (convertA P S s d (evA env x)).bind fun v => retA (v, S)
  | .makeInterface t x => match P.underlying t, evA env x with
    | some (.interface _), _ => none
    | some _, v => retA (.iface t v, S)
    | none, _ => none
  | .makeFunc fn a b => retA (.func fn (a.toList.map (evA env)) (b.toList.map (evA env)), S)
  | .makeSlice t l c => (makeSliceA P S t (evA env l) (evA env c)).bind retA
  | .slice t x lo hi mx => (sliceA P t (evA env x) (lo.map (evA env)) (hi.map (evA env)) (mx.map (evA env))).bind fun v => retA (v, S)
  | .fieldAddr t x i => (fieldAddrA P t (evA env x) i).bind fun v => retA (v, S)
  | .field t x i => (fieldA P t (evA env x) i).bind fun v => retA (v, S)
  | .indexAddr t x i => (indexAddrA P t (evA env x) (evA env i)).bind fun v => retA (v, S)
  | .index t x i => (indexA P t (evA env x) (evA env i)).bind fun v => retA (v, S)
  | .range t x => match P.underlying t, evA env x with
    | some .string, .str s => retA (.iter S.next, S.new (.iter s 0))
    | _, _ => none
  | .next it true => (nextA S (evA env it)).bind retA
  | .extract t i => match evA env t with | .tuple vs => (vs[i]?).bind fun v => retA (v, S) | _ => none
  | .call c => callOpA P C cf f env S c
  | .panic x => match evA env x with | .iface t v => some (.panic (.iface t v), S) | _ => none
  | _ => none

/-- Whether an operation is wanted; none: it can't be told. -/
def wantedA (ops : Array Oper) (env : List AV) (o : Oper) : Option Bool :=
  match o.guard with
  | none => some true
  | some (j, want) =>
    match ops[j]? with
    | some q => match q.dst with
      | some d => match env[d]? with
        | some (.bool b) => some (b == want)
        | some (.tuple []) => some false
        | _ => none
      | none => none
    | none => none

def putA (env : List AV) (d : Option Tmp) (v : AV) : List AV := match d with | some d => env.set d v | none => env

inductive Out where
  | normal
  | exit (id : Nat)
  | ret
  | panic (v : AV)
  deriving Inhabited

/-- Operations in an order; 'stab i': those whose values must be the same again behind operation i. -/
def opsA [Glob] (ops : Array Oper) (stab : Nat → List Nat) (pan : Nat → Nat → Bool) : List Nat → List AV → St → Option (Out × List AV × St)
  | [], env, S => some (.normal, env, S)
  | i :: rest, env, S =>
    match ops[i]? with
    | none => none
    | some o =>
      (wantedA ops env o).bind fun w =>
        if w then
          (opA P C cf f env S o).bind fun r =>
            match r.1 with
            | .ret v =>
              if (stab i).all (fun j => match ops[j]? with
                  | some q => (match wantedA ops env q, q.dst with
                    | some false, _ => true
                    | some true, some d => (match opA P C cf f env r.2 q, env[d]? with
                      | some (.ret u, _), some u' => AV.eqb u u'
                      | _, _ => false)
                    | _, _ => false)
                  | none => false) = true
              then opsA ops stab pan rest (putA env o.dst v) r.2 else none
            | .panic v => if rest.all (pan i) = true then some (.panic v, env, r.2) else none
        else opsA ops stab pan rest (putA env o.dst (.tuple [])) S

/-! ### regions that draw their order -/
def isEff : Op → Bool
  | .store .. | .next .. | .panic _ => true
  | .call { callee := .builtin b, .. } => (match b with | .len | .min | .max => false | _ => true)
  | .call _ => true
  | _ => false
def isNew : Op → Bool
  | .alloc _ | .box .. | .buildSlice .. | .makeSlice .. | .range .. => true
  | _ => false
def isRead : Op → Bool
  | .load .. => true
  | .convert s d _ => s != d
  | _ => false
/-- Every other operation that is taken here looks at its operands alone. -/
def isPure : Op → Bool
  | .move _ | .assign _ | .pick .. | .build .. | .nilCheck _ | .binOp .. | .unOp .. | .makeInterface .. | .makeFunc .. | .slice .. | .fieldAddr .. | .field .. | .indexAddr .. | .index .. | .extract .. => true
  | .call { callee := .builtin b, .. } => (match b with | .len | .min | .max => true | _ => false)
  | _ => false
def opAt (ops : Array Oper) (p : Op → Bool) (i : Nat) : Bool := match ops[i]? with | some o => p o.op | none => false
def anc (ops : Array Oper) (i j : Nat) : Bool := ((Region.before ops).getD j 0).testBit i
def loose (ops : Array Oper) (i j : Nat) : Bool := i != j && !anc ops i j && !anc ops j i
def canon (ops : Array Oper) : List Nat :=
  let n := List.range ops.size
  let acc := (n.filter (opAt ops isEff)).foldl (fun acc e =>
    let rs := n.filter fun r => opAt ops isRead r && loose ops r e
    acc ++ (n.filter fun j => j != e && !acc.contains j && (anc ops j e || rs.contains j || rs.any fun r => anc ops j r)) ++ [e]) []
  acc ++ n.filter fun j => !acc.contains j
def stabOf (ops : Array Oper) (i : Nat) : List Nat :=
  if opAt ops isEff i then (List.range ops.size).filter fun r => opAt ops isRead r && loose ops r i else []
def regOk (ops : Array Oper) : Bool :=
  let n := List.range ops.size
  let l := canon ops
  decide (l.length = ops.size) && l.Nodup && n.all (fun i => l.contains i) && l.all (fun i => decide (i < ops.size)) &&
  n.all (fun i => opAt ops isEff i || opAt ops isNew i || opAt ops isRead i || opAt ops isPure i) &&
  -- in the order of the edges
  n.all (fun j => n.all fun i => !anc ops i j || l.idxOf i < l.idxOf j) &&
  -- what writes is in one order; what makes is ahead of it only where it must
  n.all (fun e => !opAt ops isEff e || n.all fun j =>
    (!opAt ops isEff j || j == e || anc ops j e || anc ops e j) && (!opAt ops isNew j || l.idxOf e < l.idxOf j || anc ops j e) && (!(opAt ops isRead j && loose ops j e) || l.idxOf j < l.idxOf e)) &&
  -- the temporaries
  n.all (fun i => n.all fun j => !loose ops i j || (match ops[i]?, ops[j]? with | some x, some y => x.apart ops y | _, _ => false)) &&
  (ops.toList.filterMap (·.dst)).Nodup &&
  n.all (fun i => match ops[i]? with | some o => o.after.toList.all fun e => !Region.binds .any e || decide (e.on < ops.size) | none => true) &&
  -- what is read over again must look at the same
  n.all (fun i => n.all fun e => !(opAt ops isRead i && opAt ops isEff e && loose ops i e) || n.all fun j => anc ops j i ||
    (match ops[i]?, ops[j]? with | some x, some y => (match y.dst with | some d => !(x.looksAt ops).contains d | none => true) | _, _ => false))

def loopN {α : Type} (body : List AV → St → Option (Out × α)) (go : α → List AV × St) : Nat → List AV → St → Option (Out × α)
  | 0, _, _ => none
  | k + 1, e, S => (body e S).bind fun r =>
    match r.1 with
    | .normal => loopN body go k (go r.2).1 (go r.2).2
    | _ => some r

def codeA [Glob] (k : Nat) : Code → List AV → St → Option (Out × List AV × St)
  | .skip, e, S => some (.normal, e, S)
  | .label _, e, S => some (.normal, e, S)
  | .region _ ops draw, e, S =>
    if draw then (if regOk ops then opsA P C cf f ops (stabOf ops) (anc ops) (canon ops) e S else none)
    else opsA P C cf f ops (fun _ => []) (fun _ _ => true) (List.range ops.size) e S
  | .seq a b, e, S => (codeA k a e S).bind fun r => match r.1 with | .normal => codeA k b r.2.1 r.2.2 | _ => some r
  | .cond c a b, e, S => match evA e c with | .bool true => codeA k a e S | .bool false => codeA k b e S | _ => none
  | .block id b, e, S => (codeA k b e S).map fun r => match r.1 with | .exit j => if j = id then (.normal, r.2) else r | _ => r
  | .loop b, e, S => loopN (codeA k b) id k e S
  | .exit id, e, S => some (.exit id, e, S)
  | .ret, e, S => some (.ret, e, S)
  | _, _, _ => none

def resultA (env : List AV) (S : St) : ResultVar → Option AV
  | .tmp t => env[t]?
  | .cell a t => loadA P S t (env.getD a .undef)
def resultsA (fn : Func) (env : List AV) (S : St) : Option AV :=
  (fn.results.toList.mapM (resultA P env S)).map fun l => match l with | [v] => v | vs => .tuple vs
end

/-- What a call hands on of what its body answered. -/
def postA (C : Cfg) (f : FuncId) (v : AV) (S : St) : Option (AV × St) :=
  if C.frz f = true then (frzA (S.next + 4) v S).map fun r => (r.1.shed2, r.2) else some (if C.keep f then v else v.shed2, S)

/-- What a call takes over. -/
def preA (C : Cfg) (f : FuncId) (args : List AV) (S : St) : Option (List AV × St) := if C.fza f = true then mapS (frzA (S.next + 4)) args S else some (args, S)
def callA [Glob] (P : Program) (C : Cfg) : Nat → CF
  | 0, _, _, _ => none
  | k + 1, f, args, S =>
    match C.intr f with
    | some g => (g args S).bind fun r => some (.ret r.1, r.2)
    | none =>
      match C.hook f with
      | some H => (H args S).run (callA P C k)
      | none =>
      (preA C f args S).bind fun p =>
      match P.funcs[f]? with
      | none => none
      | some fn =>
        match fn.body with
        | none => none
        | some c =>
          if fn.name = "runtime.NumGoroutine" then none else
          (codeA P C (callA P C k) f k c (p.1 ++ List.replicate (fn.ntmps - p.1.length) (.tuple [])) p.2).bind fun r =>
            match r.1 with
            | .normal | .ret => (resultsA P fn r.2.1 r.2.2).bind fun v => (postA C f v r.2.2).map fun u => (.ret u.1, u.2)
            | .panic v => some (.panic v, r.2.2)
            | _ => none
end Go.Proofs.Ytfphpjinimfhfaa.VM
