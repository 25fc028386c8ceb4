/- THE WALK BY RECKONING, 1: an interpreter over named blocks, for closed calls of any program of the model. What it reckons is shown in the texts behind it. No condition. -/
import Derived.WalkKit
import Derived.OrdersHeld
namespace Go.Proofs.YtlpjmjielpdhiaaGreatDoor
namespace Ex
open Go

/-- Where a named block lies: its number, where in it, and how many elements a slice from there may hold. -/
structure Nm where
  blk : Nat
  off : Nat
  kap : Nat

inductive Cap where
  | ex (c : Nat)
  | room (i : Nat)

def Cap.den (k : Nat) : Cap → Nat
  | .ex c => c
  | .room i => k - i

/-- A value over names; 'nil' and 'cons' make lists of values. -/
inductive AV where
  | prim (v : Value)
  | str (s : List UInt8)
  | ptr (n off : Nat)
  | sl (n off len : Nat) (c : Cap)
  | mp (n : Nat)
  | ifc (t : Nat) (v : AV)
  | agg (cs : AV)
  | tup (cs : AV)
  | fn (f : Nat) (first captured : AV)
  | nil
  | cons (h t : AV)

/-- the values that may stand as they are: no names in them, no cells -/
def pr : Value → Bool
  | .agg _ | .tuple _ | .string _ => false
  | _ => true

def den (r : Nat → Option Nm) : AV → Option (List Value)
  | .prim v => bif pr v then some [v] else none
  | .str s => some [.string ⟨s.toArray⟩]
  | .ptr n off => match r n with
    | some a => some [.pointer (some ⟨a.blk, a.off + off, none⟩)]
    | none => none
  | .sl n off len c => match r n with
    | some a => some [.slice (some ⟨a.blk, a.off + off, none⟩) len (c.den a.kap)]
    | none => none
  | .mp n => match r n with
    | some a => some [.map (some a.blk)]
    | none => none
  | .ifc t v => match den r v with
    | some [x] => some [.iface t x]
    | _ => none
  | .agg cs => match den r cs with
    | some l => some [.agg l.toArray]
    | none => none
  | .tup cs => match den r cs with
    | some l => some [.tuple l.toArray]
    | none => none
  | .fn f a b => match den r a, den r b with
    | some x, some y => some [.func (.func f) x.toArray y.toArray]
    | _, _ => none
  | .nil => some []
  | .cons h t => match den r h, den r t with
    | some [x], some l => some (x :: l)
    | _, _ => none

namespace AV
def nth : AV → Nat → Option AV
  | .cons h t, n => match n with
    | 0 => some h
    | n + 1 => t.nth n
  | _, _ => none
def drop : AV → Nat → Option AV
  | c, 0 => some c
  | .cons _ t, n + 1 => t.drop n
  | _, _ + 1 => none
def take : AV → Nat → Option AV
  | _, 0 => some .nil
  | .cons h t, n + 1 => match t.take n with
    | some l => some (.cons h l)
    | none => none
  | _, _ + 1 => none
def app : AV → AV → Option AV
  | .cons h t, b => match t.app b with
    | some l => some (.cons h l)
    | none => none
  | .nil, b => some b
  | _, _ => none
def over : AV → Nat → AV → Option AV
  | c, _, .nil => some c
  | .cons h t, off, .cons x xs => match off with
    | 0 => match t.over 0 xs with
      | some l => some (.cons x l)
      | none => none
    | n + 1 => match t.over n (.cons x xs) with
      | some l => some (.cons h l)
      | none => none
  | _, _, _ => none
def isLen : AV → Nat → Bool
  | .nil, 0 => true
  | .cons _ t, n + 1 => t.isLen n
  | _, _ => false
def len : AV → Nat
  | .cons _ t => t.len + 1
  | _ => 0
def one : AV → Bool
  | .agg _ | .tup _ | .nil | .cons _ _ => false
  | _ => true
def allOne : AV → Bool
  | .nil => true
  | .cons h t => h.one && t.allOne
  | _ => false
def cells : AV → AV
  | .agg cs => cs
  | .nil => .prim .nilFunc
  | .cons _ _ => .prim .nilFunc
  | v => .cons v .nil
def rep (z : AV) : Nat → Option AV
  | 0 => some .nil
  | n + 1 => match z.rep n with
    | some l => z.app l
    | none => none
end AV

def undefA : AV := .tup .nil
def ofS : Value → Option AV
  | .string s => some (.str s.data.toList)
  | v => bif pr v then some (.prim v) else none
def ofL : List Value → Option AV
  | [] => some .nil
  | v :: l => match ofS v, ofL l with
    | some a, some r => some (.cons a r)
    | _, _ => none
def ofV : Value → Option AV
  | .agg cs => match ofL cs.toList with
    | some l => some (.agg l)
    | none => none
  | v => ofS v

/-- A tree by number. -/
inductive Tr (α : Type) where
  | leaf
  | node (v : Option α) (l r : Tr α)
namespace Tr
variable {α : Type}
def mk : Nat → Tr α
  | 0 => .leaf
  | d + 1 => .node none (mk d) (mk d)
def get : Tr α → Nat → Option α
  | .leaf, _ => none
  | .node v l r, n => match n with
    | 0 => v
    | m + 1 => bif Nat.beq (Nat.mod m 2) 0 then l.get (Nat.div m 2) else r.get (Nat.div m 2)
def set : Tr α → Nat → Option α → Tr α
  | .leaf, _, _ => .leaf
  | .node v l r, n, x => match n with
    | 0 => .node x l r
    | m + 1 => bif Nat.beq (Nat.mod m 2) 0 then .node v (l.set (Nat.div m 2) x) r else .node v l (r.set (Nat.div m 2) x)
end Tr

inductive Blk where
  /-- a row of cells from the name's place on: element type, cells of an element, what lies there, how many elements at least a slice from there may hold, and whether that is all of the block -/
  | cells (e z : Nat) (cs : AV) (lo : Nat) (whole : Bool)
  | map (es : List (AV × AV × Nat)) (clock : Nat)
  | iter (s : List UInt8) (pos : Nat)

/-- what an operation gives: a value, the blocks, and whether a new name was used; or a call -/
inductive OpR where
  | val (v : AV) (s : Tr Blk) (used : Bool)
  | enter (f : Nat) (args : AV)

/-! the types -/
section
variable (P : Program)
def szO (t : TypeId) : Option Nat := match P.info? t with
  | some i => some i.size
  | none => none
def bytesO (t : TypeId) : Option Nat := match P.info? t with
  | some i => some i.bytes
  | none => none
def zrO (t : TypeId) : Option AV := match P.info? t with
  | some i => match i.zero with
    | some v => ofV v
    | none => none
  | none => none
def isAg (t : TypeId) : Option Bool := match P.underlying t with
  | some (.struct _) => some true
  | some (.array _ _) => some true
  | some _ => some false
  | none => none
end

def rd (s : Tr Blk) (n off : Nat) : Option AV := match s.get n with
  | some (.cells _ _ cs _ _) => cs.nth off
  | _ => none
def rdN (s : Tr Blk) (n off k : Nat) : Option AV := match s.get n with
  | some (.cells _ _ cs _ _) => match cs.drop off with
    | some l => l.take k
    | none => none
  | _ => none
def wr (s : Tr Blk) (n off : Nat) (vs : AV) : Option (Tr Blk) := match s.get n with
  | some (.cells e z cs lo wh) => bif vs.allOne then match cs.over off vs with
      | some cs' => some (s.set n (some (.cells e z cs' lo wh)))
      | none => none
    else none
  | _ => none

def capLo (s : Tr Blk) (n : Nat) : Cap → Nat
  | .ex c => c
  | .room i => match s.get n with
    | some (.cells _ _ _ lo _) => lo - i
    | _ => 0

def asI : AV → Option Int
  | .prim (.int _ i) => some i
  | _ => none
def asN : AV → Option Nat
  | .prim (.int _ (.ofNat n)) => some n
  | _ => none

/-- the part of type t at off of a row of cells -/
def partA (P : Program) (t : TypeId) (cs : AV) (off : Nat) : Option AV := match isAg P t with
  | some true => match szO P t with
    | some z => match cs.drop off with
      | some l => match l.take z with
        | some l => some (.agg l)
        | none => none
      | none => none
    | none => none
  | some false => cs.nth off
  | none => none

def fillA (place : Nat → Option (Nat × Nat)) (cs : AV) : List (Nat × AV) → Option AV
  | [] => some cs
  | (i, v) :: rest => match place i with
    | none => none
    | some (off, z) => bif Nat.blt 0 z && v.cells.isLen z then match cs.over off v.cells with
        | some cs' => fillA place cs' rest
        | none => none
      else none

def mapO (ev : Operand → Option AV) : List Operand → Option AV
  | [] => some .nil
  | x :: l => match ev x, mapO ev l with
    | some v, some r => some (.cons v r)
    | _, _ => none
def mapP (ev : Operand → Option AV) : List (Nat × Operand) → Option (List (Nat × AV))
  | [] => some []
  | (i, x) :: l => match ev x, mapP ev l with
    | some v, some r => some ((i, v) :: r)
    | _, _ => none

def placesA (P : Program) : List Field → Option (List (Nat × Nat))
  | [] => some []
  | f :: l => match szO P f.type, placesA P l with
    | some z, some r => some ((f.offset, z) :: r)
    | _, _ => none

/-! two values of one scalar type -/
def intBin (op : BinOp) (k : IntKind) (a b : Int) : Option Value :=
  match op with
  | .add => some (.int k (k.wrap (a + b)))
  | .sub => some (.int k (k.wrap (a - b)))
  | .mul => some (.int k (k.wrap (a * b)))
  | .quo => if b = 0 then none else some (.int k (k.wrap (a.tdiv b)))
  | .rem => if b = 0 then none else some (.int k (a.tmod b))
  | .and => some (.int k (k.wrap (BitVec.ofInt k.bits a &&& BitVec.ofInt k.bits b).toNat))
  | .or => some (.int k (k.wrap (BitVec.ofInt k.bits a ||| BitVec.ofInt k.bits b).toNat))
  | .xor => some (.int k (k.wrap (BitVec.ofInt k.bits a ^^^ BitVec.ofInt k.bits b).toNat))
  | .andNot => some (.int k (k.wrap (BitVec.ofInt k.bits a &&& ~~~ BitVec.ofInt k.bits b).toNat))
  | .eql => some (.bool (a == b))
  | .neq => some (.bool (a != b))
  | .lss => some (.bool (a < b))
  | .leq => some (.bool (a ≤ b))
  | .gtr => some (.bool (a > b))
  | .geq => some (.bool (a ≥ b))
  | _ => none
def shiftA (op : BinOp) (k : IntKind) (x y : Int) : Option Value :=
  if y < 0 then none else
  match op with
  | .shl => some (.int k (k.wrap (x * 2 ^ (min y.toNat k.bits))))
  | .shr => some (.int k (x.fdiv (2 ^ (min y.toNat k.bits))))
  | _ => none
def eqBytes : List UInt8 → List UInt8 → Bool
  | [], [] => true
  | a :: x, b :: y => Nat.beq a.toNat b.toNat && eqBytes x y
  | _, _ => false
def strBin (op : BinOp) (a b : List UInt8) : Option AV :=
  match op with
  | .add => bif Nat.ble (a.length + b.length) 1000000 then some (.str (a ++ b)) else none
  | .eql => some (.prim (.bool (eqBytes a b)))
  | .neq => some (.prim (.bool (!eqBytes a b)))
  | _ => none

/-- one pair of scalars, by '==' -/
def eqS (P : Program) (s : Tr Blk) (t : TypeId) (x y : AV) : Option Bool :=
  match P.underlying t, x, y with
  | some .bool, .prim (.bool a), .prim (.bool b) => some (a == b)
  | some (.int _), .prim (.int k a), .prim (.int k' b) => if k = k' then some (a == b) else none
  | some .string, .str a, .str b => some (eqBytes a b)
  | some (.pointer _), .prim (.pointer none), .prim (.pointer none) => some true
  | some (.pointer _), .prim (.pointer none), .ptr _ _ => some false
  | some (.pointer _), .ptr _ _, .prim (.pointer none) => some false
  | some (.pointer e), .ptr n a, .ptr m b => match szO P e, s.get n, s.get m with
    | some (_ + 1), some (.cells ..), some (.cells ..) => some (Nat.beq n m && Nat.beq a b)
    | _, _, _ => none
  | some (.slice _), .prim (.slice none _ _), .prim (.slice b _ _) => some b.isNone
  | some (.slice _), .prim (.slice none _ _), .sl .. => some false
  | some (.slice _), .sl .., .prim (.slice none _ _) => some false
  | some (.map _ _), .prim (.map none), .prim (.map b) => some b.isNone
  | some (.map _ _), .prim (.map none), .mp _ => some false
  | some (.map _ _), .mp _, .prim (.map none) => some false
  | some (.func _ _ _), .prim .nilFunc, .prim .nilFunc => some true
  | some (.func _ _ _), .prim .nilFunc, .fn .. => some false
  | some (.func _ _ _), .fn .., .prim .nilFunc => some false
  | some (.interface _), .prim .nilIface, .ifc .. => some false
  | some (.interface _), .ifc .., .prim .nilIface => some false
  | _, _, _ => none
/-- a struct's fields, each a scalar -/
def eqFs (P : Program) (s : Tr Blk) (x y : AV) : List Field → Option Bool
  | [] => some true
  | f :: l => bif f.name == "_" then none else match isAg P f.type, x.nth f.offset, y.nth f.offset with
    | some false, some a, some b => match eqS P s f.type a b with
      | some true => eqFs P s x y l
      | some false => some false
      | none => none
    | _, _, _ => none
/-- an array's elements, each a scalar -/
def eqAs (P : Program) (s : Tr Blk) (e : TypeId) (x y : AV) (i : Nat) : Nat → Option Bool
  | 0 => some true
  | k + 1 => match x.nth i, y.nth i with
    | some a, some b => match eqS P s e a b with
      | some true => eqAs P s e x y (i + 1) k
      | some false => some false
      | none => none
    | _, _ => none
def eqA (P : Program) (s : Tr Blk) (t : TypeId) (x y : AV) : Option Bool :=
  match P.underlying t, x, y with
  | some (.struct fs), .agg xs, .agg ys => bif P.stoodInHeld t || P.eqGuardType P.depth t then none else eqFs P s xs ys fs.toList
  | some (.array n e), .agg xs, .agg ys => bif P.eqGuardType P.depth t then none else match isAg P e, szO P e with
    | some false, some 1 => eqAs P s e xs ys 0 n
    | _, _ => none
  | _, _, _ => eqS P s t x y

def notBool : AV → AV
  | .prim (.bool b) => .prim (.bool (!b))
  | v => v
def binA (P : Program) (s : Tr Blk) (op : BinOp) (t : TypeId) (x y : AV) : Option AV :=
  match op, x, y with
  | .shl, .prim (.int k a), .prim (.int _ b) => match shiftA .shl k a b with
    | some v => some (.prim v)
    | none => none
  | .shr, .prim (.int k a), .prim (.int _ b) => match shiftA .shr k a b with
    | some v => some (.prim v)
    | none => none
  | _, .prim (.int k a), .prim (.int k' b) => if k = k' then match intBin op k a b with
      | some v => some (.prim v)
      | none => none
    else none
  | _, .str a, .str b => strBin op a b
  | .eql, x, y => match eqA P s t x y with
    | some b => some (.prim (.bool b))
    | none => none
  | .neq, x, y => match eqA P s t x y with
    | some b => some (.prim (.bool (!b)))
    | none => none
  | _, _, _ => none

/-! maps: keys that are ints or strings -/
def keyEq (d : TypeDesc) (x y : AV) : Option Bool :=
  match d, x, y with
  | .int _, .prim (.int k a), .prim (.int k' b) => if k = k' then some (a == b) else none
  | .string, .str a, .str b => some (eqBytes a b)
  | _, _, _ => none
def findA (d : TypeDesc) (k : AV) : List (AV × AV × Nat) → Nat → Option (Option (Nat × AV))
  | [], _ => some none
  | e :: es, i => match keyEq d k e.1 with
    | some true => some (some (i, e.2.1))
    | some false => findA d k es (i + 1)
    | none => none
def plainKey : TypeDesc → AV → Bool
  | .int _, .prim (.int _ _) => true
  | .string, .str _ => true
  | _, _ => false

end Ex
end Go.Proofs.YtlpjmjielpdhiaaGreatDoor
