/- THE WALK BY RECKONING, 2: one operation. No condition. -/
import Derived.Test.YtlpjmjielpdhiaaGreatDoorE1
namespace Go.Proofs.YtlpjmjielpdhiaaGreatDoor
namespace Ex
open Go

def evO (tm : Tr AV) : Operand → Option AV
  | .tmp t => tm.get t
  | .const v => ofV v
  | .global g => some (.prim (.pointer (some ⟨g, 0, none⟩)))
  | .func f => some (.fn f .nil .nil)

def xLoad (P : Program) (s : Tr Blk) (t : TypeId) : AV → Option AV
  | .ptr n off => match isAg P t with
    | some true => match szO P t with
      | some z => match rdN s n off z with
        | some l => some (.agg l)
        | none => none
      | none => none
    | some false => rd s n off
    | none => none
  | _ => none

def xStore (P : Program) (s : Tr Blk) (t : TypeId) (x : AV) : AV → Option (Tr Blk)
  | .ptr n off => match szO P t with
    | some z => bif x.cells.isLen z then wr s n off x.cells else none
    | none => none
  | _ => none

def xVar (P : Program) (s : Tr Blk) (k0 : Nat) (t : TypeId) (v : AV) : Option OpR :=
  match szO P t with
  | some z => bif v.cells.isLen z then some (.val (.ptr k0 0) (s.set k0 (some (.cells t z v.cells 0 true))) true) else none
  | none => none

def xBuild (P : Program) (t : TypeId) (parts : List (Nat × AV)) : Option AV :=
  match zrO P t, P.underlying t with
  | some z, some (.struct fs) => match placesA P fs.toList with
    | some ps => match fillA (ps[·]?) z.cells parts with
      | some cs => some (.agg cs)
      | none => none
    | none => none
  | some z, some (.array _ e) => match szO P e with
    | some k => match fillA (fun i => some (i * k, k)) z.cells parts with
      | some cs => some (.agg cs)
      | none => none
    | none => none
  | _, _ => none

def xBuildSlice (P : Program) (s : Tr Blk) (k0 : Nat) (t : TypeId) (n : Nat) (parts : List (Nat × AV)) : Option OpR :=
  match P.underlying t with
  | some (.slice e) => match szO P e, zrO P e with
    | some (k + 1), some z => bif Nat.ble (n * (k + 1)) 65536 && z.cells.isLen (k + 1) then match (match z.cells.rep n with
        | some cs => fillA (fun i => some (i * (k + 1), k + 1)) cs parts
        | none => none) with
        | some cs => some (.val (.sl k0 0 n (.ex n)) (s.set k0 (some (.cells e (k + 1) cs n true))) true)
        | none => none
      else none
    | _, _ => none
  | _ => none

def xFieldAddr (P : Program) (t : TypeId) (f : Nat) : AV → Option AV
  | .ptr n off => match P.underlying t with
    | some (.struct fs) => match fs[f]? with
      | some fd => match szO P fd.type with
        | some (_ + 1) => some (.ptr n (off + fd.offset))
        | _ => none
      | none => none
    | _ => none
  | _ => none

def xField (P : Program) (t : TypeId) (f : Nat) : AV → Option AV
  | .agg cs => match P.underlying t with
    | some (.struct fs) => match fs[f]? with
      | some fd => partA P fd.type cs fd.offset
      | none => none
    | _ => none
  | _ => none

def xIndexAddr (P : Program) (t : TypeId) (x ix : AV) : Option AV :=
  match P.underlying t, x, asN ix with
  | some (.slice e), .sl n off len _, some i => match szO P e with
    | some z => bif Nat.blt i len then some (.ptr n (off + i * z)) else none
    | none => none
  | some (.array len e), .ptr n off, some i => match szO P e with
    | some z => bif Nat.blt i len then some (.ptr n (off + i * z)) else none
    | none => none
  | _, _, _ => none

def xIndex (P : Program) (t : TypeId) (x ix : AV) : Option AV :=
  match P.underlying t, x, asN ix with
  | some .string, .str l, some i => match l[i]? with
    | some b => some (.prim (.int .u8 b.toNat))
    | none => none
  | _, _, _ => none

def bndO (ev : Operand → Option AV) : Option Operand → Option (Option Nat)
  | none => some none
  | some x => match ev x with
    | some v => match asN v with
      | some n => some (some n)
      | none => none
    | none => none

def xSlice (P : Program) (s : Tr Blk) (t : TypeId) (x : AV) (lo hi : Option Nat) : Option AV :=
  match P.underlying t, x with
  | some .string, .str l =>
    let h := hi.getD l.length
    let b := lo.getD 0
    bif Nat.ble h l.length && Nat.ble b h then some (.str ((l.take h).drop b)) else none
  | some (.slice e), .sl n off len c => match szO P e with
    | some z =>
      let h := hi.getD len
      let b := lo.getD 0
      bif Nat.ble h (capLo s n c) && Nat.ble b h && Nat.ble len (capLo s n c) then match c with
        | .ex k => some (.sl n (bif Nat.beq k b then off else off + b * z) (h - b) (.ex (k - b)))
        | .room i => bif Nat.beq b 0 || Nat.blt b (capLo s n c) then some (.sl n (off + b * z) (h - b) (.room (i + b))) else none
      else none
    | none => none
  | some (.slice e), .prim (.slice none 0 0) =>
    bif (szO P e).isSome && Nat.beq (hi.getD 0) 0 && Nat.beq (lo.getD 0) 0 then some (.prim (.slice none 0 0)) else none
  | _, _ => none

def xMakeSlice (P : Program) (s : Tr Blk) (k0 : Nat) (t : TypeId) (l c : AV) : Option OpR :=
  match P.underlying t, asN l, asN c with
  | some (.slice e), some n, some m => match szO P e, bytesO P e, zrO P e with
    | some (k + 1), some by', some z => bif Nat.ble (by' * m) 1000000000 && Nat.ble m 65536 && Nat.ble n m && z.cells.isLen (k + 1) then match z.cells.rep m with
        | some cs => some (.val (.sl k0 0 n (.ex m)) (s.set k0 (some (.cells e (k + 1) cs m true))) true)
        | none => none
      else none
    | _, _, _ => none
  | _, _, _ => none

/-- the cells of the first n elements, and n, of what is appended or copied -/
def srcA (s : Tr Blk) (z : Nat) : AV → Option (Nat × AV)
  | .prim (.slice none 0 0) => some (0, .nil)
  | .sl n off len _ => match rdN s n off (len * z) with
    | some l => some (len, l)
    | none => none
  | .str l => bif Nat.beq z 1 then match ofL (l.map fun b => .int .u8 b.toNat) with
    | some c => some (l.length, c)
    | none => none
    else none
  | _ => none

def xAppend (P : Program) (s : Tr Blk) (k0 : Nat) (t : TypeId) (t2 : Option TypeId) (x y : AV) : Option OpR :=
  match P.underlying t, t2 with
  | some (.slice e), some u => match P.underlying u with
    | some (.int _) => none
    | some _ => match szO P e, bytesO P e, zrO P e with
      | some (k + 1), some (by' + 1), some zz => match srcA s (k + 1) y with
        | some (m, new) => bif zz.cells.isLen (k + 1) && new.allOne && Nat.ble by' 1000000 && Nat.ble m 1000000 && new.isLen (m * (k + 1)) then match x with
          | .prim (.slice none 0 0) => match m with
            | 0 => some (.val x s false)
            | m => some (.val (.sl k0 0 m (.room 0)) (s.set k0 (some (.cells e (k + 1) new m false))) true)
          | .sl n off len c => bif Nat.ble len 1000000 then match rdN s n off (len * (k + 1)), s.get n with
            | some old, some (.cells e' z' cs lo wh) =>
              bif old.allOne && Nat.ble (len + m) (capLo s n c) then
                match c with
                | .ex _ => match wr s n (off + len * (k + 1)) new with
                  | some s' => some (.val (.sl n off (len + m) c) s' false)
                  | none => none
                | .room i => bif Nat.beq e' e && Nat.beq z' (k + 1) && Nat.beq off (i * (k + 1)) && Nat.ble i lo && !wh then match cs.take (off + len * (k + 1)) with
                  | some pre => match pre.app new with
                    | some cs' => some (.val (.sl n off (len + m) c) (s.set n (some (.cells e' z' cs' lo wh))) false)
                    | none => none
                  | none => none
                  else none
              else bif old.allOne then match old.app new with
               | none => none
               | some cs' => match c with
                | .ex k' => bif Nat.ble (len + m) k' then none else
                  some (.val (.sl k0 0 (len + m) (.room 0)) (s.set k0 (some (.cells e (k + 1) cs' (len + m) false))) true)
                | .room i => bif Nat.beq e' e && Nat.beq z' (k + 1) && Nat.beq off (i * (k + 1)) && Nat.ble i lo && !wh then
                    some (.val (.sl k0 0 (len + m) (.room 0)) ((s.set n none).set k0 (some (.cells e (k + 1) cs' (len + m) false))) true)
                  else none
              else none
            | _, _ => none
            else none
          | _ => none
          else none
        | none => none
      | _, _, _ => none
    | none => none
  | _, _ => none

def xCopy (P : Program) (s : Tr Blk) (t : TypeId) (x y : AV) : Option OpR :=
  match P.underlying t with
  | some (.slice e) => match szO P e with
    | some z => match srcA s z y, x with
      | some (m, new), .sl n off len _ => bif Nat.ble m len && new.isLen (m * z) then match wr s n off new with
          | some s' => some (.val (.prim (.int .i64 m)) s' false)
          | none => none
        else none
      | _, _ => none
    | none => none
  | _ => none

def xLen (P : Program) (s : Tr Blk) (t : TypeId) (x : AV) : Option AV :=
  match P.underlying t, x with
  | some .string, .str l => some (.prim (.int .i64 l.length))
  | some (.array n _), _ => some (.prim (.int .i64 n))
  | some (.slice _), .sl _ _ n _ => some (.prim (.int .i64 n))
  | some (.slice _), .prim (.slice _ n _) => some (.prim (.int .i64 n))
  | some (.map _ _), .prim (.map none) => some (.prim (.int .i64 (0 : Nat)))
  | some (.map _ _), .mp n => match s.get n with
    | some (.map es _) => some (.prim (.int .i64 es.length))
    | _ => none
  | _, _ => none

def xMinMax (mx : Bool) : AV → List AV → Option AV
  | x, [] => some x
  | .prim (.int k a), .prim (.int _ b) :: l => xMinMax mx (.prim (.int k (if (if mx then b > a else b < a) then b else a))) l
  | _, _ => none

def listA : AV → List AV
  | .cons h t => h :: listA t
  | _ => []

def bytesA : AV → Option (List UInt8)
  | .nil => some []
  | .cons (.prim (.int .u8 (.ofNat b))) t => bif Nat.blt b 256 then match bytesA t with
      | some l => some (UInt8.ofNat b :: l)
      | none => none
    else none
  | _ => none

/-- builtins that only look -/
def xBuiltinV (P : Program) (s : Tr Blk) (b : Builtin) (ts : Array TypeId) (as : AV) : Option AV :=
  match b, ts[0]?, as with
  | .len, some t, .cons x .nil => xLen P s t x
  | .max, _, .cons x l => bif l.isLen l.len then xMinMax true x (listA l) else none
  | .min, _, .cons x l => bif l.isLen l.len then xMinMax false x (listA l) else none
  | .unsafeSliceData, _, .cons (.sl n off _ c) .nil => match capLo s n c with
    | _ + 1 => some (.ptr n off)
    | 0 => none
  | _, _, _ => none

def xUnsafeString (P : Program) (s : Tr Blk) (t : TypeId) (x m : AV) : Option OpR :=
  match x, asN m with
  | .ptr n off, some (k + 1) => match P.underlying t, s.get n with
    | some (.pointer u), some (.cells e z _ _ _) =>
      bif Nat.beq u e && Nat.beq z 1 && Nat.ble k 1000000 then match P.underlying e, szO P e, rdN s n off (k + 1) with
        | some (.int .u8), some 1, some l => match bytesA l with
          | some bs => some (.val (.str bs) (s.set n none) false)
          | none => none
        | _, _, _ => none
      else none
    | _, _ => none
  | _, _ => none

def xBuiltinS (P : Program) (s : Tr Blk) (k0 : Nat) (b : Builtin) (ts : Array TypeId) (as : AV) : Option OpR :=
  match b, ts[0]?, as with
  | .append, some t, .cons x (.cons y .nil) => xAppend P s k0 t ts[1]? x y
  | .copy, some t, .cons x (.cons y .nil) => xCopy P s t x y
  | .unsafeString, some t, .cons x (.cons m .nil) => xUnsafeString P s t x m
  | _, _, _ => none

/-- 'ids': the functions without a body that hand their one argument back. -/
def xId (ids : List FuncId) (f as : AV) : Option AV :=
  match f with
  | .fn f .nil .nil => bif ids.contains f then match as with
      | .cons x .nil => some x
      | _ => none
    else none
  | _ => none
def xCall (P : Program) (f as : AV) : Option OpR :=
  match f with
  | .fn f first captured => match P.funcs[f]? with
    | some fn => bif fn.body.isSome && !(fn.name == "runtime.NumGoroutine") then (match as.app captured with
        | some l => match first.app l with
          | some l => some (.enter f l)
          | none => none
        | none => none) else none
    | none => none
  | _ => none

def xConvert (P : Program) (s : Tr Blk) (src dst : TypeId) (x : AV) : Option AV :=
  match P.underlying src, P.underlying dst, x with
  | some _, some (.int k), .prim (.int _ n) => some (.prim (.int k (k.wrap n)))
  | some (.pointer t), some .unsafePointer, .ptr n off => match szO P t, rd s n off with
    | some (_ + 1), some _ => some x
    | _, _ => none
  | some .unsafePointer, some (.pointer u), .ptr n off => match s.get n, szO P u with
    | some (.cells e _ cs _ true), some (_ + 1) => bif cs.isLen cs.len && liesAt P P.depth e (cs.len / P.cellsOf e) off u 1 then some x else none
    | _, _ => none
  | _, _, _ => none

def xLookup (P : Program) (s : Tr Blk) (t : TypeId) (x ix : AV) (ok : Bool) : Option AV :=
  match P.underlying t with
  | some (.map k e) => match P.underlying k, zrO P e with
    | some d, some z => bif plainKey d ix then match (match x with
        | .prim (.map none) => some []
        | .mp n => match s.get n with
          | some (.map es _) => some es
          | _ => none
        | _ => none) with
      | some es => match findA d ix es 0 with
        | some (some (_, v)) => some (if ok then .tup (.cons v (.cons (.prim (.bool true)) .nil)) else v)
        | some none => some (if ok then .tup (.cons z (.cons (.prim (.bool false)) .nil)) else z)
        | none => none
      | none => none
      else none
    | _, _ => none
  | _ => none

def setVal (v : AV) : List (AV × AV × Nat) → Nat → AV → List (AV × AV × Nat)
  | [], _, _ => []
  | (_, _, b) :: es, 0, k => (k, v, b) :: es
  | e :: es, i + 1, k => e :: setVal v es i k

def xUpdate (P : Program) (s : Tr Blk) (t : TypeId) (x k v : AV) : Option (Tr Blk) :=
  match P.underlying t, x with
  | some (.map kt _), .mp n => match P.underlying kt, s.get n with
    | some d, some (.map es clk) => bif plainKey d k then match findA d k es 0 with
        | some (some (i, _)) => some (s.set n (some (.map (setVal v es i k) clk)))
        | some none => some (s.set n (some (.map (es ++ [(k, v, clk)]) (clk + 1))))
        | none => none
      else none
    | _, _ => none
  | _, _ => none

def xRange (P : Program) (s : Tr Blk) (k0 : Nat) (t : TypeId) (x : AV) : Option OpR :=
  match P.underlying t, x with
  | some .string, .str l => some (.val (.ptr k0 0) (s.set k0 (some (.iter l 0))) true)
  | _, _ => none

def xNext (s : Tr Blk) (x : AV) (isS : Bool) : Option OpR :=
  match x, isS with
  | .ptr n 0, true => match s.get n with
    | some (.iter l pos) => bif Nat.blt pos l.length then
        let d := Utf8.decode ⟨l.toArray⟩ pos
        some (.val (.tup (.cons (.prim (.bool true)) (.cons (.prim (.int .i64 pos)) (.cons (.prim (.int .i32 d.1)) .nil)))) (s.set n (some (.iter l (pos + d.2)))) false)
      else some (.val (.tup (.cons (.prim (.bool false)) .nil)) s false)
    | _ => none
  | _, _ => none

def xAssert (P : Program) (x : AV) (t : TypeId) (ok : Bool) : Option AV :=
  match P.underlying t, x with
  | some (.interface _), _ => none
  | some _, .ifc d v => if d = t then some (if ok then .tup (.cons v (.cons (.prim (.bool true)) .nil)) else v)
    else if ok then match zrO P t with
      | some z => some (.tup (.cons z (.cons (.prim (.bool false)) .nil)))
      | none => none
    else none
  | _, _ => none

def xNil : AV → Option AV
  | .prim (.pointer (some a)) => some (.prim (.pointer (some a)))
  | .ptr n o => some (.ptr n o)
  | .sl n o l c => some (.sl n o l c)
  | .mp n => some (.mp n)
  | .fn f a b => some (.fn f a b)
  | .ifc t v => some (.ifc t v)
  | _ => none

def exV (P : Program) (ids : List FuncId) (ev : Operand → Option AV) (s : Tr Blk) (o : Oper) : Option AV :=
  match o.op with
  | .move x | .assign x => ev x
  | .pick c a b => match ev c with
    | some (.prim (.bool true)) => ev a
    | some (.prim (.bool false)) => ev b
    | _ => none
  | .build t ps => match mapP ev ps.toList with
    | some l => xBuild P t l
    | none => none
  | .load t a => match ev a with
    | some a => xLoad P s t a
    | none => none
  | .nilCheck x => match ev x with
    | some v => xNil v
    | none => none
  | .binOp op t x y _ => match ev x, ev y with
    | some a, some b => binA P s op t a b
    | _, _ => none
  | .unOp .not _ x => match ev x with
    | some (.prim (.bool b)) => some (.prim (.bool (!b)))
    | _ => none
  | .convert src dst x => match ev x with
    | some a => xConvert P s src dst a
    | none => none
  | .makeInterface t x => match ev x, P.underlying t with
    | some _, some (.interface _) => none
    | some v, some _ => some (.ifc t v)
    | _, _ => none
  | .makeFunc (.func f) first captured => match mapO ev first.toList, mapO ev captured.toList with
    | some a, some b => some (.fn f a b)
    | _, _ => none
  | .slice t x lo hi none => match ev x, bndO ev lo, bndO ev hi with
    | some x, some lo, some hi => xSlice P s t x lo hi
    | _, _, _ => none
  | .fieldAddr t x f => match ev x with
    | some a => xFieldAddr P t f a
    | none => none
  | .field t x f => match ev x with
    | some a => xField P t f a
    | none => none
  | .indexAddr t x ix => match ev x, ev ix with
    | some a, some b => xIndexAddr P t a b
    | _, _ => none
  | .index t x ix => match ev x, ev ix with
    | some a, some b => xIndex P t a b
    | _, _ => none
  | .lookup t x ix ok => match ev x, ev ix with
    | some a, some b => xLookup P s t a b ok
    | _, _ => none
  | .typeAssert x _ t ok => match ev x with
    | some a => xAssert P a t ok
    | none => none
  | .extract t ix => match ev t with
    | some (.tup vs) => vs.nth ix
    | _ => none
  | .call c => match c.callee with
    | .builtin b => match mapO ev c.args.toList with
      | some as => xBuiltinV P s b c.argTypes as
      | none => none
    | .value f => match ev f, mapO ev c.args.toList with
      | some f, some as => xId ids f as
      | _, _ => none
    | .invoke _ _ => none
  | _ => none

def exS (P : Program) (ev : Operand → Option AV) (s : Tr Blk) (k0 : Nat) (o : Oper) : Option OpR :=
  match o.op with
  | .alloc t => match zrO P t with
    | some z => xVar P s k0 t z
    | none => none
  | .box t x => match ev x with
    | some v => xVar P s k0 t v
    | none => none
  | .buildSlice t n ps => match mapP ev ps.toList with
    | some l => xBuildSlice P s k0 t n l
    | none => none
  | .store t a x => match ev a, ev x with
    | some a, some x => match xStore P s t x a with
      | some s' => some (.val undefA s' false)
      | none => none
    | _, _ => none
  | .makeMap t r => match r, P.underlying t with
    | none, _ => some (.val (.mp k0) (s.set k0 (some (.map [] 0))) true)
    | some x, some (.map _ _) => match ev x with
      | some (.prim (.int _ _)) => some (.val (.mp k0) (s.set k0 (some (.map [] 0))) true)
      | _ => none
    | _, _ => none
  | .makeSlice t l c => match ev l, ev c with
    | some l, some c => xMakeSlice P s k0 t l c
    | _, _ => none
  | .mapUpdate t m k x | .insert t m k x => match ev m, ev k, ev x with
    | some m, some k, some x => match xUpdate P s t m k x with
      | some s' => some (.val undefA s' false)
      | none => none
    | _, _, _ => none
  | .range t x => match ev x with
    | some a => xRange P s k0 t a
    | none => none
  | .next it isS => match ev it with
    | some a => xNext s a isS
    | none => none
  | .call c => match c.callee with
    | .builtin b => match mapO ev c.args.toList with
      | some as => xBuiltinS P s k0 b c.argTypes as
      | none => none
    | .value f => match ev f, mapO ev c.args.toList with
      | some f, some as => xCall P f as
      | _, _ => none
    | .invoke _ _ => none
  | _ => none

end Ex
end Go.Proofs.YtlpjmjielpdhiaaGreatDoor
