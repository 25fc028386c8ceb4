/- THE WALK BY RECKONING, 3: regions, code, calls. No condition. -/
import Derived.Test.YtlpjmjielpdhiaaGreatDoorE2
namespace Go.Proofs.YtlpjmjielpdhiaaGreatDoor
namespace Ex
open Go

structure St where
  hp : Tr Blk
  nx : Nat

structure Regs where
  n : Nat
  tm : Tr AV

def Regs.put (r : Regs) (d : Option Tmp) (v : AV) : Option Regs := match d with
  | some d => bif Nat.blt d r.n then some { r with tm := r.tm.set d (some v) } else none
  | none => some r

def wantO (ops : Array Oper) (tm : Tr AV) (o : Oper) : Option Bool := match o.guard with
  | none => some true
  | some (j, want) => match (ops[j]?).bind (·.dst) with
    | none => some false
    | some t => match tm.get t with
      | some (.prim (.bool b)) => some (b == want)
      | some (.tup .nil) => some false
      | _ => none

/-! are two the same? -/
def vsame : Value → Value → Bool
  | .bool a, .bool b => a == b
  | .int j a, .int k b => decide (j = k) && decide (a = b)
  | .pointer none, .pointer none => true
  | .slice none a b, .slice none c d => Nat.beq a c && Nat.beq b d
  | .map none, .map none => true
  | .nilFunc, .nilFunc => true
  | .nilIface, .nilIface => true
  | _, _ => false
def Cap.same : Cap → Cap → Bool
  | .ex a, .ex b => Nat.beq a b
  | .room a, .room b => Nat.beq a b
  | _, _ => false
def AV.same : AV → AV → Bool
  | .prim a, .prim b => vsame a b
  | .str a, .str b => eqBytes a b
  | .ptr n a, .ptr m b => Nat.beq n m && Nat.beq a b
  | .sl n a l c, .sl m b k d => Nat.beq n m && Nat.beq a b && Nat.beq l k && c.same d
  | .mp n, .mp m => Nat.beq n m
  | .ifc t a, .ifc u b => Nat.beq t u && a.same b
  | .agg a, .agg b => a.same b
  | .tup a, .tup b => a.same b
  | .fn f a b, .fn g c d => Nat.beq f g && a.same c && b.same d
  | .nil, .nil => true
  | .cons a b, .cons c d => a.same c && b.same d
  | _, _ => false
def esame : List (AV × AV × Nat) → List (AV × AV × Nat) → Bool
  | [], [] => true
  | (a, b, n) :: l, (c, d, m) :: k => a.same c && b.same d && Nat.beq n m && esame l k
  | _, _ => false
def Blk.same : Blk → Blk → Bool
  | .cells e z a l w, .cells f y b k v => Nat.beq e f && Nat.beq z y && a.same b && Nat.beq l k && (w == v)
  | .map a c, .map b d => esame a b && Nat.beq c d
  | .iter a c, .iter b d => eqBytes a b && Nat.beq c d
  | _, _ => false
def osame {α : Type} (f : α → α → Bool) : Option α → Option α → Bool
  | some a, some b => f a b
  | none, none => true
  | _, _ => false
def Tr.same {α : Type} (f : α → α → Bool) : Tr α → Tr α → Bool
  | .leaf, .leaf => true
  | .node a b c, .node d e g => osame f a d && b.same f e && c.same f g
  | _, _ => false

section
variable (P : Program) (ids : List FuncId) (call : FuncId → AV → St → Option (AV × St))

/-- one operation; the number: the name of what it may make; the flag: names are given in turn -/
def step1 (seq : Bool) (k : Nat) (o : Oper) (rg : Regs) (s : St) : Option (Regs × St) :=
  match exV P ids (evO rg.tm) s.hp o with
  | some v => match rg.put o.dst v with
    | some rg' => some (rg', s)
    | none => none
  | none => match exS P (evO rg.tm) s.hp k o with
    | some (.val v hp' used) => match rg.put o.dst v with
      | some rg' => some (rg', { hp := hp', nx := bif seq && used then k + 1 else s.nx })
      | none => none
    | some (.enter f as) => match call f as s with
      | some (v, s') => match rg.put o.dst v with
        | some rg' => some (rg', s')
        | none => none
      | none => none
    | none => none

def stepG (seq : Bool) (k : Nat) (ops : Array Oper) (o : Oper) (rg : Regs) (s : St) : Option (Regs × St) :=
  match wantO ops rg.tm o with
  | some true => step1 P ids call seq k o rg s
  | some false => match rg.put o.dst undefA with
    | some rg' => some (rg', s)
    | none => none
  | none => none

def exOps (ops : Array Oper) : List Oper → Regs → St → Option (Regs × St)
  | [], rg, s => some (rg, s)
  | o :: l, rg, s => match stepG P ids call true s.nx ops o rg s with
    | some (rg', s') => exOps ops l rg' s'
    | none => none

/-- What operation o yields whatever the world, as long as the blocks of hs are as they are. -/
def sureV (ops : Array Oper) (hs : Tr Blk) (o : Oper) (rg : Regs) : Option Regs :=
  match wantO ops rg.tm o with
  | some true => match exV P ids (evO rg.tm) hs o with
    | some v => rg.put o.dst v
    | none => none
  | some false => rg.put o.dst undefA
  | none => none

def held (hs s : Tr Blk) : List Nat → Bool
  | [] => true
  | n :: l => osame Blk.same (hs.get n) (s.get n) && held hs s l

def firstSure (ops : Array Oper) (hs : Tr Blk) (listed : Array Bool) (rg : Regs) : List Nat → Option (Nat × Regs)
  | [] => none
  | i :: l => match ops[i]? with
    | some o => match sureV P ids ops hs o rg with
      | some rg' => bif Region.free .any ops listed i then some (i, rg') else firstSure ops hs listed rg l
      | none => firstSure ops hs listed rg l
    | none => none

def allSame (r : Regs × St) (f : Nat → Option (Regs × St)) : List Nat → Bool
  | [] => true
  | i :: l => (match f i with
    | some q => Nat.beq r.1.n q.1.n && r.1.tm.same AV.same q.1.tm && Nat.beq r.2.nx q.2.nx && r.2.hp.same Blk.same q.2.hp
    | none => false) && allSame r f l

def exAny (ops : Array Oper) (hs : Tr Blk) (hn : List Nat) (base : Nat) : Nat → Array Bool → Regs → St → Option (Regs × St)
  | 0, listed, rg, s => match Region.ready .any ops listed with
    | [] => some (rg, s)
    | _ => none
  | n + 1, listed, rg, s => match Region.ready .any ops listed with
    | [] => some (rg, s)
    | i :: l => match firstSure P ids ops hs listed rg (i :: l) with
      | some (j, rg') => exAny ops hs hn base n (listed.setIfInBounds j true) rg' s
      | none =>
        let f := fun j => match ops[j]? with
          | some o => match stepG P ids call false (base + j) ops o rg s with
            | some (rg', s') => bif held hs s'.hp hn then exAny ops hs hn base n (listed.setIfInBounds j true) rg' s' else none
            | none => none
          | none => none
        match f i with
        | some r => bif allSame r f l then some r else none
        | none => none

/-- the names that a region's loads look at and that its stores turn, as far as they are seen without its calls -/
def scan (ops : Array Oper) (hp : Tr Blk) : List Oper → Regs → List Nat → List Nat → List Nat × List Nat
  | [], _, ls, ss => (ls, ss)
  | o :: l, rg, ls, ss => match sureV P ids ops hp o rg with
    | some rg' => match o.op with
      | .load _ a => match evO rg.tm a with
        | some (.ptr n _) => scan ops hp l rg' (bif ls.contains n then ls else n :: ls) ss
        | _ => scan ops hp l rg' ls ss
      | _ => scan ops hp l rg' ls ss
    | none => match o.op with
      | .store _ a _ => match evO rg.tm a with
        | some (.ptr n _) => scan ops hp l rg ls (n :: ss)
        | _ => scan ops hp l rg ls ss
      | _ => scan ops hp l rg ls ss
def subHp (s : Tr Blk) : List Nat → Tr Blk → Tr Blk
  | [], t => t
  | n :: l, t => subHp s l (t.set n (s.get n))

def exDrawWith (dep : Nat) (ops : Array Oper) (ns : List Nat) (rg : Regs) (s : St) : Option (Regs × St) :=
  bif held (subHp s.hp ns (Tr.mk dep)) s.hp ns then
    exAny P ids call ops (subHp s.hp ns (Tr.mk dep)) ns s.nx ops.size (Array.replicate ops.size false) rg { s with nx := s.nx + ops.size }
  else none
def exDraw (dep : Nat) (ops : Array Oper) (rg : Regs) (s : St) : Option (Regs × St) :=
  bif Region.noSelect ops then
    match scan P ids ops s.hp ops.toList rg [] [] with
    | (ls, ss) => match exDrawWith P ids call dep ops (ls.filter fun n => !ss.contains n) rg s with
      | some r => some r
      | none => exDrawWith P ids call dep ops [] rg s
  else none

inductive EX where
  | normal
  | exit (id : Nat)
  | ret

def iter : Nat → (Regs → St → Option (EX × Regs × St)) → Regs → St → Option (EX × Regs × St)
  | 0, _, _, _ => none
  | n + 1, f, rg, s => match f rg s with
    | some (.normal, rg', s') => iter n f rg' s'
    | r => r

def exCode (lf dep : Nat) : Code → Regs → St → Option (EX × Regs × St)
  | .skip, rg, s => some (.normal, rg, s)
  | .label _, rg, s => some (.normal, rg, s)
  | .region _ ops draw, rg, s => match (bif draw then exDraw P ids call dep ops rg s else exOps P ids call ops ops.toList rg s) with
    | some (rg', s') => some (.normal, rg', s')
    | none => none
  | .seq a b, rg, s => match exCode lf dep a rg s with
    | some (.normal, rg', s') => exCode lf dep b rg' s'
    | r => r
  | .cond c x y, rg, s => match evO rg.tm c with
    | some (.prim (.bool true)) => exCode lf dep x rg s
    | some (.prim (.bool false)) => exCode lf dep y rg s
    | _ => none
  | .block id b, rg, s => match exCode lf dep b rg s with
    | some (.exit k, rg', s') => bif Nat.beq k id then some (.normal, rg', s') else some (.exit k, rg', s')
    | r => r
  | .loop b, rg, s => iter lf (exCode lf dep b) rg s
  | .exit id, rg, s => some (.exit id, rg, s)
  | .scope b, rg, s => exCode lf dep b rg s
  | .ret, rg, s => some (.ret, rg, s)
  | _, _, _ => none
end

def resA (P : Program) (s : St) (tm : Tr AV) : List ResultVar → Option AV
  | [] => some .nil
  | x :: l => match (match x with
      | .tmp t => tm.get t
      | .cell a t => match tm.get a with
        | some a => xLoad P s.hp t a
        | none => none), resA P s tm l with
    | some v, some r => some (.cons v r)
    | _, _ => none
def outA : AV → AV
  | .cons v .nil => v
  | l => .tup l

def putArgs : AV → Nat → Tr AV → Tr AV
  | .cons h t, i, tm => putArgs t (i + 1) (tm.set i (some h))
  | _, _, tm => tm

def exCall (P : Program) (ids : List FuncId) (lf dep : Nat) : Nat → FuncId → AV → St → Option (AV × St)
  | 0, _, _, _ => none
  | n + 1, f, as, s => match P.funcs[f]? with
    | some fn => match fn.body with
      | some c => bif !(as.isLen as.len) then none else match exCode P ids (exCall P ids lf dep n) lf dep c { n := as.len + (fn.ntmps - as.len), tm := putArgs as 0 (Tr.mk (Nat.log2 (fn.ntmps + as.len + 1) + 1)) } s with
        | some (.normal, rg, s') => match resA P s' rg.tm fn.results.toList with
          | some l => some (outA l, s')
          | none => none
        | some (.ret, rg, s') => match resA P s' rg.tm fn.results.toList with
          | some l => some (outA l, s')
          | none => none
        | _ => none
      | none => none
    | none => none

end Ex
end Go.Proofs.YtlpjmjielpdhiaaGreatDoor
