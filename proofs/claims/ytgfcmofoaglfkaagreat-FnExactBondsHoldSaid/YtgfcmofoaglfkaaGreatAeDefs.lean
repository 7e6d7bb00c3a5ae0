/- An abstract evaluator over the translated code: definitions. Typed data stand for what memory holds; 'awp' is what has to be shown of a piece of code. -/
import Derived.RowKit
import Derived.Calls
namespace Go.AE
open Go Go.RowKit

inductive Ty where
  | int (k : IntKind) | bool | str | unit
  | sl (t : Ty)
  | pair (a b : Ty)

@[reducible] def Ty.D : Ty → Type
  | .int _ => Int
  | .bool => Bool
  | .str => ByteArray
  | .unit => Unit
  | .sl t => List t.D
  | .pair a b => a.D × b.D

def Ty.size : Ty → Nat
  | .unit => 0
  | .pair a b => a.size + b.size
  | _ => 1

def Ty.agg : Ty → Bool
  | .unit | .pair .. => true
  | _ => false

def Ty.zero : (t : Ty) → t.D
  | .int _ => (0 : Int)
  | .bool => false
  | .str => (⟨#[]⟩ : ByteArray)
  | .unit => ()
  | .sl _ => []
  | .pair a b => (a.zero, b.zero)

/-- Are two types one? -/
def Ty.eq? : (t u : Ty) → Option (PLift (t = u))
  | .int j, .int k => if h : j = k then some ⟨by rw [h]⟩ else none
  | .bool, .bool => some ⟨rfl⟩
  | .str, .str => some ⟨rfl⟩
  | .unit, .unit => some ⟨rfl⟩
  | .sl t, .sl u => match Ty.eq? t u with
    | some ⟨h⟩ => some ⟨by rw [h]⟩
    | none => none
  | .pair a b, .pair c d => match Ty.eq? a c, Ty.eq? b d with
    | some ⟨h⟩, some ⟨g⟩ => some ⟨by rw [h, g]⟩
    | _, _ => none
  | _, _ => none

def Ty.same (t u : Ty) : Bool := match Ty.eq? t u with
  | some _ => true
  | none => false

def castD {t u : Ty} (h : t = u) (x : t.D) : u.D := h ▸ x

/-- Equality of data without slices, as '==' has it. -/
def Ty.beq : (t : Ty) → t.D → t.D → Bool
  | .int _, x, y => decide ((x : Int) = y)
  | .bool, x, y => (x : Bool) == y
  | .str, x, y => decide ((x : ByteArray) = y)
  | .unit, _, _ => true
  | .sl _, _, _ => false
  | .pair a b, x, y => a.beq x.1 y.1 && b.beq x.2 y.2

def Ty.flat : Ty → Bool
  | .sl _ => false
  | .pair a b => a.flat && b.flat
  | _ => true

inductive AV where
  | top
  | cst (v : Value)
  | data (t : Ty) (x : t.D)
  | adr (t : Ty) (x : t.D)
  | brw (t : Ty) (xs : List t.D)
  | badr (t : Ty) (x : t.D)
  | ptr (id off : Nat)
  | elt (id : Nat) (i : Int) (off : Nat)
  | own (id : Nat) (cut : Option (Int × Int))
  | fn (f : FuncId) (caps : List AV)
  | tup (vs : List AV)
  | ref (v : AV)

inductive Block where
  | box (cs : List AV)
  | arr (t : Ty) (xs : List t.D)

abbrev Env := List (Nat × AV)
abbrev Hp := List (Nat × Block)

structure St where
  env : Env
  hp : Hp

def lookup {α : Type} : List (Nat × α) → Nat → Option α
  | [], _ => none
  | (j, x) :: l, i => bif Nat.beq j i then some x else lookup l i

def nthO {α : Type} : List α → Nat → Option α
  | [], _ => none
  | x :: _, 0 => some x
  | _ :: l, i + 1 => nthO l i

/-- From this number on, slots are those of a caller whose callee's code is followed in place. -/
def ghost0 : Nat := 1000000

def slot (e : Env) (i : Nat) : AV := bif Nat.blt i ghost0 then (match lookup e i with
  | some v => v
  | none => .top) else .top

/-- What is known of a type of the program. -/
inductive TD where
  | val (t : Ty)
  | sl (e : TypeId) (t : Ty)
  | st (fs : List (Nat × TypeId × String)) (t : Ty)
  | ptr (e : TypeId)
  | other

structure TI where
  td : TD
  size : Nat
  bytes : Nat

abbrev Tab := List (Nat × TI)

def TD.ty : TD → Option Ty
  | .val t => some t
  | .sl _ t => some (.sl t)
  | .st _ t => some t
  | _ => none

def Tab.ty (E : Tab) (t : TypeId) : Option Ty := match lookup E t with
  | some i => i.td.ty
  | none => none

def litAV : Value → AV
  | .int k n => .data (.int k) n
  | .bool b => .data .bool b
  | .string s => .data .str s
  | v => .cst v

def eval (e : Env) : Operand → AV
  | .tmp t => slot e t
  | .const v => litAV v
  | .func f => .fn f []
  | .global _ => .top

/-- The element number i. -/
def nth {t : Ty} (xs : List t.D) (i : Int) : t.D := xs.getD i.toNat t.zero

/-- The part of a datum that stands at a place among its cells. -/
def proj : (t : Ty) → t.D → Nat → (u : Ty) → Option u.D
  | .pair a b, x, off, u =>
    match bif Nat.beq off 0 then Ty.eq? (.pair a b) u else none with
    | some ⟨h⟩ => some (castD h x)
    | none => bif Nat.blt off a.size then proj a x.1 off u else proj b x.2 (off - a.size) u
  | t, x, off, u => match bif Nat.beq off 0 then Ty.eq? t u else none with
    | some ⟨h⟩ => some (castD h x)
    | none => none

/-- A datum with another part at a place among its cells. -/
def upd : (t : Ty) → t.D → Nat → (u : Ty) → u.D → Option t.D
  | .pair a b, x, off, u, y =>
    match bif Nat.beq off 0 then Ty.eq? u (.pair a b) else none with
    | some ⟨h⟩ => some (castD h y)
    | none => bif Nat.blt off a.size then (match upd a x.1 off u y with | some z => some (z, x.2) | none => none)
      else (match upd b x.2 (off - a.size) u y with | some z => some (x.1, z) | none => none)
  | t, _, off, u, y => match bif Nat.beq off 0 then Ty.eq? u t else none with
    | some ⟨h⟩ => some (castD h y)
    | none => none

/-- A constant's cells as a datum. -/
def fromCells : (t : Ty) → List Value → Option (t.D × List Value)
  | .int k, l => (match l with
    | .int k' n :: l' => (match decide (k' = k) with
      | true => some (n, l')
      | false => none)
    | _ => none)
  | .bool, l => (match l with
    | .bool b :: l' => some (b, l')
    | _ => none)
  | .str, l => (match l with
    | .string s :: l' => some (s, l')
    | _ => none)
  | .unit, l => some ((), l)
  | .sl _, l => (match l with
    | .slice none 0 0 :: l' => some ([], l')
    | _ => none)
  | .pair a b, l => match fromCells a l with
    | some (x, l') => (match fromCells b l' with
      | some (y, l'') => some ((x, y), l'')
      | none => none)
    | none => none

def constD (t : Ty) (v : Value) : Option t.D := match v with
  | .agg cs => bif t.agg then (match fromCells t cs.toList with
    | some (x, []) => some x
    | _ => none) else none
  | v => bif t.agg then none else (match fromCells t [v] with
    | some (x, []) => some x
    | _ => none)

def cutList {α : Type} (xs : List α) : Option (Int × Int) → List α
  | none => xs
  | some (lo, hi) => (xs.drop lo.toNat).take (hi - lo).toNat

/-- A value as a datum of a type; what the call owns, or has been lent, is read out. -/
def AV.as (hp : Hp) (t : Ty) : AV → Option t.D
  | .brw u xs => match Ty.eq? (.sl u) t with
    | some ⟨h⟩ => some (castD h xs)
    | none => none
  | .data u x => match Ty.eq? u t with
    | some ⟨h⟩ => some (castD h x)
    | none => none
  | .cst v => constD t v
  | .own id cut => match lookup hp id with
    | some (.arr u xs) => match Ty.eq? (.sl u) t with
      | some ⟨h⟩ => some (castD h (cutList xs cut))
      | none => none
    | _ => none
  | _ => none

/-! What dies, and what becomes fixed. -/
mutual
def AV.kill (id : Nat) : AV → AV
  | .ptr i o => bif Nat.beq i id then .top else .ptr i o
  | .elt i j o => bif Nat.beq i id then .top else .elt i j o
  | .own i c => bif Nat.beq i id then .top else .own i c
  | .fn f caps => .fn f (AV.killAll id caps)
  | .tup vs => .tup (AV.killAll id vs)
  | .ref v => .ref (v.kill id)
  | v => v
def AV.killAll (id : Nat) : List AV → List AV
  | [] => []
  | v :: l => v.kill id :: AV.killAll id l
end

mutual
/-- The array 'id', which holds xs, is written no more: its slices become data. -/
def AV.fix (id : Nat) (t : Ty) (xs : List t.D) : AV → AV
  | .ptr i o => .ptr i o
  | .elt i j o => .elt i j o
  | .own i c => bif Nat.beq i id then .data (.sl t) (cutList xs c) else .own i c
  | .fn f caps => .fn f (AV.fixAll id t xs caps)
  | .tup vs => .tup (AV.fixAll id t xs vs)
  | .ref v => .ref (v.fix id t xs)
  | v => v
def AV.fixAll (id : Nat) (t : Ty) (xs : List t.D) : List AV → List AV
  | [] => []
  | v :: l => v.fix id t xs :: AV.fixAll id t xs l
end

mutual
/-- The box 'id' is written no more: its pointer tells what it holds. -/
def AV.sub (id : Nat) (W : AV) : AV → AV
  | .ptr i o => bif Nat.beq i id then (bif Nat.beq o 0 then W else .top) else .ptr i o
  | .elt i j o => bif Nat.beq i id then .top else .elt i j o
  | .own i c => bif Nat.beq i id then .top else .own i c
  | .fn f caps => .fn f (AV.subAll id W caps)
  | .tup vs => .tup (AV.subAll id W vs)
  | .ref v => .ref (AV.sub id W v)
  | v => v
def AV.subAll (id : Nat) (W : AV) : List AV → List AV
  | [] => []
  | v :: l => AV.sub id W v :: AV.subAll id W l
end

mutual
/-- Does a value say the same anywhere? -/
def AV.free : AV → Bool
  | .data _ _ => true
  | .cst _ => true
  | .adr _ _ => true
  | .brw _ _ => true
  | .fn _ caps => AV.freeAll caps
  | .ref v => v.free
  | _ => false
def AV.freeAll : List AV → Bool
  | [] => true
  | v :: l => v.free && AV.freeAll l
end

mutual
/-- Does it hang on nothing that was lent? -/
def AV.kept : AV → Bool
  | .data _ _ => true
  | .cst _ => true
  | .adr _ _ => true
  | .fn _ caps => AV.keptAll caps
  | .ref v => v.kept
  | _ => false
def AV.keptAll : List AV → Bool
  | [] => true
  | v :: l => v.kept && AV.keptAll l
end

def mapEnv (f : AV → AV) : Env → Env
  | [] => []
  | (j, v) :: l => (j, f v) :: mapEnv f l

def mapHp (f : List AV → List AV) : Hp → Hp
  | [] => []
  | (j, .box cs) :: l => (j, .box (f cs)) :: mapHp f l
  | (j, .arr t xs) :: l => (j, .arr t xs) :: mapHp f l

def erase {α : Type} : List (Nat × α) → Nat → List (Nat × α)
  | [], _ => []
  | (j, x) :: l, i => bif Nat.beq j i then erase l i else (j, x) :: erase l i

/-- A new block with a name: what had this name is no longer to be reached. -/
def St.create (s : St) (id : Nat) (b : Block) : St :=
  { env := mapEnv (AV.kill id) s.env, hp := (id, b) :: mapHp (AV.killAll id) (erase s.hp id) }

def St.setBlock (s : St) (id : Nat) (b : Block) : St := { s with hp := (id, b) :: erase s.hp id }

/-- An array of the call's own becomes fixed. -/
def St.freeze (s : St) (id : Nat) : St := match lookup s.hp id with
  | some (.arr t xs) => { env := mapEnv (AV.fix id t xs) s.env, hp := mapHp (AV.fixAll id t xs) (erase s.hp id) }
  | _ => s

/-- A value as a datum that may be kept: an array of the call's own becomes fixed by it. -/
def St.give (s : St) (t : Ty) (v : AV) : Option (t.D × St) := match v.as s.hp t with
  | some x => match v with
    | .own id _ => some (x, s.freeze id)
    | .brw _ _ => none
    | _ => some (x, s)
  | none => none

def putEnv (e : Env) (d : Nat) (v : AV) : Env := (d, v) :: erase e d
def St.put (n : Nat) (s : St) (d : Option Nat) (v : AV) : St := match d with
  | some d => bif Nat.blt d n && Nat.blt d ghost0 then { s with env := putEnv s.env d v } else s
  | none => s

/-- How an argument is handed over: a slice that is only lent, a datum for good, or as it is. -/
inductive Par where
  | lent (t : Ty)
  | dat (t : Ty)
  | any

/-- A contract of a function: what has to be shown at a call, so that the rest follows. -/
structure Con where
  par : List Par
  run : List AV → Hp → (AV → Hp → Prop) → Prop

abbrev Cons := List (Nat × Con)

def wrapK (k : IntKind) (n : Int) : Int := match k with
  | .i64 => wrap64 n
  | .i32 => wrap32 n
  | .u8 => n % 256
  | k => k.wrap n

def bitsK (op : BinOp) (k : IntKind) (x y : Int) : Int :=
  let a := BitVec.ofInt k.bits x
  let b := BitVec.ofInt k.bits y
  let back (r : BitVec k.bits) : Int := k.wrap r.toNat
  match op with
  | .and => back (a &&& b)
  | .or => back (a ||| b)
  | .xor => back (a ^^^ b)
  | _ => back (a &&& ~~~b)

def chk (b : Bool) (P : Prop) : Prop := bif b then P else False

def intW (op : BinOp) (k : IntKind) (a b : Int) (K : AV → Prop) : Prop := match op with
  | .add => K (.data (.int k) (wrapK k (a + b)))
  | .sub => K (.data (.int k) (wrapK k (a - b)))
  | .mul => K (.data (.int k) (wrapK k (a * b)))
  | .quo => b ≠ 0 ∧ K (.data (.int k) (wrapK k (a.tdiv b)))
  | .rem => b ≠ 0 ∧ K (.data (.int k) (a.tmod b : Int))
  | .eql => K (.data .bool (decide (a = b)))
  | .neq => K (.data .bool (!decide (a = b)))
  | .lss => K (.data .bool (decide (a < b)))
  | .leq => K (.data .bool (decide (a ≤ b)))
  | .gtr => K (.data .bool (decide (b < a)))
  | .geq => K (.data .bool (decide (b ≤ a)))
  | .and | .or | .xor | .andNot => K (.data (.int k) (bitsK op k a b))
  | .shl => 0 ≤ b ∧ K (.data (.int k) (wrapK k (a * 2 ^ (min b.toNat k.bits))))
  | .shr => 0 ≤ b ∧ K (.data (.int k) (a.fdiv (2 ^ (min b.toNat k.bits)) : Int))

def strW (op : BinOp) (a b : ByteArray) (K : AV → Prop) : Prop := match op with
  | .add => a.size + b.size ≤ 9223372036854775807 ∧ K (.data .str (a ++ b : ByteArray))
  | .eql => K (.data .bool (decide (a = b)))
  | .neq => K (.data .bool (!decide (a = b)))
  | .lss => K (.data .bool (Op.bytesLess a.toList b.toList))
  | .leq => K (.data .bool (Op.bytesLess a.toList b.toList || decide (a = b)))
  | .gtr => K (.data .bool (!(Op.bytesLess a.toList b.toList || decide (a = b))))
  | .geq => K (.data .bool (!Op.bytesLess a.toList b.toList))
  | _ => False

def binW (ok : TypeId → Ty → Bool) (op : BinOp) (ty : TypeId) (x y : AV) (K : AV → Prop) : Prop := match x, y with
  | .data (.int k) a, .data (.int k') b => match op with
    | .shl => intW op k a b K
    | .shr => intW op k a b K
    | _ => chk (decide (k = k')) (intW op k a b K)
  | .data .str a, .data .str b => strW op a b K
  | .data t a, .data u b => match Ty.eq? u t with
    | some ⟨h⟩ => bif ok ty t then (match op with
      | .eql => K (.data .bool (t.beq a (castD h b)))
      | .neq => K (.data .bool (!t.beq a (castD h b)))
      | _ => False) else False
    | none => False
  | _, _ => False

/-- The cells of a datum. -/
def spread : (t : Ty) → t.D → List AV
  | .unit, _ => []
  | .pair a b, x => spread a x.1 ++ spread b x.2
  | t, x => [.data t x]

def setAt {α : Type} : List α → Nat → List α → List α
  | l, 0, [] => l
  | [], _, _ => []
  | _ :: l, 0, v :: vs => v :: setAt l 0 vs
  | x :: l, n + 1, vs => x :: setAt l n vs

def spreadZ : (t : Ty) → List AV
  | .unit => []
  | .pair a b => spreadZ a ++ spreadZ b
  | .sl _ => [.cst (.slice none 0 0)]
  | t => [.data t t.zero]

def ownsOf : List AV → List Nat
  | [] => []
  | .own i _ :: l => i :: ownsOf l
  | _ :: l => ownsOf l

def freezeAll (s : St) : List Nat → St
  | [] => s
  | i :: l => freezeAll (s.freeze i) l

/-! What is still reached. -/
mutual
def AV.refs : AV → List Nat
  | .ptr i _ => [i]
  | .elt i _ _ => [i]
  | .own i _ => [i]
  | .fn _ caps => AV.refsAll caps
  | .tup vs => AV.refsAll vs
  | .ref v => v.refs
  | _ => []
def AV.refsAll : List AV → List Nat
  | [] => []
  | v :: l => v.refs ++ AV.refsAll l
end

def memN (i : Nat) : List Nat → Bool
  | [] => false
  | j :: l => bif Nat.beq i j then true else memN i l

def uniq : List Nat → List Nat → List Nat
  | acc, [] => acc
  | acc, i :: l => bif memN i acc then uniq acc l else uniq (acc ++ [i]) l

def envRefs : Env → List Nat
  | [] => []
  | (_, v) :: l => v.refs ++ envRefs l

def hpRefs (hp : Hp) : List Nat → List Nat
  | [] => []
  | i :: l => match lookup hp i with
    | some (.box cs) => AV.refsAll cs ++ hpRefs hp l
    | _ => hpRefs hp l

def pickHp (hp : Hp) : List Nat → Hp
  | [] => []
  | i :: l => match lookup hp i with
    | some b => (i, b) :: pickHp hp l
    | none => pickHp hp l

def keepEnv (e : Env) : List Nat → Env
  | [] => []
  | i :: l => match lookup e i with
    | some v => (i, v) :: keepEnv e l
    | none => keepEnv e l

/-- Reads some cells of a box as a datum. -/
def cellD (t : Ty) : AV → Option t.D
  | .data u x => match Ty.eq? u t with
    | some ⟨h⟩ => some (castD h x)
    | none => none
  | .cst v => bif t.agg then none else constD t v
  | _ => none

def gather1 (t : Ty) (l : List AV) : Option (t.D × List AV) := match l with
  | v :: l' => (match cellD t v with
    | some x => some (x, l')
    | none => none)
  | [] => none

def gather : (t : Ty) → List AV → Option (t.D × List AV)
  | .unit, l => some ((), l)
  | .pair a b, l => match gather a l with
    | some (x, l') => (match gather b l' with
      | some (y, l'') => some ((x, y), l'')
      | none => none)
    | none => none
  | .int k, l => gather1 (.int k) l
  | .bool, l => gather1 .bool l
  | .str, l => gather1 .str l
  | .sl t, l => gather1 (.sl t) l

/-- The name of a box that is handed over by pointer. -/
def base : Nat := 1000000

/-- What a piece of code leaves is told by what is wanted later. -/
inductive Dir where
  | keep (slots : List Nat)
  | mine (at_ id : Nat) (t : Ty)
  | freeze (id : Nat)
  | fixBox (id : Nat)
  | fixRow (id : Nat) (t : Ty)

def gc (s : St) : St :=
  let r1 := uniq [] (envRefs s.env)
  let r2 := uniq r1 (hpRefs s.hp r1)
  { s with hp := pickHp s.hp (uniq r2 (hpRefs s.hp r2)) }

def St.subBox (s : St) (id : Nat) (W : AV) : St := { env := mapEnv (AV.sub id W) s.env, hp := mapHp (AV.subAll id W) (erase s.hp id) }

def Dir.run (s : St) : Dir → St
  | .freeze id => s.freeze id
  | .fixBox id => (match lookup s.hp id with
    | some (.box [v]) => bif v.free && !Nat.beq id base then s.subBox id (.ref v) else s
    | _ => s)
  | .fixRow id t => (match lookup s.hp id with
    | some (.box cs) => (match gather t cs with
      | some (x, []) => bif !Nat.beq id base then s.subBox id (.adr t x) else s
      | _ => s)
    | _ => s)
  | .keep slots => gc { s with env := keepEnv s.env slots }
  | .mine j id t => match slot s.env j with
    | .cst (.slice none 0 0) => bif Nat.beq id base then s else { s.create id (.arr t []) with env := putEnv (s.create id (.arr t [])).env j (.own id none) }
    | _ => s

def norm (s : St) : List Dir → St
  | [] => s
  | d :: l => norm (d.run s) l

/-! Operations. -/
abbrev Inl := List AV → St → (AV → St → Prop) → Prop
structure Ctx where
  tab : Tab
  cmp : TypeId → Bool
  cons : Cons
  n : Nat
  inl : List (Nat × Inl)
  off : Nat

def lim : Nat := 140737488355328

/-- Values for the parts of a slice, one after the other. -/
def giveAll (t : Ty) : Nat → List (Nat × Operand) → St → Option (List t.D × St)
  | _, [], s => some ([], s)
  | n, (i, x) :: l, s => bif Nat.beq i n then (match s.give t (eval s.env x) with
    | some (y, s1) => match giveAll t (n + 1) l s1 with
      | some (ys, s2) => some (y :: ys, s2)
      | none => none
    | none => none) else none

def fieldOf (fs : List (Nat × TypeId × String)) (i : Nat) : Option (Nat × TypeId × String) := match fs, i with
  | [], _ => none
  | f :: _, 0 => some f
  | _ :: l, i + 1 => fieldOf l i

def buildAll (E : Tab) (fs : List (Nat × TypeId × String)) (t : Ty) : t.D → List (Nat × Operand) → St → Option (t.D × St)
  | x, [], s => some (x, s)
  | x, (i, o) :: l, s => match fieldOf fs i with
    | some (off, ft, _) => match E.ty ft with
      | some u => match s.give u (eval s.env o) with
        | some (y, s1) => match upd t x off u y with
          | some x' => buildAll E fs t x' l s1
          | none => none
        | none => none
      | none => none
    | none => none

def intOfAV : AV → Option Int
  | .data (.int _) n => some n
  | _ => none

def optW {α : Type} (x : Option α) (K : α → Prop) : Prop := match x with
  | some y => K y
  | none => False

def evalO (e : Env) : Option Operand → Option AV
  | some x => some (eval e x)
  | none => none

/-- The bounds of a cut: lower, upper, and the cap, if one is given. -/
def cutW (len : Int) (lo hi mx : Option AV) (K : Int → Int → Prop) : Prop :=
  optW (match lo with | some v => intOfAV v | none => some 0) fun l =>
  optW (match hi with | some v => intOfAV v | none => some len) fun h =>
  optW (match mx with | some v => intOfAV v | none => some h) fun m =>
  0 ≤ l ∧ l ≤ h ∧ h ≤ len ∧ m = h ∧ K l h

def plainCell : AV → Bool
  | .data _ _ => true
  | .cst _ => true
  | _ => false

def allPlain : List AV → Bool
  | [] => true
  | v :: l => plainCell v && allPlain l

/-- What a function value carries along, as it is handed over: arrays of the call's own are lent. -/
def capsLent (hp : Hp) : List AV → Option (List AV)
  | [] => some []
  | v :: l => match capsLent hp l with
    | some l' => (match v with
      | .own id cut => (match lookup hp id with
        | some (.arr t xs) => bif Nat.blt 0 t.size then some (.brw t (cutList xs cut) :: l') else none
        | _ => none)
      | v => bif v.free then some (v :: l') else none)
    | none => none

/-- An argument as it is handed over. -/
def passOne (p : Par) (v : AV) (s : St) : Option (AV × St) := match p with
  | .dat t => (match s.give t v with
    | some (x, s') => some (.data t x, s')
    | none => none)
  | .lent t => bif Nat.blt 0 t.size then (match v.as s.hp (.sl t) with
    | some xs => some (.brw t xs, s)
    | none => none) else none
  | .any => match v with
    | .own id cut => (match lookup s.hp id with
      | some (.arr t _) => (match s.give (.sl t) (.own id cut) with
        | some (x, s') => some (.data (.sl t) x, s')
        | none => none)
      | _ => none)
    | .fn f caps => (match capsLent s.hp caps with
      | some l => some (.fn f l, s)
      | none => none)
    | .ptr i o => some (.ptr i o, s)
    | v => bif v.free then some (v, s) else none

def passAll : List Par → List AV → St → Option (List AV × St)
  | [], [], s => some ([], s)
  | p :: ps, v :: vs, s => match passOne p v s with
    | some (v', s1) => (match passAll ps vs s1 with
      | some (vs', s2) => some (v' :: vs', s2)
      | none => none)
    | none => none
  | _, _, _ => none

def ptrIds : List AV → List Nat
  | [] => []
  | .ptr i _ :: l => i :: ptrIds l
  | _ :: l => ptrIds l

def renArgs : List AV → List AV
  | [] => []
  | .ptr _ o :: l => .ptr base o :: renArgs l
  | v :: l => v :: renArgs l

/-- What a call hands back. -/
def inVal (hp' : Hp) (d : Nat) (r : AV) (s : St) : Option (AV × St) := match r with
  | .own 0 none => (match lookup hp' 0 with
    | some (.arr t xs) => some (.own d none, s.create d (.arr t xs))
    | _ => none)
  | .tup vs => bif allPlain vs then some (.tup vs, s) else none
  | r => bif r.kept then some (r, s) else none

def callW (C : Ctx) (g : FuncId) (args : List AV) (d : Nat) (s : St) (K : AV → St → Prop) : Prop := match lookup C.inl g with
  | some T => T args s K
  | none =>
  optW (lookup C.cons g) fun con =>
  optW (passAll con.par args s) fun p =>
  match uniq [] (ptrIds p.1) with
  | [] => con.run p.1 [] fun r h' => optW (inVal h' d r p.2) fun q => K q.1 q.2
  | [i] => (match lookup p.2.hp i with
    | some (.box cs) => bif allPlain cs && !Nat.beq d i then con.run (renArgs p.1) [(base, .box cs)] (fun r h' => match lookup h' base with
        | some (.box cs') => bif Nat.beq cs'.length cs.length && allPlain cs' then optW (inVal h' d r p.2) fun q => K q.1 (q.2.setBlock i (.box cs')) else False
        | _ => False) else False
    | _ => False)
  | _ => False

def appW (C : Ctx) (ty : TypeId) (b x : AV) (d : Nat) (s : St) (K : AV → St → Prop) : Prop := match lookup C.tab ty with
  | some { td := .sl e t, .. } => (match lookup C.tab e with
    | some ei => optW (x.as s.hp (.sl t)) fun ys => (match b with
      | .cst (.slice none 0 0) => (ys : List t.D).length * ei.bytes ≤ lim ∧ K (.own d none) (s.create d (.arr t ys))
      | .own id cut => (match lookup s.hp id with
        | some (.arr u xs) => (match Ty.eq? u t with
          | some ⟨h⟩ => (match cut with
            | none => ((xs.length + (ys : List t.D).length) * ei.bytes ≤ lim) ∧ K (.own id none) (s.create id (.arr t ((castD (congrArg Ty.sl h) xs : List t.D) ++ (ys : List t.D))))
            | some (lo, hi) => lo = 0 ∧ ((hi.toNat + (ys : List t.D).length) * ei.bytes ≤ lim) ∧ K (.own id none) (s.create id (.arr t ((castD (congrArg Ty.sl h) xs : List t.D).take hi.toNat ++ (ys : List t.D)))))
          | none => False)
        | _ => False)
      | _ => False)
    | none => False)
  | _ => False

def isIntTI (E : Tab) (u : TypeId) : Bool := match lookup E u with
  | some { td := .val (.int _), .. } => true
  | some _ => false
  | none => true

def moveW (C : Ctx) (ty : TypeId) (d : Nat) (v : AV) (s : St) (K : AV → St → Prop) : Prop := match v with
  | .cst v => (match lookup C.tab ty with
    | some { td := .sl _ t, .. } => (match v with
      | .slice none 0 0 => K (.own d none) (s.create d (.arr t []))
      | v => K (.cst v) s)
    | some { td := .st _ t, .. } => optW (constD t v) fun x => K (.data t x) s
    | _ => K (.cst v) s)
  | v => K v s

/-- Does a value fill just one cell? -/
def AV.one (hp : Hp) : AV → Bool
  | .data t _ => !t.agg
  | .cst v => v.oneCell'
  | .adr _ _ => true
  | .ptr i _ => (match lookup hp i with
    | some _ => true
    | none => false)
  | .own i _ => (match lookup hp i with
    | some (.arr _ _) => true
    | _ => false)
  | .fn _ _ => true
  | .brw _ _ => true
  | .ref _ => true
  | _ => false

def loadW (C : Ctx) (ty : TypeId) (a : AV) (s : St) (K : AV → St → Prop) : Prop := optW (C.tab.ty ty) fun u => match a with
  | .adr t x => (match Ty.eq? t u with
    | some ⟨h⟩ => K (.data u (castD h x)) s
    | none => False)
  | .badr t x => (match Ty.eq? t u with
    | some ⟨h⟩ => K (.data u (castD h x)) s
    | none => False)
  | .ptr id off => (match lookup s.hp id with
    | some (.box cs) => bif u.agg
        then (match lookup (freezeAll s (ownsOf ((cs.drop off).take u.size))).hp id with
          | some (.box cs1) => optW (gather u (cs1.drop off)) fun x => K (.data u x.1) (freezeAll s (ownsOf ((cs.drop off).take u.size)))
          | _ => False)
        else optW (nthO cs off) fun v => K v s
    | _ => False)
  | .elt id i off => (match lookup s.hp id with
    | some (.arr t xs) => optW (proj t (nth xs i) off u) fun y => K (.data u y) s
    | _ => False)
  | .ref v => bif u.agg then False else K v s
  | _ => False

def storeW (C : Ctx) (ty : TypeId) (a v : AV) (s : St) (K : AV → St → Prop) : Prop := optW (C.tab.ty ty) fun u => match a with
  | .ptr id off => bif u.agg
      then optW (s.give u v) fun y => (match lookup y.2.hp id with
        | some (.box cs) => chk (Nat.ble (off + u.size) cs.length) (K .top (y.2.setBlock id (.box (setAt cs off (spread u y.1)))))
        | _ => False)
      else (match lookup s.hp id with
        | some (.box cs) => bif v.one s.hp then chk (Nat.blt off cs.length) (K .top (s.setBlock id (.box (setAt cs off [v])))) else False
        | _ => False)
  | .elt id i off => optW (s.give u v) fun y => (match lookup y.2.hp id with
    | some (.arr t xs) => optW (upd t (nth xs i) off u y.1) fun z => K .top (y.2.setBlock id (.arr t (xs.set i.toNat z)))
    | _ => False)
  | _ => False

def lenW (C : Ctx) (ty : TypeId) (v : AV) (s : St) (K : AV → St → Prop) : Prop := match lookup C.tab ty with
  | some { td := .val .str, .. } => (match v with
    | .data .str b => K (.data (.int .i64) ((b : ByteArray).size : Int)) s
    | _ => False)
  | some { td := .sl _ _, .. } => (match v with
    | .data (.sl _) xs => K (.data (.int .i64) ((xs : List _).length : Int)) s
    | .brw _ xs => K (.data (.int .i64) (xs.length : Int)) s
    | .cst (.slice none 0 0) => K (.data (.int .i64) (0 : Int)) s
    | .own id cut => (match lookup s.hp id with
      | some (.arr _ xs) => (match cut with
        | none => K (.data (.int .i64) (xs.length : Int)) s
        | some (lo, hi) => K (.data (.int .i64) (hi - lo : Int)) s)
      | _ => False)
    | _ => False)
  | _ => False

def sliceW (C : Ctx) (ty : TypeId) (v : AV) (lo hi mx : Option AV) (s : St) (K : AV → St → Prop) : Prop := match lookup C.tab ty with
  | some { td := .val .str, .. } => (match v, mx with
    | .data .str b, none => cutW ((b : ByteArray).size : Int) lo hi none fun l h => K (.data .str ((b : ByteArray).extract l.toNat h.toNat : ByteArray)) s
    | _, _ => False)
  | some { td := .sl _ t', .. } => (match v with
    | .data (.sl t) xs => bif Ty.same t t' then cutW ((xs : List _).length : Int) lo hi mx fun l h => K (.data (.sl t) (cutList xs (some (l, h)))) s else False
    | .brw t xs => bif Ty.same t t' then cutW (xs.length : Int) lo hi mx fun l h => K (.brw t (cutList xs (some (l, h)))) s else False
    | .cst (.slice none 0 0) => cutW 0 lo hi mx fun _ _ => K (.cst (.slice none 0 0)) s
    | .own id cut => (match lookup s.hp id with
      | some (.arr t xs) => bif Ty.same t t' then (match mx with
        | none => (match cut with
          | none => cutW (xs.length : Int) lo hi none fun l h => K (.own id (some (l, h))) s
          | some (a, b) => cutW (b - a) lo hi none fun l h => K (.own id (some (a + l, a + h))) s)
        | some m => optW (s.give (.sl t) (.own id cut)) fun y => cutW ((y.1 : List t.D).length : Int) lo hi (some m) fun l h => K (.data (.sl t) (cutList (y.1 : List t.D) (some (l, h)))) y.2) else False
      | _ => False)
    | _ => False)
  | _ => False

def indexAddrW (C : Ctx) (ty : TypeId) (v i : AV) (s : St) (K : AV → St → Prop) : Prop := match lookup C.tab ty with
  | some { td := .sl _ t', .. } => optW (intOfAV i) fun n => (match v with
    | .data (.sl t) xs => bif Ty.same t t' then 0 ≤ n ∧ n < ((xs : List _).length : Int) ∧ K (.adr t (nth xs n)) s else False
    | .brw t xs => bif Ty.same t t' then 0 ≤ n ∧ n < (xs.length : Int) ∧ K (.badr t (nth xs n)) s else False
    | .own id cut => (match lookup s.hp id with
      | some (.arr t xs) => bif Ty.same t t' then (match cut with
        | none => 0 ≤ n ∧ n < (xs.length : Int) ∧ K (.elt id n 0) s
        | some (lo, hi) => 0 ≤ n ∧ n < hi - lo ∧ K (.elt id (lo + n) 0) s) else False
      | _ => False)
    | _ => False)
  | _ => False

def fieldAddrW (C : Ctx) (st : TypeId) (v : AV) (f : Nat) (s : St) (K : AV → St → Prop) : Prop := match lookup C.tab st with
  | some { td := .st fs _, .. } => optW (fieldOf fs f) fun q => (match v with
    | .adr t y => optW (C.tab.ty q.2.1) fun u => optW (proj t y q.1 u) fun z => K (.adr u z) s
    | .badr t y => optW (C.tab.ty q.2.1) fun u => optW (proj t y q.1 u) fun z => K (.badr u z) s
    | .ptr id o => (match lookup s.hp id with
      | some _ => K (.ptr id (o + q.1)) s
      | none => False)
    | .elt id i o => (match lookup s.hp id with
      | some _ => K (.elt id i (o + q.1)) s
      | none => False)
    | _ => False)
  | _ => False

def fieldW (C : Ctx) (st : TypeId) (v : AV) (f : Nat) (s : St) (K : AV → St → Prop) : Prop := match lookup C.tab st with
  | some { td := .st fs _, .. } => optW (fieldOf fs f) fun q => (match v with
    | .data t y => bif t.agg then optW (C.tab.ty q.2.1) fun u => optW (proj t y q.1 u) fun z => K (.data u z) s else False
    | _ => False)
  | _ => False

/-- The bytes of a string. -/
def byteInts (s : ByteArray) : List Int := s.data.toList.map fun b => (b.toNat : Int)

def convW (C : Ctx) (src dst : TypeId) (v : AV) (s : St) (K : AV → St → Prop) : Prop := match lookup C.tab src, lookup C.tab dst with
  | some { td := .val (.int _), .. }, some { td := .val (.int k), .. } => (match v with
    | .data (.int _) n => K (.data (.int k) (wrapK k n)) s
    | _ => False)
  | some { td := .val .str, .. }, some { td := .sl _ (.int .u8), .. } => (match v with
    | .data .str b => K (.data (.sl (.int .u8)) (byteInts b)) s
    | _ => False)
  | _, _ => False

def boxW (C : Ctx) (e : TypeId) (v : AV) (d : Nat) (s : St) (K : AV → St → Prop) : Prop := optW (C.tab.ty e) fun t => bif t.agg
  then optW (s.give t v) fun y => K (.ptr d 0) (y.2.create d (.box (spread t y.1)))
  else bif v.one s.hp then K (.ptr d 0) (s.create d (.box [AV.kill d v])) else False

def makeW (C : Ctx) (ty : TypeId) (n c : AV) (d : Nat) (s : St) (K : AV → St → Prop) : Prop := match lookup C.tab ty with
  | some { td := .sl e t, .. } => optW (lookup C.tab e) fun ei => optW (intOfAV n) fun a => optW (intOfAV c) fun b =>
      b = a ∧ 0 ≤ a ∧ a * ei.bytes ≤ (lim : Int) ∧ K (.own d none) (s.create d (.arr t (List.replicate a.toNat t.zero)))
  | _ => False

def pickW (c x y : AV) (s : St) (K : AV → St → Prop) : Prop := match c with
  | .data .bool b => (match x, y with
    | .data t p, .data u q => (match Ty.eq? u t with
      | some ⟨h⟩ => K (.data t (bif b then p else castD h q)) s
      | none => False)
    | v, w => bif b then K v s else K w s)
  | _ => False

def mmW (max : Bool) (x y : AV) (s : St) (K : AV → St → Prop) : Prop := match x, y with
  | .data (.int k) a, .data (.int k') b => chk (decide (k = k')) (K (.data (.int k) (if (if max then b > a else b < a) then b else a : Int)) s)
  | _, _ => False

def Ctx.eqOk (C : Ctx) (ty : TypeId) (t : Ty) : Bool := C.cmp ty && (match C.tab.ty ty with
  | some u => Ty.same u t
  | none => false)

def okMax : Option Operand → Option Operand → Bool
  | none, some _ => false
  | _, _ => true

def opW (C : Ctx) (o : Oper) (s : St) (K : AV → St → Prop) : Prop :=
  let d := Nat.add (o.dst.getD 0) C.off
  let ev := eval s.env
  match o.op with
  | .move x => moveW C o.type d (ev x) s K
  | .assign x => moveW C o.type d (ev x) s K
  | .pick c a b => pickW (ev c) (ev a) (ev b) s K
  | .alloc e => optW (C.tab.ty e) fun t => K (.ptr d 0) (s.create d (.box (spreadZ t)))
  | .box e x => boxW C e (ev x) d s K
  | .build ty parts => (match lookup C.tab ty with
    | some { td := .st fs t, .. } => optW (buildAll C.tab fs t t.zero parts.toList s) fun y => K (.data t y.1) y.2
    | _ => False)
  | .buildSlice ty len parts => (match lookup C.tab ty with
    | some { td := .sl _ t, .. } => bif Nat.beq len parts.toList.length && Nat.ble (len * t.size) 16777216 then
        optW (giveAll t 0 parts.toList s) fun y => K (.own d none) (y.2.create d (.arr t y.1)) else False
    | _ => False)
  | .load ty a => loadW C ty (ev a) s K
  | .store ty a x => storeW C ty (ev a) (ev x) s K
  | .nilCheck x => (match ev x with
    | .adr t y => K (.adr t y) s
    | .badr t y => K (.badr t y) s
    | .ptr i o => (match lookup s.hp i with
      | some _ => K (.ptr i o) s
      | none => False)
    | .elt i j o => (match lookup s.hp i with
      | some _ => K (.elt i j o) s
      | none => False)
    | .fn f c => K (.fn f c) s
    | .ref v => K (.ref v) s
    | _ => False)
  | .binOp op ty x y _ => binW C.eqOk op ty (ev x) (ev y) fun v => K v s
  | .unOp op _ x => (match op, ev x with
    | .neg, .data (.int k) n => K (.data (.int k) (wrapK k (0 - n))) s
    | .not, .data .bool b => K (.data .bool (!b)) s
    | _, _ => False)
  | .convert src dst x => convW C src dst (ev x) s K
  | .makeFunc fn first caps => (match fn, first.toList with
    | .func f, [] => K (.fn f (caps.toList.map ev)) s
    | _, _ => False)
  | .makeSlice ty n c => makeW C ty (ev n) (ev c) d s K
  | .slice ty x lo hi mx => bif okMax hi mx then sliceW C ty (ev x) (evalO s.env lo) (evalO s.env hi) (evalO s.env mx) s K else False
  | .fieldAddr st x f => fieldAddrW C st (ev x) f s K
  | .field st x f => fieldW C st (ev x) f s K
  | .indexAddr ty x i => indexAddrW C ty (ev x) (ev i) s K
  | .index ty x i => (match lookup C.tab ty with
    | some { td := .val .str, .. } => optW (intOfAV (ev i)) fun n => (match ev x with
      | .data .str b => 0 ≤ n ∧ n < ((b : ByteArray).size : Int) ∧ K (.data (.int .u8) (((b : ByteArray).get! n.toNat).toNat : Int)) s
      | _ => False)
    | _ => False)
  | .extract x i => (match ev x with
    | .tup vs => optW (nthO vs i) fun v => K v s
    | _ => False)
  | .call c => (match c.callee with
    | .value f => (match ev f with
      | .fn g caps => callW C g (c.args.toList.map ev ++ caps) d s K
      | _ => False)
    | .builtin b => (match b, c.args.toList, c.argTypes.toList with
      | .len, [x], [t] => lenW C t (ev x) s K
      | .append, [x, y], [t, u] => bif isIntTI C.tab u then False else appW C t (ev x) (ev y) d s K
      | .min, [x, y], _ => mmW false (ev x) (ev y) s K
      | .max, [x, y], _ => mmW true (ev x) (ev y) s K
      | _, _, _ => False)
    | _ => False)
  | _ => False

def dstOf (ops : List Oper) (j : Nat) : Option Nat := match nthO ops j with
  | some o => o.dst
  | none => none

/-- The operations of a region, in the text's order. -/
def regW (C : Ctx) (all : List Oper) : List Oper → St → (St → Prop) → Prop
  | [], s, K => K s
  | o :: l, s, K => bif Nat.beq (Nat.add (o.dst.getD 0) C.off) base then False else match o.guard with
    | none => opW C o s fun v s1 => regW C all l (s1.put C.n o.dst v) K
    | some (j, want) => match dstOf all j with
      | some g => match slot s.env g with
        | .data .bool b => bif (b == want)
          then opW C o (s.put C.n (some g) (.data .bool want)) fun v s1 => regW C all l (s1.put C.n o.dst v) K
          else regW C all l ((s.put C.n (some g) (.data .bool (!want))).put C.n o.dst (.cst (.tuple #[]))) K
        | .cst (.tuple _) => regW C all l (s.put C.n o.dst (.cst (.tuple #[]))) K
        | _ => False
      | none => False

inductive X where
  | normal
  | exit (id : Nat)
  | ret

/-! Regions whose operations may be done in several orders. -/

/-- Operations that only look. -/
def quietOp (o : Oper) : Bool := match o.op with
  | .move _ | .assign _ | .pick .. | .load .. | .nilCheck _ | .binOp .. | .unOp .. | .fieldAddr .. | .field .. | .indexAddr .. | .index .. | .extract .. | .makeFunc .. | .slice .. | .build .. => true
  | .call c => (match c.callee with
    | .builtin b => (match b with
      | .len | .min | .max => true
      | _ => false)
    | _ => false)
  | _ => false

/-- Operations that write memory that was there. -/
def writerOp (o : Oper) : Bool := match o.op with
  | .store .. => true
  | .call c => (match c.callee with
    | .builtin .append => true
    | _ => false)
  | _ => false

def edgeMask : List Edge → Nat
  | [] => 0
  | e :: l => bif Region.binds .any e then Nat.lor (Nat.shiftLeft 1 e.on) (edgeMask l) else edgeMask l

def bit (m j : Nat) : Bool := Nat.beq (Nat.land (Nat.shiftRight m j) 1) 1
def within (m n : Nat) : Bool := Nat.beq (Nat.land m n) m

def readyD (done : Nat) : Nat → List Oper → List Nat
  | _, [] => []
  | j, o :: l => bif !bit done j && within (edgeMask o.after.toList) done then j :: readyD done (j + 1) l else readyD done (j + 1) l

def firstQuiet (ops : List Oper) : List Nat → Option Nat
  | [] => none
  | i :: l => match nthO ops i with
    | some o => bif quietOp o then some i else firstQuiet ops l
    | none => firstQuiet ops l

def tmpsOf : List Operand → List Nat
  | [] => []
  | .tmp t :: l => t :: tmpsOf l
  | _ :: l => tmpsOf l

def looksD (ops : List Oper) (o : Oper) : List Nat := match o.guard with
  | some (j, _) => (match dstOf ops j with
    | some d => d :: tmpsOf o.op.operands.toList
    | none => tmpsOf o.op.operands.toList)
  | none => tmpsOf o.op.operands.toList

/-- Where one writes what the other one looks at, or writes, one of the two waits for the other one. -/
def apartD (ops : List Oper) (j : Nat) (oj : Oper) : Nat → List Oper → Bool
  | _, [] => true
  | i, oi :: l => (Nat.beq i j || (match oi.dst with
      | some d => (bif memN d (looksD ops oj) || (match oj.dst with
        | some e => Nat.beq e d
        | none => false) then bit (edgeMask oj.after.toList) i || bit (edgeMask oi.after.toList) j else true)
      | none => true)) && apartD ops j oj (i + 1) l

def apartAll (ops : List Oper) : Nat → List Oper → Bool
  | _, [] => true
  | j, oj :: l => apartD ops j oj 0 ops && apartAll ops (j + 1) l

/-- What an operation waits for, and what this waits for, and so on. -/
def ancOf (T : List (Nat × Nat)) : List Edge → Nat
  | [] => 0
  | e :: l => bif Region.binds .any e then Nat.lor (Nat.shiftLeft 1 e.on) (Nat.lor (match lookup T e.on with
      | some m => m
      | none => 0) (ancOf T l)) else ancOf T l

def ancT : List (Nat × Nat) → Nat → List Oper → List (Nat × Nat)
  | T, _, [] => T
  | T, j, o :: l => ancT ((j, ancOf T o.after.toList) :: T) (j + 1) l

def ancAt (T : List (Nat × Nat)) (j : Nat) : Nat := match lookup T j with
  | some m => m
  | none => 0

def writerD (T : List (Nat × Nat)) (j : Nat) : Nat → List Oper → Bool
  | _, [] => true
  | i, oi :: l => (Nat.beq i j || !quietOp oi || bit (ancAt T j) i || bit (ancAt T i) j) && writerD T j (i + 1) l

def writersD (T : List (Nat × Nat)) (ops : List Oper) : Nat → List Oper → Bool
  | _, [] => true
  | j, oj :: l => (!writerOp oj || writerD T j 0 ops) && writersD T ops (j + 1) l

def noSel : List Oper → Bool
  | [] => true
  | o :: l => (match o.op with
    | .select .. => false
    | _ => true) && noSel l

/-- A call that is handed no box. -/
def lentCall (C : Ctx) (o : Oper) (s : St) : Bool := match o.op with
  | .call c => (match c.callee with
    | .value f => (match eval s.env f with
      | .fn g caps => (match lookup C.inl g with
        | some _ => false
        | none => match lookup C.cons g with
        | some con => (match passAll con.par (c.args.toList.map (eval s.env) ++ caps) s with
          | some p => (match ptrIds p.1 with
            | [] => true
            | _ => false)
          | none => false)
        | none => false)
      | _ => false)
    | _ => true)
  | _ => true

def stepD (C : Ctx) (ops : List Oper) (o : Oper) (s : St) (K : St → Prop) : Prop := bif Nat.beq (Nat.add (o.dst.getD 0) C.off) base then False else match o.guard with
  | none => bif lentCall C o s then opW C o s fun v s1 => K (s1.put C.n o.dst v) else False
  | some (j, want) => match dstOf ops j with
    | some g => match slot s.env g with
      | .data .bool b => bif (b == want)
        then (bif lentCall C o (s.put C.n (some g) (.data .bool want)) then opW C o (s.put C.n (some g) (.data .bool want)) fun v s1 => K (s1.put C.n o.dst v) else False)
        else K ((s.put C.n (some g) (.data .bool (!want))).put C.n o.dst (.cst (.tuple #[])))
      | .cst (.tuple _) => K (s.put C.n o.dst (.cst (.tuple #[])))
      | _ => False
    | none => False

def andAll (f : Nat → Prop) : List Nat → Prop
  | [] => True
  | [i] => f i
  | i :: l => f i ∧ andAll f l

def stepAt (C : Ctx) (ops : List Oper) (i : Nat) (s : St) (K : St → Prop) : Prop := match nthO ops i with
  | some o => stepD C ops o s K
  | none => False

def drawW (C : Ctx) (ops : List Oper) : Nat → Nat → St → (St → Prop) → Prop
  | 0, done, s, K => (match readyD done 0 ops with
    | [] => K s
    | _ => False)
  | f + 1, done, s, K => (match readyD done 0 ops with
    | [] => K s
    | l => (match firstQuiet ops l with
      | some i => stepAt C ops i s fun s' => drawW C ops f (Nat.lor done (Nat.shiftLeft 1 i)) s' K
      | none => andAll (fun i => stepAt C ops i s fun s' => drawW C ops f (Nat.lor done (Nat.shiftLeft 1 i)) s' K) l))

def regionOk (ops : List Oper) : Bool := noSel ops && apartAll ops 0 ops && writersD (ancT [] 0 ops) ops 0 ops

/-- The box that was handed over, as it is now. -/
def ioHp (io : Bool) (s : St) : Option Hp := bif io then (match lookup s.hp base with
  | some (.box cs) => bif allPlain cs then some [(base, .box cs)] else none
  | _ => none) else some []

/-- A result, out of its slot or out of its cell. -/
def resAt (E : Tab) (s : St) : ResultVar → Option (AV × St)
  | .tmp t => some (slot s.env t, s)
  | .cell p ty => (match slot s.env p with
    | .ptr id 0 => (match E.ty ty with
      | some u => (match lookup s.hp id with
        | some (.box cs) => bif u.agg then (match lookup (freezeAll s (ownsOf (cs.take u.size))).hp id with
            | some (.box cs1) => (match gather u cs1 with
              | some x => some (.data u x.1, freezeAll s (ownsOf (cs.take u.size)))
              | none => none)
            | _ => none)
          else (match nthO cs 0 with
            | some v => some (v, s)
            | none => none)
        | _ => none)
      | none => none)
    | _ => none)

/-- Several results: each as a datum. -/
def retAll (E : Tab) (e : List ResultVar) : St → Option (List AV × St) := match e with
  | [] => fun s => some ([], s)
  | r :: l => fun s => match resAt E s r with
    | some (v, s0) => (match v with
      | .own id cut => (match lookup s0.hp id with
        | some (.arr ty _) => (match s0.give (.sl ty) (.own id cut) with
          | some (x, s1) => (match retAll E l s1 with
            | some (vs, s2) => some (.data (.sl ty) x :: vs, s2)
            | none => none)
          | none => none)
        | _ => none)
      | .data ty x => (match retAll E l s0 with
        | some (vs, s2) => some (.data ty x :: vs, s2)
        | none => none)
      | .cst c => (match retAll E l s0 with
        | some (vs, s2) => some (.cst c :: vs, s2)
        | none => none)
      | _ => none)
    | none => none

/-- What a function hands back. -/
def retW (E : Tab) (rs : List ResultVar) (io : Bool) (s : St) (K : AV → Hp → Prop) : Prop := match rs with
  | [r] => optW (resAt E s r) fun p => (match p.1 with
    | .own id cut => (match lookup p.2.hp id with
      | some (.arr ty xs) => optW (ioHp io p.2) fun h => (match cut with
        | none => K (.own 0 none) ((0, .arr ty xs) :: h)
        | some (lo, hi) => lo = 0 ∧ K (.own 0 none) ((0, .arr ty (xs.take hi.toNat)) :: h))
      | _ => False)
    | v => bif v.kept then optW (ioHp io p.2) (fun h => K v h) else False)
  | rs => optW (retAll E rs s) fun p => optW (ioHp io p.2) fun h => K (.tup p.1) h

/-- What is known of the loops of a function: by the block around it, and what is left to do. -/
abbrev Loops := Nat → Nat → St → (X → St → Prop) → Prop

def inBlk (id : Nat) (K : X → St → Prop) : X → St → Prop
  | .exit i, s => bif Nat.beq i id then K .normal s else K (.exit i) s
  | .normal, s => K .normal s
  | .ret, s => K .ret s

def thenW (B : St → Prop) (K : X → St → Prop) : X → St → Prop
  | .normal, s => B s
  | .exit i, s => K (.exit i) s
  | .ret, s => K .ret s

def awp (C : Ctx) (L : Loops) (ann : Nat → List Dir) : Code → St → (X → St → Prop) → Prop
  | .skip, s, K => K .normal s
  | .region id ops draw, s, K => bif draw
    then (bif regionOk ops.toList then drawW C ops.toList ops.toList.length 0 s fun s' => K .normal (norm s' (ann id)) else False)
    else regW C ops.toList ops.toList s fun s' => K .normal (norm s' (ann id))
  | .seq a b, s, K => awp C L ann a s (thenW (fun s' => awp C L ann b s' K) K)
  | .cond c a b, s, K => match eval s.env c with
    | .data .bool t => bif t then awp C L ann a s K else awp C L ann b s K
    | _ => False
  | .block id (.loop _), s, K => ∃ m, L id m s (inBlk id K)
  | .block id b, s, K => awp C L ann b s (inBlk id K)
  | .exit id, s, K => K (.exit id) s
  | .ret, s, K => K .ret s
  | _, _, _ => False

/-- The loops of a piece of code. -/
def loopsOf : Code → List (Nat × Code)
  | .seq a b => loopsOf a ++ loopsOf b
  | .cond _ a b => loopsOf a ++ loopsOf b
  | .block id (.loop b) => (id, b) :: loopsOf b
  | .block _ b => loopsOf b
  | _ => []

/-- A loop's own exit: what is not wanted behind it is forgotten. -/
def exitN (id : Nat) (ds : List Dir) (K : X → St → Prop) : X → St → Prop
  | .exit i, s => bif Nat.beq i id then K (.exit i) (norm s ds) else K (.exit i) s
  | .normal, s => K .normal s
  | .ret, s => K .ret s

/-- The annotation of what is behind a loop. -/
def behind (id : Nat) : Nat := Nat.add id 100000

def LoopOk (C : Ctx) (L : Loops) (ann : Nat → List Dir) (id : Nat) (b : Code) : Prop :=
  ∀ m s K, L id m s K → awp C L ann b s (thenW (fun s' => ∃ m', m' < m ∧ L id m' s' K) (exitN id (ann (behind id)) K))

end Go.AE
