/- An abstract evaluator over the translated code: definitions. Typed data stand for what memory holds; 'awp' is what has to be shown of a piece of code. -/
import Derived.RowKit
import Derived.Calls
namespace Go.AE
open Go Go.RowKit
inductive Ty where
 | int (k:IntKind) | bool | str | unit
 | sl (t:Ty)
 | pair (a b:Ty)
abbrev Ty.D:Ty->Type
 | .int _=>Int
 | .bool=>Bool
 | .str=>ByteArray
 | .unit=>Unit
 | .sl t=>List t.D
 | .pair a b=>a.D×b.D
def Ty.size:Ty->Nat
 | .unit=>0
 | .pair a b=>a.size+b.size
 | _=>1
def Ty.agg:Ty->Bool
 | .unit | .pair ..=>true
 | _=>false
def Ty.zero:(t:Ty)->t.D
 | .int _=>(0:Int)
 | .bool=>false
 | .str=>(⟨#[]⟩:ByteArray)
 | .unit=>()
 | .sl _=>[]
 | .pair a b=>(a.zero,b.zero)
def Ty.eq?:(t u:Ty)->Option (PLift (t=u))
 | .int j,.int k=>if h:j=k then some ⟨by rw[h]⟩ else none
 | .bool,.bool=>some ⟨rfl⟩
 | .str,.str=>some ⟨rfl⟩
 | .unit,.unit=>some ⟨rfl⟩
 | .sl t,.sl u=>match Ty.eq? t u with
  | some ⟨h⟩=>some ⟨by rw[h]⟩
  | none=>none
 | .pair a b,.pair c d=>match Ty.eq? a c,Ty.eq? b d with
  | some ⟨h⟩,some ⟨g⟩=>some ⟨by rw[h,g]⟩
  | _,_=>none
 | _,_=>none
def Ty.same (t u:Ty):Bool:=match Ty.eq? t u with
 | some _=>true
 | none=>false
def dL {t u:Ty} (h:t=u) (x:t.D):u.D:=h▸x
def Ty.beq:(t:Ty)->t.D->t.D->Bool
 | .int _,x,y=>decide ((x:Int)=y)
 | .bool,x,y=>(x:Bool)==y
 | .str,x,y=>decide ((x:ByteArray)=y)
 | .unit,_,_=>true
 | .sl _,_,_=>false
 | .pair a b,x,y=>a.beq x.1 y.1&&b.beq x.2 y.2
def Ty.flat:Ty->Bool
 | .sl _=>false
 | .pair a b=>a.flat&&b.flat
 | _=>true
inductive AV where
 | top
 | cst (v:Value)
 | data (t:Ty) (x:t.D)
 | adr (t:Ty) (x:t.D)
 | brw (t:Ty) (xs:List t.D)
 | badr (t:Ty) (x:t.D)
 | ptr (id off:Nat)
 | elt (id:Nat) (i:Int) (off:Nat)
 | own (id:Nat) (cut:Option (Int×Int))
 | clp (id:Nat) (hi:Int)
 | agg (t:Ty) (vs:List AV)
 | pth (id:Nat) (i:Int) (off:Nat) (t:Ty)
 | fn (f:FuncId) (caps:List AV)
 | tup (vs:List AV)
 | ref (v:AV)
 | mp (id:Nat)
inductive Dp where
 | sh
 | dp
 | ho (i:Int) (off:Nat)
def Dp.qK:Dp->Bool
 | .dp=>true
 | _=>false
def Dp.Ah:Dp->Bool
 | .sh=>true
 | _=>false
def Dp.whole:Dp->Bool
 | .ho _ _=>false
 | _=>true
def Dp.of (b:Bool):Dp:=match b with
 | true=>.dp
 | false=>.sh
theorem Dp.Is {d:Dp} (h:d.qK=false) (hw:d.whole=true):d=.sh:=by
 cases d with
 | sh=>rfl
 | dp=>cases h
 | ho=>cases hw
theorem Dp.FX {d:Dp} (h:d.qK=true):d=.dp:=by
 cases d with
 | dp=>rfl
 | sh=>cases h
 | ho=>cases h
theorem mj {α:Type} {b:Bool} {x y:α} (h:(bif b then some x else none)=some y):b=true/\x=y:=by
 cases b with
 | true=>exact⟨rfl,Option.some.inj h⟩
 | false=>cases h
def Dp.same:Dp->Dp->Bool
 | .sh,.sh=>true
 | .dp,.dp=>true
 | _,_=>false
theorem Dp.kB:∀{a b:Dp},Dp.same a b=true->a=b
 | .sh,.sh,_=>rfl
 | .dp,.dp,_=>rfl
 | .sh,.dp,h=>by cases h
 | .dp,.sh,h=>by cases h
 | .ho _ _,.sh,h=>by cases h
 | .ho _ _,.dp,h=>by cases h
 | .ho _ _,.ho _ _,h=>by cases h
 | .sh,.ho _ _,h=>by cases h
 | .dp,.ho _ _,h=>by cases h
inductive Block where
 | box (cs:List AV)
 | arr (d:Dp) (t:Ty) (xs:List t.D)
 | map (k:IntKind) (u:Ty) (xs:List (Int×u.D))
abbrev Env:=List (Nat×AV)
abbrev Hp:=List (Nat×Block)
structure St where
 env:Env
 hp:Hp
def lookup {α:Type}:List (Nat×α)->Nat->Option α
 | [],_=>none
 | (j,x)::l,i=>bif Nat.beq j i then some x else lookup l i
def oe {α:Type}:List α->Nat->Option α
 | [],_=>none
 | x::_,0=>some x
 | _::l,i+1=>oe l i
def base:Nat:=1000000
def bL:Nat:=1000000
def slot (e:Env) (i:Nat):AV:=bif Nat.blt i bL then (match lookup e i with
 | some v=>v
 | none=>.top) else .top
inductive TD where
 | val (t:Ty)
 | sl (e:TypeId) (t:Ty)
 | st (fs:List (Nat×TypeId×String)) (t:Ty)
 | ptr (e:TypeId)
 | mp (k:IntKind) (e:TypeId) (t:Ty)
 | other
structure TI where
 td:TD
 size:Nat
 bytes:Nat
abbrev Tab:=List (Nat×TI)
def TD.ty:TD->Option Ty
 | .val t=>some t
 | .sl _ t=>some (.sl t)
 | .st _ t=>some t
 | _=>none
def Tab.ty (E:Tab) (t:TypeId):Option Ty:=match lookup E t with
 | some i=>i.td.ty
 | none=>none
def Gx:Value->AV
 | .int k n=>.data (.int k) n
 | .bool b=>.data .bool b
 | .string s=>.data .str s
 | v=>.cst v
def eval (e:Env):Operand->AV
 | .tmp t=>slot e t
 | .const v=>Gx v
 | .func f=>.fn f []
 | .global _=>.top
def nth {t:Ty} (xs:List t.D) (i:Int):t.D:=xs.getD i.toNat t.zero
def proj:(t:Ty)->t.D->Nat->(u:Ty)->Option u.D
 | .pair a b,x,off,u=>
  match bif Nat.beq off 0 then Ty.eq? (.pair a b) u else none with
  | some ⟨h⟩=>some (dL h x)
  | none=>bif Nat.blt off a.size then proj a x.1 off u else proj b x.2 (off-a.size) u
 | t,x,off,u=>match bif Nat.beq off 0 then Ty.eq? t u else none with
  | some ⟨h⟩=>some (dL h x)
  | none=>none
def upd:(t:Ty)->t.D->Nat->(u:Ty)->u.D->Option t.D
 | .pair a b,x,off,u,y=>
  match bif Nat.beq off 0 then Ty.eq? u (.pair a b) else none with
  | some ⟨h⟩=>some (dL h y)
  | none=>bif Nat.blt off a.size then (match upd a x.1 off u y with | some z=>some (z,x.2) | none=>none)
   else (match upd b x.2 (off-a.size) u y with | some z=>some (x.1,z) | none=>none)
 | t,_,off,u,y=>match bif Nat.beq off 0 then Ty.eq? u t else none with
  | some ⟨h⟩=>some (dL h y)
  | none=>none
def fD:(t:Ty)->List Value->Option (t.D×List Value)
 | .int k,l=>(match l with
  | .int k' n::l'=>(match decide (k'=k) with
   | true=>some (n,l')
   | false=>none)
  | _=>none)
 | .bool,l=>(match l with
  | .bool b::l'=>some (b,l')
  | _=>none)
 | .str,l=>(match l with
  | .string s::l'=>some (s,l')
  | _=>none)
 | .unit,l=>some ((),l)
 | .sl _,l=>(match l with
  | .slice none 0 0::l'=>some ([],l')
  | _=>none)
 | .pair a b,l=>match fD a l with
  | some (x,l')=>(match fD b l' with
   | some (y,l'')=>some ((x,y),l'')
   | none=>none)
  | none=>none
def zd (t:Ty) (v:Value):Option t.D:=match v with
 | .agg cs=>bif t.agg then (match fD t cs.toList with
  | some (x,[])=>some x
  | _=>none) else none
 | v=>bif t.agg then none else (match fD t [v] with
  | some (x,[])=>some x
  | _=>none)
def aD {α:Type} (xs:List α):Option (Int×Int)->List α
 | none=>xs
 | some (lo,hi)=>(xs.drop lo.toNat).take (hi-lo).toNat
def AV.as (hp:Hp) (t:Ty):AV->Option t.D
 | .brw u xs=>match Ty.eq? (.sl u) t with
  | some ⟨h⟩=>some (dL h xs)
  | none=>none
 | .data u x=>match Ty.eq? u t with
  | some ⟨h⟩=>some (dL h x)
  | none=>none
 | .cst v=>zd t v
 | .own id cut=>match lookup hp id with
  | some (.arr d u xs)=>match Ty.eq? (.sl u) t with
   | some ⟨h⟩=>bif d.whole then some (dL h (aD xs cut)) else none
   | none=>none
  | _=>none
 | .clp id hi=>match lookup hp id with
  | some (.arr d u xs)=>match Ty.eq? (.sl u) t with
   | some ⟨h⟩=>bif d.whole then some (dL h (aD xs (some (0,hi)))) else none
   | none=>none
  | _=>none
 | _=>none
def AV.deep (hp:Hp):AV->Bool
 | .own id _=>(match lookup hp id with
  | some (.arr d _ _)=>d.qK
  | _=>false)
 | .clp id _=>(match lookup hp id with
  | some (.arr d _ _)=>d.qK
  | _=>false)
 | _=>false
mutual
def AV.kill (id:Nat):AV->AV
 | .ptr i o=>bif Nat.beq i id then .top else .ptr i o
 | .elt i j o=>bif Nat.beq i id then .top else .elt i j o
 | .own i c=>bif Nat.beq i id then .top else .own i c
 | .clp i h=>bif Nat.beq i id then .top else .clp i h
 | .agg t vs=>.agg t (AV.fu id vs)
 | .pth i j o t=>bif Nat.beq i id then .top else .pth i j o t
 | .fn f caps=>.fn f (AV.fu id caps)
 | .tup vs=>.tup (AV.fu id vs)
 | .ref v=>.ref (v.kill id)
 | .mp i=>bif Nat.beq i id then .top else .mp i
 | v=>v
def AV.fu (id:Nat):List AV->List AV
 | []=>[]
 | v::l=>v.kill id::AV.fu id l
end
mutual
def AV.fix (id:Nat) (t:Ty) (xs:List t.D):AV->AV
 | .ptr i o=>.ptr i o
 | .elt i j o=>.elt i j o
 | .own i c=>bif Nat.beq i id then .data (.sl t) (aD xs c) else .own i c
 | .clp i h=>bif Nat.beq i id then .data (.sl t) (aD xs (some (0,h))) else .clp i h
 | .agg u vs=>.agg u (AV.fN id t xs vs)
 | .pth i j o u=>bif Nat.beq i id then .top else .pth i j o u
 | .fn f caps=>.fn f (AV.fN id t xs caps)
 | .tup vs=>.tup (AV.fN id t xs vs)
 | .ref v=>.ref (v.fix id t xs)
 | v=>v
def AV.fN (id:Nat) (t:Ty) (xs:List t.D):List AV->List AV
 | []=>[]
 | v::l=>v.fix id t xs::AV.fN id t xs l
end
mutual
def AV.sub (id:Nat) (W:AV):AV->AV
 | .ptr i o=>bif Nat.beq i id then (bif Nat.beq o 0 then W else .top) else .ptr i o
 | .elt i j o=>bif Nat.beq i id then .top else .elt i j o
 | .own i c=>bif Nat.beq i id then .top else .own i c
 | .clp i h=>bif Nat.beq i id then .top else .clp i h
 | .agg t vs=>.agg t (AV.og id W vs)
 | .pth i j o t=>bif Nat.beq i id then .top else .pth i j o t
 | .fn f caps=>.fn f (AV.og id W caps)
 | .tup vs=>.tup (AV.og id W vs)
 | .ref v=>.ref (AV.sub id W v)
 | .mp i=>bif Nat.beq i id then .top else .mp i
 | v=>v
def AV.og (id:Nat) (W:AV):List AV->List AV
 | []=>[]
 | v::l=>AV.sub id W v::AV.og id W l
end
mutual
def AV.iA (id:Nat):AV->AV
 | .pth i j o t=>bif Nat.beq i id then .top else .pth i j o t
 | .agg t vs=>.agg t (AV.fG id vs)
 | .fn f caps=>.fn f (AV.fG id caps)
 | .tup vs=>.tup (AV.fG id vs)
 | .ref v=>.ref (v.iA id)
 | v=>v
def AV.fG (id:Nat):List AV->List AV
 | []=>[]
 | v::l=>v.iA id::AV.fG id l
end
mutual
def AV.free:AV->Bool
 | .data _ _=>true
 | .cst _=>true
 | .adr _ _=>true
 | .brw _ _=>true
 | .fn _ caps=>AV.oZ caps
 | .ref v=>v.free
 | _=>false
def AV.oZ:List AV->Bool
 | []=>true
 | v::l=>v.free&&AV.oZ l
end
mutual
def AV.kept:AV->Bool
 | .data _ _=>true
 | .cst _=>true
 | .adr _ _=>true
 | .fn _ caps=>AV.hO caps
 | .ref v=>v.kept
 | _=>false
def AV.hO:List AV->Bool
 | []=>true
 | v::l=>v.kept&&AV.hO l
end
def sS (f:AV->AV):Env->Env
 | []=>[]
 | (j,v)::l=>(j,f v)::sS f l
def jN (f:List AV->List AV):Hp->Hp
 | []=>[]
 | (j,.box cs)::l=>(j,.box (f cs))::jN f l
 | (j,.arr d t xs)::l=>(j,.arr d t xs)::jN f l
 | (j,.map k u xs)::l=>(j,.map k u xs)::jN f l
def erase {α:Type}:List (Nat×α)->Nat->List (Nat×α)
 | [],_=>[]
 | (j,x)::l,i=>bif Nat.beq j i then erase l i else (j,x)::erase l i
def St.create (s:St) (id:Nat) (b:Block):St:=
 { env:=sS (AV.kill id) s.env,hp:=(id,b)::jN (AV.fu id) (erase s.hp id) }
def St.setBlock (s:St) (id:Nat) (b:Block):St:={ s with hp:=(id,b)::erase s.hp id }
def St.cB (s:St) (id:Nat) (b:Block):St:={ env:=sS (AV.iA id) s.env,hp:=(id,b)::jN (AV.fG id) (erase s.hp id) }
def St.freeze (s:St) (id:Nat):St:=match lookup s.hp id with
 | some (.arr d t xs)=>bif Nat.beq id base||!d.whole then s else { env:=sS (AV.fix id t xs) s.env,hp:=jN (AV.fN id t xs) (erase s.hp id) }
 | _=>s
def St.tQ (s:St) (t:Ty) (v:AV):Option (t.D×St):=match v.as s.hp t with
 | some x=>match v with
  | .own id _=>bif Nat.beq id base then none else some (x,s.freeze id)
  | .clp id _=>bif Nat.beq id base then none else some (x,s.freeze id)
  | .brw _ _=>none
  | _=>some (x,s)
 | none=>none
def fH (t:Ty) (s:St):List AV->Option (t.D×List AV×St)
 | []=>none
 | v::l=>match s.tQ t v with
  | some (x,s')=>some (x,l,s')
  | none=>none
def fJ:(t:Ty)->List AV->St->Option (t.D×List AV×St)
 | .unit,l,s=>some ((),l,s)
 | .pair a b,l,s=>match fJ a l s with
  | some (x,l',s')=>(match fJ b l' s' with
   | some (y,l'',s'')=>some ((x,y),l'',s'')
   | none=>none)
  | none=>none
 | .int k,l,s=>fH (.int k) s l
 | .bool,l,s=>fH .bool s l
 | .str,l,s=>fH .str s l
 | .sl t,l,s=>fH (.sl t) s l
def St.hY (s:St) (t:Ty) (v:AV):Option (t.D×St):=match v with
 | .agg u vs=>(match Ty.eq? u t with
  | some _=>bif t.agg then (match fJ t vs s with
   | some (x,[],s')=>some (x,s')
   | _=>none) else none
  | none=>none)
 | v=>s.tQ t v
def St.drop (s:St) (id:Nat):St:={ s with hp:=erase s.hp id }
def we (t:Ty) (s:St) (id:Nat) (cut:List t.D->List t.D):Option (List t.D×St):=match lookup s.hp id with
 | some (.arr d u xs)=>match Ty.eq? u t with
  | some ⟨h⟩=>bif (d.qK||d.Ah&&t.flat)&&!Nat.beq id base then some (cut (dL (congrArg Ty.sl h) xs),s.drop id) else none
  | none=>none
 | _=>none
def GP (t:Ty) (s:St):AV->Option (List t.D×St)
 | .own id none=>we t s id (fun xs=>xs)
 | .own id (some (lo,hi))=>bif decide (lo=0) then we t s id (fun xs=>aD xs (some (0,hi))) else none
 | .clp id hi=>we t s id (fun xs=>aD xs (some (0,hi)))
 | .cst (.slice none 0 0)=>some ([],s)
 | _=>none
def Di (t:Ty) (v:AV) (s:St):Option (t.D×St):=match v.as s.hp t with
 | some x=>some (x,s)
 | none=>none
def xV:(t:Ty)->AV->St->Option (t.D×St)
 | .sl t,v,s=>GP t s v
 | .int k,v,s=>Di (.int k) v s
 | .bool,v,s=>Di .bool v s
 | .str,v,s=>Di .str v s
 | _,_,_=>none
def oK (t:Ty) (s:St):List AV->Option (t.D×List AV×St)
 | []=>none
 | v::l=>match xV t v s with
  | some (x,s')=>some (x,l,s')
  | none=>none
def me:(t:Ty)->List AV->St->Option (t.D×List AV×St)
 | .unit,l,s=>some ((),l,s)
 | .pair a b,l,s=>match me a l s with
  | some (x,l',s')=>(match me b l' s' with
   | some (y,l'',s'')=>some ((x,y),l'',s'')
   | none=>none)
  | none=>none
 | .int k,l,s=>oK (.int k) s l
 | .bool,l,s=>oK .bool s l
 | .str,l,s=>oK .str s l
 | .sl t,l,s=>oK (.sl t) s l
def St.hand (s:St) (t:Ty) (v:AV):Option (t.D×St):=match v with
 | .agg u vs=>(match Ty.eq? u t with
  | some _=>bif t.agg then (match me t vs s with
   | some (x,[],s')=>some (x,s')
   | _=>none) else none
  | none=>none)
 | v=>bif t.agg then (bif t.flat then (match v.as s.hp t with
   | some x=>some (x,s)
   | none=>none) else none) else xV t v s
def ir (e:Env) (d:Nat) (v:AV):Env:=(d,v)::erase e d
def St.put (n:Nat) (s:St) (d:Option Nat) (v:AV):St:=match d with
 | some d=>bif Nat.blt d n&&Nat.blt d bL then { s with env:=ir s.env d v } else s
 | none=>s
inductive Par where
 | lent (t:Ty)
 | dat (t:Ty)
 | any
 /-- An array that the call may keep, write and hand back. -/
 | mv
inductive Mode where
 | plain
 /-- Slices are lent for the call: what comes back holds none of them. -/
 | bor
 /-- The first argument is a slice that the call may write. -/
 | io
 /-- As 'bor', but some arrays are handed over for good. -/
 | mv
structure Con where
 par:List Par
 run:List AV->Hp->(AV->Hp->Prop)->Prop
 mode:Mode:=.plain
 /-- Is a box handed to it, that it may write? -/
 wr:Bool:=false
abbrev Cons:=List (Nat×Con)
def vf (k:IntKind) (n:Int):Int:=match k with
 | .i64=>wrap64 n
 | .i32=>wrap32 n
 | .u8=>n % 256
 | k=>k.wrap n
def ni (op:BinOp) (k:IntKind) (x y:Int):Int:=
 let a:=BitVec.ofInt k.bits x
 let b:=BitVec.ofInt k.bits y
 let back (r:BitVec k.bits):Int:=k.wrap r.toNat
 match op with
 | .and=>back (a &&& b)
 | .or=>back (a ||| b)
 | .xor=>back (a ^^^ b)
 | _=>back (a &&& ~~~b)
def chk (b:Bool) (P:Prop):Prop:=bif b then P else False
def DM (op:BinOp) (k:IntKind) (a b:Int) (K:AV->Prop):Prop:=match op with
 | .add=>K (.data (.int k) (vf k (a+b)))
 | .sub=>K (.data (.int k) (vf k (a-b)))
 | .mul=>K (.data (.int k) (vf k (a * b)))
 | .quo=>b≠0/\K (.data (.int k) (vf k (a.tdiv b)))
 | .rem=>b≠0/\K (.data (.int k) (a.tmod b:Int))
 | .eql=>K (.data .bool (decide (a=b)))
 | .neq=>K (.data .bool (!decide (a=b)))
 | .lss=>K (.data .bool (decide (a<b)))
 | .leq=>K (.data .bool (decide (a<=b)))
 | .gtr=>K (.data .bool (decide (b<a)))
 | .geq=>K (.data .bool (decide (b<=a)))
 | .and | .or | .xor | .andNot=>K (.data (.int k) (ni op k a b))
 | .shl=>0<=b/\K (.data (.int k) (vf k (a * 2 ^ (min b.toNat k.bits))))
 | .shr=>0<=b/\K (.data (.int k) (a.fdiv (2 ^ (min b.toNat k.bits)):Int))
def Jg (op:BinOp) (a b:ByteArray) (K:AV->Prop):Prop:=match op with
 | .add=>a.size+b.size<=9223372036854775807/\K (.data .str (a++b:ByteArray))
 | .eql=>K (.data .bool (decide (a=b)))
 | .neq=>K (.data .bool (!decide (a=b)))
 | .lss=>K (.data .bool (Op.bytesLess a.toList b.toList))
 | .leq=>K (.data .bool (Op.bytesLess a.toList b.toList||decide (a=b)))
 | .gtr=>K (.data .bool (!(Op.bytesLess a.toList b.toList||decide (a=b))))
 | .geq=>K (.data .bool (!Op.bytesLess a.toList b.toList))
 | _=>False
def Js (ok:TypeId->Ty->Bool) (op:BinOp) (ty:TypeId) (x y:AV) (K:AV->Prop):Prop:=match x,y with
 | .data (.int k) a,.data (.int k') b=>match op with
  | .shl=>DM op k a b K
  | .shr=>DM op k a b K
  | _=>chk (decide (k=k')) (DM op k a b K)
 | .data .str a,.data .str b=>Jg op a b K
 | .data t a,.data u b=>match Ty.eq? u t with
  | some ⟨h⟩=>bif ok ty t then (match op with
   | .eql=>K (.data .bool (t.beq a (dL h b)))
   | .neq=>K (.data .bool (!t.beq a (dL h b)))
   | _=>False) else False
  | none=>False
 | _,_=>False
def spread:(t:Ty)->t.D->List AV
 | .unit,_=>[]
 | .pair a b,x=>spread a x.1++spread b x.2
 | t,x=>[.data t x]
def setAt {α:Type}:List α->Nat->List α->List α
 | l,0,[]=>l
 | [],_,_=>[]
 | _::l,0,v::vs=>v::setAt l 0 vs
 | x::l,n+1,vs=>x::setAt l n vs
def jG:(t:Ty)->List AV
 | .unit=>[]
 | .pair a b=>jG a++jG b
 | .sl _=>[.cst (.slice none 0 0)]
 | t=>[.data t t.zero]
def qm:List AV->List Nat
 | []=>[]
 | .own i _::l=>i::qm l
 | .clp i _::l=>i::qm l
 | _::l=>qm l
def gn (s:St):List Nat->St
 | []=>s
 | i::l=>gn (s.freeze i) l
mutual
def AV.refs:AV->List Nat
 | .ptr i _=>[i]
 | .elt i _ _=>[i]
 | .own i _=>[i]
 | .clp i _=>[i]
 | .agg _ vs=>AV.aP vs
 | .pth i _ _ _=>[i]
 | .fn _ caps=>AV.aP caps
 | .tup vs=>AV.aP vs
 | .ref v=>v.refs
 | .mp i=>[i]
 | _=>[]
def AV.aP:List AV->List Nat
 | []=>[]
 | v::l=>v.refs++AV.aP l
end
def jJ (i:Nat):List Nat->Bool
 | []=>false
 | j::l=>bif Nat.beq i j then true else jJ i l
def uniq:List Nat->List Nat->List Nat
 | acc,[]=>acc
 | acc,i::l=>bif jJ i acc then uniq acc l else uniq (acc++[i]) l
def El:Env->List Nat
 | []=>[]
 | (_,v)::l=>v.refs++El l
def BV (hp:Hp):List Nat->List Nat
 | []=>[]
 | i::l=>match lookup hp i with
  | some (.box cs)=>AV.aP cs++BV hp l
  | _=>BV hp l
def vp (hp:Hp):List Nat->Hp
 | []=>[]
 | i::l=>match lookup hp i with
  | some b=>(i,b)::vp hp l
  | none=>vp hp l
def pX (e:Env):List Nat->Env
 | []=>[]
 | i::l=>match lookup e i with
  | some v=>(i,v)::pX e l
  | none=>pX e l
def uR (t:Ty):AV->Option t.D
 | .data u x=>match Ty.eq? u t with
  | some ⟨h⟩=>some (dL h x)
  | none=>none
 | .cst v=>bif t.agg then none else zd t v
 | _=>none
def rY (t:Ty) (l:List AV):Option (t.D×List AV):=match l with
 | v::l'=>(match uR t v with
  | some x=>some (x,l')
  | none=>none)
 | []=>none
def kj:(t:Ty)->List AV->Option (t.D×List AV)
 | .unit,l=>some ((),l)
 | .pair a b,l=>match kj a l with
  | some (x,l')=>(match kj b l' with
   | some (y,l'')=>some ((x,y),l'')
   | none=>none)
  | none=>none
 | .int k,l=>rY (.int k) l
 | .bool,l=>rY .bool l
 | .str,l=>rY .str l
 | .sl t,l=>rY (.sl t) l
inductive Dir where
 | keep (slots:List Nat)
 | mine (at_ id:Nat) (t:Ty)
 | freeze (id:Nat)
 | fixBox (id:Nat)
 | fixRow (id:Nat) (t:Ty)
 | mineD (at_ id:Nat) (t:Ty)
 | clip (at_:Nat)
 | mineC (d:Dp) (box off id:Nat) (t:Ty)
 | weak (id:Nat)
 | flat (at_:Nat)
 /-- An array gets another name. -/
 | ren (at_ id:Nat)
 /-- What is cut off the end of an array is gone. -/
 | trim (at_:Nat)
 /-- A nested slice is taken out of a deep array. -/
 | lift (at_ id:Nat)
 /-- An array that a box holds gets another name. -/
 | FK (box off id:Nat)
def gc (s:St):St:=
 let r1:=uniq [base] (El s.env)
 let r2:=uniq r1 (BV s.hp r1)
 { s with hp:=vp s.hp (uniq r2 (BV s.hp r2)) }
def St.eO (s:St) (id:Nat) (W:AV):St:={ env:=sS (AV.sub id W) s.env,hp:=jN (AV.og id W) (erase s.hp id) }
def Dir.run (s:St):Dir->St
 | .freeze id=>s.freeze id
 | .fixBox id=>(match lookup s.hp id with
  | some (.box [.own k none])=>bif !Nat.beq k id&&!Nat.beq id base then s.eO id (.ref (.own k none)) else s
  | some (.box [v])=>bif v.free&&!Nat.beq id base then s.eO id (.ref v) else s
  | _=>s)
 | .fixRow id t=>(match lookup s.hp id with
  | some (.box cs)=>(match kj t cs with
   | some (x,[])=>bif !Nat.beq id base then s.eO id (.adr t x) else s
   | _=>s)
  | _=>s)
 | .keep slots=>gc { s with env:=pX s.env slots }
 | .mine j id t=>match slot s.env j with
  | .cst (.slice none 0 0)=>bif Nat.beq id base then s else { s.create id (.arr .sh t []) with env:=ir (s.create id (.arr .sh t [])).env j (.own id none) }
  | _=>s
 | .mineD j id t=>match slot s.env j with
  | .cst (.slice none 0 0)=>bif Nat.beq id base then s else { s.create id (.arr .dp t []) with env:=ir (s.create id (.arr .dp t [])).env j (.own id none) }
  | _=>s
 | .mineC d bx off id t=>(match lookup s.hp bx with
  | some (.box cs)=>(match oe cs off with
   | some (.cst (.slice none 0 0))=>bif Nat.beq id base||Nat.beq bx id then s else (match lookup (s.create id (.arr d t [])).hp bx with
    | some (.box cs1)=>(s.create id (.arr d t [])).setBlock bx (.box (setAt cs1 off [.own id none]))
    | _=>s)
   | _=>s)
  | _=>s)
 | .clip j=>(match slot s.env j with
  | .own id none=>(match lookup s.hp id with
   | some (.arr _ _ xs)=>{ s with env:=ir s.env j (.clp id (xs.length:Int)) }
   | _=>s)
  | _=>s)
 | .weak id=>(match lookup s.hp id with
  | some (.arr .dp t xs)=>bif Nat.beq id base then s else s.cB id (.arr .sh t xs)
  | _=>s)
 | .flat j=>(match slot s.env j with
  | .agg t vs=>(match kj t vs with
   | some (x,[])=>{ s with env:=ir s.env j (.data t x) }
   | _=>s)
  | _=>s)
 | .FK bx off id=>(match lookup s.hp bx with
  | some (.box cs)=>(match oe cs off with
   | some (.own i none)=>(match lookup s.hp i with
    | some (.arr d t xs)=>bif Nat.beq id base||(Nat.beq i base||Nat.beq bx id) then s else (match lookup ((s.drop i).create id (.arr d t xs)).hp bx with
     | some (.box cs1)=>((s.drop i).create id (.arr d t xs)).setBlock bx (.box (setAt cs1 off [.own id none]))
     | _=>s)
    | _=>s)
   | _=>s)
  | _=>s)
 | .ren j id=>(match slot s.env j with
  | .own i none=>(match lookup s.hp i with
   | some (.arr d t xs)=>bif Nat.beq id base||(Nat.beq i base||Nat.beq i id) then s else { (s.drop i).create id (.arr d t xs) with env:=ir ((s.drop i).create id (.arr d t xs)).env j (.own id none) }
   | _=>s)
  | _=>s)
 | .lift j k=>(match slot s.env j with
  | .pth id i off v=>(match lookup s.hp id with
   | some (.arr .dp u xs)=>bif Nat.beq id base||(Nat.beq k base||Nat.beq k id) then s else (match proj u (nth xs i) off (.sl v) with
    | some zs=>(match upd u (nth xs i) off (.sl v) [] with
     | some z=>{ (s.cB id (.arr (.ho i off) u (xs.set i.toNat z))).create k (.arr (Dp.of (!v.flat)) v zs) with env:=ir ((s.cB id (.arr (.ho i off) u (xs.set i.toNat z))).create k (.arr (Dp.of (!v.flat)) v zs)).env j (.own k none) }
     | none=>s)
    | none=>s)
   | _=>s)
  | _=>s)
 | .trim j=>(match slot s.env j with
  | .own i (some (.ofNat 0,hi))=>(match lookup s.hp i with
   | some (.arr .sh t xs)=>bif Nat.beq i base then s else { (s.drop i).create i (.arr .sh t (aD xs (some ((0:Int),hi)))) with env:=ir ((s.drop i).create i (.arr .sh t (aD xs (some ((0:Int),hi))))).env j (.own i none) }
   | _=>s)
  | _=>s)
def norm (s:St):List Dir->St
 | []=>s
 | d::l=>norm (d.run s) l
abbrev Inl:=List AV->St->(AV->St->Prop)->Prop
structure Ctx where
 tab:Tab
 cmp:TypeId->Bool
 cons:Cons
 n:Nat
 inl:List (Nat×Inl)
 off:Nat
 /-- Are slices kept as trees: arrays made are deep, and what is clipped stays the call's own? -/
 deep:Bool:=false
def lim:Nat:=140737488355328
def lU (t:Ty):Nat->List (Nat×Operand)->St->Option (List t.D×St)
 | _,[],s=>some ([],s)
 | n,(i,x)::l,s=>bif Nat.beq i n then (match s.hY t (eval s.env x) with
  | some (y,s1)=>match lU t (n+1) l s1 with
   | some (ys,s2)=>some (y::ys,s2)
   | none=>none
  | none=>none) else none
def jc (t:Ty):Nat->List (Nat×Operand)->St->Option (List t.D×St)
 | _,[],s=>some ([],s)
 | n,(i,x)::l,s=>bif Nat.beq i n then (match s.hand t (eval s.env x) with
  | some (y,s1)=>match jc t (n+1) l s1 with
   | some (ys,s2)=>some (y::ys,s2)
   | none=>none
  | none=>none) else none
def eV (fs:List (Nat×TypeId×String)) (i:Nat):Option (Nat×TypeId×String):=match fs,i with
 | [],_=>none
 | f::_,0=>some f
 | _::l,i+1=>eV l i
def oE (E:Tab) (fs:List (Nat×TypeId×String)) (t:Ty):t.D->List (Nat×Operand)->St->Option (t.D×St)
 | x,[],s=>some (x,s)
 | x,(i,o)::l,s=>match eV fs i with
  | some (off,ft,_)=>match E.ty ft with
   | some u=>match s.hY u (eval s.env o) with
    | some (y,s1)=>match upd t x off u y with
     | some x'=>oE E fs t x' l s1
     | none=>none
    | none=>none
   | none=>none
  | none=>none
def jm:AV->Option Int
 | .data (.int _) n=>some n
 | _=>none
def cF {α:Type} (x:Option α) (K:α->Prop):Prop:=match x with
 | some y=>K y
 | none=>False
def lO (e:Env):Option Operand->Option AV
 | some x=>some (eval e x)
 | none=>none
def zX (len:Int) (lo hi mx:Option AV) (K:Int->Int->Prop):Prop:=
 cF (match lo with | some v=>jm v | none=>some 0) fun l=>
 cF (match hi with | some v=>jm v | none=>some len) fun h=>
 cF (match mx with | some v=>jm v | none=>some h) fun m=>
 0<=l/\l<=h/\h<=len/\m=h/\K l h
def plainCell:AV->Bool
 | .data _ _=>true
 | .cst _=>true
 | _=>false
def dA:List AV->Bool
 | []=>true
 | v::l=>plainCell v&&dA l
def rq (hp:Hp):List AV->Option (List AV)
 | []=>some []
 | v::l=>match rq hp l with
  | some l'=>(match v with
   | .own id cut=>(match lookup hp id with
    | some (.arr .sh t xs)=>bif Nat.blt 0 t.size&&!Nat.beq id base then some (.brw t (aD xs cut)::l') else none
    | _=>none)
   | v=>bif v.free then some (v::l') else none)
  | none=>none
def BW (p:Par) (v:AV) (s:St):Option (AV×St):=match p with
 | .mv=>none
 | .dat t=>(match s.hY t v with
  | some (x,s')=>some (.data t x,s')
  | none=>none)
 | .lent t=>bif Nat.blt 0 t.size&&(!v.deep s.hp&&!jJ base v.refs) then (match v.as s.hp (.sl t) with
  | some xs=>some (.brw t xs,s)
  | none=>none) else none
 | .any=>match v with
  | .own id cut=>(match lookup s.hp id with
   | some (.arr _ t _)=>(match s.hY (.sl t) (.own id cut) with
    | some (x,s')=>some (.data (.sl t) x,s')
    | none=>none)
   | _=>none)
  | .fn f caps=>(match rq s.hp caps with
   | some l=>some (.fn f l,s)
   | none=>none)
  | .ptr i o=>some (.ptr i o,s)
  | v=>bif v.free then some (v,s) else none
def kF:List Par->List AV->St->Option (List AV×St)
 | [],[],s=>some ([],s)
 | p::ps,v::vs,s=>match BW p v s with
  | some (v',s1)=>(match kF ps vs s1 with
   | some (vs',s2)=>some (v'::vs',s2)
   | none=>none)
  | none=>none
 | _,_,_=>none
def qP:List AV->List Nat
 | []=>[]
 | .ptr i _::l=>i::qP l
 | _::l=>qP l
def lV:List AV->List AV
 | []=>[]
 | .ptr _ o::l=>.ptr base o::lV l
 | v::l=>v::lV l
def AK (hp':Hp) (d:Nat) (r:AV) (s:St):Option (AV×St):=match r with
 | .own 0 none=>(match lookup hp' 0 with
  | some (.arr e t xs)=>some (.own d none,s.create d (.arr e t xs))
  | _=>none)
 | .tup vs=>bif dA vs then some (.tup vs,s) else none
 | r=>bif r.kept then some (r,s) else none
def hG (c:Bool) (hp':Hp) (d:Nat):Bool->List AV->St->Option (List AV×St)
 | _,[],s=>some ([],s)
 | n,v::l,s=>match v with
  | .own k none=>bif n then (match lookup hp' k with
   | some (.arr e t xs)=>bif (!c||(e.qK||e.Ah&&t.flat))&&!Nat.beq k base then (match hG c hp' d false l (s.create d (.arr e t xs)) with
    | some (vs,s')=>some (.own d none::vs,s')
    | none=>none) else none
   | _=>none) else none
  | .clp k hi=>bif n then (match lookup hp' k with
   | some (.arr e t xs)=>bif (!c||(e.qK||e.Ah&&t.flat))&&!Nat.beq k base then (match hG c hp' d false l (s.create d (.arr e t xs)) with
    | some (vs,s')=>some (.clp d hi::vs,s')
    | none=>none) else none
   | _=>none) else none
  | .data t x=>(match hG c hp' d n l s with
   | some (vs,s')=>some ((bif !c||t.flat then .data t x else .top)::vs,s')
   | none=>none)
  | .cst k=>(match hG c hp' d n l s with
   | some (vs,s')=>some (.cst k::vs,s')
   | none=>none)
  | _=>none
def ya (c:Bool) (hp':Hp) (d:Nat) (r:AV) (s:St):Option (AV×St):=match r with
 | .agg t vs=>(match hG c hp' d true vs s with
  | some (vs',s')=>some (.agg t vs',s')
  | none=>none)
 | .tup vs=>(match hG c hp' d true vs s with
  | some (vs',s')=>some (.tup vs',s')
  | none=>none)
 | r=>(match hG c hp' d true [r] s with
  | some ([v],s')=>some (v,s')
  | _=>none)
def AV.BP (hp:Hp) (t:Ty):AV->Option t.D
 | .brw _ _=>none
 | v=>v.as hp t
def si (hp:Hp) (t:Ty):List AV->Option (t.D×List AV)
 | []=>none
 | v::l=>match v.BP hp t with
  | some x=>some (x,l)
  | none=>none
def oF (hp:Hp):(t:Ty)->List AV->Option (t.D×List AV)
 | .unit,l=>some ((),l)
 | .pair a b,l=>match oF hp a l with
  | some (x,l')=>(match oF hp b l' with
   | some (y,l'')=>some ((x,y),l'')
   | none=>none)
  | none=>none
 | .int k,l=>si hp (.int k) l
 | .bool,l=>si hp .bool l
 | .str,l=>si hp .str l
 | .sl t,l=>si hp (.sl t) l
def AV.see (hp:Hp) (t:Ty):AV->Option t.D
 | .pth id i off u=>match lookup hp id with
  | some (.arr .dp v xs)=>match Ty.eq? (.sl u) t with
   | some _=>proj v (nth xs i) off t
   | none=>none
  | _=>none
 | .agg u vs=>match Ty.eq? u t with
  | some _=>bif t.agg then (match oF hp t vs with
   | some (x,[])=>some x
   | _=>none) else none
  | none=>none
 | v=>v.BP hp t
def AV.BQ (hp:Hp):AV->Option AV
 | .ref (.own id none)=>match lookup hp id with
  | some (.arr _ t _)=>(match (AV.own id none).see hp (.sl t) with
   | some x=>some (.ref (.data (.sl t) x))
   | none=>none)
  | _=>none
 | v=>bif v.kept then some v else none
def xS (hp:Hp):List AV->Option (List AV)
 | []=>some []
 | v::l=>match v.BQ hp with
  | some x=>(match xS hp l with
   | some xs=>some (x::xs)
   | none=>none)
  | none=>none
def AV.Jh (hp:Hp):AV->Option AV
 | .fn f caps=>(match xS hp caps with
  | some l=>some (.fn f l)
  | none=>none)
 | v=>bif v.kept then some v else none
def pG (m:Bool) (hp:Hp):List Par->List AV->Option (List AV)
 | [],[]=>some []
 | .dat t::ps,v::vs=>(match v.see hp t with
  | some x=>(match pG m hp ps vs with
   | some l=>some (.data t x::l)
   | none=>none)
  | none=>none)
 | .any::ps,v::vs=>(match v.Jh hp with
  | some x=>(match pG m hp ps vs with
   | some l=>some (x::l)
   | none=>none)
  | none=>none)
 | .mv::ps,v::vs=>bif m then (match v with
  | .own _ _=>(match pG m hp ps vs with
   | some l=>some (v::l)
   | none=>none)
  | .clp _ _=>(match pG m hp ps vs with
   | some l=>some (v::l)
   | none=>none)
  | _=>none) else none
 | _,_=>none
def bG:List Par->List AV->List Nat
 | .dat _::ps,v::vs=>v.refs++bG ps vs
 | .any::ps,v::vs=>v.refs++bG ps vs
 | _::ps,_::vs=>bG ps vs
 | _,_=>[]
def meets (k:List Nat):List Nat->Bool
 | []=>false
 | i::l=>jJ i k||meets k l
def eX (s:St):List Nat->St
 | []=>s
 | i::l=>eX (s.drop i) l
def dQ:Nat->List AV->St->Option (List AV×Hp)
 | _,[],_=>some ([],[])
 | n,v::l,s=>match v with
  | .own id none=>bif Nat.beq id base||Nat.beq n base then none else (match lookup s.hp id with
   | some (.arr e t xs)=>(match dQ (n+1) l (s.drop id) with
    | some (vs,h)=>some (.own n none::vs,(n,.arr e t xs)::h)
    | none=>none)
   | _=>none)
  | .own id (some (lo,hi))=>bif decide (lo=0)&&!(Nat.beq id base||Nat.beq n base) then (match lookup s.hp id with
   | some (.arr e t xs)=>(match dQ (n+1) l (s.drop id) with
    | some (vs,h)=>some (.own n none::vs,(n,.arr e t (xs.take hi.toNat))::h)
    | none=>none)
   | _=>none) else none
  | .clp id hi=>bif Nat.beq id base||Nat.beq n base then none else (match lookup s.hp id with
   | some (.arr e t xs)=>(match dQ (n+1) l (s.drop id) with
    | some (vs,h)=>some (.clp n (((xs.take hi.toNat).length:Nat):Int)::vs,(n,.arr e t (xs.take hi.toNat))::h)
    | none=>none)
   | _=>none)
  | v=>bif v.kept then (match dQ n l s with
   | some (vs,h)=>some (v::vs,h)
   | none=>none) else none
def AV.yj:AV->Bool
 | .data u _=>u.flat
 | .tup []=>true
 | _=>false
def wB (d:Dp) (t:Ty) (r:AV) (h':Hp) (K:AV->List t.D->Prop):Prop:=bif r.yj then (match lookup h' base with
  | some (.arr d' t' ys)=>(match Ty.eq? t' t with
   | some ⟨h⟩=>bif Dp.same d' d then K r (dL (congrArg Ty.sl h) ys:List t.D) else False
   | none=>False)
  | _=>False) else False
def DJ (con:Con) (v:AV) (ws:List AV) (s:St) (K:AV->St->Prop):Prop:=match v with
 | .own id none=>(match lookup s.hp id with
  | some (.arr d t xs)=>con.run (.clp base (xs.length:Int)::ws) [(base,.arr d t xs)] fun r h'=>wB d t r h' fun v ys=>
    ys.length=xs.length/\K v (s.cB id (.arr d t ys))
  | _=>False)
 | .clp id hi=>(match lookup s.hp id with
  | some (.arr d t xs)=>hi=(xs.length:Int)/\con.run (.clp base (xs.length:Int)::ws) [(base,.arr d t xs)] fun r h'=>wB d t r h' fun v ys=>
    ys.length=xs.length/\K v (s.cB id (.arr d t ys))
  | _=>False)
 | .pth id i off t=>(match lookup s.hp id with
  | some (.arr .dp u xs)=>cF (proj u (nth xs i) off (.sl t)) fun zs=>con.run (.clp base ((zs:List t.D).length:Int)::ws) [(base,.arr (Dp.of (!t.flat)) t (zs:List t.D))] fun r h'=>wB (Dp.of (!t.flat)) t r h' fun v ys=>
    ys.length=(zs:List t.D).length/\cF (upd u (nth xs i) off (.sl t) ys) fun z=>K v (s.cB id (.arr .dp u (xs.set i.toNat z)))
  | _=>False)
 | _=>False
def BU (d:Nat):List Nat->Nat
 | [i]=>i
 | _=>d
def HZ (m:Bool) (con:Con) (args:List AV) (d:Nat) (s:St) (K:AV->St->Prop):Prop:=bif jJ base (AV.aP args) then False else
 cF (pG m s.hp con.par args) fun l=>bif meets (AV.aP l) (bG con.par args) then False else
 cF (dQ 0 l s) fun q=>con.run q.1 q.2 fun r h'=>cF (ya (!(bG con.par args).isEmpty) h' (BU d (AV.aP l)) r (eX s (AV.aP l))) fun z=>K z.1 z.2
def Gm (C:Ctx) (g:FuncId) (args:List AV) (d:Nat) (s:St) (K:AV->St->Prop):Prop:=match lookup C.inl g with
 | some T=>T args s K
 | none=>
 cF (lookup C.cons g) fun con=>match con.mode with
 | .bor=>HZ false con args d s K
 | .mv=>HZ true con args d s K
 | .io=>(match args with
  | v::vs=>(match AV.aP vs with
   | []=>cF (pG false s.hp con.par vs) fun ws=>DJ con v ws s K
   | _=>False)
  | []=>False)
 | .plain=>cF (kF con.par args s) fun p=>
 match uniq [] (qP p.1) with
 | []=>con.run p.1 [] fun r h'=>cF (AK h' d r p.2) fun q=>K q.1 q.2
 | [i]=>(match lookup p.2.hp i with
  | some (.box cs)=>bif dA cs&&!Nat.beq d i then con.run (lV p.1) [(base,.box cs)] (fun r h'=>match lookup h' base with
    | some (.box cs')=>bif Nat.beq cs'.length cs.length&&dA cs' then cF (AK h' d r p.2) fun q=>K q.1 (q.2.setBlock i (.box cs')) else False
    | _=>False) else False
  | _=>False)
 | _=>False
def IX (C:Ctx) (ty:TypeId) (b x:AV) (d:Nat) (s:St) (K:AV->St->Prop):Prop:=match lookup C.tab ty with
 | some { td:=.sl e t,.. }=>(match lookup C.tab e with
  | some ei=>bif x.deep s.hp then cF (s.hand (.sl t) x) fun y=>(match b with
   | .cst (.slice none 0 0)=>(y.1:List t.D).length * ei.bytes<=lim/\K (.own d none) (y.2.create d (.arr .dp t y.1))
   | .own id none=>(match lookup y.2.hp id with
    | some (.arr .dp u xs)=>(match Ty.eq? u t with
     | some ⟨h⟩=>bif Nat.beq id base then False else ((xs.length+(y.1:List t.D).length) * ei.bytes<=lim)/\K (.own id none) (y.2.create id (.arr .dp t ((dL (congrArg Ty.sl h) xs:List t.D)++(y.1:List t.D))))
     | none=>False)
    | _=>False)
   | _=>False)
  else bif jJ base x.refs then False else cF (x.as s.hp (.sl t)) fun ys=>(match b with
   | .cst (.slice none 0 0)=>(ys:List t.D).length * ei.bytes<=lim/\K (.own d none) (s.create d (.arr .sh t ys))
   | .own id cut=>(match lookup s.hp id with
    | some (.arr .sh u xs)=>(match Ty.eq? u t with
     | some ⟨h⟩=>bif Nat.beq id base then False else (match cut with
      | none=>((xs.length+(ys:List t.D).length) * ei.bytes<=lim)/\K (.own id none) (s.create id (.arr .sh t ((dL (congrArg Ty.sl h) xs:List t.D)++(ys:List t.D))))
      | some (lo,hi)=>lo=0/\((hi.toNat+(ys:List t.D).length) * ei.bytes<=lim)/\K (.own id none) (s.create id (.arr .sh t ((dL (congrArg Ty.sl h) xs:List t.D).take hi.toNat++(ys:List t.D)))))
     | none=>False)
    | _=>False)
   | _=>False)
  | none=>False)
 | _=>False
def uc (b x:AV) (s:St):St:=match b,x with
 | .own i _,.own j none=>(match lookup s.hp i,lookup s.hp j with
  | some (.arr .sh _ _),some (.arr .dp _ _)=>Dir.run s (.weak j)
  | some (.arr .dp _ _),some (.arr .sh _ _)=>Dir.run s (.weak i)
  | _,_=>s)
 | _,_=>s
def qf (x:Operand) (d:Nat) (s:St):St:=match x with
 | .tmp t=>(match slot s.env t with
  | .pth _ _ _ _=>Dir.run s (.lift t d)
  | _=>s)
 | _=>s
def JG (C:Ctx) (ty:TypeId) (x y:Operand) (d:Nat) (s:St) (K:AV->St->Prop):Prop:=IX C ty (eval s.env x) (eval s.env y) d s K
def JB (C:Ctx) (ty:TypeId) (x y:Operand) (d:Nat) (s:St) (K:AV->St->Prop):Prop:=JG C ty x y d (uc (eval s.env x) (eval s.env y) s) K
def rH (C:Ctx) (f:Operand) (l:List Operand) (d:Nat) (s:St):St:=match f with
 | .func g=>(match lookup C.inl g with
  | some _=>(match l with
   | x::_=>qf x d s
   | []=>s)
  | none=>s)
 | _=>s
def IC (C:Ctx) (g:FuncId) (caps:List AV) (l:List Operand) (d:Nat) (s:St) (K:AV->St->Prop):Prop:=Gm C g (l.map (eval s.env)++caps) d s K
def FZ (C:Ctx) (ty u:TypeId) (b n:AV) (d:Nat) (s:St) (K:AV->St->Prop):Prop:=match lookup C.tab ty with
 | some { td:=.sl e t,.. }=>(match lookup C.tab e with
  | some ei=>(match lookup C.tab u with
   | some { td:=.val (.int _),.. }=>(match b,n with
    | .cst (.slice none 0 0),.data (.int .i64) m=>0<=m/\m * ei.bytes<=(lim:Int)/\K (.own d none) (s.create d (.arr .sh t (List.replicate m.toNat t.zero)))
    | _,_=>False)
   | _=>False)
  | none=>False)
 | _=>False
def DX (C:Ctx) (ty:TypeId) (v:AV) (s:St) (K:AV->St->Prop):Prop:=match lookup C.tab ty with
 | some { td:=.sl _ t,.. }=>(match v with
  | .own id (some (lo,hi))=>(match lookup s.hp id with
   | some (.arr .sh u xs)=>(match Ty.eq? u t with
    | some ⟨h⟩=>K .top (s.cB id (.arr .sh t ((dL (congrArg Ty.sl h) xs:List t.D).take lo.toNat++(List.replicate (hi-lo).toNat t.zero++(dL (congrArg Ty.sl h) xs:List t.D).drop hi.toNat))))
    | none=>False)
   | _=>False)
  | _=>False)
 | _=>False
def IG (C:Ctx) (ty:TypeId) (v:AV) (s:St) (K:AV->St->Prop):Prop:=match lookup C.tab ty with
 | some { td:=.sl _ _,.. }=>(match v with
  | .cst (.slice none 0 0)=>K (.data (.int .i64) (0:Int)) s
  | _=>False)
 | _=>False
def BM (E:Tab) (u:TypeId):Bool:=match lookup E u with
 | some { td:=.val (.int _),.. }=>true
 | some _=>false
 | none=>true
def AH (C:Ctx) (ty:TypeId) (d:Nat) (v:AV) (s:St) (K:AV->St->Prop):Prop:=match v with
 | .cst v=>(match lookup C.tab ty with
  | some { td:=.sl _ t,.. }=>(match v with
   | .slice none 0 0=>K (.own d none) (s.create d (.arr (Dp.of (C.deep&&!t.flat)) t []))
   | v=>K (.cst v) s)
  | some { td:=.st _ t,.. }=>cF (zd t v) fun x=>K (.data t x) s
  | _=>K (.cst v) s)
 | v=>K v s
def Gh (x:Operand) (v:AV):Bool:=match x with
 | .tmp _=>(match v with
  | .cst (.slice none 0 0)=>true
  | _=>false)
 | _=>false
def AV.one (hp:Hp):AV->Bool
 | .data t _=>!t.agg
 | .cst v=>v.oneCell'
 | .adr _ _=>true
 | .ptr i _=>(match lookup hp i with
  | some _=>true
  | none=>false)
 | .own i _=>(match lookup hp i with
  | some (.arr _ _ _)=>true
  | _=>false)
 | .clp i _=>(match lookup hp i with
  | some (.arr _ _ _)=>true
  | _=>false)
 | .fn _ _=>true
 | .brw _ _=>true
 | .ref _=>true
 | _=>false
def Ei (C:Ctx) (ty:TypeId) (a:AV) (s:St) (K:AV->St->Prop):Prop:=cF (C.tab.ty ty) fun u=>match a with
 | .adr t x=>(match Ty.eq? t u with
  | some ⟨h⟩=>K (.data u (dL h x)) s
  | none=>False)
 | .badr t x=>(match Ty.eq? t u with
  | some ⟨h⟩=>K (.data u (dL h x)) s
  | none=>False)
 | .ptr id off=>(match lookup s.hp id with
  | some (.box cs)=>bif u.agg
    then (match lookup (gn s (qm ((cs.drop off).take u.size))).hp id with
     | some (.box cs1)=>bif C.deep&&Nat.beq off 0&&Nat.beq u.size cs.length&&!dA cs then K (.agg u cs) s
      else cF (kj u (cs1.drop off)) fun x=>K (.data u x.1) (gn s (qm ((cs.drop off).take u.size)))
     | _=>False)
    else cF (oe cs off) fun v=>K v s
  | _=>False)
 | .elt id i off=>(match lookup s.hp id with
  | some (.arr d t xs)=>bif d.Ah||d.qK&&u.flat then cF (proj t (nth xs i) off u) fun y=>K (.data u y) s
   else bif !d.qK then False else (match u with
    | .sl v=>cF (proj t (nth xs i) off (.sl v)) fun _=>K (.pth id i off v) s
    | _=>False)
  | _=>False)
 | .ref v=>bif u.agg then False else K v s
 | _=>False
def AV.isAgg (u:Ty):AV->Bool
 | .agg t vs=>Ty.same t u&&Nat.beq vs.length u.size
 | _=>false
def AV.cells:AV->List AV
 | .agg _ vs=>vs
 | _=>[]
def gP (E:Tab) (fs:List (Nat×TypeId×String)) (s:St):List AV->List (Nat×Operand)->Option (List AV)
 | cs,[]=>some cs
 | cs,(i,o)::l=>match eV fs i with
  | some (off,ft,_)=>(match E.ty ft with
   | some u=>bif Nat.ble (off+u.size) cs.length then (bif u.agg then (match eval s.env o with
     | .data t x=>(match Ty.eq? t u with
      | some _=>gP E fs s (setAt cs off (spread t x)) l
      | none=>none)
     | v=>bif v.isAgg u then gP E fs s (setAt cs off v.cells) l else none)
    else bif (eval s.env o).one s.hp then gP E fs s (setAt cs off [eval s.env o]) l else none) else none
   | none=>none)
  | none=>none
def Hu (C:Ctx) (ty:TypeId) (a v:AV) (s:St) (K:AV->St->Prop):Prop:=cF (C.tab.ty ty) fun u=>match a with
 | .ptr id off=>bif u.agg
   then (bif C.deep&&v.isAgg u then (match lookup s.hp id with
     | some (.box cs)=>chk (Nat.ble (off+u.size) cs.length) (K .top (s.setBlock id (.box (setAt cs off v.cells))))
     | _=>False) else
    cF (s.hY u v) fun y=>(match lookup y.2.hp id with
    | some (.box cs)=>chk (Nat.ble (off+u.size) cs.length) (K .top (y.2.setBlock id (.box (setAt cs off (spread u y.1)))))
    | _=>False))
   else (match lookup s.hp id with
    | some (.box cs)=>bif v.one s.hp then chk (Nat.blt off cs.length) (K .top (s.setBlock id (.box (setAt cs off [v])))) else False
    | _=>False)
 | .elt id i off=>(match lookup s.hp id with
  | some (.arr .dp _ _)=>cF (s.hand u v) fun y=>(match lookup y.2.hp id with
   | some (.arr .dp t xs)=>cF (upd t (nth xs i) off u y.1) fun z=>K .top (y.2.cB id (.arr .dp t (xs.set i.toNat z)))
   | _=>False)
  | some (.arr (.ho _ _) _ _)=>(match u with
   | .sl q=>cF (s.hand (.sl q) v) fun y=>(match lookup y.2.hp id with
    | some (.arr (.ho i0 off0) t xs)=>i=i0/\(bif Nat.beq off off0 then cF (upd t (nth xs i) off (.sl q) y.1) fun z=>K .top (y.2.cB id (.arr .dp t (xs.set i.toNat z))) else False)
    | _=>False)
   | _=>False)
  | _=>cF (s.hY u v) fun y=>(match lookup y.2.hp id with
   | some (.arr .sh t xs)=>cF (upd t (nth xs i) off u y.1) fun z=>K .top (y.2.cB id (.arr .sh t (xs.set i.toNat z)))
   | _=>False))
 | _=>False
def IN (C:Ctx) (ty:TypeId) (v:AV) (s:St) (K:AV->St->Prop):Prop:=match lookup C.tab ty with
 | some { td:=.val .str,.. }=>(match v with
  | .data .str b=>K (.data (.int .i64) ((b:ByteArray).size:Int)) s
  | _=>False)
 | some { td:=.sl _ _,.. }=>(match v with
  | .data (.sl _) xs=>K (.data (.int .i64) ((xs:List _).length:Int)) s
  | .brw _ xs=>K (.data (.int .i64) (xs.length:Int)) s
  | .cst (.slice none 0 0)=>K (.data (.int .i64) (0:Int)) s
  | .own id cut=>(match lookup s.hp id with
   | some (.arr _ _ xs)=>(match cut with
    | none=>K (.data (.int .i64) (xs.length:Int)) s
    | some (lo,hi)=>K (.data (.int .i64) (hi-lo:Int)) s)
   | _=>False)
  | .clp id hi=>(match lookup s.hp id with
   | some (.arr _ _ _)=>K (.data (.int .i64) (hi:Int)) s
   | _=>False)
  | _=>False)
 | _=>False
def DU (C:Ctx) (ty:TypeId) (v:AV) (lo hi mx:Option AV) (s:St) (K:AV->St->Prop):Prop:=match lookup C.tab ty with
 | some { td:=.val .str,.. }=>(match v,mx with
  | .data .str b,none=>zX ((b:ByteArray).size:Int) lo hi none fun l h=>K (.data .str ((b:ByteArray).extract l.toNat h.toNat:ByteArray)) s
  | _,_=>False)
 | some { td:=.sl _ t',.. }=>(match v with
  | .data (.sl t) xs=>bif Ty.same t t' then zX ((xs:List _).length:Int) lo hi mx fun l h=>K (.data (.sl t) (aD xs (some (l,h)))) s else False
  | .brw t xs=>bif Ty.same t t' then zX (xs.length:Int) lo hi mx fun l h=>K (.brw t (aD xs (some (l,h)))) s else False
  | .cst (.slice none 0 0)=>zX 0 lo hi mx fun _ _=>K (.cst (.slice none 0 0)) s
  | .own id cut=>(match lookup s.hp id with
   | some (.arr _ t xs)=>bif Ty.same t t' then (match mx with
    | none=>(match cut with
     | none=>zX (xs.length:Int) lo hi none fun l h=>K (.own id (some (l,h))) s
     | some (a,b)=>zX (b-a) lo hi none fun l h=>K (.own id (some (a+l,a+h))) s)
    | some m=>bif C.deep then (match cut with
     | none=>zX (xs.length:Int) lo hi (some m) fun l h=>l=0/\K (bif Nat.beq C.off 500000 then .own id (some (0,h)) else .clp id h) s
     | some _=>False) else cF (s.hY (.sl t) (.own id cut)) fun y=>zX ((y.1:List t.D).length:Int) lo hi (some m) fun l h=>K (.data (.sl t) (aD (y.1:List t.D) (some (l,h)))) y.2) else False
   | _=>False)
  | _=>False)
 | _=>False
def zj (C:Ctx) (ty:TypeId) (v i:AV) (s:St) (K:AV->St->Prop):Prop:=match lookup C.tab ty with
 | some { td:=.sl _ t',.. }=>cF (jm i) fun n=>(match v with
  | .data (.sl t) xs=>bif Ty.same t t' then 0<=n/\n<((xs:List _).length:Int)/\K (.adr t (nth xs n)) s else False
  | .brw t xs=>bif Ty.same t t' then 0<=n/\n<(xs.length:Int)/\K (.badr t (nth xs n)) s else False
  | .own id cut=>(match lookup s.hp id with
   | some (.arr _ t xs)=>bif Ty.same t t' then (match cut with
    | none=>0<=n/\n<(xs.length:Int)/\K (.elt id n 0) s
    | some (lo,hi)=>0<=n/\n<hi-lo/\K (.elt id (lo+n) 0) s) else False
   | _=>False)
  | .clp id hi=>(match lookup s.hp id with
   | some (.arr _ t xs)=>bif Ty.same t t' then 0<=n/\n<hi/\K (.elt id n 0) s else False
   | _=>False)
  | _=>False)
 | _=>False
def yM (C:Ctx) (st:TypeId) (v:AV) (f:Nat) (s:St) (K:AV->St->Prop):Prop:=match lookup C.tab st with
 | some { td:=.st fs _,.. }=>cF (eV fs f) fun q=>(match v with
  | .adr t y=>cF (C.tab.ty q.2.1) fun u=>cF (proj t y q.1 u) fun z=>K (.adr u z) s
  | .badr t y=>cF (C.tab.ty q.2.1) fun u=>cF (proj t y q.1 u) fun z=>K (.badr u z) s
  | .ptr id o=>(match lookup s.hp id with
   | some _=>K (.ptr id (o+q.1)) s
   | none=>False)
  | .elt id i o=>(match lookup s.hp id with
   | some _=>K (.elt id i (o+q.1)) s
   | none=>False)
  | _=>False)
 | _=>False
def Gn (C:Ctx) (st:TypeId) (v:AV) (f:Nat) (s:St) (K:AV->St->Prop):Prop:=match lookup C.tab st with
 | some { td:=.st fs _,.. }=>cF (eV fs f) fun q=>(match v with
  | .data t y=>bif t.agg then cF (C.tab.ty q.2.1) fun u=>cF (proj t y q.1 u) fun z=>K (.data u z) s else False
  | _=>False)
 | _=>False
def bQ (s:ByteArray):List Int:=s.data.toList.map fun b=>(b.toNat:Int)
def strOf (xs:List Int):ByteArray:=⟨(xs.map fun n=>UInt8.ofNat n.toNat).toArray⟩
def It (C:Ctx) (src dst:TypeId) (v:AV) (s:St) (K:AV->St->Prop):Prop:=match lookup C.tab src,lookup C.tab dst with
 | some { td:=.val (.int _),.. },some { td:=.val (.int k),.. }=>(match v with
  | .data (.int _) n=>K (.data (.int k) (vf k n)) s
  | _=>False)
 | some { td:=.val .str,.. },some { td:=.sl _ (.int .u8),.. }=>(match v with
  | .data .str b=>K (.data (.sl (.int .u8)) (bQ b)) s
  | _=>False)
 | some { td:=.sl _ (.int .u8),.. },some { td:=.val .str,.. }=>bif v.deep s.hp||jJ base v.refs then False else cF (v.as s.hp (.sl (.int .u8))) fun xs=>K (.data .str (strOf xs)) s
 | _,_=>False
def Jt (C:Ctx) (e:TypeId) (v:AV) (d:Nat) (s:St) (K:AV->St->Prop):Prop:=cF (C.tab.ty e) fun t=>bif t.agg
 then (match (bif Nat.ble 900000 C.off then v else .top) with
  | .agg u vs=>(match Ty.eq? u t with
   | some _=>K (.ptr d 0) (s.create d (.box (AV.fu d vs)))
   | none=>False)
  | _=>cF (s.hY t v) fun y=>K (.ptr d 0) (y.2.create d (.box (spread t y.1))))
 else bif v.one s.hp then K (.ptr d 0) (s.create d (.box [AV.kill d v])) else False
def ID (C:Ctx) (ty:TypeId) (n c:AV) (d:Nat) (s:St) (K:AV->St->Prop):Prop:=match lookup C.tab ty with
 | some { td:=.sl e t,.. }=>cF (lookup C.tab e) fun ei=>cF (jm n) fun a=>cF (jm c) fun b=>
   b=a/\0<=a/\a * ei.bytes<=(lim:Int)/\K (.own d none) (s.create d (.arr (Dp.of (C.deep&&!t.flat)) t (List.replicate a.toNat t.zero)))
 | _=>False
def Iw (c x y:AV) (s:St) (K:AV->St->Prop):Prop:=match c with
 | .data .bool b=>(match x,y with
  | .data t p,.data u q=>(match Ty.eq? u t with
   | some ⟨h⟩=>K (.data t (bif b then p else dL h q)) s
   | none=>False)
  | v,w=>bif b then K v s else K w s)
 | _=>False
def mmW (max:Bool) (x y:AV) (s:St) (K:AV->St->Prop):Prop:=match x,y with
 | .data (.int k) a,.data (.int k') b=>chk (decide (k=k')) (K (.data (.int k) (if (if max then b > a else b<a) then b else a:Int)) s)
 | _,_=>False
def Hz {α:Type}:List (Int×α)->Int->Option α
 | [],_=>none
 | p::l,n=>bif decide (n=p.1) then some p.2 else Hz l n
def Fj {α:Type}:List (Int×α)->Int->α->List (Int×α)
 | [],n,x=>[(n,x)]
 | p::l,n,x=>bif decide (n=p.1) then (p.1,x)::l else p::Fj l n x
def Fx {α:Type}:List (Int×α)->Int->List (Int×α)
 | [],_=>[]
 | p::l,n=>bif decide (n=p.1) then l else p::Fx l n
def ET (u:Ty) (l:List (Int×u.D)) (n:Int):u.D:=match Hz l n with
 | some x=>x
 | none=>u.zero
def Ik {α:Type} (l:List (Int×α)) (n:Int):Bool:=(Hz l n).isSome
def EO (C:Ctx) (ty:TypeId) (d:Nat) (s:St) (K:AV->St->Prop):Prop:=match lookup C.tab ty with
 | some { td:=.mp k _ u,.. }=>K (.mp d) (s.create d (.map k u []))
 | _=>False
def GH (C:Ctx) (ty:TypeId) (m k:AV) (s:St) (K:(u:Ty)->List (Int×u.D)->Int->(List (Int×u.D)->St)->Prop):Prop:=match lookup C.tab ty with
 | some { td:=.mp kk _ u,.. }=>(match m with
  | .mp id=>(match lookup s.hp id with
   | some (.map k' u' xs)=>(match Ty.eq? u' u with
    | some ⟨h⟩=>(match k with
     | .data (.int k2) n=>bif decide (k2=kk)&&(decide (k'=kk)&&!Nat.beq id base) then K u (h▸xs) n (fun ys=>s.setBlock id (.map kk u ys)) else False
     | _=>False)
    | none=>False)
   | _=>False)
  | _=>False)
 | _=>False
def EU (C:Ctx) (ty:TypeId) (m k:AV) (c:Bool) (s:St) (K:AV->St->Prop):Prop:=
 GH C ty m k s fun u xs n _=>bif c then K (.tup [.data u (ET u xs n),.data .bool (Ik xs n)]) s else K (.data u (ET u xs n)) s
def xP (C:Ctx) (ty:TypeId) (m k v:AV) (s:St) (K:AV->St->Prop):Prop:=
 GH C ty m k s fun u xs n put=>cF (uR u v) fun x=>K .top (put (Fj xs n x))
def BZ (C:Ctx) (ty:TypeId) (m k:AV) (s:St) (K:AV->St->Prop):Prop:=
 GH C ty m k s fun _ xs n put=>K .top (put (Fx xs n))
def Ctx.HT (C:Ctx) (ty:TypeId) (t:Ty):Bool:=C.cmp ty&&(match C.tab.ty ty with
 | some u=>Ty.same u t
 | none=>false)
def Iz:Option Operand->Option Operand->Bool
 | none,some _=>false
 | _,_=>true
def opW (C:Ctx) (o:Oper) (s:St) (K:AV->St->Prop):Prop:=
 let d:=Nat.add (o.dst.getD 0) C.off
 let ev:=eval s.env
 match o.op with
 | .move x=>bif Gh x (ev x) then K (ev x) s else AH C o.type d (ev x) s K
 | .assign x=>AH C o.type d (ev x) s K
 | .pick c a b=>Iw (ev c) (ev a) (ev b) s K
 | .alloc e=>cF (C.tab.ty e) fun t=>K (.ptr d 0) (s.create d (.box (jG t)))
 | .box e x=>Jt C e (ev x) d s K
 | .build ty parts=>(match lookup C.tab ty with
  | some { td:=.st fs t,.. }=>bif C.deep&&!t.flat then cF (gP C.tab fs s (jG t) parts.toList) fun cs=>K (.agg t cs) s
   else cF (oE C.tab fs t t.zero parts.toList s) fun y=>K (.data t y.1) y.2
  | _=>False)
 | .buildSlice ty len parts=>(match lookup C.tab ty with
  | some { td:=.sl _ t,.. }=>bif Nat.beq len parts.toList.length&&Nat.ble (len * t.size) 16777216 then
    (bif C.deep&&(!t.flat&&(jc t 0 parts.toList s).isSome) then cF (jc t 0 parts.toList s) fun y=>K (.own d none) (y.2.create d (.arr .dp t y.1))
    else cF (lU t 0 parts.toList s) fun y=>K (.own d none) (y.2.create d (.arr .sh t y.1))) else False
  | _=>False)
 | .load ty a=>Ei C ty (ev a) s K
 | .store ty a x=>Hu C ty (ev a) (ev x) s K
 | .nilCheck x=>(match ev x with
  | .adr t y=>K (.adr t y) s
  | .badr t y=>K (.badr t y) s
  | .ptr i o=>(match lookup s.hp i with
   | some _=>K (.ptr i o) s
   | none=>False)
  | .elt i j o=>(match lookup s.hp i with
   | some _=>K (.elt i j o) s
   | none=>False)
  | .fn f c=>K (.fn f c) s
  | .ref v=>K (.ref v) s
  | _=>False)
 | .binOp op ty x y _=>Js C.HT op ty (ev x) (ev y) fun v=>K v s
 | .unOp op _ x=>(match op,ev x with
  | .neg,.data (.int k) n=>K (.data (.int k) (vf k (0-n))) s
  | .not,.data .bool b=>K (.data .bool (!b)) s
  | _,_=>False)
 | .convert src dst x=>It C src dst (ev x) s K
 | .makeFunc fn first caps=>(match fn,first.toList with
  | .func f,[]=>K (.fn f (caps.toList.map ev)) s
  | _,_=>False)
 | .makeSlice ty n c=>ID C ty (ev n) (ev c) d s K
 | .slice ty x lo hi mx=>bif Iz hi mx then DU C ty (ev x) (lO s.env lo) (lO s.env hi) (lO s.env mx) s K else False
 | .fieldAddr st x f=>yM C st (ev x) f s K
 | .field st x f=>Gn C st (ev x) f s K
 | .indexAddr ty x i=>zj C ty (ev x) (ev i) s K
 | .index ty x i=>(match lookup C.tab ty with
  | some { td:=.val .str,.. }=>cF (jm (ev i)) fun n=>(match ev x with
   | .data .str b=>0<=n/\n<((b:ByteArray).size:Int)/\K (.data (.int .u8) (((b:ByteArray).get! n.toNat).toNat:Int)) s
   | _=>False)
  | _=>False)
 | .extract x i=>(match ev x with
  | .tup vs=>cF (oe vs i) fun v=>K v s
  | _=>False)
 | .call c=>(match c.callee with
  | .value f=>(match ev f with
   | .fn g caps=>IC C g caps c.args.toList d (rH C f c.args.toList d s) K
   | _=>False)
  | .builtin b=>(match b,c.args.toList,c.argTypes.toList with
   | .len,[x],[t]=>IN C t (ev x) s K
   | .append,[x,y],[t,u]=>bif BM C.tab u then FZ C t u (ev x) (ev y) d s K else JB C t x y d (qf x d s) K
   | .cap,[x],[t]=>IG C t (ev x) s K
   | .clear,[x],[t]=>DX C t (ev x) s K
   | .delete,[x,k],[t,_]=>BZ C t (ev x) (ev k) s K
   | .min,[x,y],_=>mmW false (ev x) (ev y) s K
   | .max,[x,y],_=>mmW true (ev x) (ev y) s K
   | _,_,_=>False)
  | _=>False)
 | .makeMap ty r=>(match r with
  | none=>EO C ty d s K
  | some _=>False)
 | .lookup ty m k c=>EU C ty (ev m) (ev k) c s K
 | .insert ty m k v=>xP C ty (ev m) (ev k) (ev v) s K
 | .mapUpdate ty m k v=>xP C ty (ev m) (ev k) (ev v) s K
 | _=>False
def Dk (ops:List Oper) (j:Nat):Option Nat:=match oe ops j with
 | some o=>o.dst
 | none=>none
def CT (C:Ctx) (all:List Oper):List Oper->St->(St->Prop)->Prop
 | [],s,K=>K s
 | o::l,s,K=>bif Nat.beq (Nat.add (o.dst.getD 0) C.off) base then False else match o.guard with
  | none=>opW C o s fun v s1=>CT C all l (s1.put C.n o.dst v) K
  | some (j,want)=>match Dk all j with
   | some g=>match slot s.env g with
    | .data .bool b=>bif (b==want)
     then opW C o (s.put C.n (some g) (.data .bool want)) fun v s1=>CT C all l (s1.put C.n o.dst v) K
     else CT C all l ((s.put C.n (some g) (.data .bool (!want))).put C.n o.dst (.cst (.tuple #[]))) K
    | .cst (.tuple _)=>CT C all l (s.put C.n o.dst (.cst (.tuple #[]))) K
    | _=>False
   | none=>False
inductive X where
 | normal
 | exit (id:Nat)
 | ret

def rP (o:Oper):Bool:=match o.op with
 | .move _ | .assign _ | .pick .. | .load .. | .nilCheck _ | .binOp .. | .unOp .. | .fieldAddr .. | .field .. | .indexAddr .. | .index .. | .extract .. | .makeFunc .. | .slice .. | .build ..=>true
 | .call c=>(match c.callee with
  | .builtin b=>(match b with
   | .len | .min | .max=>true
   | _=>false)
  | _=>false)
 | _=>false
def BT (o:Oper):Bool:=match o.op with
 | .move _ | .fieldAddr .. | .indexAddr .. | .binOp .. | .unOp .. | .build ..=>true
 | _=>false
def iC (o:Oper):Bool:=match o.op with
 | .store ..=>true
 | .call c=>(match c.callee with
  | .builtin .append=>true
  | .builtin .clear=>true
  | .builtin .delete=>true
  | _=>false)
 | .insert ..=>true
 | .mapUpdate ..=>true
 | _=>false
def cw:List Edge->Nat
 | []=>0
 | e::l=>bif Region.binds .any e then Nat.lor (Nat.shiftLeft 1 e.on) (cw l) else cw l
def bit (m j:Nat):Bool:=Nat.beq (Nat.land (Nat.shiftRight m j) 1) 1
def within (m n:Nat):Bool:=Nat.beq (Nat.land m n) m
def jT (done:Nat):Nat->List Oper->List Nat
 | _,[]=>[]
 | j,o::l=>bif !bit done j&&within (cw o.after.toList) done then j::jT done (j+1) l else jT done (j+1) l
def tmpsOf:List Operand->List Nat
 | []=>[]
 | .tmp t::l=>t::tmpsOf l
 | _::l=>tmpsOf l
def Ca (ops:List Oper) (o:Oper):List Nat:=match o.guard with
 | some (j,_)=>(match Dk ops j with
  | some d=>d::tmpsOf o.op.operands.toList
  | none=>tmpsOf o.op.operands.toList)
 | none=>tmpsOf o.op.operands.toList
def zl (ops:List Oper) (j:Nat) (oj:Oper):Nat->List Oper->Bool
 | _,[]=>true
 | i,oi::l=>(Nat.beq i j||(match oi.dst with
   | some d=>(bif jJ d (Ca ops oj)||(match oj.dst with
    | some e=>Nat.beq e d
    | none=>false) then bit (cw oj.after.toList) i||bit (cw oi.after.toList) j else true)
   | none=>true))&&zl ops j oj (i+1) l
def uB (ops:List Oper):Nat->List Oper->Bool
 | _,[]=>true
 | j,oj::l=>zl ops j oj 0 ops&&uB ops (j+1) l
def wE (T:List (Nat×Nat)):List Edge->Nat
 | []=>0
 | e::l=>bif Region.binds .any e then Nat.lor (Nat.shiftLeft 1 e.on) (Nat.lor (match lookup T e.on with
   | some m=>m
   | none=>0) (wE T l)) else wE T l
def xb:List (Nat×Nat)->Nat->List Oper->List (Nat×Nat)
 | T,_,[]=>T
 | T,j,o::l=>xb ((j,wE T o.after.toList)::T) (j+1) l
def rN (T:List (Nat×Nat)) (j:Nat):Nat:=match lookup T j with
 | some m=>m
 | none=>0
def Hj (C:Ctx) (o:Oper):Bool:=match o.op with
 | .call c=>(match c.callee with
  | .value (.func f)=>(match lookup C.inl f with
   | some _=>true
   | none=>(match lookup C.cons f with
    | some con=>con.wr
    | none=>false))
  | _=>false)
 | _=>false
def Gk (C:Ctx) (o:Oper):Bool:=iC o||Hj C o
def loneD (C:Ctx) (T:List (Nat×Nat)) (i:Nat):Nat->List Oper->Bool
 | _,[]=>true
 | j,oj::l=>(Nat.beq i j||!Gk C oj||bit (rN T j) i||bit (rN T i) j)&&loneD C T i (j+1) l
def quietAt (C:Ctx) (ops:List Oper) (i:Nat) (o:Oper):Bool:=rP o&&(BT o||loneD C (xb [] 0 ops) i 0 ops)
def kg (C:Ctx) (ops:List Oper):List Nat->Option Nat
 | []=>none
 | i::l=>match oe ops i with
  | some o=>bif quietAt C ops i o then some i else kg C ops l
  | none=>kg C ops l
def uZ (o:Oper) (s:St):Bool:=match o.guard with
 | some _=>false
 | none=>(match o.op with
  | .load _ x=>(match eval s.env x with
   | .adr _ _=>true
   | .ref _=>true
   | _=>false)
  | _=>false)
def rj (ops:List Oper) (s:St):List Nat->Option Nat
 | []=>none
 | i::l=>match oe ops i with
  | some o=>bif uZ o s then some i else rj ops s l
  | none=>rj ops s l
def Eh:List Oper->Bool
 | []=>true
 | o::l=>(match o.op with
  | .select ..=>false
  | _=>true)&&Eh l
def tY (C:Ctx) (o:Oper) (s:St):Bool:=match o.op with
 | .call c=>(match c.callee with
  | .value f=>(match eval s.env f with
   | .fn g caps=>(match lookup C.inl g with
    | some _=>false
    | none=>match lookup C.cons g with
    | some con=>(match con.mode with
     | .bor=>true
     | .io=>false
     | .mv=>false
     | .plain=>(match kF con.par (c.args.toList.map (eval s.env)++caps) s with
      | some p=>(match qP p.1 with
       | []=>true
       | _=>false)
      | none=>false))
    | none=>false)
   | _=>false)
  | _=>true)
 | _=>true
def jz (C:Ctx) (o:Oper) (s:St):Bool:=Hj C o||tY C o s
def qD (C:Ctx) (ops:List Oper) (o:Oper) (s:St) (K:St->Prop):Prop:=bif Nat.beq (Nat.add (o.dst.getD 0) C.off) base then False else match o.guard with
 | none=>bif jz C o s then opW C o s fun v s1=>K (s1.put C.n o.dst v) else False
 | some (j,want)=>match Dk ops j with
  | some g=>match slot s.env g with
   | .data .bool b=>bif (b==want)
    then (bif jz C o (s.put C.n (some g) (.data .bool want)) then opW C o (s.put C.n (some g) (.data .bool want)) fun v s1=>K (s1.put C.n o.dst v) else False)
    else K ((s.put C.n (some g) (.data .bool (!want))).put C.n o.dst (.cst (.tuple #[])))
   | .cst (.tuple _)=>K (s.put C.n o.dst (.cst (.tuple #[])))
   | _=>False
  | none=>False
def Ea (f:Nat->Prop):List Nat->Prop
 | []=>True
 | [i]=>f i
 | i::l=>f i/\Ea f l
def vW (C:Ctx) (ops:List Oper) (i:Nat) (s:St) (K:St->Prop):Prop:=match oe ops i with
 | some o=>qD C ops o s K
 | none=>False
def wJ (C:Ctx) (ops:List Oper):Nat->Nat->St->(St->Prop)->Prop
 | 0,done,s,K=>(match jT done 0 ops with
  | []=>K s
  | _=>False)
 | f+1,done,s,K=>(match jT done 0 ops with
  | []=>K s
  | l=>(match kg C ops l with
   | some i=>vW C ops i s fun s'=>wJ C ops f (Nat.lor done (Nat.shiftLeft 1 i)) s' K
   | none=>(match rj ops s l with
    | some i=>vW C ops i s fun s'=>wJ C ops f (Nat.lor done (Nat.shiftLeft 1 i)) s' K
    | none=>Ea (fun i=>vW C ops i s fun s'=>wJ C ops f (Nat.lor done (Nat.shiftLeft 1 i)) s' K) l)))
def rG (ops:List Oper):Bool:=Eh ops&&uB ops 0 ops
def Bh (io:Bool) (s:St):Option Hp:=bif io then (match lookup s.hp base with
 | some (.box cs)=>bif dA cs then some [(base,.box cs)] else none
 | some (.arr d t xs)=>some [(base,.arr d t xs)]
 | _=>none) else some []
def rJ (E:Tab) (deep:Bool) (s:St):ResultVar->Option (AV×St)
 | .tmp t=>some (slot s.env t,s)
 | .cell p ty=>(match slot s.env p with
  | .ptr id 0=>(match E.ty ty with
   | some u=>(match lookup s.hp id with
    | some (.box cs)=>bif u.agg then (bif deep&&(Nat.beq u.size cs.length&&!dA cs) then some (.agg u cs,s) else match lookup (gn s (qm (cs.take u.size))).hp id with
      | some (.box cs1)=>(match kj u cs1 with
       | some x=>some (.data u x.1,gn s (qm (cs.take u.size)))
       | none=>none)
      | _=>none)
     else (match oe cs 0 with
      | some v=>some (v,s)
      | none=>none)
    | _=>none)
   | none=>none)
  | _=>none)
def pV (E:Tab) (e:List ResultVar):St->Option (List AV×St):=match e with
 | []=>fun s=>some ([],s)
 | r::l=>fun s=>match rJ E false s r with
  | some (v,s0)=>(match v with
   | .own id cut=>(match lookup s0.hp id with
    | some (.arr _ ty _)=>(match s0.hY (.sl ty) (.own id cut) with
     | some (x,s1)=>(match pV E l s1 with
      | some (vs,s2)=>some (.data (.sl ty) x::vs,s2)
      | none=>none)
     | none=>none)
    | _=>none)
   | .data ty x=>(match pV E l s0 with
    | some (vs,s2)=>some (.data ty x::vs,s2)
    | none=>none)
   | .cst c=>(match pV E l s0 with
    | some (vs,s2)=>some (.cst c::vs,s2)
    | none=>none)
   | _=>none)
  | none=>none
def qY (E:Tab) (deep:Bool):List ResultVar->St->Option (List AV×St)
 | [],s=>some ([],s)
 | r::l,s=>match rJ E deep s r with
  | some (v,s0)=>(match qY E deep l s0 with
   | some (vs,s1)=>some (v::vs,s1)
   | none=>none)
  | none=>none
def xR (s:St) (v:AV) (K:AV->Hp->Prop):Prop:=match v with
 | .agg t vs=>cF (dQ 0 vs s) fun q=>K (.agg t q.1) q.2
 | v=>(match dQ 0 [v] s with
  | some ([v'],h)=>K v' h
  | _=>False)
def Hw (E:Tab) (deep:Bool) (rs:List ResultVar) (io:Bool) (s:St) (K:AV->Hp->Prop):Prop:=bif deep&&!io
 then (match rs with
  | [r]=>cF (rJ E true s r) fun p=>xR p.2 p.1 K
  | rs=>cF (qY E true rs s) fun p=>cF (dQ 0 p.1 p.2) fun q=>K (.tup q.1) q.2)
 else match rs with
 | [r]=>cF (rJ E false s r) fun p=>(match p.1 with
  | .own id cut=>bif Nat.beq id base then False else (match lookup p.2.hp id with
   | some (.arr e ty xs)=>cF (Bh io p.2) fun h=>(match cut with
    | none=>K (.own 0 none) ((0,.arr e ty xs)::h)
    | some (lo,hi)=>lo=0/\K (.own 0 none) ((0,.arr e ty (xs.take hi.toNat))::h))
   | _=>False)
  | .clp id hi=>bif io then False else xR p.2 (.clp id hi) K
  | v=>bif v.kept then cF (Bh io p.2) (fun h=>K v h) else False)
 | rs=>cF (pV E rs s) fun p=>cF (Bh io p.2) fun h=>K (.tup p.1) h
abbrev bB:=Nat->Nat->St->(X->St->Prop)->Prop
def zN (id:Nat) (K:X->St->Prop):X->St->Prop
 | .exit i,s=>bif Nat.beq i id then K .normal s else K (.exit i) s
 | .normal,s=>K .normal s
 | .ret,s=>K .ret s
def Gg (B:St->Prop) (K:X->St->Prop):X->St->Prop
 | .normal,s=>B s
 | .exit i,s=>K (.exit i) s
 | .ret,s=>K .ret s
def Dy (v:AV) (k:AV->Prop):Prop:=match v with
 | .top=>k .top
 | .cst v=>k (.cst v)
 | .data t x=>k (.data t x)
 | .adr t x=>k (.adr t x)
 | .brw t x=>k (.brw t x)
 | .badr t x=>k (.badr t x)
 | .ptr i o=>k (.ptr i o)
 | .elt i n o=>k (.elt i n o)
 | .own i c=>k (.own i c)
 | .clp i h=>k (.clp i h)
 | .agg t vs=>k (.agg t vs)
 | .pth i n o t=>k (.pth i n o t)
 | .fn f vs=>k (.fn f vs)
 | .tup vs=>k (.tup vs)
 | .ref w=>k (.ref w)
 | .mp i=>k (.mp i)
def BY:List AV->(List AV->Prop)->Prop
 | [],k=>k []
 | v::l,k=>Dy v fun v'=>BY l fun l'=>k (v'::l')
def GX (b:Block) (k:Block->Prop):Prop:=match b with
 | .box cs=>BY cs fun cs'=>k (.box cs')
 | .arr d t xs=>k (.arr d t xs)
 | .map i u xs=>k (.map i u xs)
def yK:Env->(Env->Prop)->Prop
 | [],k=>k []
 | (i,v)::l,k=>Dy v fun v'=>yK l fun l'=>k ((i,v')::l')
def yQ:Hp->(Hp->Prop)->Prop
 | [],k=>k []
 | (i,b)::l,k=>GX b fun b'=>yQ l fun l'=>k ((i,b')::l')
def sV (s:St) (k:St->Prop):Prop:=match s with
 | ⟨e,h⟩=>yK e fun e'=>yQ h fun h'=>k ⟨e',h'⟩
theorem AS (v:AV) (k:AV->Prop):Dy v k=k v:=by cases v<;>rfl
theorem Be:∀(l:List AV) (k:List AV->Prop),BY l k=k l
 | [],_=>rfl
 | v::l,k=>by unfold BY;rw[AS,Be l]
theorem FM (b:Block) (k:Block->Prop):GX b k=k b:=by
 cases b with
 | box cs=>exact Be cs _
 | _=>rfl
theorem AU:∀(l:Env) (k:Env->Prop),yK l k=k l
 | [],_=>rfl
 | (i,v)::l,k=>by unfold yK;rw[AS,AU l]
theorem AJ:∀(l:Hp) (k:Hp->Prop),yQ l k=k l
 | [],_=>rfl
 | (i,b)::l,k=>by unfold yQ;rw[FM,AJ l]
theorem EX (s:St) (k:St->Prop):sV s k=k s:=by
 cases s with
 | mk e h=>
  show yK e (fun e'=>yQ h fun h'=>k ⟨e',h'⟩)=k ⟨e,h⟩
  rw[AU,AJ]
attribute [irreducible] sV
def awp (C:Ctx) (L:bB) (ann:Nat->List Dir):Code->St->(X->St->Prop)->Prop
 | .skip,s,K=>K .normal s
 | .region id ops draw,s,K=>bif draw
  then (bif rG ops.toList then wJ C ops.toList ops.toList.length 0 s fun s'=>sV (norm s' (ann id)) fun s''=>K .normal s'' else False)
  else CT C ops.toList ops.toList s fun s'=>sV (norm s' (ann id)) fun s''=>K .normal s''
 | .seq a b,s,K=>awp C L ann a s (Gg (fun s'=>awp C L ann b s' K) K)
 | .cond c a b,s,K=>match eval s.env c with
  | .data .bool t=>bif t then awp C L ann a s K else awp C L ann b s K
  | _=>False
 | .block id (.loop _),s,K=>∃m,L id m s (zN id K)
 | .block id b,s,K=>awp C L ann b s (zN id K)
 | .exit id,s,K=>K (.exit id) s
 | .ret,s,K=>K .ret s
 | _,_,_=>False
def bR:Code->List (Nat×Code)
 | .seq a b=>bR a++bR b
 | .cond _ a b=>bR a++bR b
 | .block id (.loop b)=>(id,b)::bR b
 | .block _ b=>bR b
 | _=>[]
def Cp (id:Nat) (ds:List Dir) (K:X->St->Prop):X->St->Prop
 | .exit i,s=>bif Nat.beq i id then K (.exit i) (norm s ds) else K (.exit i) s
 | .normal,s=>K .normal s
 | .ret,s=>K .ret s
def behind (id:Nat):Nat:=Nat.add id 100000
def fB (C:Ctx) (L:bB) (ann:Nat->List Dir) (id:Nat) (b:Code):Prop:=
 ∀m s K,L id m s K->awp C L ann b s (Gg (fun s'=>∃m',m'<m/\L id m' s' K) (Cp id (ann (behind id)) K))
end Go.AE
