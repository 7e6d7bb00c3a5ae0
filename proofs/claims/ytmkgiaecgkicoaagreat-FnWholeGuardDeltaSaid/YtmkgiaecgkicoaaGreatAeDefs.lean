/- An abstract evaluator over the translated code: definitions. Typed data stand for what memory holds; 'awp' is what has to be shown of a piece of code. -/
import Derived.RowKit
import Derived.Calls
namespace Go.AE
open Go Go.RowKit
inductive Ty where
 | int (k:IntKind) | bool | str | unit
 | sl (t:Ty)
 | pair (a b:Ty)
abbrev Ty.D:Ty->Type
 | .int _=>Int
 | .bool=>Bool
 | .str=>ByteArray
 | .unit=>Unit
 | .sl t=>List t.D
 | .pair a b=>a.D×b.D
def Ty.size:Ty->Nat
 | .unit=>0
 | .pair a b=>a.size+b.size
 | _=>1
def Ty.agg:Ty->Bool
 | .unit | .pair ..=>true
 | _=>false
def Ty.zero:(t:Ty)->t.D
 | .int _=>(0:Int)
 | .bool=>false
 | .str=>(⟨#[]⟩:ByteArray)
 | .unit=>()
 | .sl _=>[]
 | .pair a b=>(a.zero,b.zero)
def Ty.eq?:(t u:Ty)->Option (PLift (t=u))
 | .int j,.int k=>if h:j=k then some ⟨by rw[h]⟩ else none
 | .bool,.bool=>some ⟨rfl⟩
 | .str,.str=>some ⟨rfl⟩
 | .unit,.unit=>some ⟨rfl⟩
 | .sl t,.sl u=>match Ty.eq? t u with
  | some ⟨h⟩=>some ⟨by rw[h]⟩
  | none=>none
 | .pair a b,.pair c d=>match Ty.eq? a c,Ty.eq? b d with
  | some ⟨h⟩,some ⟨g⟩=>some ⟨by rw[h,g]⟩
  | _,_=>none
 | _,_=>none
def Ty.same (t u:Ty):Bool:=match Ty.eq? t u with
 | some _=>true
 | none=>false
def eG {t u:Ty} (h:t=u) (x:t.D):u.D:=h▸x
def Ty.beq:(t:Ty)->t.D->t.D->Bool
 | .int _,x,y=>decide ((x:Int)=y)
 | .bool,x,y=>(x:Bool)==y
 | .str,x,y=>decide ((x:ByteArray)=y)
 | .unit,_,_=>true
 | .sl _,_,_=>false
 | .pair a b,x,y=>a.beq x.1 y.1&&b.beq x.2 y.2
def Ty.flat:Ty->Bool
 | .sl _=>false
 | .pair a b=>a.flat&&b.flat
 | _=>true
inductive AV where
 | top
 | cst (v:Value)
 | data (t:Ty) (x:t.D)
 | adr (t:Ty) (x:t.D)
 | brw (t:Ty) (xs:List t.D)
 | badr (t:Ty) (x:t.D)
 | ptr (id off:Nat)
 | elt (id:Nat) (i:Int) (off:Nat)
 | own (id:Nat) (cut:Option (Int×Int))
 | clp (id:Nat) (hi:Int)
 | agg (t:Ty) (vs:List AV)
 | pth (id:Nat) (i:Int) (off:Nat) (t:Ty)
 | fn (f:FuncId) (caps:List AV)
 | tup (vs:List AV)
 | ref (v:AV)
 | mp (id:Nat)
inductive Dp where
 | sh
 | dp
 | ho (i:Int) (off:Nat)
def Dp.sk:Dp->Bool
 | .dp=>true
 | _=>false
def Dp.Bm:Dp->Bool
 | .sh=>true
 | _=>false
def Dp.whole:Dp->Bool
 | .ho _ _=>false
 | _=>true
def Dp.of (b:Bool):Dp:=match b with
 | true=>.dp
 | false=>.sh
theorem Dp.Kg {d:Dp} (h:d.sk=false) (hw:d.whole=true):d=.sh:=by
 cases d with
 | sh=>rfl
 | dp=>cases h
 | ho=>cases hw
theorem Dp.HQ {d:Dp} (h:d.sk=true):d=.dp:=by
 cases d with
 | dp=>rfl
 | sh=>cases h
 | ho=>cases h
theorem mM {α:Type} {b:Bool} {x y:α} (h:(bif b then some x else none)=some y):b=true/\x=y:=by
 cases b with
 | true=>exact⟨rfl,Option.some.inj h⟩
 | false=>cases h
def Dp.same:Dp->Dp->Bool
 | .sh,.sh=>true
 | .dp,.dp=>true
 | _,_=>false
theorem Dp.kU:∀{a b:Dp},Dp.same a b=true->a=b
 | .sh,.sh,_=>rfl
 | .dp,.dp,_=>rfl
 | .sh,.dp,h=>by cases h
 | .dp,.sh,h=>by cases h
 | .ho _ _,.sh,h=>by cases h
 | .ho _ _,.dp,h=>by cases h
 | .ho _ _,.ho _ _,h=>by cases h
 | .sh,.ho _ _,h=>by cases h
 | .dp,.ho _ _,h=>by cases h
inductive Block where
 | box (cs:List AV)
 | arr (d:Dp) (t:Ty) (xs:List t.D)
 | map (k:IntKind) (u:Ty) (xs:List (Int×u.D))
abbrev Env:=List (Nat×AV)
abbrev Hp:=List (Nat×Block)
structure St where
 env:Env
 hp:Hp
def lookup {α:Type}:List (Nat×α)->Nat->Option α
 | [],_=>none
 | (j,x)::l,i=>bif Nat.beq j i then some x else lookup l i
def pq {α:Type}:List α->Nat->Option α
 | [],_=>none
 | x::_,0=>some x
 | _::l,i+1=>pq l i
def base:Nat:=1000000
def bV:Nat:=1000000
def slot (e:Env) (i:Nat):AV:=bif Nat.blt i bV then (match lookup e i with
 | some v=>v
 | none=>.top) else .top
inductive TD where
 | val (t:Ty)
 | sl (e:TypeId) (t:Ty)
 | st (fs:List (Nat×TypeId×String)) (t:Ty)
 | ptr (e:TypeId)
 | mp (k:IntKind) (e:TypeId) (t:Ty)
 | other
structure TI where
 td:TD
 size:Nat
 bytes:Nat
abbrev Tab:=List (Nat×TI)
def TD.ty:TD->Option Ty
 | .val t=>some t
 | .sl _ t=>some (.sl t)
 | .st _ t=>some t
 | _=>none
def Tab.ty (E:Tab) (t:TypeId):Option Ty:=match lookup E t with
 | some i=>i.td.ty
 | none=>none
def HR:Value->AV
 | .int k n=>.data (.int k) n
 | .bool b=>.data .bool b
 | .string s=>.data .str s
 | v=>.cst v
def eval (e:Env):Operand->AV
 | .tmp t=>slot e t
 | .const v=>HR v
 | .func f=>.fn f []
 | .global _=>.top
def nth {t:Ty} (xs:List t.D) (i:Int):t.D:=xs.getD i.toNat t.zero
def proj:(t:Ty)->t.D->Nat->(u:Ty)->Option u.D
 | .pair a b,x,off,u=>
  match bif Nat.beq off 0 then Ty.eq? (.pair a b) u else none with
  | some ⟨h⟩=>some (eG h x)
  | none=>bif Nat.blt off a.size then proj a x.1 off u else proj b x.2 (off-a.size) u
 | t,x,off,u=>match bif Nat.beq off 0 then Ty.eq? t u else none with
  | some ⟨h⟩=>some (eG h x)
  | none=>none
def upd:(t:Ty)->t.D->Nat->(u:Ty)->u.D->Option t.D
 | .pair a b,x,off,u,y=>
  match bif Nat.beq off 0 then Ty.eq? u (.pair a b) else none with
  | some ⟨h⟩=>some (eG h y)
  | none=>bif Nat.blt off a.size then (match upd a x.1 off u y with | some z=>some (z,x.2) | none=>none)
   else (match upd b x.2 (off-a.size) u y with | some z=>some (x.1,z) | none=>none)
 | t,_,off,u,y=>match bif Nat.beq off 0 then Ty.eq? u t else none with
  | some ⟨h⟩=>some (eG h y)
  | none=>none
def fP:(t:Ty)->List Value->Option (t.D×List Value)
 | .int k,l=>(match l with
  | .int k' n::l'=>(match decide (k'=k) with
   | true=>some (n,l')
   | false=>none)
  | _=>none)
 | .bool,l=>(match l with
  | .bool b::l'=>some (b,l')
  | _=>none)
 | .str,l=>(match l with
  | .string s::l'=>some (s,l')
  | _=>none)
 | .unit,l=>some ((),l)
 | .sl _,l=>(match l with
  | .slice none 0 0::l'=>some ([],l')
  | _=>none)
 | .pair a b,l=>match fP a l with
  | some (x,l')=>(match fP b l' with
   | some (y,l'')=>some ((x,y),l'')
   | none=>none)
  | none=>none
def zA (t:Ty) (v:Value):Option t.D:=match v with
 | .agg cs=>bif t.agg then (match fP t cs.toList with
  | some (x,[])=>some x
  | _=>none) else none
 | v=>bif t.agg then none else (match fP t [v] with
  | some (x,[])=>some x
  | _=>none)
def aj {α:Type} (xs:List α):Option (Int×Int)->List α
 | none=>xs
 | some (lo,hi)=>(xs.drop lo.toNat).take (hi-lo).toNat
def AV.as (hp:Hp) (t:Ty):AV->Option t.D
 | .brw u xs=>match Ty.eq? (.sl u) t with
  | some ⟨h⟩=>some (eG h xs)
  | none=>none
 | .data u x=>match Ty.eq? u t with
  | some ⟨h⟩=>some (eG h x)
  | none=>none
 | .cst v=>zA t v
 | .own id cut=>match lookup hp id with
  | some (.arr d u xs)=>match Ty.eq? (.sl u) t with
   | some ⟨h⟩=>bif d.whole then some (eG h (aj xs cut)) else none
   | none=>none
  | _=>none
 | .clp id hi=>match lookup hp id with
  | some (.arr d u xs)=>match Ty.eq? (.sl u) t with
   | some ⟨h⟩=>bif d.whole then some (eG h (aj xs (some (0,hi)))) else none
   | none=>none
  | _=>none
 | _=>none
def AV.deep (hp:Hp):AV->Bool
 | .own id _=>(match lookup hp id with
  | some (.arr d _ _)=>d.sk
  | _=>false)
 | .clp id _=>(match lookup hp id with
  | some (.arr d _ _)=>d.sk
  | _=>false)
 | _=>false
mutual
def AV.kill (id:Nat):AV->AV
 | .ptr i o=>bif Nat.beq i id then .top else .ptr i o
 | .elt i j o=>bif Nat.beq i id then .top else .elt i j o
 | .own i c=>bif Nat.beq i id then .top else .own i c
 | .clp i h=>bif Nat.beq i id then .top else .clp i h
 | .agg t vs=>.agg t (AV.fO id vs)
 | .pth i j o t=>bif Nat.beq i id then .top else .pth i j o t
 | .fn f caps=>.fn f (AV.fO id caps)
 | .tup vs=>.tup (AV.fO id vs)
 | .ref v=>.ref (v.kill id)
 | .mp i=>bif Nat.beq i id then .top else .mp i
 | v=>v
def AV.fO (id:Nat):List AV->List AV
 | []=>[]
 | v::l=>v.kill id::AV.fO id l
end
mutual
def AV.fix (id:Nat) (t:Ty) (xs:List t.D):AV->AV
 | .ptr i o=>.ptr i o
 | .elt i j o=>.elt i j o
 | .own i c=>bif Nat.beq i id then .data (.sl t) (aj xs c) else .own i c
 | .clp i h=>bif Nat.beq i id then .data (.sl t) (aj xs (some (0,h))) else .clp i h
 | .agg u vs=>.agg u (AV.gf id t xs vs)
 | .pth i j o u=>bif Nat.beq i id then .top else .pth i j o u
 | .fn f caps=>.fn f (AV.gf id t xs caps)
 | .tup vs=>.tup (AV.gf id t xs vs)
 | .ref v=>.ref (v.fix id t xs)
 | v=>v
def AV.gf (id:Nat) (t:Ty) (xs:List t.D):List AV->List AV
 | []=>[]
 | v::l=>v.fix id t xs::AV.gf id t xs l
end
mutual
def AV.sub (id:Nat) (W:AV):AV->AV
 | .ptr i o=>bif Nat.beq i id then (bif Nat.beq o 0 then W else .top) else .ptr i o
 | .elt i j o=>bif Nat.beq i id then .top else .elt i j o
 | .own i c=>bif Nat.beq i id then .top else .own i c
 | .clp i h=>bif Nat.beq i id then .top else .clp i h
 | .agg t vs=>.agg t (AV.oR id W vs)
 | .pth i j o t=>bif Nat.beq i id then .top else .pth i j o t
 | .fn f caps=>.fn f (AV.oR id W caps)
 | .tup vs=>.tup (AV.oR id W vs)
 | .ref v=>.ref (AV.sub id W v)
 | .mp i=>bif Nat.beq i id then .top else .mp i
 | v=>v
def AV.oR (id:Nat) (W:AV):List AV->List AV
 | []=>[]
 | v::l=>AV.sub id W v::AV.oR id W l
end
mutual
def AV.jj (id:Nat):AV->AV
 | .pth i j o t=>bif Nat.beq i id then .top else .pth i j o t
 | .agg t vs=>.agg t (AV.fQ id vs)
 | .fn f caps=>.fn f (AV.fQ id caps)
 | .tup vs=>.tup (AV.fQ id vs)
 | .ref v=>.ref (v.jj id)
 | v=>v
def AV.fQ (id:Nat):List AV->List AV
 | []=>[]
 | v::l=>v.jj id::AV.fQ id l
end
mutual
def AV.free:AV->Bool
 | .data _ _=>true
 | .cst _=>true
 | .adr _ _=>true
 | .brw _ _=>true
 | .fn _ caps=>AV.qm caps
 | .ref v=>v.free
 | _=>false
def AV.qm:List AV->Bool
 | []=>true
 | v::l=>v.free&&AV.qm l
end
mutual
def AV.kept:AV->Bool
 | .data _ _=>true
 | .cst _=>true
 | .adr _ _=>true
 | .fn _ caps=>AV.iO caps
 | .ref v=>v.kept
 | _=>false
def AV.iO:List AV->Bool
 | []=>true
 | v::l=>v.kept&&AV.iO l
end
def tR (f:AV->AV):Env->Env
 | []=>[]
 | (j,v)::l=>(j,f v)::tR f l
def ko (f:List AV->List AV):Hp->Hp
 | []=>[]
 | (j,.box cs)::l=>(j,.box (f cs))::ko f l
 | (j,.arr d t xs)::l=>(j,.arr d t xs)::ko f l
 | (j,.map k u xs)::l=>(j,.map k u xs)::ko f l
def erase {α:Type}:List (Nat×α)->Nat->List (Nat×α)
 | [],_=>[]
 | (j,x)::l,i=>bif Nat.beq j i then erase l i else (j,x)::erase l i
def St.create (s:St) (id:Nat) (b:Block):St:=
 { env:=tR (AV.kill id) s.env,hp:=(id,b)::ko (AV.fO id) (erase s.hp id) }
def St.setBlock (s:St) (id:Nat) (b:Block):St:={ s with hp:=(id,b)::erase s.hp id }
def St.cR (s:St) (id:Nat) (b:Block):St:={ env:=tR (AV.jj id) s.env,hp:=(id,b)::ko (AV.fQ id) (erase s.hp id) }
def St.freeze (s:St) (id:Nat):St:=match lookup s.hp id with
 | some (.arr d t xs)=>bif Nat.beq id base||!d.whole then s else { env:=tR (AV.fix id t xs) s.env,hp:=ko (AV.gf id t xs) (erase s.hp id) }
 | _=>s
def St.uZ (s:St) (t:Ty) (v:AV):Option (t.D×St):=match v.as s.hp t with
 | some x=>match v with
  | .own id _=>bif Nat.beq id base then none else some (x,s.freeze id)
  | .clp id _=>bif Nat.beq id base then none else some (x,s.freeze id)
  | .brw _ _=>none
  | _=>some (x,s)
 | none=>none
def fS (t:Ty) (s:St):List AV->Option (t.D×List AV×St)
 | []=>none
 | v::l=>match s.uZ t v with
  | some (x,s')=>some (x,l,s')
  | none=>none
def fY:(t:Ty)->List AV->St->Option (t.D×List AV×St)
 | .unit,l,s=>some ((),l,s)
 | .pair a b,l,s=>match fY a l s with
  | some (x,l',s')=>(match fY b l' s' with
   | some (y,l'',s'')=>some ((x,y),l'',s'')
   | none=>none)
  | none=>none
 | .int k,l,s=>fS (.int k) s l
 | .bool,l,s=>fS .bool s l
 | .str,l,s=>fS .str s l
 | .sl t,l,s=>fS (.sl t) s l
def St.iT (s:St) (t:Ty) (v:AV):Option (t.D×St):=match v with
 | .agg u vs=>(match Ty.eq? u t with
  | some _=>bif t.agg then (match fY t vs s with
   | some (x,[],s')=>some (x,s')
   | _=>none) else none
  | none=>none)
 | v=>s.uZ t v
def St.drop (s:St) (id:Nat):St:={ s with hp:=erase s.hp id }
def wO (t:Ty) (s:St) (id:Nat) (cut:List t.D->List t.D):Option (List t.D×St):=match lookup s.hp id with
 | some (.arr d u xs)=>match Ty.eq? u t with
  | some ⟨h⟩=>bif (d.sk||d.Bm&&t.flat)&&!Nat.beq id base then some (cut (eG (congrArg Ty.sl h) xs),s.drop id) else none
  | none=>none
 | _=>none
def HK (t:Ty) (s:St):AV->Option (List t.D×St)
 | .own id none=>wO t s id (fun xs=>xs)
 | .own id (some (lo,hi))=>bif decide (lo=0) then wO t s id (fun xs=>aj xs (some (0,hi))) else none
 | .clp id hi=>wO t s id (fun xs=>aj xs (some (0,hi)))
 | .cst (.slice none 0 0)=>some ([],s)
 | _=>none
def Df (t:Ty) (v:AV) (s:St):Option (t.D×St):=match v.as s.hp t with
 | some x=>some (x,s)
 | none=>none
def yV:(t:Ty)->AV->St->Option (t.D×St)
 | .sl t,v,s=>HK t s v
 | .int k,v,s=>Df (.int k) v s
 | .bool,v,s=>Df .bool v s
 | .str,v,s=>Df .str v s
 | _,_,_=>none
def pS (t:Ty) (s:St):List AV->Option (t.D×List AV×St)
 | []=>none
 | v::l=>match yV t v s with
  | some (x,s')=>some (x,l,s')
  | none=>none
def mH:(t:Ty)->List AV->St->Option (t.D×List AV×St)
 | .unit,l,s=>some ((),l,s)
 | .pair a b,l,s=>match mH a l s with
  | some (x,l',s')=>(match mH b l' s' with
   | some (y,l'',s'')=>some ((x,y),l'',s'')
   | none=>none)
  | none=>none
 | .int k,l,s=>pS (.int k) s l
 | .bool,l,s=>pS .bool s l
 | .str,l,s=>pS .str s l
 | .sl t,l,s=>pS (.sl t) s l
def St.hand (s:St) (t:Ty) (v:AV):Option (t.D×St):=match v with
 | .agg u vs=>(match Ty.eq? u t with
  | some _=>bif t.agg then (match mH t vs s with
   | some (x,[],s')=>some (x,s')
   | _=>none) else none
  | none=>none)
 | v=>bif t.agg then (bif t.flat then (match v.as s.hp t with
   | some x=>some (x,s)
   | none=>none) else none) else yV t v s
def iZ (e:Env) (d:Nat) (v:AV):Env:=(d,v)::erase e d
def St.put (n:Nat) (s:St) (d:Option Nat) (v:AV):St:=match d with
 | some d=>bif Nat.blt d n&&Nat.blt d bV then { s with env:=iZ s.env d v } else s
 | none=>s
inductive Par where
 | lent (t:Ty)
 | dat (t:Ty)
 | any
 /-- An array that the call may keep, write and hand back. -/
 | mv
inductive Mode where
 | plain
 /-- Slices are lent for the call: what comes back holds none of them. -/
 | bor
 /-- The first argument is a slice that the call may write. -/
 | io
 /-- As 'bor', but some arrays are handed over for good. -/
 | mv
structure Con where
 par:List Par
 run:List AV->Hp->(AV->Hp->Prop)->Prop
 mode:Mode:=.plain
 /-- Is a box handed to it, that it may write? -/
 wr:Bool:=false
abbrev Cons:=List (Nat×Con)
def rG (k:IntKind) (n:Int):Int:=match k with
 | .i64=>wrap64 n
 | .i32=>wrap32 n
 | .u8=>n % 256
 | k=>k.wrap n
def nY (op:BinOp) (k:IntKind) (x y:Int):Int:=
 let a:=BitVec.ofInt k.bits x
 let b:=BitVec.ofInt k.bits y
 let back (r:BitVec k.bits):Int:=k.wrap r.toNat
 match op with
 | .and=>back (a &&& b)
 | .or=>back (a ||| b)
 | .xor=>back (a ^^^ b)
 | _=>back (a &&& ~~~b)
def chk (b:Bool) (P:Prop):Prop:=bif b then P else False
def Fo (op:BinOp) (k:IntKind) (a b:Int) (K:AV->Prop):Prop:=match op with
 | .add=>K (.data (.int k) (rG k (a+b)))
 | .sub=>K (.data (.int k) (rG k (a-b)))
 | .mul=>K (.data (.int k) (rG k (a * b)))
 | .quo=>b≠0/\K (.data (.int k) (rG k (a.tdiv b)))
 | .rem=>b≠0/\K (.data (.int k) (a.tmod b:Int))
 | .eql=>K (.data .bool (decide (a=b)))
 | .neq=>K (.data .bool (!decide (a=b)))
 | .lss=>K (.data .bool (decide (a<b)))
 | .leq=>K (.data .bool (decide (a<=b)))
 | .gtr=>K (.data .bool (decide (b<a)))
 | .geq=>K (.data .bool (decide (b<=a)))
 | .and | .or | .xor | .andNot=>K (.data (.int k) (nY op k a b))
 | .shl=>0<=b/\K (.data (.int k) (rG k (a * 2 ^ (min b.toNat k.bits))))
 | .shr=>0<=b/\K (.data (.int k) (a.fdiv (2 ^ (min b.toNat k.bits)):Int))
def KM (op:BinOp) (a b:ByteArray) (K:AV->Prop):Prop:=match op with
 | .add=>a.size+b.size<=9223372036854775807/\K (.data .str (a++b:ByteArray))
 | .eql=>K (.data .bool (decide (a=b)))
 | .neq=>K (.data .bool (!decide (a=b)))
 | .lss=>K (.data .bool (Op.bytesLess a.toList b.toList))
 | .leq=>K (.data .bool (Op.bytesLess a.toList b.toList||decide (a=b)))
 | .gtr=>K (.data .bool (!(Op.bytesLess a.toList b.toList||decide (a=b))))
 | .geq=>K (.data .bool (!Op.bytesLess a.toList b.toList))
 | _=>False
def Li (ok:TypeId->Ty->Bool) (op:BinOp) (ty:TypeId) (x y:AV) (K:AV->Prop):Prop:=match x,y with
 | .data (.int k) a,.data (.int k') b=>match op with
  | .shl=>Fo op k a b K
  | .shr=>Fo op k a b K
  | _=>chk (decide (k=k')) (Fo op k a b K)
 | .data .str a,.data .str b=>KM op a b K
 | .data t a,.data u b=>match Ty.eq? u t with
  | some ⟨h⟩=>bif ok ty t then (match op with
   | .eql=>K (.data .bool (t.beq a (eG h b)))
   | .neq=>K (.data .bool (!t.beq a (eG h b)))
   | _=>False) else False
  | none=>False
 | _,_=>False
def spread:(t:Ty)->t.D->List AV
 | .unit,_=>[]
 | .pair a b,x=>spread a x.1++spread b x.2
 | t,x=>[.data t x]
def setAt {α:Type}:List α->Nat->List α->List α
 | l,0,[]=>l
 | [],_,_=>[]
 | _::l,0,v::vs=>v::setAt l 0 vs
 | x::l,n+1,vs=>x::setAt l n vs
def jL:(t:Ty)->List AV
 | .unit=>[]
 | .pair a b=>jL a++jL b
 | .sl _=>[.cst (.slice none 0 0)]
 | t=>[.data t t.zero]
def qF:List AV->List Nat
 | []=>[]
 | .own i _::l=>i::qF l
 | .clp i _::l=>i::qF l
 | _::l=>qF l
def gK (s:St):List Nat->St
 | []=>s
 | i::l=>gK (s.freeze i) l
mutual
def AV.refs:AV->List Nat
 | .ptr i _=>[i]
 | .elt i _ _=>[i]
 | .own i _=>[i]
 | .clp i _=>[i]
 | .agg _ vs=>AV.aR vs
 | .pth i _ _ _=>[i]
 | .fn _ caps=>AV.aR caps
 | .tup vs=>AV.aR vs
 | .ref v=>v.refs
 | .mp i=>[i]
 | _=>[]
def AV.aR:List AV->List Nat
 | []=>[]
 | v::l=>v.refs++AV.aR l
end
def jJ (i:Nat):List Nat->Bool
 | []=>false
 | j::l=>bif Nat.beq i j then true else jJ i l
def uniq:List Nat->List Nat->List Nat
 | acc,[]=>acc
 | acc,i::l=>bif jJ i acc then uniq acc l else uniq (acc++[i]) l
def FX:Env->List Nat
 | []=>[]
 | (_,v)::l=>v.refs++FX l
def CG (hp:Hp):List Nat->List Nat
 | []=>[]
 | i::l=>match lookup hp i with
  | some (.box cs)=>AV.aR cs++CG hp l
  | _=>CG hp l
def wN (hp:Hp):List Nat->Hp
 | []=>[]
 | i::l=>match lookup hp i with
  | some b=>(i,b)::wN hp l
  | none=>wN hp l
def pZ (e:Env):List Nat->Env
 | []=>[]
 | i::l=>match lookup e i with
  | some v=>(i,v)::pZ e l
  | none=>pZ e l
def va (t:Ty):AV->Option t.D
 | .data u x=>match Ty.eq? u t with
  | some ⟨h⟩=>some (eG h x)
  | none=>none
 | .cst v=>bif t.agg then none else zA t v
 | _=>none
def sO (t:Ty) (l:List AV):Option (t.D×List AV):=match l with
 | v::l'=>(match va t v with
  | some x=>some (x,l')
  | none=>none)
 | []=>none
def kE:(t:Ty)->List AV->Option (t.D×List AV)
 | .unit,l=>some ((),l)
 | .pair a b,l=>match kE a l with
  | some (x,l')=>(match kE b l' with
   | some (y,l'')=>some ((x,y),l'')
   | none=>none)
  | none=>none
 | .int k,l=>sO (.int k) l
 | .bool,l=>sO .bool l
 | .str,l=>sO .str l
 | .sl t,l=>sO (.sl t) l
inductive Dir where
 | keep (slots:List Nat)
 | mine (at_ id:Nat) (t:Ty)
 | freeze (id:Nat)
 | fixBox (id:Nat)
 | fixRow (id:Nat) (t:Ty)
 | mineD (at_ id:Nat) (t:Ty)
 | clip (at_:Nat)
 | mineC (d:Dp) (box off id:Nat) (t:Ty)
 | weak (id:Nat)
 | flat (at_:Nat)
 /-- An array gets another name. -/
 | ren (at_ id:Nat)
 /-- What is cut off the end of an array is gone. -/
 | trim (at_:Nat)
 /-- A nested slice is taken out of a deep array. -/
 | lift (at_ id:Nat)
 /-- A box that holds an own array, and will hold nothing else. -/
 | fixOwn (id:Nat)
 /-- An array that a box holds gets another name. -/
 | JD (box off id:Nat)
def gc (s:St):St:=
 let r1:=uniq [base] (FX s.env)
 let r2:=uniq r1 (CG s.hp r1)
 { s with hp:=wN s.hp (uniq r2 (CG s.hp r2)) }
def St.fB (s:St) (id:Nat) (W:AV):St:={ env:=tR (AV.sub id W) s.env,hp:=ko (AV.oR id W) (erase s.hp id) }
def Dir.run (s:St):Dir->St
 | .freeze id=>s.freeze id
 | .fixBox id=>(match lookup s.hp id with
  | some (.box [v])=>bif v.free&&!Nat.beq id base then s.fB id (.ref v) else s
  | _=>s)
 | .fixOwn id=>(match lookup s.hp id with
  | some (.box [.own k none])=>bif !Nat.beq k id&&!Nat.beq id base then s.fB id (.ref (.own k none)) else s
  | _=>s)
 | .fixRow id t=>(match lookup s.hp id with
  | some (.box cs)=>(match kE t cs with
   | some (x,[])=>bif !Nat.beq id base then s.fB id (.adr t x) else s
   | _=>s)
  | _=>s)
 | .keep slots=>gc { s with env:=pZ s.env slots }
 | .mine j id t=>match slot s.env j with
  | .cst (.slice none 0 0)=>bif Nat.beq id base then s else { s.create id (.arr .sh t []) with env:=iZ (s.create id (.arr .sh t [])).env j (.own id none) }
  | _=>s
 | .mineD j id t=>match slot s.env j with
  | .cst (.slice none 0 0)=>bif Nat.beq id base then s else { s.create id (.arr .dp t []) with env:=iZ (s.create id (.arr .dp t [])).env j (.own id none) }
  | _=>s
 | .mineC d bx off id t=>(match lookup s.hp bx with
  | some (.box cs)=>(match pq cs off with
   | some (.cst (.slice none 0 0))=>bif Nat.beq id base||Nat.beq bx id then s else (match lookup (s.create id (.arr d t [])).hp bx with
    | some (.box cs1)=>(s.create id (.arr d t [])).setBlock bx (.box (setAt cs1 off [.own id none]))
    | _=>s)
   | _=>s)
  | _=>s)
 | .clip j=>(match slot s.env j with
  | .own id none=>(match lookup s.hp id with
   | some (.arr _ _ xs)=>{ s with env:=iZ s.env j (.clp id (xs.length:Int)) }
   | _=>s)
  | _=>s)
 | .weak id=>(match lookup s.hp id with
  | some (.arr .dp t xs)=>bif Nat.beq id base then s else s.cR id (.arr .sh t xs)
  | _=>s)
 | .flat j=>(match slot s.env j with
  | .agg t vs=>(match kE t vs with
   | some (x,[])=>{ s with env:=iZ s.env j (.data t x) }
   | _=>s)
  | _=>s)
 | .JD bx off id=>(match lookup s.hp bx with
  | some (.box cs)=>(match pq cs off with
   | some (.own i none)=>(match lookup s.hp i with
    | some (.arr d t xs)=>bif Nat.beq id base||(Nat.beq i base||Nat.beq bx id) then s else (match lookup ((s.drop i).create id (.arr d t xs)).hp bx with
     | some (.box cs1)=>((s.drop i).create id (.arr d t xs)).setBlock bx (.box (setAt cs1 off [.own id none]))
     | _=>s)
    | _=>s)
   | _=>s)
  | _=>s)
 | .ren j id=>(match slot s.env j with
  | .own i none=>(match lookup s.hp i with
   | some (.arr d t xs)=>bif Nat.beq id base||(Nat.beq i base||Nat.beq i id) then s else { (s.drop i).create id (.arr d t xs) with env:=iZ ((s.drop i).create id (.arr d t xs)).env j (.own id none) }
   | _=>s)
  | _=>s)
 | .lift j k=>(match slot s.env j with
  | .pth id i off v=>(match lookup s.hp id with
   | some (.arr .dp u xs)=>bif Nat.beq id base||(Nat.beq k base||Nat.beq k id) then s else (match proj u (nth xs i) off (.sl v) with
    | some zs=>(match upd u (nth xs i) off (.sl v) [] with
     | some z=>{ (s.cR id (.arr (.ho i off) u (xs.set i.toNat z))).create k (.arr (Dp.of (!v.flat)) v zs) with env:=iZ ((s.cR id (.arr (.ho i off) u (xs.set i.toNat z))).create k (.arr (Dp.of (!v.flat)) v zs)).env j (.own k none) }
     | none=>s)
    | none=>s)
   | _=>s)
  | _=>s)
 | .trim j=>(match slot s.env j with
  | .own i (some (.ofNat 0,hi))=>(match lookup s.hp i with
   | some (.arr .sh t xs)=>bif Nat.beq i base then s else { (s.drop i).create i (.arr .sh t (aj xs (some ((0:Int),hi)))) with env:=iZ ((s.drop i).create i (.arr .sh t (aj xs (some ((0:Int),hi))))).env j (.own i none) }
   | _=>s)
  | _=>s)
def norm (s:St):List Dir->St
 | []=>s
 | d::l=>norm (d.run s) l
abbrev Inl:=List AV->St->(AV->St->Prop)->Prop
structure Ctx where
 tab:Tab
 cmp:TypeId->Bool
 cons:Cons
 n:Nat
 inl:List (Nat×Inl)
 off:Nat
 /-- Are slices kept as trees: arrays made are deep, and what is clipped stays the call's own? -/
 deep:Bool:=false
 /-- May an own array go out beside plain data, where a box was handed over? -/
 two:Bool:=false
def lim:Nat:=140737488355328
def mB (t:Ty):Nat->List (Nat×Operand)->St->Option (List t.D×St)
 | _,[],s=>some ([],s)
 | n,(i,x)::l,s=>bif Nat.beq i n then (match s.iT t (eval s.env x) with
  | some (y,s1)=>match mB t (n+1) l s1 with
   | some (ys,s2)=>some (y::ys,s2)
   | none=>none
  | none=>none) else none
def jB (t:Ty):Nat->List (Nat×Operand)->St->Option (List t.D×St)
 | _,[],s=>some ([],s)
 | n,(i,x)::l,s=>bif Nat.beq i n then (match s.hand t (eval s.env x) with
  | some (y,s1)=>match jB t (n+1) l s1 with
   | some (ys,s2)=>some (y::ys,s2)
   | none=>none
  | none=>none) else none
def fJ (fs:List (Nat×TypeId×String)) (i:Nat):Option (Nat×TypeId×String):=match fs,i with
 | [],_=>none
 | f::_,0=>some f
 | _::l,i+1=>fJ l i
def pT (E:Tab) (fs:List (Nat×TypeId×String)) (t:Ty):t.D->List (Nat×Operand)->St->Option (t.D×St)
 | x,[],s=>some (x,s)
 | x,(i,o)::l,s=>match fJ fs i with
  | some (off,ft,_)=>match E.ty ft with
   | some u=>match s.iT u (eval s.env o) with
    | some (y,s1)=>match upd t x off u y with
     | some x'=>pT E fs t x' l s1
     | none=>none
    | none=>none
   | none=>none
  | none=>none
def jP:AV->Option Int
 | .data (.int _) n=>some n
 | _=>none
def cS {α:Type} (x:Option α) (K:α->Prop):Prop:=match x with
 | some y=>K y
 | none=>False
def me (e:Env):Option Operand->Option AV
 | some x=>some (eval e x)
 | none=>none
def Be (len:Int) (lo hi mx:Option AV) (K:Int->Int->Prop):Prop:=
 cS (match lo with | some v=>jP v | none=>some 0) fun l=>
 cS (match hi with | some v=>jP v | none=>some len) fun h=>
 cS (match mx with | some v=>jP v | none=>some h) fun m=>
 0<=l/\l<=h/\h<=len/\m=h/\K l h
def plainCell:AV->Bool
 | .data _ _=>true
 | .cst _=>true
 | _=>false
def ee:List AV->Bool
 | []=>true
 | v::l=>plainCell v&&ee l
def rN (hp:Hp):List AV->Option (List AV)
 | []=>some []
 | v::l=>match rN hp l with
  | some l'=>(match v with
   | .own id cut=>(match lookup hp id with
    | some (.arr .sh t xs)=>bif Nat.blt 0 t.size&&!Nat.beq id base then some (.brw t (aj xs cut)::l') else none
    | _=>none)
   | v=>bif v.free then some (v::l') else none)
  | none=>none
def CH (p:Par) (v:AV) (s:St):Option (AV×St):=match p with
 | .mv=>none
 | .dat t=>(match s.iT t v with
  | some (x,s')=>some (.data t x,s')
  | none=>none)
 | .lent t=>bif Nat.blt 0 t.size&&(!v.deep s.hp&&!jJ base v.refs) then (match v.as s.hp (.sl t) with
  | some xs=>some (.brw t xs,s)
  | none=>none) else none
 | .any=>match v with
  | .own id cut=>(match lookup s.hp id with
   | some (.arr _ t _)=>(match s.iT (.sl t) (.own id cut) with
    | some (x,s')=>some (.data (.sl t) x,s')
    | none=>none)
   | _=>none)
  | .fn f caps=>(match rN s.hp caps with
   | some l=>some (.fn f l,s)
   | none=>none)
  | .ptr i o=>some (.ptr i o,s)
  | v=>bif v.free then some (v,s) else none
def lg:List Par->List AV->St->Option (List AV×St)
 | [],[],s=>some ([],s)
 | p::ps,v::vs,s=>match CH p v s with
  | some (v',s1)=>(match lg ps vs s1 with
   | some (vs',s2)=>some (v'::vs',s2)
   | none=>none)
  | none=>none
 | _,_,_=>none
def sB:List AV->List Nat
 | []=>[]
 | .ptr i _::l=>i::sB l
 | _::l=>sB l
def mo:List AV->List AV
 | []=>[]
 | .ptr _ o::l=>.ptr base o::mo l
 | v::l=>v::mo l
def BR (hp':Hp) (d:Nat) (r:AV) (s:St):Option (AV×St):=match r with
 | .own 0 none=>(match lookup hp' 0 with
  | some (.arr e t xs)=>some (.own d none,s.create d (.arr e t xs))
  | _=>none)
 | .tup [v,.own 0 none]=>bif v.kept then (match lookup hp' 0 with
  | some (.arr e t xs)=>some (.tup [v,.own d none],s.create d (.arr e t xs))
  | _=>none) else none
 | .tup vs=>bif ee vs then some (.tup vs,s) else none
 | r=>bif r.kept then some (r,s) else none
def iL (c:Bool) (hp':Hp) (d:Nat):Bool->List AV->St->Option (List AV×St)
 | _,[],s=>some ([],s)
 | n,v::l,s=>match v with
  | .own k none=>bif n then (match lookup hp' k with
   | some (.arr e t xs)=>bif (!c||(e.sk||e.Bm&&t.flat))&&!Nat.beq k base then (match iL c hp' d false l (s.create d (.arr e t xs)) with
    | some (vs,s')=>some (.own d none::vs,s')
    | none=>none) else none
   | _=>none) else none
  | .clp k hi=>bif n then (match lookup hp' k with
   | some (.arr e t xs)=>bif (!c||(e.sk||e.Bm&&t.flat))&&!Nat.beq k base then (match iL c hp' d false l (s.create d (.arr e t xs)) with
    | some (vs,s')=>some (.clp d hi::vs,s')
    | none=>none) else none
   | _=>none) else none
  | .data t x=>(match iL c hp' d n l s with
   | some (vs,s')=>some ((bif !c||t.flat then .data t x else .top)::vs,s')
   | none=>none)
  | .cst k=>(match iL c hp' d n l s with
   | some (vs,s')=>some (.cst k::vs,s')
   | none=>none)
  | _=>none
def yX (c:Bool) (hp':Hp) (d:Nat) (r:AV) (s:St):Option (AV×St):=match r with
 | .agg t vs=>(match iL c hp' d true vs s with
  | some (vs',s')=>some (.agg t vs',s')
  | none=>none)
 | .tup vs=>(match iL c hp' d true vs s with
  | some (vs',s')=>some (.tup vs',s')
  | none=>none)
 | r=>(match iL c hp' d true [r] s with
  | some ([v],s')=>some (v,s')
  | _=>none)
def AV.CU (hp:Hp) (t:Ty):AV->Option t.D
 | .brw _ _=>none
 | v=>v.as hp t
def sR (hp:Hp) (t:Ty):List AV->Option (t.D×List AV)
 | []=>none
 | v::l=>match v.CU hp t with
  | some x=>some (x,l)
  | none=>none
def pU (hp:Hp):(t:Ty)->List AV->Option (t.D×List AV)
 | .unit,l=>some ((),l)
 | .pair a b,l=>match pU hp a l with
  | some (x,l')=>(match pU hp b l' with
   | some (y,l'')=>some ((x,y),l'')
   | none=>none)
  | none=>none
 | .int k,l=>sR hp (.int k) l
 | .bool,l=>sR hp .bool l
 | .str,l=>sR hp .str l
 | .sl t,l=>sR hp (.sl t) l
def AV.see (hp:Hp) (t:Ty):AV->Option t.D
 | .pth id i off u=>match lookup hp id with
  | some (.arr .dp v xs)=>match Ty.eq? (.sl u) t with
   | some _=>proj v (nth xs i) off t
   | none=>none
  | _=>none
 | .agg u vs=>match Ty.eq? u t with
  | some _=>bif t.agg then (match pU hp t vs with
   | some (x,[])=>some x
   | _=>none) else none
  | none=>none
 | v=>v.CU hp t
def AV.CK (hp:Hp):AV->Option AV
 | .ref (.own id none)=>match lookup hp id with
  | some (.arr _ t _)=>(match (AV.own id none).see hp (.sl t) with
   | some x=>some (.ref (.data (.sl t) x))
   | none=>none)
  | _=>none
 | v=>bif v.kept then some v else none
def yP (hp:Hp):List AV->Option (List AV)
 | []=>some []
 | v::l=>match v.CK hp with
  | some x=>(match yP hp l with
   | some xs=>some (x::xs)
   | none=>none)
  | none=>none
def AV.KS (hp:Hp):AV->Option AV
 | .fn f caps=>(match yP hp caps with
  | some l=>some (.fn f l)
  | none=>none)
 | v=>bif v.kept then some v else none
def qx (m:Bool) (hp:Hp):List Par->List AV->Option (List AV)
 | [],[]=>some []
 | .dat t::ps,v::vs=>(match v.see hp t with
  | some x=>(match qx m hp ps vs with
   | some l=>some (.data t x::l)
   | none=>none)
  | none=>none)
 | .any::ps,v::vs=>(match v.KS hp with
  | some x=>(match qx m hp ps vs with
   | some l=>some (x::l)
   | none=>none)
  | none=>none)
 | .mv::ps,v::vs=>bif m then (match v with
  | .own _ _=>(match qx m hp ps vs with
   | some l=>some (v::l)
   | none=>none)
  | .clp _ _=>(match qx m hp ps vs with
   | some l=>some (v::l)
   | none=>none)
  | _=>none) else none
 | _,_=>none
def bI:List Par->List AV->List Nat
 | .dat _::ps,v::vs=>v.refs++bI ps vs
 | .any::ps,v::vs=>v.refs++bI ps vs
 | _::ps,_::vs=>bI ps vs
 | _,_=>[]
def meets (k:List Nat):List Nat->Bool
 | []=>false
 | i::l=>jJ i k||meets k l
def fI (s:St):List Nat->St
 | []=>s
 | i::l=>fI (s.drop i) l
def eJ:Nat->List AV->St->Option (List AV×Hp)
 | _,[],_=>some ([],[])
 | n,v::l,s=>match v with
  | .own id none=>bif Nat.beq id base||Nat.beq n base then none else (match lookup s.hp id with
   | some (.arr e t xs)=>(match eJ (n+1) l (s.drop id) with
    | some (vs,h)=>some (.own n none::vs,(n,.arr e t xs)::h)
    | none=>none)
   | _=>none)
  | .own id (some (lo,hi))=>bif decide (lo=0)&&!(Nat.beq id base||Nat.beq n base) then (match lookup s.hp id with
   | some (.arr e t xs)=>(match eJ (n+1) l (s.drop id) with
    | some (vs,h)=>some (.own n none::vs,(n,.arr e t (xs.take hi.toNat))::h)
    | none=>none)
   | _=>none) else none
  | .clp id hi=>bif Nat.beq id base||Nat.beq n base then none else (match lookup s.hp id with
   | some (.arr e t xs)=>(match eJ (n+1) l (s.drop id) with
    | some (vs,h)=>some (.clp n (((xs.take hi.toNat).length:Nat):Int)::vs,(n,.arr e t (xs.take hi.toNat))::h)
    | none=>none)
   | _=>none)
  | v=>bif v.kept then (match eJ n l s with
   | some (vs,h)=>some (v::vs,h)
   | none=>none) else none
def AV.zk:AV->Bool
 | .data u _=>u.flat
 | .tup []=>true
 | _=>false
def xk (d:Dp) (t:Ty) (r:AV) (h':Hp) (K:AV->List t.D->Prop):Prop:=bif r.zk then (match lookup h' base with
  | some (.arr d' t' ys)=>(match Ty.eq? t' t with
   | some ⟨h⟩=>bif Dp.same d' d then K r (eG (congrArg Ty.sl h) ys:List t.D) else False
   | none=>False)
  | _=>False) else False
def FJ (con:Con) (v:AV) (ws:List AV) (s:St) (K:AV->St->Prop):Prop:=match v with
 | .own id none=>(match lookup s.hp id with
  | some (.arr d t xs)=>con.run (.clp base (xs.length:Int)::ws) [(base,.arr d t xs)] fun r h'=>xk d t r h' fun v ys=>
    ys.length=xs.length/\K v (s.cR id (.arr d t ys))
  | _=>False)
 | .clp id hi=>(match lookup s.hp id with
  | some (.arr d t xs)=>hi=(xs.length:Int)/\con.run (.clp base (xs.length:Int)::ws) [(base,.arr d t xs)] fun r h'=>xk d t r h' fun v ys=>
    ys.length=xs.length/\K v (s.cR id (.arr d t ys))
  | _=>False)
 | .pth id i off t=>(match lookup s.hp id with
  | some (.arr .dp u xs)=>cS (proj u (nth xs i) off (.sl t)) fun zs=>con.run (.clp base ((zs:List t.D).length:Int)::ws) [(base,.arr (Dp.of (!t.flat)) t (zs:List t.D))] fun r h'=>xk (Dp.of (!t.flat)) t r h' fun v ys=>
    ys.length=(zs:List t.D).length/\cS (upd u (nth xs i) off (.sl t) ys) fun z=>K v (s.cR id (.arr .dp u (xs.set i.toNat z)))
  | _=>False)
 | _=>False
def Cr (d:Nat):List Nat->Nat
 | [i]=>i
 | _=>d
def Jp (m:Bool) (con:Con) (args:List AV) (d:Nat) (s:St) (K:AV->St->Prop):Prop:=bif jJ base (AV.aR args) then False else
 cS (qx m s.hp con.par args) fun l=>bif meets (AV.aR l) (bI con.par args) then False else
 cS (eJ 0 l s) fun q=>con.run q.1 q.2 fun r h'=>cS (yX (!(bI con.par args).isEmpty) h' (Cr d (AV.aR l)) r (fI s (AV.aR l))) fun z=>K z.1 z.2
def Ie (C:Ctx) (g:FuncId) (args:List AV) (d:Nat) (s:St) (K:AV->St->Prop):Prop:=match lookup C.inl g with
 | some T=>T args s K
 | none=>
 cS (lookup C.cons g) fun con=>match con.mode with
 | .bor=>Jp false con args d s K
 | .mv=>Jp true con args d s K
 | .io=>(match args with
  | v::vs=>(match AV.aR vs with
   | []=>cS (qx false s.hp con.par vs) fun ws=>FJ con v ws s K
   | _=>False)
  | []=>False)
 | .plain=>cS (lg con.par args s) fun p=>
 match uniq [] (sB p.1) with
 | []=>con.run p.1 [] fun r h'=>cS (BR h' d r p.2) fun q=>K q.1 q.2
 | [i]=>(match lookup p.2.hp i with
  | some (.box cs)=>bif ee cs&&!Nat.beq d i then con.run (mo p.1) [(base,.box cs)] (fun r h'=>match lookup h' base with
    | some (.box cs')=>bif Nat.beq cs'.length cs.length&&ee cs' then cS (BR h' d r p.2) fun q=>K q.1 (q.2.setBlock i (.box cs')) else False
    | _=>False) else False
  | _=>False)
 | _=>False
def KD (C:Ctx) (ty:TypeId) (b x:AV) (d:Nat) (s:St) (K:AV->St->Prop):Prop:=match lookup C.tab ty with
 | some { td:=.sl e t,.. }=>(match lookup C.tab e with
  | some ei=>bif x.deep s.hp then cS (s.hand (.sl t) x) fun y=>(match b with
   | .cst (.slice none 0 0)=>(y.1:List t.D).length * ei.bytes<=lim/\K (.own d none) (y.2.create d (.arr .dp t y.1))
   | .own id none=>(match lookup y.2.hp id with
    | some (.arr .dp u xs)=>(match Ty.eq? u t with
     | some ⟨h⟩=>bif Nat.beq id base then False else ((xs.length+(y.1:List t.D).length) * ei.bytes<=lim)/\K (.own id none) (y.2.create id (.arr .dp t ((eG (congrArg Ty.sl h) xs:List t.D)++(y.1:List t.D))))
     | none=>False)
    | _=>False)
   | _=>False)
  else bif jJ base x.refs then False else cS (x.as s.hp (.sl t)) fun ys=>(match b with
   | .cst (.slice none 0 0)=>(ys:List t.D).length * ei.bytes<=lim/\K (.own d none) (s.create d (.arr .sh t ys))
   | .own id cut=>(match lookup s.hp id with
    | some (.arr .sh u xs)=>(match Ty.eq? u t with
     | some ⟨h⟩=>bif Nat.beq id base then False else (match cut with
      | none=>((xs.length+(ys:List t.D).length) * ei.bytes<=lim)/\K (.own id none) (s.create id (.arr .sh t ((eG (congrArg Ty.sl h) xs:List t.D)++(ys:List t.D))))
      | some (lo,hi)=>lo=0/\((hi.toNat+(ys:List t.D).length) * ei.bytes<=lim)/\K (.own id none) (s.create id (.arr .sh t ((eG (congrArg Ty.sl h) xs:List t.D).take hi.toNat++(ys:List t.D)))))
     | none=>False)
    | _=>False)
   | _=>False)
  | none=>False)
 | _=>False
def vM (b x:AV) (s:St):St:=match b,x with
 | .own i _,.own j none=>(match lookup s.hp i,lookup s.hp j with
  | some (.arr .sh _ _),some (.arr .dp _ _)=>Dir.run s (.weak j)
  | some (.arr .dp _ _),some (.arr .sh _ _)=>Dir.run s (.weak i)
  | _,_=>s)
 | _,_=>s
def qh (x:Operand) (d:Nat) (s:St):St:=match x with
 | .tmp t=>(match slot s.env t with
  | .pth _ _ _ _=>Dir.run s (.lift t d)
  | _=>s)
 | _=>s
def LH (C:Ctx) (ty:TypeId) (x y:Operand) (d:Nat) (s:St) (K:AV->St->Prop):Prop:=KD C ty (eval s.env x) (eval s.env y) d s K
def Ly (C:Ctx) (ty:TypeId) (x y:Operand) (d:Nat) (s:St) (K:AV->St->Prop):Prop:=LH C ty x y d (vM (eval s.env x) (eval s.env y) s) K
def so (C:Ctx) (f:Operand) (l:List Operand) (d:Nat) (s:St):St:=match f with
 | .func g=>(match lookup C.inl g with
  | some _=>(match l with
   | x::_=>qh x d s
   | []=>s)
  | none=>s)
 | _=>s
def Kb (C:Ctx) (g:FuncId) (caps:List AV) (l:List Operand) (d:Nat) (s:St) (K:AV->St->Prop):Prop:=Ie C g (l.map (eval s.env)++caps) d s K
def HE (C:Ctx) (ty u:TypeId) (b n:AV) (d:Nat) (s:St) (K:AV->St->Prop):Prop:=match lookup C.tab ty with
 | some { td:=.sl e t,.. }=>(match lookup C.tab e with
  | some ei=>(match lookup C.tab u with
   | some { td:=.val (.int _),.. }=>(match b,n with
    | .cst (.slice none 0 0),.data (.int .i64) m=>0<=m/\m * ei.bytes<=(lim:Int)/\K (.own d none) (s.create d (.arr .sh t (List.replicate m.toNat t.zero)))
    | _,_=>False)
   | _=>False)
  | none=>False)
 | _=>False
def Ff (C:Ctx) (ty:TypeId) (v:AV) (s:St) (K:AV->St->Prop):Prop:=match lookup C.tab ty with
 | some { td:=.sl _ t,.. }=>(match v with
  | .own id (some (lo,hi))=>(match lookup s.hp id with
   | some (.arr .sh u xs)=>(match Ty.eq? u t with
    | some ⟨h⟩=>K .top (s.cR id (.arr .sh t ((eG (congrArg Ty.sl h) xs:List t.D).take lo.toNat++(List.replicate (hi-lo).toNat t.zero++(eG (congrArg Ty.sl h) xs:List t.D).drop hi.toNat))))
    | none=>False)
   | _=>False)
  | _=>False)
 | _=>False
def KF (C:Ctx) (ty:TypeId) (v:AV) (s:St) (K:AV->St->Prop):Prop:=match lookup C.tab ty with
 | some { td:=.sl _ _,.. }=>(match v with
  | .cst (.slice none 0 0)=>K (.data (.int .i64) (0:Int)) s
  | _=>False)
 | _=>False
def CR (E:Tab) (u:TypeId):Bool:=match lookup E u with
 | some { td:=.val (.int _),.. }=>true
 | some _=>false
 | none=>true
def BK (C:Ctx) (ty:TypeId) (d:Nat) (v:AV) (s:St) (K:AV->St->Prop):Prop:=match v with
 | .cst v=>(match lookup C.tab ty with
  | some { td:=.sl _ t,.. }=>(match v with
   | .slice none 0 0=>K (.own d none) (s.create d (.arr (Dp.of (C.deep&&!t.flat)) t []))
   | v=>K (.cst v) s)
  | some { td:=.st _ t,.. }=>cS (zA t v) fun x=>K (.data t x) s
  | _=>K (.cst v) s)
 | v=>K v s
def IC (x:Operand) (v:AV):Bool:=match x with
 | .tmp _=>(match v with
  | .cst (.slice none 0 0)=>true
  | _=>false)
 | _=>false
def AV.one (hp:Hp):AV->Bool
 | .data t _=>!t.agg
 | .cst v=>v.oneCell'
 | .adr _ _=>true
 | .ptr i _=>(match lookup hp i with
  | some _=>true
  | none=>false)
 | .own i _=>(match lookup hp i with
  | some (.arr _ _ _)=>true
  | _=>false)
 | .clp i _=>(match lookup hp i with
  | some (.arr _ _ _)=>true
  | _=>false)
 | .fn _ _=>true
 | .brw _ _=>true
 | .ref _=>true
 | _=>false
def Ge (C:Ctx) (ty:TypeId) (a:AV) (s:St) (K:AV->St->Prop):Prop:=cS (C.tab.ty ty) fun u=>match a with
 | .adr t x=>(match Ty.eq? t u with
  | some ⟨h⟩=>K (.data u (eG h x)) s
  | none=>False)
 | .badr t x=>(match Ty.eq? t u with
  | some ⟨h⟩=>K (.data u (eG h x)) s
  | none=>False)
 | .ptr id off=>(match lookup s.hp id with
  | some (.box cs)=>bif u.agg
    then (match lookup (gK s (qF ((cs.drop off).take u.size))).hp id with
     | some (.box cs1)=>bif C.deep&&Nat.beq off 0&&Nat.beq u.size cs.length&&!ee cs then K (.agg u cs) s
      else cS (kE u (cs1.drop off)) fun x=>K (.data u x.1) (gK s (qF ((cs.drop off).take u.size)))
     | _=>False)
    else cS (pq cs off) fun v=>K v s
  | _=>False)
 | .elt id i off=>(match lookup s.hp id with
  | some (.arr d t xs)=>bif d.Bm||d.sk&&u.flat then cS (proj t (nth xs i) off u) fun y=>K (.data u y) s
   else bif !d.sk then False else (match u with
    | .sl v=>cS (proj t (nth xs i) off (.sl v)) fun _=>K (.pth id i off v) s
    | _=>False)
  | _=>False)
 | .ref v=>bif u.agg then False else K v s
 | _=>False
def AV.isAgg (u:Ty):AV->Bool
 | .agg t vs=>Ty.same t u&&Nat.beq vs.length u.size
 | _=>false
def AV.cells:AV->List AV
 | .agg _ vs=>vs
 | _=>[]
def ir (E:Tab) (fs:List (Nat×TypeId×String)) (s:St):List AV->List (Nat×Operand)->Option (List AV)
 | cs,[]=>some cs
 | cs,(i,o)::l=>match fJ fs i with
  | some (off,ft,_)=>(match E.ty ft with
   | some u=>bif Nat.ble (off+u.size) cs.length then (bif u.agg then (match eval s.env o with
     | .data t x=>(match Ty.eq? t u with
      | some _=>ir E fs s (setAt cs off (spread t x)) l
      | none=>none)
     | v=>bif v.isAgg u then ir E fs s (setAt cs off v.cells) l else none)
    else bif (eval s.env o).one s.hp then ir E fs s (setAt cs off [eval s.env o]) l else none) else none
   | none=>none)
  | none=>none
def Jb (C:Ctx) (ty:TypeId) (a v:AV) (s:St) (K:AV->St->Prop):Prop:=cS (C.tab.ty ty) fun u=>match a with
 | .ptr id off=>bif u.agg
   then (bif C.deep&&v.isAgg u then (match lookup s.hp id with
     | some (.box cs)=>chk (Nat.ble (off+u.size) cs.length) (K .top (s.setBlock id (.box (setAt cs off v.cells))))
     | _=>False) else
    cS (s.iT u v) fun y=>(match lookup y.2.hp id with
    | some (.box cs)=>chk (Nat.ble (off+u.size) cs.length) (K .top (y.2.setBlock id (.box (setAt cs off (spread u y.1)))))
    | _=>False))
   else (match lookup s.hp id with
    | some (.box cs)=>bif v.one s.hp then chk (Nat.blt off cs.length) (K .top (s.setBlock id (.box (setAt cs off [v])))) else False
    | _=>False)
 | .elt id i off=>(match lookup s.hp id with
  | some (.arr .dp _ _)=>cS (s.hand u v) fun y=>(match lookup y.2.hp id with
   | some (.arr .dp t xs)=>cS (upd t (nth xs i) off u y.1) fun z=>K .top (y.2.cR id (.arr .dp t (xs.set i.toNat z)))
   | _=>False)
  | some (.arr (.ho _ _) _ _)=>(match u with
   | .sl q=>cS (s.hand (.sl q) v) fun y=>(match lookup y.2.hp id with
    | some (.arr (.ho i0 off0) t xs)=>i=i0/\(bif Nat.beq off off0 then cS (upd t (nth xs i) off (.sl q) y.1) fun z=>K .top (y.2.cR id (.arr .dp t (xs.set i.toNat z))) else False)
    | _=>False)
   | _=>False)
  | _=>cS (s.iT u v) fun y=>(match lookup y.2.hp id with
   | some (.arr .sh t xs)=>cS (upd t (nth xs i) off u y.1) fun z=>K .top (y.2.cR id (.arr .sh t (xs.set i.toNat z)))
   | _=>False))
 | _=>False
def KK (C:Ctx) (ty:TypeId) (v:AV) (s:St) (K:AV->St->Prop):Prop:=match lookup C.tab ty with
 | some { td:=.val .str,.. }=>(match v with
  | .data .str b=>K (.data (.int .i64) ((b:ByteArray).size:Int)) s
  | _=>False)
 | some { td:=.sl _ _,.. }=>(match v with
  | .data (.sl _) xs=>K (.data (.int .i64) ((xs:List _).length:Int)) s
  | .brw _ xs=>K (.data (.int .i64) (xs.length:Int)) s
  | .cst (.slice none 0 0)=>K (.data (.int .i64) (0:Int)) s
  | .own id cut=>(match lookup s.hp id with
   | some (.arr _ _ xs)=>(match cut with
    | none=>K (.data (.int .i64) (xs.length:Int)) s
    | some (lo,hi)=>K (.data (.int .i64) (hi-lo:Int)) s)
   | _=>False)
  | .clp id hi=>(match lookup s.hp id with
   | some (.arr _ _ _)=>K (.data (.int .i64) (hi:Int)) s
   | _=>False)
  | _=>False)
 | _=>False
def Fe (C:Ctx) (ty:TypeId) (v:AV) (lo hi mx:Option AV) (s:St) (K:AV->St->Prop):Prop:=match lookup C.tab ty with
 | some { td:=.val .str,.. }=>(match v,mx with
  | .data .str b,none=>Be ((b:ByteArray).size:Int) lo hi none fun l h=>K (.data .str ((b:ByteArray).extract l.toNat h.toNat:ByteArray)) s
  | _,_=>False)
 | some { td:=.sl _ t',.. }=>(match v with
  | .data (.sl t) xs=>bif Ty.same t t' then Be ((xs:List _).length:Int) lo hi mx fun l h=>K (.data (.sl t) (aj xs (some (l,h)))) s else False
  | .brw t xs=>bif Ty.same t t' then Be (xs.length:Int) lo hi mx fun l h=>K (.brw t (aj xs (some (l,h)))) s else False
  | .cst (.slice none 0 0)=>Be 0 lo hi mx fun _ _=>K (.cst (.slice none 0 0)) s
  | .own id cut=>(match lookup s.hp id with
   | some (.arr _ t xs)=>bif Ty.same t t' then (match mx with
    | none=>(match cut with
     | none=>Be (xs.length:Int) lo hi none fun l h=>K (.own id (some (l,h))) s
     | some (a,b)=>Be (b-a) lo hi none fun l h=>K (.own id (some (a+l,a+h))) s)
    | some m=>bif C.deep then (match cut with
     | none=>Be (xs.length:Int) lo hi (some m) fun l h=>l=0/\K (bif Nat.beq C.off 500000 then .own id (some (0,h)) else .clp id h) s
     | some _=>False) else cS (s.iT (.sl t) (.own id cut)) fun y=>Be ((y.1:List t.D).length:Int) lo hi (some m) fun l h=>K (.data (.sl t) (aj (y.1:List t.D) (some (l,h)))) y.2) else False
   | _=>False)
  | _=>False)
 | _=>False
def zL (C:Ctx) (ty:TypeId) (v i:AV) (s:St) (K:AV->St->Prop):Prop:=match lookup C.tab ty with
 | some { td:=.sl _ t',.. }=>cS (jP i) fun n=>(match v with
  | .data (.sl t) xs=>bif Ty.same t t' then 0<=n/\n<((xs:List _).length:Int)/\K (.adr t (nth xs n)) s else False
  | .brw t xs=>bif Ty.same t t' then 0<=n/\n<(xs.length:Int)/\K (.badr t (nth xs n)) s else False
  | .own id cut=>(match lookup s.hp id with
   | some (.arr _ t xs)=>bif Ty.same t t' then (match cut with
    | none=>0<=n/\n<(xs.length:Int)/\K (.elt id n 0) s
    | some (lo,hi)=>0<=n/\n<hi-lo/\K (.elt id (lo+n) 0) s) else False
   | _=>False)
  | .clp id hi=>(match lookup s.hp id with
   | some (.arr _ t xs)=>bif Ty.same t t' then 0<=n/\n<hi/\K (.elt id n 0) s else False
   | _=>False)
  | _=>False)
 | _=>False
def zg (C:Ctx) (st:TypeId) (v:AV) (f:Nat) (s:St) (K:AV->St->Prop):Prop:=match lookup C.tab st with
 | some { td:=.st fs _,.. }=>cS (fJ fs f) fun q=>(match v with
  | .adr t y=>cS (C.tab.ty q.2.1) fun u=>cS (proj t y q.1 u) fun z=>K (.adr u z) s
  | .badr t y=>cS (C.tab.ty q.2.1) fun u=>cS (proj t y q.1 u) fun z=>K (.badr u z) s
  | .ptr id o=>(match lookup s.hp id with
   | some _=>K (.ptr id (o+q.1)) s
   | none=>False)
  | .elt id i o=>(match lookup s.hp id with
   | some _=>K (.elt id i (o+q.1)) s
   | none=>False)
  | _=>False)
 | _=>False
def Ii (C:Ctx) (st:TypeId) (v:AV) (f:Nat) (s:St) (K:AV->St->Prop):Prop:=match lookup C.tab st with
 | some { td:=.st fs _,.. }=>cS (fJ fs f) fun q=>(match v with
  | .data t y=>bif t.agg then cS (C.tab.ty q.2.1) fun u=>cS (proj t y q.1 u) fun z=>K (.data u z) s else False
  | _=>False)
 | _=>False
def cj (s:ByteArray):List Int:=s.data.toList.map fun b=>(b.toNat:Int)
def strOf (xs:List Int):ByteArray:=⟨(xs.map fun n=>UInt8.ofNat n.toNat).toArray⟩
def Kk (C:Ctx) (src dst:TypeId) (v:AV) (s:St) (K:AV->St->Prop):Prop:=match lookup C.tab src,lookup C.tab dst with
 | some { td:=.val (.int _),.. },some { td:=.val (.int k),.. }=>(match v with
  | .data (.int _) n=>K (.data (.int k) (rG k n)) s
  | _=>False)
 | some { td:=.val .str,.. },some { td:=.sl _ (.int .u8),.. }=>(match v with
  | .data .str b=>K (.data (.sl (.int .u8)) (cj b)) s
  | _=>False)
 | some { td:=.sl _ (.int .u8),.. },some { td:=.val .str,.. }=>bif v.deep s.hp||jJ base v.refs then False else cS (v.as s.hp (.sl (.int .u8))) fun xs=>K (.data .str (strOf xs)) s
 | _,_=>False
def Lo (C:Ctx) (e:TypeId) (v:AV) (d:Nat) (s:St) (K:AV->St->Prop):Prop:=cS (C.tab.ty e) fun t=>bif t.agg
 then (match (bif Nat.ble 900000 C.off then v else .top) with
  | .agg u vs=>(match Ty.eq? u t with
   | some _=>K (.ptr d 0) (s.create d (.box (AV.fO d vs)))
   | none=>False)
  | _=>cS (s.iT t v) fun y=>K (.ptr d 0) (y.2.create d (.box (spread t y.1))))
 else bif v.one s.hp then K (.ptr d 0) (s.create d (.box [AV.kill d v])) else False
def Ko (C:Ctx) (ty:TypeId) (n c:AV) (d:Nat) (s:St) (K:AV->St->Prop):Prop:=match lookup C.tab ty with
 | some { td:=.sl e t,.. }=>cS (lookup C.tab e) fun ei=>cS (jP n) fun a=>cS (jP c) fun b=>
   b=a/\0<=a/\a * ei.bytes<=(lim:Int)/\K (.own d none) (s.create d (.arr (Dp.of (C.deep&&!t.flat)) t (List.replicate a.toNat t.zero)))
 | _=>False
def Kf (c x y:AV) (s:St) (K:AV->St->Prop):Prop:=match c with
 | .data .bool b=>(match x,y with
  | .data t p,.data u q=>(match Ty.eq? u t with
   | some ⟨h⟩=>K (.data t (bif b then p else eG h q)) s
   | none=>False)
  | v,w=>bif b then K v s else K w s)
 | _=>False
def mmW (max:Bool) (x y:AV) (s:St) (K:AV->St->Prop):Prop:=match x,y with
 | .data (.int k) a,.data (.int k') b=>chk (decide (k=k')) (K (.data (.int k) (if (if max then b > a else b<a) then b else a:Int)) s)
 | _,_=>False
def HM {α:Type}:List (Int×α)->Int->Option α
 | [],_=>none
 | p::l,n=>bif decide (n=p.1) then some p.2 else HM l n
def Hi {α:Type}:List (Int×α)->Int->α->List (Int×α)
 | [],n,x=>[(n,x)]
 | p::l,n,x=>bif decide (n=p.1) then (p.1,x)::l else p::Hi l n x
def Hh {α:Type}:List (Int×α)->Int->List (Int×α)
 | [],_=>[]
 | p::l,n=>bif decide (n=p.1) then l else p::Hh l n
def FW (u:Ty) (l:List (Int×u.D)) (n:Int):u.D:=match HM l n with
 | some x=>x
 | none=>u.zero
def JG {α:Type} (l:List (Int×α)) (n:Int):Bool:=(HM l n).isSome
def Gy (C:Ctx) (ty:TypeId) (d:Nat) (s:St) (K:AV->St->Prop):Prop:=match lookup C.tab ty with
 | some { td:=.mp k _ u,.. }=>K (.mp d) (s.create d (.map k u []))
 | _=>False
def HA (C:Ctx) (ty:TypeId) (m k:AV) (s:St) (K:(u:Ty)->List (Int×u.D)->Int->(List (Int×u.D)->St)->Prop):Prop:=match lookup C.tab ty with
 | some { td:=.mp kk _ u,.. }=>(match m with
  | .mp id=>(match lookup s.hp id with
   | some (.map k' u' xs)=>(match Ty.eq? u' u with
    | some ⟨h⟩=>(match k with
     | .data (.int k2) n=>bif decide (k2=kk)&&(decide (k'=kk)&&!Nat.beq id base) then K u (h▸xs) n (fun ys=>s.setBlock id (.map kk u ys)) else False
     | _=>False)
    | none=>False)
   | _=>False)
  | _=>False)
 | _=>False
def FM (C:Ctx) (ty:TypeId) (m k:AV) (c:Bool) (s:St) (K:AV->St->Prop):Prop:=
 HA C ty m k s fun u xs n _=>bif c then K (.tup [.data u (FW u xs n),.data .bool (JG xs n)]) s else K (.data u (FW u xs n)) s
def yN (C:Ctx) (ty:TypeId) (m k v:AV) (s:St) (K:AV->St->Prop):Prop:=
 HA C ty m k s fun u xs n put=>cS (va u v) fun x=>K .top (put (Hi xs n x))
def CE (C:Ctx) (ty:TypeId) (m k:AV) (s:St) (K:AV->St->Prop):Prop:=
 HA C ty m k s fun _ xs n put=>K .top (put (Hh xs n))
def Ctx.JE (C:Ctx) (ty:TypeId) (t:Ty):Bool:=C.cmp ty&&(match C.tab.ty ty with
 | some u=>Ty.same u t
 | none=>false)
def Kd:Option Operand->Option Operand->Bool
 | none,some _=>false
 | _,_=>true
def opW (C:Ctx) (o:Oper) (s:St) (K:AV->St->Prop):Prop:=
 let d:=Nat.add (o.dst.getD 0) C.off
 let ev:=eval s.env
 match o.op with
 | .move x=>bif IC x (ev x) then K (ev x) s else BK C o.type d (ev x) s K
 | .assign x=>BK C o.type d (ev x) s K
 | .pick c a b=>Kf (ev c) (ev a) (ev b) s K
 | .alloc e=>cS (C.tab.ty e) fun t=>K (.ptr d 0) (s.create d (.box (jL t)))
 | .box e x=>Lo C e (ev x) d s K
 | .build ty parts=>(match lookup C.tab ty with
  | some { td:=.st fs t,.. }=>bif C.deep&&!t.flat then cS (ir C.tab fs s (jL t) parts.toList) fun cs=>K (.agg t cs) s
   else cS (pT C.tab fs t t.zero parts.toList s) fun y=>K (.data t y.1) y.2
  | _=>False)
 | .buildSlice ty len parts=>(match lookup C.tab ty with
  | some { td:=.sl _ t,.. }=>bif Nat.beq len parts.toList.length&&Nat.ble (len * t.size) 16777216 then
    (bif C.deep&&(!t.flat&&(jB t 0 parts.toList s).isSome) then cS (jB t 0 parts.toList s) fun y=>K (.own d none) (y.2.create d (.arr .dp t y.1))
    else cS (mB t 0 parts.toList s) fun y=>K (.own d none) (y.2.create d (.arr .sh t y.1))) else False
  | _=>False)
 | .load ty a=>Ge C ty (ev a) s K
 | .store ty a x=>Jb C ty (ev a) (ev x) s K
 | .nilCheck x=>(match ev x with
  | .adr t y=>K (.adr t y) s
  | .badr t y=>K (.badr t y) s
  | .ptr i o=>(match lookup s.hp i with
   | some _=>K (.ptr i o) s
   | none=>False)
  | .elt i j o=>(match lookup s.hp i with
   | some _=>K (.elt i j o) s
   | none=>False)
  | .fn f c=>K (.fn f c) s
  | .ref v=>K (.ref v) s
  | _=>False)
 | .binOp op ty x y _=>Li C.JE op ty (ev x) (ev y) fun v=>K v s
 | .unOp op _ x=>(match op,ev x with
  | .neg,.data (.int k) n=>K (.data (.int k) (rG k (0-n))) s
  | .not,.data .bool b=>K (.data .bool (!b)) s
  | _,_=>False)
 | .convert src dst x=>Kk C src dst (ev x) s K
 | .makeFunc fn first caps=>(match fn,first.toList with
  | .func f,[]=>K (.fn f (caps.toList.map ev)) s
  | _,_=>False)
 | .makeSlice ty n c=>Ko C ty (ev n) (ev c) d s K
 | .slice ty x lo hi mx=>bif Kd hi mx then Fe C ty (ev x) (me s.env lo) (me s.env hi) (me s.env mx) s K else False
 | .fieldAddr st x f=>zg C st (ev x) f s K
 | .field st x f=>Ii C st (ev x) f s K
 | .indexAddr ty x i=>zL C ty (ev x) (ev i) s K
 | .index ty x i=>(match lookup C.tab ty with
  | some { td:=.val .str,.. }=>cS (jP (ev i)) fun n=>(match ev x with
   | .data .str b=>0<=n/\n<((b:ByteArray).size:Int)/\K (.data (.int .u8) (((b:ByteArray).get! n.toNat).toNat:Int)) s
   | _=>False)
  | _=>False)
 | .extract x i=>(match ev x with
  | .tup vs=>cS (pq vs i) fun v=>K v s
  | _=>False)
 | .call c=>(match c.callee with
  | .value f=>(match ev f with
   | .fn g caps=>Kb C g caps c.args.toList d (so C f c.args.toList d s) K
   | _=>False)
  | .builtin b=>(match b,c.args.toList,c.argTypes.toList with
   | .len,[x],[t]=>KK C t (ev x) s K
   | .append,[x,y],[t,u]=>bif CR C.tab u then HE C t u (ev x) (ev y) d s K else Ly C t x y d (qh x d s) K
   | .cap,[x],[t]=>KF C t (ev x) s K
   | .clear,[x],[t]=>Ff C t (ev x) s K
   | .delete,[x,k],[t,_]=>CE C t (ev x) (ev k) s K
   | .min,[x,y],_=>mmW false (ev x) (ev y) s K
   | .max,[x,y],_=>mmW true (ev x) (ev y) s K
   | _,_,_=>False)
  | _=>False)
 | .makeMap ty r=>(match r with
  | none=>Gy C ty d s K
  | some _=>False)
 | .lookup ty m k c=>FM C ty (ev m) (ev k) c s K
 | .insert ty m k v=>yN C ty (ev m) (ev k) (ev v) s K
 | .mapUpdate ty m k v=>yN C ty (ev m) (ev k) (ev v) s K
 | _=>False
def DV (ops:List Oper) (j:Nat):Option Nat:=match pq ops j with
 | some o=>o.dst
 | none=>none
def Er (C:Ctx) (all:List Oper):List Oper->St->(St->Prop)->Prop
 | [],s,K=>K s
 | o::l,s,K=>bif Nat.beq (Nat.add (o.dst.getD 0) C.off) base then False else match o.guard with
  | none=>opW C o s fun v s1=>Er C all l (s1.put C.n o.dst v) K
  | some (j,want)=>match DV all j with
   | some g=>match slot s.env g with
    | .data .bool b=>bif (b==want)
     then opW C o (s.put C.n (some g) (.data .bool want)) fun v s1=>Er C all l (s1.put C.n o.dst v) K
     else Er C all l ((s.put C.n (some g) (.data .bool (!want))).put C.n o.dst (.cst (.tuple #[]))) K
    | .cst (.tuple _)=>Er C all l (s.put C.n o.dst (.cst (.tuple #[]))) K
    | _=>False
   | none=>False
inductive X where
 | normal
 | exit (id:Nat)
 | ret

def sF (o:Oper):Bool:=match o.op with
 | .move _ | .assign _ | .pick .. | .load .. | .nilCheck _ | .binOp .. | .unOp .. | .fieldAddr .. | .field .. | .indexAddr .. | .index .. | .extract .. | .makeFunc .. | .slice .. | .build ..=>true
 | .call c=>(match c.callee with
  | .builtin b=>(match b with
   | .len | .min | .max=>true
   | _=>false)
  | _=>false)
 | _=>false
def CL (o:Oper):Bool:=match o.op with
 | .move _ | .fieldAddr .. | .indexAddr .. | .binOp .. | .unOp .. | .build ..=>true
 | _=>false
def jc (o:Oper):Bool:=match o.op with
 | .store ..=>true
 | .call c=>(match c.callee with
  | .builtin .append=>true
  | .builtin .clear=>true
  | .builtin .delete=>true
  | _=>false)
 | .insert ..=>true
 | .mapUpdate ..=>true
 | _=>false
def cM:List Edge->Nat
 | []=>0
 | e::l=>bif Region.binds .any e then Nat.lor (Nat.shiftLeft 1 e.on) (cM l) else cM l
def bit (m j:Nat):Bool:=Nat.beq (Nat.land (Nat.shiftRight m j) 1) 1
def within (m n:Nat):Bool:=Nat.beq (Nat.land m n) m
def kF (done:Nat):Nat->List Oper->List Nat
 | _,[]=>[]
 | j,o::l=>bif !bit done j&&within (cM o.after.toList) done then j::kF done (j+1) l else kF done (j+1) l
def tmpsOf:List Operand->List Nat
 | []=>[]
 | .tmp t::l=>t::tmpsOf l
 | _::l=>tmpsOf l
def Cz (ops:List Oper) (o:Oper):List Nat:=match o.guard with
 | some (j,_)=>(match DV ops j with
  | some d=>d::tmpsOf o.op.operands.toList
  | none=>tmpsOf o.op.operands.toList)
 | none=>tmpsOf o.op.operands.toList
def zc (ops:List Oper) (j:Nat) (oj:Oper):Nat->List Oper->Bool
 | _,[]=>true
 | i,oi::l=>(Nat.beq i j||(match oi.dst with
   | some d=>(bif jJ d (Cz ops oj)||(match oj.dst with
    | some e=>Nat.beq e d
    | none=>false) then bit (cM oj.after.toList) i||bit (cM oi.after.toList) j else true)
   | none=>true))&&zc ops j oj (i+1) l
def vp (ops:List Oper):Nat->List Oper->Bool
 | _,[]=>true
 | j,oj::l=>zc ops j oj 0 ops&&vp ops (j+1) l
def xJ (T:List (Nat×Nat)):List Edge->Nat
 | []=>0
 | e::l=>bif Region.binds .any e then Nat.lor (Nat.shiftLeft 1 e.on) (Nat.lor (match lookup T e.on with
   | some m=>m
   | none=>0) (xJ T l)) else xJ T l
def ya:List (Nat×Nat)->Nat->List Oper->List (Nat×Nat)
 | T,_,[]=>T
 | T,j,o::l=>ya ((j,xJ T o.after.toList)::T) (j+1) l
def rX (T:List (Nat×Nat)) (j:Nat):Nat:=match lookup T j with
 | some m=>m
 | none=>0
def HH (C:Ctx) (o:Oper):Bool:=match o.op with
 | .call c=>(match c.callee with
  | .value (.func f)=>(match lookup C.inl f with
   | some _=>true
   | none=>(match lookup C.cons f with
    | some con=>con.wr
    | none=>false))
  | _=>false)
 | _=>false
def ID (C:Ctx) (o:Oper):Bool:=jc o||HH C o
def loneD (C:Ctx) (T:List (Nat×Nat)) (i:Nat):Nat->List Oper->Bool
 | _,[]=>true
 | j,oj::l=>(Nat.beq i j||!ID C oj||bit (rX T j) i||bit (rX T i) j)&&loneD C T i (j+1) l
def quietAt (C:Ctx) (ops:List Oper) (i:Nat) (o:Oper):Bool:=sF o&&(CL o||loneD C (ya [] 0 ops) i 0 ops)
def kG (C:Ctx) (ops:List Oper):List Nat->Option Nat
 | []=>none
 | i::l=>match pq ops i with
  | some o=>bif quietAt C ops i o then some i else kG C ops l
  | none=>kG C ops l
def vQ (o:Oper) (s:St):Bool:=match o.guard with
 | some _=>false
 | none=>(match o.op with
  | .load _ x=>(match eval s.env x with
   | .adr _ _=>true
   | .ref _=>true
   | _=>false)
  | _=>false)
def rU (ops:List Oper) (s:St):List Nat->Option Nat
 | []=>none
 | i::l=>match pq ops i with
  | some o=>bif vQ o s then some i else rU ops s l
  | none=>rU ops s l
def Gz:List Oper->Bool
 | []=>true
 | o::l=>(match o.op with
  | .select ..=>false
  | _=>true)&&Gz l
def uU (C:Ctx) (o:Oper) (s:St):Bool:=match o.op with
 | .call c=>(match c.callee with
  | .value f=>(match eval s.env f with
   | .fn g caps=>(match lookup C.inl g with
    | some _=>false
    | none=>match lookup C.cons g with
    | some con=>(match con.mode with
     | .bor=>true
     | .io=>false
     | .mv=>false
     | .plain=>(match lg con.par (c.args.toList.map (eval s.env)++caps) s with
      | some p=>(match sB p.1 with
       | []=>true
       | _=>false)
      | none=>false))
    | none=>false)
   | _=>false)
  | _=>true)
 | _=>true
def jO (C:Ctx) (o:Oper) (s:St):Bool:=HH C o||uU C o s
def iD (C:Ctx) (ops:List Oper) (o:Oper) (s:St) (K:St->Prop):Prop:=bif Nat.beq (Nat.add (o.dst.getD 0) C.off) base then False else match o.guard with
 | none=>bif jO C o s then opW C o s fun v s1=>K (s1.put C.n o.dst v) else False
 | some (j,want)=>match DV ops j with
  | some g=>match slot s.env g with
   | .data .bool b=>bif (b==want)
    then (bif jO C o (s.put C.n (some g) (.data .bool want)) then opW C o (s.put C.n (some g) (.data .bool want)) fun v s1=>K (s1.put C.n o.dst v) else False)
    else K ((s.put C.n (some g) (.data .bool (!want))).put C.n o.dst (.cst (.tuple #[])))
   | .cst (.tuple _)=>K (s.put C.n o.dst (.cst (.tuple #[])))
   | _=>False
  | none=>False
def EV (f:Nat->Prop):List Nat->Prop
 | []=>True
 | [i]=>f i
 | i::l=>f i/\EV f l
def wQ (C:Ctx) (ops:List Oper) (i:Nat) (s:St) (K:St->Prop):Prop:=match pq ops i with
 | some o=>iD C ops o s K
 | none=>False
def xF (C:Ctx) (ops:List Oper):Nat->Nat->St->(St->Prop)->Prop
 | 0,done,s,K=>(match kF done 0 ops with
  | []=>K s
  | _=>False)
 | f+1,done,s,K=>(match kF done 0 ops with
  | []=>K s
  | l=>(match kG C ops l with
   | some i=>wQ C ops i s fun s'=>xF C ops f (Nat.lor done (Nat.shiftLeft 1 i)) s' K
   | none=>(match rU ops s l with
    | some i=>wQ C ops i s fun s'=>xF C ops f (Nat.lor done (Nat.shiftLeft 1 i)) s' K
    | none=>EV (fun i=>wQ C ops i s fun s'=>xF C ops f (Nat.lor done (Nat.shiftLeft 1 i)) s' K) l)))
def rE (ops:List Oper):Bool:=Gz ops&&vp ops 0 ops
def AB (io:Bool) (s:St):Option Hp:=bif io then (match lookup s.hp base with
 | some (.box cs)=>bif ee cs then some [(base,.box cs)] else none
 | some (.arr d t xs)=>some [(base,.arr d t xs)]
 | _=>none) else some []
def rW (E:Tab) (deep:Bool) (s:St):ResultVar->Option (AV×St)
 | .tmp t=>some (slot s.env t,s)
 | .cell p ty=>(match slot s.env p with
  | .ptr id 0=>(match E.ty ty with
   | some u=>(match lookup s.hp id with
    | some (.box cs)=>bif u.agg then (bif deep&&(Nat.beq u.size cs.length&&!ee cs) then some (.agg u cs,s) else match lookup (gK s (qF (cs.take u.size))).hp id with
      | some (.box cs1)=>(match kE u cs1 with
       | some x=>some (.data u x.1,gK s (qF (cs.take u.size)))
       | none=>none)
      | _=>none)
     else (match pq cs 0 with
      | some v=>some (v,s)
      | none=>none)
    | _=>none)
   | none=>none)
  | _=>none)
def qf (E:Tab) (e:List ResultVar):St->Option (List AV×St):=match e with
 | []=>fun s=>some ([],s)
 | r::l=>fun s=>match rW E false s r with
  | some (v,s0)=>(match v with
   | .own id cut=>(match lookup s0.hp id with
    | some (.arr _ ty _)=>(match s0.iT (.sl ty) (.own id cut) with
     | some (x,s1)=>(match qf E l s1 with
      | some (vs,s2)=>some (.data (.sl ty) x::vs,s2)
      | none=>none)
     | none=>none)
    | _=>none)
   | .data ty x=>(match qf E l s0 with
    | some (vs,s2)=>some (.data ty x::vs,s2)
    | none=>none)
   | .cst c=>(match qf E l s0 with
    | some (vs,s2)=>some (.cst c::vs,s2)
    | none=>none)
   | _=>none)
  | none=>none
def qL (E:Tab) (deep:Bool):List ResultVar->St->Option (List AV×St)
 | [],s=>some ([],s)
 | r::l,s=>match rW E deep s r with
  | some (v,s0)=>(match qL E deep l s0 with
   | some (vs,s1)=>some (v::vs,s1)
   | none=>none)
  | none=>none
def yU (s:St) (v:AV) (K:AV->Hp->Prop):Prop:=match v with
 | .agg t vs=>cS (eJ 0 vs s) fun q=>K (.agg t q.1) q.2
 | v=>(match eJ 0 [v] s with
  | some ([v'],h)=>K v' h
  | _=>False)
def Ig (E:Tab) (deep two:Bool) (rs:List ResultVar) (io:Bool) (s:St) (K:AV->Hp->Prop):Prop:=bif deep&&!io
 then (match rs with
  | [r]=>cS (rW E true s r) fun p=>yU p.2 p.1 K
  | rs=>cS (qL E true rs s) fun p=>cS (eJ 0 p.1 p.2) fun q=>K (.tup q.1) q.2)
 else match rs with
 | [r]=>cS (rW E false s r) fun p=>(match p.1 with
  | .own id cut=>bif Nat.beq id base then False else (match lookup p.2.hp id with
   | some (.arr e ty xs)=>cS (AB io p.2) fun h=>(match cut with
    | none=>K (.own 0 none) ((0,.arr e ty xs)::h)
    | some (lo,hi)=>lo=0/\K (.own 0 none) ((0,.arr e ty (xs.take hi.toNat))::h))
   | _=>False)
  | .clp id hi=>bif io then False else yU p.2 (.clp id hi) K
  | v=>bif v.kept then cS (AB io p.2) (fun h=>K v h) else False)
 | rs=>match (bif two then qL E false rs s else none) with
  | some ([v,.own id none],s1)=>bif v.kept&&!Nat.beq id base then (match lookup s1.hp id with
   | some (.arr e ty xs)=>cS (AB io s1) fun h=>K (.tup [v,.own 0 none]) ((0,.arr e ty xs)::h)
   | _=>False) else False
  | _=>cS (qf E rs s) fun p=>cS (AB io p.2) fun h=>K (.tup p.1) h
abbrev bK:=Nat->Nat->St->(X->St->Prop)->Prop
def Ab (id:Nat) (K:X->St->Prop):X->St->Prop
 | .exit i,s=>bif Nat.beq i id then K .normal s else K (.exit i) s
 | .normal,s=>K .normal s
 | .ret,s=>K .ret s
def IK (B:St->Prop) (K:X->St->Prop):X->St->Prop
 | .normal,s=>B s
 | .exit i,s=>K (.exit i) s
 | .ret,s=>K .ret s
def EZ (v:AV) (k:AV->Prop):Prop:=match v with
 | .top=>k .top
 | .cst v=>k (.cst v)
 | .data t x=>k (.data t x)
 | .adr t x=>k (.adr t x)
 | .brw t x=>k (.brw t x)
 | .badr t x=>k (.badr t x)
 | .ptr i o=>k (.ptr i o)
 | .elt i n o=>k (.elt i n o)
 | .own i c=>k (.own i c)
 | .clp i h=>k (.clp i h)
 | .agg t vs=>k (.agg t vs)
 | .pth i n o t=>k (.pth i n o t)
 | .fn f vs=>k (.fn f vs)
 | .tup vs=>k (.tup vs)
 | .ref w=>k (.ref w)
 | .mp i=>k (.mp i)
def CD:List AV->(List AV->Prop)->Prop
 | [],k=>k []
 | v::l,k=>EZ v fun v'=>CD l fun l'=>k (v'::l')
def IE (b:Block) (k:Block->Prop):Prop:=match b with
 | .box cs=>CD cs fun cs'=>k (.box cs')
 | .arr d t xs=>k (.arr d t xs)
 | .map i u xs=>k (.map i u xs)
def Am:Env->(Env->Prop)->Prop
 | [],k=>k []
 | (i,v)::l,k=>EZ v fun v'=>Am l fun l'=>k ((i,v')::l')
def zn:Hp->(Hp->Prop)->Prop
 | [],k=>k []
 | (i,b)::l,k=>IE b fun b'=>zn l fun l'=>k ((i,b')::l')
def ug (s:St) (k:St->Prop):Prop:=match s with
 | ⟨e,h⟩=>Am e fun e'=>zn h fun h'=>k ⟨e',h'⟩
theorem BF (v:AV) (k:AV->Prop):EZ v k=k v:=by cases v<;>rfl
theorem BE:∀(l:List AV) (k:List AV->Prop),CD l k=k l
 | [],_=>rfl
 | v::l,k=>by unfold CD;rw[BF,BE l]
theorem Ho (b:Block) (k:Block->Prop):IE b k=k b:=by
 cases b with
 | box cs=>exact BE cs _
 | _=>rfl
theorem BM:∀(l:Env) (k:Env->Prop),Am l k=k l
 | [],_=>rfl
 | (i,v)::l,k=>by unfold Am;rw[BF,BM l]
theorem By:∀(l:Hp) (k:Hp->Prop),zn l k=k l
 | [],_=>rfl
 | (i,b)::l,k=>by unfold zn;rw[Ho,By l]
theorem GX (s:St) (k:St->Prop):ug s k=k s:=by
 cases s with
 | mk e h=>
  show Am e (fun e'=>zn h fun h'=>k ⟨e',h'⟩)=k ⟨e,h⟩
  rw[BM,By]
attribute [irreducible] ug
def awp (C:Ctx) (L:bK) (ann:Nat->List Dir):Code->St->(X->St->Prop)->Prop
 | .skip,s,K=>K .normal s
 | .region id ops draw,s,K=>bif draw
  then (bif rE ops.toList then xF C ops.toList ops.toList.length 0 s fun s'=>ug (norm s' (ann id)) fun s''=>K .normal s'' else False)
  else Er C ops.toList ops.toList s fun s'=>ug (norm s' (ann id)) fun s''=>K .normal s''
 | .seq a b,s,K=>awp C L ann a s (IK (fun s'=>awp C L ann b s' K) K)
 | .cond c a b,s,K=>match eval s.env c with
  | .data .bool t=>bif t then awp C L ann a s K else awp C L ann b s K
  | _=>False
 | .block id (.loop _),s,K=>∃m,L id m s (Ab id K)
 | .block id b,s,K=>awp C L ann b s (Ab id K)
 | .exit id,s,K=>K (.exit id) s
 | .ret,s,K=>K .ret s
 | _,_,_=>False
def bQ:Code->List (Nat×Code)
 | .seq a b=>bQ a++bQ b
 | .cond _ a b=>bQ a++bQ b
 | .block id (.loop b)=>(id,b)::bQ b
 | .block _ b=>bQ b
 | _=>[]
def DM (id:Nat) (ds:List Dir) (K:X->St->Prop):X->St->Prop
 | .exit i,s=>bif Nat.beq i id then K (.exit i) (norm s ds) else K (.exit i) s
 | .normal,s=>K .normal s
 | .ret,s=>K .ret s
def behind (id:Nat):Nat:=Nat.add id 100000
def dn (C:Ctx) (L:bK) (ann:Nat->List Dir) (id:Nat) (b:Code):Prop:=
 ∀m s K,L id m s K->awp C L ann b s (IK (fun s'=>∃m',m'<m/\L id m' s' K) (DM id (ann (behind id)) K))
end Go.AE
