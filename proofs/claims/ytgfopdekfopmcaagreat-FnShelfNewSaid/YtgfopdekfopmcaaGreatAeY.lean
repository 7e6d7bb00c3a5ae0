/- Shorter words for contracts and their proofs. -/
import Derived.Test.YtgfopdekfopmcaaGreatAeMN
import Derived.Test.YtgfopdekfopmcaaGreatChecked
import Derived.KernelRfl
section
namespace Go.AE
open Go Go.RowKit
abbrev LD {α:Type} (x:α) (p:α->Prop):Prop:=∀r,r=x->p r
structure Pat (α:Type) where
 av:α->AV
 run:AV->(α->Prop)->Prop
 elim:∀{v:AV} {k:α->Prop},run v k->∃x,v=av x/\k x
abbrev pD (t:Ty):Pat t.D:=⟨fun x=>.data t x,kR t,dc⟩
abbrev pB (t:Ty):Pat (List t.D):=⟨fun x=>.brw t x,gZ t,bT⟩
abbrev pA (t:Ty):Pat t.D:=⟨fun x=>.adr t x,yp t,vM⟩
abbrev pR (t:Ty):Pat t.D:=⟨fun x=>.ref (.data t x),uT t,mZ⟩
abbrev pQ (t:Ty):Pat (List t.D):=⟨fun x=>.ref (.brw t x),wG t,vg⟩
section
variable {α β γ δ ε:Type} {l:List AV} {hp:Hp}
def g1 (p:Pat α) (F:α->Prop) (l:List AV) (hp:Hp):Prop:=args1 (fun a=>p.run a F) l hp
def g2 (p:Pat α) (q:Pat β) (F:α->β->Prop) (l:List AV) (hp:Hp):Prop:=args2 (fun a b=>p.run a fun x=>q.run b fun y=>F x y) l hp
def g3 (p:Pat α) (q:Pat β) (r:Pat γ) (F:α->β->γ->Prop) (l:List AV) (hp:Hp):Prop:=uI (fun a b c=>p.run a fun x=>q.run b fun y=>r.run c fun z=>F x y z) l hp
def g4 (p:Pat α) (q:Pat β) (r:Pat γ) (s:Pat δ) (F:α->β->γ->δ->Prop) (l:List AV) (hp:Hp):Prop:=AY (fun a b c d=>p.run a fun x=>q.run b fun y=>r.run c fun z=>s.run d fun u=>F x y z u) l hp
theorem g1e {p:Pat α} {F:α->Prop} (h0:g1 p F l hp):∃x,l=[p.av x]/\hp=[]/\F x:=by
 obtain⟨a,rfl,rfl,h1⟩:=vR h0
 obtain⟨x,rfl,h2⟩:=p.elim h1
 exact⟨x,rfl,rfl,h2⟩
theorem g2e {p:Pat α} {q:Pat β} {F:α->β->Prop} (h0:g2 p q F l hp):∃x y,l=[p.av x,q.av y]/\hp=[]/\F x y:=by
 obtain⟨a,b,rfl,rfl,h1⟩:=bp h0
 obtain⟨x,rfl,h2⟩:=p.elim h1
 obtain⟨y,rfl,h3⟩:=q.elim h2
 exact⟨x,y,rfl,rfl,h3⟩
theorem g3e {p:Pat α} {q:Pat β} {r:Pat γ} {F:α->β->γ->Prop} (h0:g3 p q r F l hp):∃x y z,l=[p.av x,q.av y,r.av z]/\hp=[]/\F x y z:=by
 obtain⟨a,b,c,rfl,rfl,h1⟩:=mM h0
 obtain⟨x,rfl,h2⟩:=p.elim h1
 obtain⟨y,rfl,h3⟩:=q.elim h2
 obtain⟨z,rfl,h4⟩:=r.elim h3
 exact⟨x,y,z,rfl,rfl,h4⟩
end
def hpR (F:List Int->Int->Prop) (hp:Hp):Prop:=match hp with
 | [(k,.box [.data u b,.data v p])]=>(match Ty.eq? u (.sl (.int .u8)),Ty.eq? v (.int .i64) with
  | some ⟨h⟩,some ⟨h'⟩=>bif Nat.beq k base then F (cq h b) (cq h' p) else False
  | _,_=>False)
 | _=>False
theorem gK {F:List Int->Int->Prop} {hp:Hp} (h:hpR F hp):∃(b:List Int) (p:Int),hp=[(1000000,.box [.data (.sl (.int .u8)) b,.data (.int .i64) p])]/\F b p:=by
 unfold hpR at h
 split at h
 ·rename_i k u b v p
  split at h
  ·rename_i h1 h2 _ _
   cases h1
   cases h2
   rcases aH k base with⟨rfl,hb⟩ | ⟨_,hb⟩
   ·rw[hb] at h
    exact⟨b,p,rfl,h⟩
   ·rw[hb] at h
    exact h.elim
  ·exact h.elim
 ·exact h.elim
def mA (a:AV) (F:Prop):Prop:=match a with
 | .ptr k 0=>bif Nat.beq k base then F else False
 | _=>False
theorem dZ {a:AV} {F:Prop} (h:mA a F):a=.ptr 1000000 0/\F:=by
 unfold mA at h
 split at h
 ·rename_i k
  rcases aH k base with⟨rfl,hb⟩ | ⟨_,hb⟩
  ·rw[hb] at h;exact⟨rfl,h⟩
  ·rw[hb] at h;exact h.elim
 ·exact h.elim
theorem oG {α:Type} {p q:Prop} {x:Option α} {K:α->Prop} (h:ok (ah p x) K) (k:p->ok x K->q):p/\q:=⟨(aq h).1,k (aq h).1 (aq h).2⟩
theorem oL {α β:Type} {x:α} {f:α->Option β} {K:β->Prop} {Q:α->Prop} (h:ok (aY x f) K) (k:∀r,r=x->ok (f r) K->Q r):∀r,r=x->Q r:=fun r e=>k r e (cF h r e)
theorem oC {α:Type} {b:Bool} {x y:Option α} {K:α->Prop} {T U:Prop} (h:ok (cond b x y) K) (h1:b=true->ok x K->T) (h2:b=false->ok y K->U):cond b T U:=zN h h1 h2
def yj:Nat->Nat->Nat->List Nat
 | 0,_,_=>[]
 | f+1,i,b=>bif Nat.beq b 0 then [] else bif Nat.beq (Nat.mod b 2) 1 then i::yj f (Nat.succ i) (Nat.div b 2) else yj f (Nat.succ i) (Nat.div b 2)
def kp (b:Nat):Dir:=.keep (yj 400 0 b)
def zc:List (List Dir)->Nat->List Dir
 | [],_=>[]
 | d::l,n=>match n with
  | 0=>d
  | k+1=>zc l k
def an (l m:List (List Dir)) (n:Nat):List Dir:=bif Nat.blt n 100000 then zc l n else zc m (Nat.sub n 100000)
def lp1 (a:Nat) (A:Nat->St->(X->St->Prop)->Prop):br:=fun id m s K=>bif Nat.beq id a then A m s K else False
def lp2 (a:Nat) (A:Nat->St->(X->St->Prop)->Prop) (b:Nat) (B:Nat->St->(X->St->Prop)->Prop):br:=fun id m s K=>bif Nat.beq id a then A m s K else bif Nat.beq id b then B m s K else False
abbrev vcT (C:Ctx) (L:br) (ann:Nat->List Dir) (fn:Func) (args:List AV) (hp:Hp) (k:RK) (K:AV->Hp->Prop):Prop:=
 awp C L ann (cP fn) ⟨jn 0 args,hp⟩ (AX C.tab C.deep fn.results.toList (wE hp) (wu k K))
abbrev lvT (C:Ctx) (L:br) (ann:Nat->List Dir) (fn:Func) (n id:Nat) (s:St) (m:Nat) (K:X->St->Prop):Prop:=
 awp C L ann (mU (cP fn) n) s (zb (fun s'=>∃m',m'<m/\L id m' s' K) (va id (ann (behind id)) K))
abbrev nxT (A:Nat->St->(X->St->Prop)->Prop) (m:Nat) (K:X->St->Prop) (s:St):Prop:=∃m_,m_<m/\A m_ s K
def bL (P:Program) (f:FuncId) (con:Con):Prop:=(∀args w,(callFunc f args).run P w=.ok (.enter f args) w)/\sA P f con
def ua (P:Program) (f:FuncId) (T:Inl):Prop:=(∀args w,(callFunc f args).run P w=.ok (.enter f args) w)/\wT P f T
section
variable {P:Program} {E:Tab} {c:TypeId->Bool} {n off:Nat} {deep:Bool} {f:FuncId} {con:Con} {T:Inl} {l:Cons} {inl:List (Nat×Inl)}
theorem kC (h1:bL P f con) (h:cr P ⟨E,c,l,n,inl,off,deep⟩):cr P ⟨E,c,(f,con)::l,n,inl,off,deep⟩:=vo h1.1 h1.2 h
theorem kI (h1:ua P f T) (h:cr P ⟨E,c,[],n,inl,off,deep⟩):cr P ⟨E,c,[],n,(f,T)::inl,off,deep⟩:=vX h1.1 h1.2 h
theorem kN:cr P ⟨E,c,[],n,[],off,deep⟩:=wk
end
def qC (ds:List (Nat×Bool)) (fn:Func):Func:=match ds with
 | []=>fn
 | ds=>{ fn with body:=fn.body.map (di ds) }
theorem Ad {P:Program} {C:Ctx} (ds:List (Nat×Bool)) (hT:TabOk P C) (hm:P.follows .mixedOrders=true) {f:FuncId} {fn:Func} {con:Con} (hf:P.funcs[f]? = some fn) (hq:((fn.name == "runtime.NumGoroutine")||fn.body.isNone)=false) (hC:cr P C) (hN:C.n=fn.ntmps)
  (hcon:∀args hp K,con.run args hp K->(Nat.ble args.length fn.ntmps&&Nat.ble args.length aM)=true/\∃(ann:Nat->List Dir) (L:br) (k:RK),(∀p∈aS (cP (qC ds fn)),eX C L ann p.1 p.2)/\vcT C L ann (qC ds fn) args hp k K):bL P f con:=by
 obtain⟨hq1,hq2⟩:=Bool.or_eq_false_iff.1 hq
 have hb:fn.body=some (cP fn):=by
  unfold cP
  cases h:fn.body with
  | none=>rw[h] at hq2;cases hq2
  | some c=>rfl
 have he:cP (qC ds fn)=di ds (cP fn):=by
  cases ds with
  | nil=>exact(gJ _).symm
  | cons d l=>unfold qC cP at *;rw[hb];rfl
 have hr:(qC ds fn).results=fn.results:=by cases ds<;>rfl
 refine⟨uH hf hq1 hq2,zY (ds:=ds) hT hC hm hf hb hN fun args hp K h=>?_⟩
 obtain⟨h1,h2⟩:=hcon args hp K h
 obtain⟨h3,h4⟩:=Bool.and_eq_true_iff.1 h1
 unfold vcT at h2
 rw[he,hr] at h2
 exact⟨⟨Nat.le_of_ble_eq_true h3,Nat.le_of_ble_eq_true h4⟩,h2⟩
theorem AO {P:Program} {C:Ctx} (hT:TabOk P C) (hm:P.follows .mixedOrders=true) {f:FuncId} {fn:Func} (hf:P.funcs[f]? = some fn) (hq:((fn.name == "runtime.NumGoroutine")||fn.body.isNone)=false) (hC:cr P C) (hN:C.n=fn.ntmps) {ann:Nat->List Dir}
  (hl:aS (cP fn)=[]):ua P f (sF C ann (cP fn) fn.results.toList):=by
 obtain⟨hq1,hq2⟩:=Bool.or_eq_false_iff.1 hq
 have hb:fn.body=some (cP fn):=by
  unfold cP
  cases h:fn.body with
  | none=>rw[h] at hq2;cases hq2
  | some c=>rfl
 exact⟨uH hf hq1 hq2,Au hT hC hm hf hb hN hl⟩
end Go.AE
end
section
namespace Go.AE
open Go Go.RowKit
noncomputable abbrev P:Program:=Go.Proofs.Tryz.prog
def tab:Tab:=[(4,⟨.val Ty.bool,1,1⟩),
  (22,⟨.sl 5 (Ty.int .u8),1,24⟩),
  (5,⟨.val (Ty.int .u8),1,1⟩),
  (3,⟨.val (Ty.int .i64),1,8⟩),
  (23,⟨.sl 50 aj,1,24⟩),
  (50,⟨.st [(0,48, "Columns"),(1,43, "Rows")] aj,2,48⟩),
  (48,⟨.sl 67 ai,1,24⟩),
  (67,⟨.st [(0,3, "Kind"),(1,4, "Empty")] ai,2,16⟩),
  (43,⟨.sl 65 (Ty.sl ag),1,24⟩),
  (65,⟨.sl 61 ag,1,24⟩),
  (61,⟨.st [(0,3, "Kind"),(1,3, "N"),(2,9, "S")] ag,3,32⟩),
  (9,⟨.val Ty.str,1,16⟩),
  (28,⟨.st [(0,23, "Tables"),(1,25, "Marks"),(2,26, "Kept")] aE,3,72⟩),
  (25,⟨.sl 3 (Ty.int .i64),1,24⟩),
  (26,⟨.sl 45 cn,1,24⟩),
  (45,⟨.st [(0,42, "Plan"),(1,43, "Rows"),(2,25, "Marks")] cn,3,72⟩),
  (42,⟨.sl 73 de,1,24⟩),
  (73,⟨.st [(0,3, "Kind"),(1,3, "A"),(2,3, "B"),(3,3, "N"),(4,71, "E"),(5,25, "List")] de,6,80⟩),
  (71,⟨.sl 93 dy,1,24⟩),
  (93,⟨.st [(0,3, "Kind"),(1,3, "N"),(2,61, "V")] dy,5,48⟩),
  (0,⟨.other,1,0⟩),
  (36,⟨.ptr 69,1,8⟩),
  (69,⟨.st [(0,22, "b"),(1,3, "p")] (Ty.pair (Ty.sl (Ty.int .u8)) (Ty.pair (Ty.int .i64) Ty.unit)),2,32⟩),
  (82,⟨.other,1,8⟩),
  (120,⟨.sl 9 Ty.str,1,24⟩)]
def ym:List TypeId:=[61,67,93]
theorem tab_check:tJ P tab tab=true:=by kernel_rfl
theorem pL:vi P tab ym=true:=by kernel_rfl
theorem mixed:P.follows .mixedOrders=true:=by kernel_rfl
abbrev cx (l:Cons) (n:Nat) (inl:List (Nat×Inl)) (off:Nat) (deep:Bool):Ctx:=⟨tab,fun t=>fU t ym,l,n,inl,off,deep⟩
theorem bX (C:Ctx) {f:FuncId} {fn:Func} {con:Con} (hf:P.funcs[f]? = some fn) (hC:cr P C) (hcon:∀args hp K,con.run args hp K->(Nat.ble args.length fn.ntmps&&Nat.ble args.length aM)=true/\∃(ann:Nat->List Dir) (L:br) (k:RK),(∀p∈aS (cP fn),eX C L ann p.1 p.2)/\vcT C L ann fn args hp k K)
    (hT:TabOk P C:=by exact uk tab_check pL) (hq:((fn.name == "runtime.NumGoroutine")||fn.body.isNone)=false:=by kernel_rfl) (hN:C.n=fn.ntmps:=by rfl):bL P f con:=Ad [] hT mixed hf hq hC hN hcon
theorem Aj (ds:List (Nat×Bool)) (C:Ctx) {f:FuncId} {fn:Func} {con:Con} (hf:P.funcs[f]? = some fn) (hC:cr P C) (hcon:∀args hp K,con.run args hp K->(Nat.ble args.length fn.ntmps&&Nat.ble args.length aM)=true/\∃(ann:Nat->List Dir) (L:br) (k:RK),(∀p∈aS (cP (qC ds fn)),eX C L ann p.1 p.2)/\vcT C L ann (qC ds fn) args hp k K)
    (hT:TabOk P C:=by exact uk tab_check pL) (hq:((fn.name == "runtime.NumGoroutine")||fn.body.isNone)=false:=by kernel_rfl) (hN:C.n=fn.ntmps:=by rfl):bL P f con:=Ad ds hT mixed hf hq hC hN hcon
theorem xX (C:Ctx) {f:FuncId} {fn:Func} (hf:P.funcs[f]? = some fn) (hC:cr P C) {ann:Nat->List Dir} (hT:TabOk P C:=by exact uk tab_check pL) (hq:((fn.name == "runtime.NumGoroutine")||fn.body.isNone)=false:=by kernel_rfl) (hN:C.n=fn.ntmps:=by rfl)
    (hl:aS (cP fn)=[]:=by kernel_rfl):ua P f (sF C ann (cP fn) fn.results.toList):=AO hT mixed hf hq hC hN hl
abbrev nT (xs:List aj.D) (i:Int):aj.D:=nth (t:=aj) xs i
abbrev nS (xs:List de.D) (i:Int):de.D:=nth (t:=de) xs i
abbrev nC (xs:List ai.D) (i:Int):ai.D:=nth (t:=ai) xs i
abbrev nI (xs:List bf.D) (i:Int):bf.D:=nth (t:=bf) xs i
abbrev nP (xs:List dy.D) (i:Int):dy.D:=nth (t:=dy) xs i
abbrev nM (xs:List yS.D) (i:Int):yS.D:=nth (t:=yS) xs i
abbrev nG (xs:List gQ.D) (i:Int):gQ.D:=nth (t:=gQ) xs i
abbrev nV (xs:List ag.D) (i:Int):ag.D:=nth (t:=ag) xs i
abbrev Z0:Int:=0
abbrev Z1:Int:=1
abbrev Z2:Int:=2
abbrev Z3:Int:=3
abbrev Z4:Int:=4
abbrev Z5:Int:=5
abbrev Z6:Int:=6
abbrev dI (n:Int):AV:=.data bf n
abbrev dB (b:Bool):AV:=.data Ty.bool b
abbrev KA:Type:=AV->Hp->Prop
abbrev KX:Type:=X->St->Prop
abbrev TBy:Ty:=.sl (.int .u8)
abbrev LI:Type:=List Int
abbrev LLI:Type:=List LI
end Go.AE
end
