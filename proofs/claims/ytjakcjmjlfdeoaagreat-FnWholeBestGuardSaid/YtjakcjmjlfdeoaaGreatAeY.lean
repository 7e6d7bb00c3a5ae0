/- Shorter words for contracts and their proofs. -/
import Derived.Test.YtjakcjmjlfdeoaaGreatAeMU
import Derived.Test.YtjakcjmjlfdeoaaGreatChecked
import Derived.KernelRfl
import Derived.Test.YtjakcjmjlfdeoaaGreatAeMQ
section
namespace Go.AE
open Go Go.RowKit
abbrev LD {α:Type} (x:α) (p:α->Prop):Prop:=∀r,r=x->p r
structure Pat (α:Type) where
 av:α->AV
 run:AV->(α->Prop)->Prop
 elim:∀{v:AV} {k:α->Prop},run v k->∃x,v=av x/\k x
abbrev pD (t:Ty):Pat t.D:=⟨fun x=>.data t x,fk t,bw⟩
abbrev pB (t:Ty):Pat (List t.D):=⟨fun x=>.brw t x,nx t,eL⟩
abbrev pA (t:Ty):Pat t.D:=⟨fun x=>.adr t x,Iu t,Fy⟩
abbrev pR (t:Ty):Pat t.D:=⟨fun x=>.ref (.data t x),Ak t,ng⟩
abbrev pQ (t:Ty):Pat (List t.D):=⟨fun x=>.ref (.brw t x),Fw t,Dt⟩
section
variable {α β γ δ ε:Type} {l:List AV} {hp:Hp}
def g1 (p:Pat α) (F:α->Prop) (l:List AV) (hp:Hp):Prop:=args1 (fun a=>p.run a F) l hp
def g2 (p:Pat α) (q:Pat β) (F:α->β->Prop) (l:List AV) (hp:Hp):Prop:=args2 (fun a b=>p.run a fun x=>q.run b fun y=>F x y) l hp
def g3 (p:Pat α) (q:Pat β) (r:Pat γ) (F:α->β->γ->Prop) (l:List AV) (hp:Hp):Prop:=vN (fun a b c=>p.run a fun x=>q.run b fun y=>r.run c fun z=>F x y z) l hp
def g4 (p:Pat α) (q:Pat β) (r:Pat γ) (s:Pat δ) (F:α->β->γ->δ->Prop) (l:List AV) (hp:Hp):Prop:=GA (fun a b c d=>p.run a fun x=>q.run b fun y=>r.run c fun z=>s.run d fun u=>F x y z u) l hp
theorem g1e {p:Pat α} {F:α->Prop} (h0:g1 p F l hp):∃x,l=[p.av x]/\hp=[]/\F x:=by
 obtain⟨a,rfl,rfl,h1⟩:=Aa h0
 obtain⟨x,rfl,h2⟩:=p.elim h1
 exact⟨x,rfl,rfl,h2⟩
theorem g2e {p:Pat α} {q:Pat β} {F:α->β->Prop} (h0:g2 p q F l hp):∃x y,l=[p.av x,q.av y]/\hp=[]/\F x y:=by
 obtain⟨a,b,rfl,rfl,h1⟩:=bW h0
 obtain⟨x,rfl,h2⟩:=p.elim h1
 obtain⟨y,rfl,h3⟩:=q.elim h2
 exact⟨x,y,rfl,rfl,h3⟩
theorem g3e {p:Pat α} {q:Pat β} {r:Pat γ} {F:α->β->γ->Prop} (h0:g3 p q r F l hp):∃x y z,l=[p.av x,q.av y,r.av z]/\hp=[]/\F x y z:=by
 obtain⟨a,b,c,rfl,rfl,h1⟩:=jr h0
 obtain⟨x,rfl,h2⟩:=p.elim h1
 obtain⟨y,rfl,h3⟩:=q.elim h2
 obtain⟨z,rfl,h4⟩:=r.elim h3
 exact⟨x,y,z,rfl,rfl,h4⟩
theorem g4e {p:Pat α} {q:Pat β} {r:Pat γ} {s:Pat δ} {F:α->β->γ->δ->Prop} (h0:g4 p q r s F l hp):∃x y z u,l=[p.av x,q.av y,r.av z,s.av u]/\hp=[]/\F x y z u:=by
 obtain⟨a,b,c,d,rfl,rfl,h1⟩:=tO h0
 obtain⟨x,rfl,h2⟩:=p.elim h1
 obtain⟨y,rfl,h3⟩:=q.elim h2
 obtain⟨z,rfl,h4⟩:=r.elim h3
 obtain⟨u,rfl,h5⟩:=s.elim h4
 exact⟨x,y,z,u,rfl,rfl,h5⟩
end
def hpR (F:List Int->Int->Prop) (hp:Hp):Prop:=match hp with
 | [(k,.box [.data u b,.data v p])]=>(match Ty.eq? u (.sl (.int .u8)),Ty.eq? v (.int .i64) with
  | some ⟨h⟩,some ⟨h'⟩=>bif Nat.beq k base then F (dO h b) (dO h' p) else False
  | _,_=>False)
 | _=>False
theorem fc {F:List Int->Int->Prop} {hp:Hp} (h:hpR F hp):∃(b:List Int) (p:Int),hp=[(1000000,.box [.data (.sl (.int .u8)) b,.data (.int .i64) p])]/\F b p:=by
 unfold hpR at h
 split at h
 ·rename_i k u b v p
  split at h
  ·rename_i h1 h2 _ _
   cases h1
   cases h2
   rcases bg k base with⟨rfl,hb⟩ | ⟨_,hb⟩
   ·rw[hb] at h
    exact⟨b,p,rfl,h⟩
   ·rw[hb] at h
    exact h.elim
  ·exact h.elim
 ·exact h.elim
def mh (a:AV) (F:Prop):Prop:=match a with
 | .ptr k 0=>bif Nat.beq k base then F else False
 | _=>False
theorem dg {a:AV} {F:Prop} (h:mh a F):a=.ptr 1000000 0/\F:=by
 unfold mh at h
 split at h
 ·rename_i k
  rcases bg k base with⟨rfl,hb⟩ | ⟨_,hb⟩
  ·rw[hb] at h;exact⟨rfl,h⟩
  ·rw[hb] at h;exact h.elim
 ·exact h.elim
theorem oG {α:Type} {p q:Prop} {x:Option α} {K:α->Prop} (h:ok (af p x) K) (k:p->ok x K->q):p/\q:=⟨(aD h).1,k (aD h).1 (aD h).2⟩
theorem oL {α β:Type} {x:α} {f:α->Option β} {K:β->Prop} {Q:α->Prop} (h:ok (aH x f) K) (k:∀r,r=x->ok (f r) K->Q r):∀r,r=x->Q r:=fun r e=>k r e (cK h r e)
theorem oC {α:Type} {b:Bool} {x y:Option α} {K:α->Prop} {T U:Prop} (h:ok (cond b x y) K) (h1:b=true->ok x K->T) (h2:b=false->ok y K->U):cond b T U:=JN h h1 h2
def Iz:Nat->Nat->Nat->List Nat
 | 0,_,_=>[]
 | f+1,i,b=>bif Nat.beq b 0 then [] else bif Nat.beq (Nat.mod b 2) 1 then i::Iz f (Nat.succ i) (Nat.div b 2) else Iz f (Nat.succ i) (Nat.div b 2)
def kp (b:Nat):Dir:=.keep (Iz 400 0 b)
def HJ:List (List Dir)->Nat->List Dir
 | [],_=>[]
 | d::l,n=>match n with
  | 0=>d
  | k+1=>HJ l k
def an (l m:List (List Dir)) (n:Nat):List Dir:=bif Nat.blt n 100000 then HJ l n else HJ m (Nat.sub n 100000)
def lp1 (a:Nat) (A:Nat->St->(X->St->Prop)->Prop):bL:=fun id m s K=>bif Nat.beq id a then A m s K else False
def lp2 (a:Nat) (A:Nat->St->(X->St->Prop)->Prop) (b:Nat) (B:Nat->St->(X->St->Prop)->Prop):bL:=fun id m s K=>bif Nat.beq id a then A m s K else bif Nat.beq id b then B m s K else False
abbrev vcT (C:Ctx) (L:bL) (ann:Nat->List Dir) (fn:Func) (args:List AV) (hp:Hp) (k:RK) (K:AV->Hp->Prop):Prop:=
 awp C L ann (dz fn) ⟨oI 0 args,hp⟩ (KP C.tab C.deep fn.results.toList (FF hp) (Ff k K))
abbrev lvT (C:Ctx) (L:bL) (ann:Nat->List Dir) (fn:Func) (n id:Nat) (s:St) (m:Nat) (K:X->St->Prop):Prop:=
 awp C L ann (jt (dz fn) n) s (ID (fun s'=>∃m',m'<m/\L id m' s' K) (En id (ann (behind id)) K))
abbrev nxT (A:Nat->St->(X->St->Prop)->Prop) (m:Nat) (K:X->St->Prop) (s:St):Prop:=∃m_,m_<m/\A m_ s K
def bB (P:Program) (f:FuncId) (con:Con):Prop:=(∀args w,(callFunc f args).run P w=.ok (.enter f args) w)/\Ao P f con
def tU (P:Program) (f:FuncId) (T:Inl):Prop:=(∀args w,(callFunc f args).run P w=.ok (.enter f args) w)/\Ge P f T
section
variable {P:Program} {E:Tab} {c:TypeId->Bool} {n off:Nat} {deep:Bool} {f:FuncId} {con:Con} {T:Inl} {l:Cons} {inl:List (Nat×Inl)}
theorem kC (h1:bB P f con) (h:ew P ⟨E,c,l,n,inl,off,deep⟩):ew P ⟨E,c,(f,con)::l,n,inl,off,deep⟩:=Er h1.1 h1.2 h
theorem kI (h1:tU P f T) (h:ew P ⟨E,c,[],n,inl,off,deep⟩):ew P ⟨E,c,[],n,(f,T)::inl,off,deep⟩:=FB h1.1 h1.2 h
theorem kN:ew P ⟨E,c,[],n,[],off,deep⟩:=Fa
end
def qT (ds:List (Nat×Bool)) (fn:Func):Func:=match ds with
 | []=>fn
 | ds=>{ fn with body:=fn.body.map (fS ds) }
theorem Kg {P:Program} {C:Ctx} (ds:List (Nat×Bool)) (hT:TabOk P C) (hm:P.follows .mixedOrders=true) {f:FuncId} {fn:Func} {con:Con} (hf:P.funcs[f]? = some fn) (hq:((fn.name == "runtime.NumGoroutine")||fn.body.isNone)=false) (hC:ew P C) (hN:C.n=fn.ntmps)
  (hcon:∀args hp K,con.run args hp K->(Nat.ble args.length fn.ntmps&&Nat.ble args.length bS)=true/\∃(ann:Nat->List Dir) (L:bL) (k:RK),(∀p∈bV (dz (qT ds fn)),fK C L ann p.1 p.2)/\vcT C L ann (qT ds fn) args hp k K):bB P f con:=by
 obtain⟨hq1,hq2⟩:=Bool.or_eq_false_iff.1 hq
 have hb:fn.body=some (dz fn):=by
  unfold dz
  cases h:fn.body with
  | none=>rw[h] at hq2;cases hq2
  | some c=>rfl
 have he:dz (qT ds fn)=fS ds (dz fn):=by
  cases ds with
  | nil=>exact(lu _).symm
  | cons d l=>unfold qT dz at *;rw[hb];rfl
 have hr:(qT ds fn).results=fn.results:=by cases ds<;>rfl
 refine⟨Dh hf hq1 hq2,Jt (ds:=ds) hT hC hm hf hb hN fun args hp K h=>?_⟩
 obtain⟨h1,h2⟩:=hcon args hp K h
 obtain⟨h3,h4⟩:=Bool.and_eq_true_iff.1 h1
 unfold vcT at h2
 rw[he,hr] at h2
 exact⟨⟨Nat.le_of_ble_eq_true h3,Nat.le_of_ble_eq_true h4⟩,h2⟩
theorem KV {P:Program} {C:Ctx} (hT:TabOk P C) (hm:P.follows .mixedOrders=true) {f:FuncId} {fn:Func} (hf:P.funcs[f]? = some fn) (hq:((fn.name == "runtime.NumGoroutine")||fn.body.isNone)=false) (hC:ew P C) (hN:C.n=fn.ntmps) {ann:Nat->List Dir}
  (hl:bV (dz fn)=[]):tU P f (sW C ann (dz fn) fn.results.toList):=by
 obtain⟨hq1,hq2⟩:=Bool.or_eq_false_iff.1 hq
 have hb:fn.body=some (dz fn):=by
  unfold dz
  cases h:fn.body with
  | none=>rw[h] at hq2;cases hq2
  | some c=>rfl
 exact⟨Dh hf hq1 hq2,Kw hT hC hm hf hb hN hl⟩
end Go.AE
end
section
namespace Go.AE
open Go Go.RowKit
noncomputable abbrev P:Program:=Go.Proofs.Tryz.prog
def tab:Tab:=[(4,⟨.val Ty.bool,1,1⟩),
  (22,⟨.sl 5 (Ty.int .u8),1,24⟩),
  (5,⟨.val (Ty.int .u8),1,1⟩),
  (3,⟨.val (Ty.int .i64),1,8⟩),
  (45,⟨.other,1,0⟩),
  (23,⟨.sl 32 aq,1,24⟩),
  (32,⟨.st [(0,29, "Columns"),(1,30, "Rows")] aq,2,48⟩),
  (29,⟨.sl 149 ai,1,24⟩),
  (149,⟨.st [(0,3, "Kind"),(1,4, "Empty")] ai,2,16⟩),
  (30,⟨.sl 42 (Ty.sl aa),1,24⟩),
  (42,⟨.sl 84 aa,1,24⟩),
  (84,⟨.st [(0,3, "Kind"),(1,3, "N"),(2,9, "S")] aa,3,32⟩),
  (9,⟨.val Ty.str,1,16⟩),
  (41,⟨.sl 57 aL,1,24⟩),
  (57,⟨.st [(0,3, "In"),(1,25, "E")] aL,2,32⟩),
  (25,⟨.sl 118 az,1,24⟩),
  (118,⟨.st [(0,3, "Kind"),(1,3, "N"),(2,84, "V")] az,5,48⟩),
  (24,⟨.sl 36 ag,1,24⟩),
  (36,⟨.st [(0,3, "Kind"),(1,3, "A"),(2,3, "B"),(3,3, "N"),(4,25, "E"),(5,34, "List")] ag,6,80⟩),
  (34,⟨.sl 3 (Ty.int .i64),1,24⟩),
  (44,⟨.st [(0,3, "In"),(1,42, "Row"),(2,4, "Come")] ck,3,40⟩),
  (0,⟨.other,1,0⟩),
  (47,⟨.other,1,0⟩),
  (71,⟨.other,1,0⟩),
  (70,⟨.sl 101 aF,1,24⟩),
  (101,⟨.st [(0,29, "columns"),(1,3, "most")] aF,2,32⟩),
  (65,⟨.ptr 114,1,8⟩),
  (114,⟨.st [(0,22, "b"),(1,3, "p")] (Ty.pair (Ty.sl (Ty.int .u8)) (Ty.pair (Ty.int .i64) Ty.unit)),2,32⟩),
  (50,⟨.other,1,0⟩),
  (89,⟨.other,1,8⟩),
  (90,⟨.other,1,0⟩),
  (120,⟨.other,1,0⟩),
  (73,⟨.sl 29 (Ty.sl ai),1,24⟩),
  (122,⟨.other,1,0⟩),
  (96,⟨.sl 30 (Ty.sl (Ty.sl aa)),1,24⟩),
  (132,⟨.sl 4 Ty.bool,1,24⟩),
  (146,⟨.other,1,0⟩),
  (74,⟨.other,1,0⟩),
  (129,⟨.other,1,8⟩),
  (194,⟨.sl 9 Ty.str,1,24⟩),
  (112,⟨.other,1,8⟩),
  (198,⟨.other,1,0⟩),
  (203,⟨.mp .i64 3 (Ty.int .i64),1,8⟩),
  (225,⟨.sl 25 (Ty.sl az),1,24⟩)]
def IP:List TypeId:=[84]
theorem tab_check:BY P tab tab=true:=by kernel_rfl
theorem wJ:Ew P tab IP=true:=by kernel_rfl
theorem mixed:P.follows .mixedOrders=true:=by kernel_rfl
abbrev cx (l:Cons) (n:Nat) (inl:List (Nat×Inl)) (off:Nat) (deep:Bool):Ctx:=⟨tab,fun t=>ki t IP,l,n,inl,off,deep⟩
theorem bE (C:Ctx) {f:FuncId} {fn:Func} {con:Con} (hf:P.funcs[f]? = some fn) (hC:ew P C) (hcon:∀args hp K,con.run args hp K->(Nat.ble args.length fn.ntmps&&Nat.ble args.length bS)=true/\∃(ann:Nat->List Dir) (L:bL) (k:RK),(∀p∈bV (dz fn),fK C L ann p.1 p.2)/\vcT C L ann fn args hp k K)
    (hT:TabOk P C:=by exact Co tab_check wJ) (hq:((fn.name == "runtime.NumGoroutine")||fn.body.isNone)=false:=by kernel_rfl) (hN:C.n=fn.ntmps:=by rfl):bB P f con:=Kg [] hT mixed hf hq hC hN hcon
theorem Gy (ds:List (Nat×Bool)) (C:Ctx) {f:FuncId} {fn:Func} {con:Con} (hf:P.funcs[f]? = some fn) (hC:ew P C) (hcon:∀args hp K,con.run args hp K->(Nat.ble args.length fn.ntmps&&Nat.ble args.length bS)=true/\∃(ann:Nat->List Dir) (L:bL) (k:RK),(∀p∈bV (dz (qT ds fn)),fK C L ann p.1 p.2)/\vcT C L ann (qT ds fn) args hp k K)
    (hT:TabOk P C:=by exact Co tab_check wJ) (hq:((fn.name == "runtime.NumGoroutine")||fn.body.isNone)=false:=by kernel_rfl) (hN:C.n=fn.ntmps:=by rfl):bB P f con:=Kg ds hT mixed hf hq hC hN hcon
theorem xW (C:Ctx) {f:FuncId} {fn:Func} (hf:P.funcs[f]? = some fn) (hC:ew P C) {ann:Nat->List Dir} (hT:TabOk P C:=by exact Co tab_check wJ) (hq:((fn.name == "runtime.NumGoroutine")||fn.body.isNone)=false:=by kernel_rfl) (hN:C.n=fn.ntmps:=by rfl)
    (hl:bV (dz fn)=[]:=by kernel_rfl):tU P f (sW C ann (dz fn) fn.results.toList):=KV hT mixed hf hq hC hN hl
abbrev nT (xs:List aq.D) (i:Int):aq.D:=nth (t:=aq) xs i
abbrev nS (xs:List ag.D) (i:Int):ag.D:=nth (t:=ag) xs i
abbrev nC (xs:List ai.D) (i:Int):ai.D:=nth (t:=ai) xs i
abbrev nI (xs:List aE.D) (i:Int):aE.D:=nth (t:=aE) xs i
abbrev nP (xs:List az.D) (i:Int):az.D:=nth (t:=az) xs i
abbrev nM (xs:List aF.D) (i:Int):aF.D:=nth (t:=aF) xs i
abbrev nG (xs:List aL.D) (i:Int):aL.D:=nth (t:=aL) xs i
abbrev nV (xs:List aa.D) (i:Int):aa.D:=nth (t:=aa) xs i
abbrev Z0:Int:=0
abbrev Z1:Int:=1
abbrev Z2:Int:=2
abbrev Z3:Int:=3
abbrev Z4:Int:=4
abbrev Z5:Int:=5
abbrev Z6:Int:=6
abbrev dI (n:Int):AV:=.data aE n
abbrev dB (b:Bool):AV:=.data Ty.bool b
abbrev KA:Type:=AV->Hp->Prop
abbrev KX:Type:=X->St->Prop
abbrev TBy:Ty:=.sl (.int .u8)
abbrev LI:Type:=List Int
abbrev LLI:Type:=List LI
end Go.AE
end
section
namespace Go.AE
open Go Go.RowKit
set_option linter.unusedVariables false
def M.fy (rows:List (List aa.D)) (row:List aa.D):Nat:=rows.countP fun r=>decide (r=row)
def M.di (out:List (List aa.D)) (r:List aa.D):List (List aa.D):=cond (decide ((fy out r:Int)=(0:Int))) (out++[r]) out
def M.cX (rows:List (List aa.D)):List (List aa.D):=rows.foldl di []
def M.joined (e:List az.D) (r:List aa.D) (rows:List (List aa.D)):List (List aa.D):=(rows.map fun q=>r++q).filter fun x=>holds x e
def M.bt (tables:List aq.D) (ahead:List (List (List aa.D))) (s:ag.D):List (List aa.D):=
 cond (decide (s.1=(1:Int))) (nth (t:=aq) tables s.2.2.2.1).2.1
 (cond (decide (s.1=(2:Int))) (List.filter (fun r=>holds r s.2.2.2.2.1) (nth (t:=.sl (.sl aa)) ahead s.2.1))
 (cond (decide (s.1=(3:Int))) (List.map (fun r=>taken r s.2.2.2.2.2.1) (nth (t:=.sl (.sl aa)) ahead s.2.1))
 (cond (decide (s.1=(4:Int))) (List.flatMap (fun r=>joined s.2.2.2.2.1 r (nth (t:=.sl (.sl aa)) ahead s.2.2.1)) (nth (t:=.sl (.sl aa)) ahead s.2.1))
 (cond (decide (s.1=(5:Int))) (nth (t:=.sl (.sl aa)) ahead s.2.1++nth (t:=.sl (.sl aa)) ahead s.2.2.1:List (List aa.D))
 (cond (decide (s.1=(6:Int))) (cX (nth (t:=.sl (.sl aa)) ahead s.2.1)) [])))))
def M.yP (R:List (List aa.D)):Prop:=R.length<=300/\∀r∈R,r.length<=4
def M.sO (tables:List aq.D) (ahead:List (List (List aa.D))) (s:ag.D):Prop:=
 (s.1=(1:Int)->0<=s.2.2.2.1/\s.2.2.2.1<(tables.length:Int))/\gd (ahead.length:Int) s ∧
 (¬s.1=(1:Int)->yP (nth (t:=.sl (.sl aa)) ahead s.2.1)/\yP (nth (t:=.sl (.sl aa)) ahead s.2.2.1)) ∧
 (s.1=(2:Int)->∀r∈(nth (t:=.sl (.sl aa)) ahead s.2.1:List (List aa.D)),gy r.length s.2.2.2.2.1) ∧
 (s.1=(3:Int)->∀r∈(nth (t:=.sl (.sl aa)) ahead s.2.1:List (List aa.D)),BD r s.2.2.2.2.2.1) ∧
 (s.1=(4:Int)->∀r∈(nth (t:=.sl (.sl aa)) ahead s.2.1:List (List aa.D)),∀q∈(nth (t:=.sl (.sl aa)) ahead s.2.2.1:List (List aa.D)),gy (r++q:List aa.D).length s.2.2.2.2.1)
def M.eT (tables:List aq.D) (all:List (List (List aa.D))) (s:ag.D):List (List (List aa.D)):=all++[bt tables all s]
def M.aZ (tables:List aq.D) (plan:List ag.D):List (List (List aa.D)):=plan.foldl (eT tables) []
def M.bT (tables:List aq.D) (plan:List ag.D):List (List aa.D):=cond (aW tables plan) (nth (t:=.sl (.sl aa)) (aZ tables plan) ((plan.length:Int)-1)) []
namespace M
theorem Dy (out:List (List aa.D)) (r:List aa.D):(di out r).length<=out.length+1/\∀x∈di out r,x∈out\/x=r:=by
 unfold di
 cases decide ((fy out r:Int)=(0:Int)) with
 | true=>
  refine⟨by simp,fun x hx=>?_⟩
  rcases List.mem_append.1 hx with h | h
  ·exact .inl h
  ·exact .inr (List.mem_singleton.1 h)
 | false=>exact⟨by show out.length<=out.length+1;omega,fun x hx=>.inl hx⟩
theorem HH (rows:List (List aa.D)):(cX rows).length<=rows.length/\∀x∈cX rows,x∈rows:=by
 have key:∀(l:List (List aa.D)) (out:List (List aa.D)),(l.foldl di out).length<=out.length+l.length/\∀x∈l.foldl di out,x∈out\/x∈l:=by
  intro l
  induction l with
  | nil=>intro out;exact⟨by simp,fun x hx=>.inl hx⟩
  | cons y l ih=>
   intro out
   obtain⟨h1,h2⟩:=ih (di out y)
   obtain⟨h3,h4⟩:=Dy out y
   refine⟨by rw[List.foldl_cons,List.length_cons];omega,fun x hx=>?_⟩
   rcases h2 x hx with h | h
   ·rcases h4 x h with h | h
    ·exact .inl h
    ·exact .inr (by simp[h])
   ·exact .inr (by simp[h])
 have:=key rows []
 refine⟨by have:=this.1;unfold cX;simpa using this,fun x hx=>?_⟩
 rcases this.2 x hx with h | h
 ·cases h
 ·exact h
theorem za (e:List az.D) (r:List aa.D) (rows:List (List aa.D)):(joined e r rows).length<=rows.length:=by
 unfold joined
 refine Nat.le_trans (List.length_filter_le _ _) ?_
 rw[List.length_map]
 exact Nat.le_refl _
theorem DZ {α β:Type} (f:α->List β) (n:Nat):∀(xs:List α),(∀x∈xs,(f x).length<=n)->(xs.flatMap f).length<=xs.length * n
 | [],_=>by simp
 | x::xs,h=>by
  have h1:=h x (by simp)
  have h2:=DZ f n xs (fun y hy=>h y (by simp[hy]))
  rw[List.flatMap_cons,List.length_append,List.length_cons,Nat.succ_mul]
  omega
def Rows (st:dy) (all:List (List (List aa.D))):Prop:=all.length=st.1.length/\st.2.length=st.1.length/\∀j:Int,0<=j->j<(all.length:Int) →
 ((nth (t:=.sl (.sl aa)) all j:List (List aa.D)).length:Int)<=nth (t:=.int .i64) st.2 j/\nth (t:=.int .i64) st.2 j<=300/\(nth (t:=.sl ai) st.1 j:List ai.D).length<=4 ∧
 Sm (.sl (.sl aa)) (nth (t:=.sl (.sl aa)) all j)/\∀r∈(nth (t:=.sl (.sl aa)) all j:List (List aa.D)),r.length=(nth (t:=.sl ai) st.1 j:List ai.D).length
theorem pI {st:dy} {all:List (List (List aa.D))} (h:Rows st all) {R:List (List aa.D)} {c:List ai.D} {m:Int} (h1:(R.length:Int)<=m) (h2:m<=300) (h3:c.length<=4) (h4:Sm (.sl (.sl aa)) R) (h5:∀r∈R,r.length=c.length) :
  Rows (st.1++[c],st.2++[m]) (all++[R]):=by
 obtain⟨l1,l2,h⟩:=h
 refine⟨by simp[l1],by simp[l2],fun j j0 j1=>?_⟩
 by_cases hj:j=(all.length:Int)
 ·rw[cL (t:=.sl (.sl aa)) hj,cL (t:=.int .i64) (by rw[hj,l1,l2]),cL (t:=.sl ai) (by rw[hj,l1])]
  exact⟨h1,h2,h3,h4,h5⟩
 ·have hlt:j<(all.length:Int):=by simp at j1;omega
  rw[cw (t:=.sl (.sl aa)) j0 hlt,cw (t:=.int .i64) j0 (by rw[l2,<-l1];exact hlt),cw (t:=.sl ai) j0 (by rw[<-l1];exact hlt)]
  exact h j j0 hlt
end M
end Go.AE
end
section
namespace Go.AE
open Go Go.RowKit
set_option linter.unusedVariables false
def M.pN (tables:List aq.D) (plan:List ag.D) (rule at_:Int):Option (List ag.D):=cond (gZ tables plan at_ rule).2 (some (tidy (gZ tables plan at_ rule).1)) none
def M.mL (tables:List aq.D) (plan:List ag.D) (rule:Int):Option (List ag.D):=jo (pN tables plan rule) (aN 0 (plan.length:Int))
def M.jN (tables:List aq.D) (plan:List ag.D):Option (List ag.D):=jo (mL tables plan) (aN 1 8)
def M.better (tables:List aq.D) (plan:List ag.D):List ag.D×Bool:=match jN tables plan with
 | some p=>(p,true)
 | none=>(plan,false)
def M.nK (tables:List aq.D):Nat->List ag.D->List ag.D
 | 0,p=>p
 | n+1,p=>match jN tables p with
  | some q=>nK tables n q
  | none=>p
def M.gX (tables:List aq.D) (plan:List ag.D):List ag.D:=cond (aW tables plan) (nK tables 12 (tidy plan)) []
end Go.AE
end
