/- Shorter words for contracts and their proofs. -/
import Derived.Test.YtiplhefglgpdoaaGreatAeMU
import Derived.Test.YtiplhefglgpdoaaGreatChecked
import Derived.KernelRfl
import Derived.Test.YtiplhefglgpdoaaGreatAeMP
section
namespace Go.AE
open Go Go.RowKit
structure Pat (α:Type) where
 av:α->AV
 run:AV->(α->Prop)->Prop
 elim:∀{v:AV} {k:α->Prop},run v k->∃x,v=av x/\k x
@[reducible] def pD (t:Ty):Pat t.D:=⟨fun x=>.data t x,fI t,bE⟩
@[reducible] def pB (t:Ty):Pat (List t.D):=⟨fun x=>.brw t x,ng t,dW⟩
@[reducible] def pA (t:Ty):Pat t.D:=⟨fun x=>.adr t x,GH t,DR⟩
@[reducible] def pR (t:Ty):Pat t.D:=⟨fun x=>.ref (.data t x),yD t,mD⟩
@[reducible] def pQ (t:Ty):Pat (List t.D):=⟨fun x=>.ref (.brw t x),EA t,CF⟩
section
variable {α β γ δ ε:Type} {l:List AV} {hp:Hp}
def g1 (p:Pat α) (F:α->Prop) (l:List AV) (hp:Hp):Prop:=args1 (fun a=>p.run a F) l hp
def g2 (p:Pat α) (q:Pat β) (F:α->β->Prop) (l:List AV) (hp:Hp):Prop:=args2 (fun a b=>p.run a fun x=>q.run b fun y=>F x y) l hp
def g3 (p:Pat α) (q:Pat β) (r:Pat γ) (F:α->β->γ->Prop) (l:List AV) (hp:Hp):Prop:=zz (fun a b c=>p.run a fun x=>q.run b fun y=>r.run c fun z=>F x y z) l hp
def g4 (p:Pat α) (q:Pat β) (r:Pat γ) (s:Pat δ) (F:α->β->γ->δ->Prop) (l:List AV) (hp:Hp):Prop:=EO (fun a b c d=>p.run a fun x=>q.run b fun y=>r.run c fun z=>s.run d fun u=>F x y z u) l hp
theorem g1e {p:Pat α} {F:α->Prop} (h0:g1 p F l hp):∃x,l=[p.av x]/\hp=[]/\F x:=by
 obtain⟨a,rfl,rfl,h1⟩:=zW h0
 obtain⟨x,rfl,h2⟩:=p.elim h1
 exact⟨x,rfl,rfl,h2⟩
theorem g2e {p:Pat α} {q:Pat β} {F:α->β->Prop} (h0:g2 p q F l hp):∃x y,l=[p.av x,q.av y]/\hp=[]/\F x y:=by
 obtain⟨a,b,rfl,rfl,h1⟩:=bW h0
 obtain⟨x,rfl,h2⟩:=p.elim h1
 obtain⟨y,rfl,h3⟩:=q.elim h2
 exact⟨x,y,rfl,rfl,h3⟩
theorem g3e {p:Pat α} {q:Pat β} {r:Pat γ} {F:α->β->γ->Prop} (h0:g3 p q r F l hp):∃x y z,l=[p.av x,q.av y,r.av z]/\hp=[]/\F x y z:=by
 obtain⟨a,b,c,rfl,rfl,h1⟩:=mU h0
 obtain⟨x,rfl,h2⟩:=p.elim h1
 obtain⟨y,rfl,h3⟩:=q.elim h2
 obtain⟨z,rfl,h4⟩:=r.elim h3
 exact⟨x,y,z,rfl,rfl,h4⟩
theorem g4e {p:Pat α} {q:Pat β} {r:Pat γ} {s:Pat δ} {F:α->β->γ->δ->Prop} (h0:g4 p q r s F l hp):∃x y z u,l=[p.av x,q.av y,r.av z,s.av u]/\hp=[]/\F x y z u:=by
 obtain⟨a,b,c,d,rfl,rfl,h1⟩:=sP h0
 obtain⟨x,rfl,h2⟩:=p.elim h1
 obtain⟨y,rfl,h3⟩:=q.elim h2
 obtain⟨z,rfl,h4⟩:=r.elim h3
 obtain⟨u,rfl,h5⟩:=s.elim h4
 exact⟨x,y,z,u,rfl,rfl,h5⟩
end
def hpR (F:List Int->Int->Prop) (hp:Hp):Prop:=match hp with
 | [(k,.box [.data u b,.data v p])]=>(match Ty.eq? u (.sl (.int .u8)),Ty.eq? v (.int .i64) with
  | some ⟨h⟩,some ⟨h'⟩=>bif Nat.beq k base then F (dF h b) (dF h' p) else False
  | _,_=>False)
 | _=>False
theorem fq {F:List Int->Int->Prop} {hp:Hp} (h:hpR F hp):∃(b:List Int) (p:Int),hp=[(1000000,.box [.data (.sl (.int .u8)) b,.data (.int .i64) p])]/\F b p:=by
 unfold hpR at h
 split at h
 ·rename_i k u b v p
  split at h
  ·rename_i h1 h2 _ _
   cases h1
   cases h2
   rcases aZ k base with⟨rfl,hb⟩ | ⟨_,hb⟩
   ·rw[hb] at h
    exact⟨b,p,rfl,h⟩
   ·rw[hb] at h
    exact h.elim
  ·exact h.elim
 ·exact h.elim
def nx (a:AV) (F:Prop):Prop:=match a with
 | .ptr k 0=>bif Nat.beq k base then F else False
 | _=>False
theorem dz {a:AV} {F:Prop} (h:nx a F):a=.ptr 1000000 0/\F:=by
 unfold nx at h
 split at h
 ·rename_i k
  rcases aZ k base with⟨rfl,hb⟩ | ⟨_,hb⟩
  ·rw[hb] at h;exact⟨rfl,h⟩
  ·rw[hb] at h;exact h.elim
 ·exact h.elim
theorem oG {α:Type} {p q:Prop} {x:Option α} {K:α->Prop} (h:ok (af p x) K) (k:p->ok x K->q):p/\q:=⟨(aB h).1,k (aB h).1 (aB h).2⟩
theorem oL {α β:Type} {x:α} {f:α->Option β} {K:β->Prop} {Q:α->Prop} (h:ok (aJ x f) K) (k:∀r,r=x->ok (f r) K->Q r):∀r,r=x->Q r:=fun r e=>k r e (dV h r e)
theorem oC {α:Type} {b:Bool} {x y:Option α} {K:α->Prop} {T U:Prop} (h:ok (cond b x y) K) (h1:b=true->ok x K->T) (h2:b=false->ok y K->U):cond b T U:=Ii h h1 h2
def HR:Nat->Nat->Nat->List Nat
 | 0,_,_=>[]
 | f+1,i,b=>bif Nat.beq b 0 then [] else bif Nat.beq (Nat.mod b 2) 1 then i::HR f (Nat.succ i) (Nat.div b 2) else HR f (Nat.succ i) (Nat.div b 2)
def kp (b:Nat):Dir:=.keep (HR 400 0 b)
def GL:List (List Dir)->Nat->List Dir
 | [],_=>[]
 | d::l,n=>match n with
  | 0=>d
  | k+1=>GL l k
def an (l m:List (List Dir)) (n:Nat):List Dir:=bif Nat.blt n 100000 then GL l n else GL m (Nat.sub n 100000)
def lp1 (a:Nat) (A:Nat->St->(X->St->Prop)->Prop):bC:=fun id m s K=>bif Nat.beq id a then A m s K else False
def lp2 (a:Nat) (A:Nat->St->(X->St->Prop)->Prop) (b:Nat) (B:Nat->St->(X->St->Prop)->Prop):bC:=fun id m s K=>bif Nat.beq id a then A m s K else bif Nat.beq id b then B m s K else False
@[reducible] def vcT (C:Ctx) (L:bC) (ann:Nat->List Dir) (fn:Func) (args:List AV) (hp:Hp) (k:RK) (K:AV->Hp->Prop):Prop:=
 awp C L ann (dN fn) ⟨nW 0 args,hp⟩ (JP C.tab C.deep fn.results.toList (DT hp) (DK k K))
@[reducible] def lvT (C:Ctx) (L:bC) (ann:Nat->List Dir) (fn:Func) (n id:Nat) (s:St) (m:Nat) (K:X->St->Prop):Prop:=
 awp C L ann (fc (dN fn) n) s (HM (fun s'=>∃m',m'<m/\L id m' s' K) (CB id (ann (behind id)) K))
@[reducible] def nxT (A:Nat->St->(X->St->Prop)->Prop) (m:Nat) (K:X->St->Prop) (s:St):Prop:=∃m_,m_<m/\A m_ s K
def br (P:Program) (f:FuncId) (con:Con):Prop:=(∀args w,(callFunc f args).run P w=.ok (.enter f args) w)/\zw P f con
def vA (P:Program) (f:FuncId) (T:Inl):Prop:=(∀args w,(callFunc f args).run P w=.ok (.enter f args) w)/\Fp P f T
section
variable {P:Program} {E:Tab} {c:TypeId->Bool} {n off:Nat} {deep:Bool} {f:FuncId} {con:Con} {T:Inl} {l:Cons} {inl:List (Nat×Inl)}
theorem kC (h1:br P f con) (h:dM P ⟨E,c,l,n,inl,off,deep⟩):dM P ⟨E,c,(f,con)::l,n,inl,off,deep⟩:=Dm h1.1 h1.2 h
theorem kI (h1:vA P f T) (h:dM P ⟨E,c,[],n,inl,off,deep⟩):dM P ⟨E,c,[],n,(f,T)::inl,off,deep⟩:=Em h1.1 h1.2 h
theorem kN:dM P ⟨E,c,[],n,[],off,deep⟩:=Ew
end
def rE (ds:List (Nat×Bool)) (fn:Func):Func:=match ds with
 | []=>fn
 | ds=>{ fn with body:=fn.body.map (fh ds) }
theorem Jf {P:Program} {C:Ctx} (ds:List (Nat×Bool)) (hT:TabOk P C) (hm:P.follows .mixedOrders=true) {f:FuncId} {fn:Func} {con:Con} (hf:P.funcs[f]? = some fn) (hq:((fn.name == "runtime.NumGoroutine")||fn.body.isNone)=false) (hC:dM P C) (hN:C.n=fn.ntmps)
  (hcon:∀args hp K,con.run args hp K->(Nat.ble args.length fn.ntmps&&Nat.ble args.length bT)=true/\∃(ann:Nat->List Dir) (L:bC) (k:RK),(∀p∈bR (dN (rE ds fn)),dU C L ann p.1 p.2)/\vcT C L ann (rE ds fn) args hp k K):br P f con:=by
 obtain⟨hq1,hq2⟩:=Bool.or_eq_false_iff.1 hq
 have hb:fn.body=some (dN fn):=by
  unfold dN
  cases h:fn.body with
  | none=>rw[h] at hq2;cases hq2
  | some c=>rfl
 have he:dN (rE ds fn)=fh ds (dN fn):=by
  cases ds with
  | nil=>exact(kM _).symm
  | cons d l=>unfold rE dN at *;rw[hb];rfl
 have hr:(rE ds fn).results=fn.results:=by cases ds<;>rfl
 refine⟨Dw hf hq1 hq2,Ir (ds:=ds) hT hC hm hf hb hN fun args hp K h=>?_⟩
 obtain⟨h1,h2⟩:=hcon args hp K h
 obtain⟨h3,h4⟩:=Bool.and_eq_true_iff.1 h1
 unfold vcT at h2
 rw[he,hr] at h2
 exact⟨⟨Nat.le_of_ble_eq_true h3,Nat.le_of_ble_eq_true h4⟩,h2⟩
theorem JQ {P:Program} {C:Ctx} (hT:TabOk P C) (hm:P.follows .mixedOrders=true) {f:FuncId} {fn:Func} (hf:P.funcs[f]? = some fn) (hq:((fn.name == "runtime.NumGoroutine")||fn.body.isNone)=false) (hC:dM P C) (hN:C.n=fn.ntmps) {ann:Nat->List Dir}
  (hl:bR (dN fn)=[]):vA P f (uz C ann (dN fn) fn.results.toList):=by
 obtain⟨hq1,hq2⟩:=Bool.or_eq_false_iff.1 hq
 have hb:fn.body=some (dN fn):=by
  unfold dN
  cases h:fn.body with
  | none=>rw[h] at hq2;cases hq2
  | some c=>rfl
 exact⟨Dw hf hq1 hq2,Js hT hC hm hf hb hN hl⟩
end Go.AE
end
section
namespace Go.AE
open Go Go.RowKit
noncomputable abbrev P:Program:=Go.Proofs.Tryz.prog
def tab:Tab:=[(4,⟨.val Ty.bool,1,1⟩),
  (22,⟨.sl 5 (Ty.int .u8),1,24⟩),
  (5,⟨.val (Ty.int .u8),1,1⟩),
  (3,⟨.val (Ty.int .i64),1,8⟩),
  (52,⟨.other,1,0⟩),
  (36,⟨.sl 50 az,1,24⟩),
  (50,⟨.st [(0,23, "Columns"),(1,44, "Rows")] az,2,48⟩),
  (23,⟨.sl 58 ag,1,24⟩),
  (58,⟨.st [(0,3, "Kind"),(1,4, "Empty")] ag,2,16⟩),
  (44,⟨.sl 24 (Ty.sl aa),1,24⟩),
  (24,⟨.sl 33 aa,1,24⟩),
  (33,⟨.st [(0,3, "Kind"),(1,3, "N"),(2,9, "S")] aa,3,32⟩),
  (9,⟨.val Ty.str,1,16⟩),
  (37,⟨.sl 84 ah,1,24⟩),
  (84,⟨.st [(0,3, "Kind"),(1,3, "A"),(2,3, "B"),(3,3, "N"),(4,25, "E"),(5,47, "List")] ah,6,80⟩),
  (25,⟨.sl 72 ax,1,24⟩),
  (72,⟨.st [(0,3, "Kind"),(1,3, "N"),(2,33, "V")] ax,5,48⟩),
  (47,⟨.sl 3 (Ty.int .i64),1,24⟩),
  (54,⟨.other,1,0⟩),
  (0,⟨.other,1,0⟩),
  (77,⟨.other,1,0⟩),
  (87,⟨.other,1,0⟩),
  (86,⟨.sl 103 aF,1,24⟩),
  (103,⟨.st [(0,23, "columns"),(1,3, "most")] aF,2,32⟩),
  (64,⟨.ptr 117,1,8⟩),
  (117,⟨.st [(0,22, "b"),(1,3, "p")] (Ty.pair (Ty.sl (Ty.int .u8)) (Ty.pair (Ty.int .i64) Ty.unit)),2,32⟩),
  (38,⟨.other,1,0⟩),
  (96,⟨.other,1,0⟩),
  (95,⟨.sl 23 (Ty.sl ag),1,24⟩),
  (123,⟨.other,1,0⟩),
  (129,⟨.other,1,8⟩),
  (133,⟨.other,1,0⟩),
  (135,⟨.sl 44 (Ty.sl (Ty.sl aa)),1,24⟩),
  (67,⟨.other,1,8⟩),
  (142,⟨.other,1,0⟩),
  (182,⟨.mp .i64 3 (Ty.int .i64),1,8⟩),
  (185,⟨.sl 9 Ty.str,1,24⟩),
  (115,⟨.other,1,8⟩),
  (210,⟨.sl 25 (Ty.sl ax),1,24⟩)]
def GV:List TypeId:=[4,33,72]
theorem tab_check:Bj P tab tab=true:=by kernel_rfl
theorem vo:CX P tab GV=true:=by kernel_rfl
theorem mixed:P.follows .mixedOrders=true:=by kernel_rfl
@[reducible] def cx (l:Cons) (n:Nat) (inl:List (Nat×Inl)) (off:Nat) (deep:Bool):Ctx:=⟨tab,fun t=>jD t GV,l,n,inl,off,deep⟩
theorem bw (C:Ctx) {f:FuncId} {fn:Func} {con:Con} (hf:P.funcs[f]? = some fn) (hC:dM P C) (hcon:∀args hp K,con.run args hp K->(Nat.ble args.length fn.ntmps&&Nat.ble args.length bT)=true/\∃(ann:Nat->List Dir) (L:bC) (k:RK),(∀p∈bR (dN fn),dU C L ann p.1 p.2)/\vcT C L ann fn args hp k K)
    (hT:TabOk P C:=by exact Cb tab_check vo) (hq:((fn.name == "runtime.NumGoroutine")||fn.body.isNone)=false:=by kernel_rfl) (hN:C.n=fn.ntmps:=by rfl):br P f con:=Jf [] hT mixed hf hq hC hN hcon
theorem HW (ds:List (Nat×Bool)) (C:Ctx) {f:FuncId} {fn:Func} {con:Con} (hf:P.funcs[f]? = some fn) (hC:dM P C) (hcon:∀args hp K,con.run args hp K->(Nat.ble args.length fn.ntmps&&Nat.ble args.length bT)=true/\∃(ann:Nat->List Dir) (L:bC) (k:RK),(∀p∈bR (dN (rE ds fn)),dU C L ann p.1 p.2)/\vcT C L ann (rE ds fn) args hp k K)
    (hT:TabOk P C:=by exact Cb tab_check vo) (hq:((fn.name == "runtime.NumGoroutine")||fn.body.isNone)=false:=by kernel_rfl) (hN:C.n=fn.ntmps:=by rfl):br P f con:=Jf ds hT mixed hf hq hC hN hcon
theorem Az (C:Ctx) {f:FuncId} {fn:Func} (hf:P.funcs[f]? = some fn) (hC:dM P C) {ann:Nat->List Dir} (hT:TabOk P C:=by exact Cb tab_check vo) (hq:((fn.name == "runtime.NumGoroutine")||fn.body.isNone)=false:=by kernel_rfl) (hN:C.n=fn.ntmps:=by rfl)
    (hl:bR (dN fn)=[]:=by kernel_rfl):vA P f (uz C ann (dN fn) fn.results.toList):=JQ hT mixed hf hq hC hN hl
@[reducible] def nT (xs:List az.D) (i:Int):az.D:=nth (t:=az) xs i
@[reducible] def nS (xs:List ah.D) (i:Int):ah.D:=nth (t:=ah) xs i
@[reducible] def nC (xs:List ag.D) (i:Int):ag.D:=nth (t:=ag) xs i
@[reducible] def nI (xs:List aD.D) (i:Int):aD.D:=nth (t:=aD) xs i
@[reducible] def nP (xs:List ax.D) (i:Int):ax.D:=nth (t:=ax) xs i
@[reducible] def nM (xs:List aF.D) (i:Int):aF.D:=nth (t:=aF) xs i
@[reducible] def nG (xs:List lF.D) (i:Int):lF.D:=nth (t:=lF) xs i
@[reducible] def nV (xs:List aa.D) (i:Int):aa.D:=nth (t:=aa) xs i
abbrev Z0:Int:=0
abbrev Z1:Int:=1
abbrev Z2:Int:=2
abbrev Z3:Int:=3
abbrev Z4:Int:=4
abbrev Z5:Int:=5
abbrev Z6:Int:=6
@[reducible] def dI (n:Int):AV:=.data aD n
@[reducible] def dB (b:Bool):AV:=.data Ty.bool b
abbrev KA:Type:=AV->Hp->Prop
abbrev KX:Type:=X->St->Prop
end Go.AE
end
section
namespace Go.AE
open Go Go.RowKit
set_option linter.unusedVariables false
def M.eV (rows:List (List aa.D)) (row:List aa.D):Nat:=rows.countP fun r=>decide (r=row)
def M.cZ (out:List (List aa.D)) (r:List aa.D):List (List aa.D):=cond (decide ((eV out r:Int)=(0:Int))) (out++[r]) out
def M.cS (rows:List (List aa.D)):List (List aa.D):=rows.foldl cZ []
def M.joined (e:List ax.D) (r:List aa.D) (rows:List (List aa.D)):List (List aa.D):=(rows.map fun q=>r++q).filter fun x=>holds x e
def M.bQ (tables:List az.D) (ahead:List (List (List aa.D))) (s:ah.D):List (List aa.D):=
 cond (decide (s.1=(1:Int))) (nth (t:=az) tables s.2.2.2.1).2.1
 (cond (decide (s.1=(2:Int))) (List.filter (fun r=>holds r s.2.2.2.2.1) (nth (t:=.sl (.sl aa)) ahead s.2.1))
 (cond (decide (s.1=(3:Int))) (List.map (fun r=>taken r s.2.2.2.2.2.1) (nth (t:=.sl (.sl aa)) ahead s.2.1))
 (cond (decide (s.1=(4:Int))) (List.flatMap (fun r=>joined s.2.2.2.2.1 r (nth (t:=.sl (.sl aa)) ahead s.2.2.1)) (nth (t:=.sl (.sl aa)) ahead s.2.1))
 (cond (decide (s.1=(5:Int))) (nth (t:=.sl (.sl aa)) ahead s.2.1++nth (t:=.sl (.sl aa)) ahead s.2.2.1:List (List aa.D))
 (cond (decide (s.1=(6:Int))) (cS (nth (t:=.sl (.sl aa)) ahead s.2.1)) [])))))
def M.xY (R:List (List aa.D)):Prop:=R.length<=300/\∀r∈R,r.length<=4
def M.rQ (tables:List az.D) (ahead:List (List (List aa.D))) (s:ah.D):Prop:=
 (s.1=(1:Int)->0<=s.2.2.2.1/\s.2.2.2.1<(tables.length:Int))/\mN (ahead.length:Int) s ∧
 (¬s.1=(1:Int)->xY (nth (t:=.sl (.sl aa)) ahead s.2.1)/\xY (nth (t:=.sl (.sl aa)) ahead s.2.2.1)) ∧
 (s.1=(2:Int)->∀r∈(nth (t:=.sl (.sl aa)) ahead s.2.1:List (List aa.D)),fR r.length s.2.2.2.2.1) ∧
 (s.1=(3:Int)->∀r∈(nth (t:=.sl (.sl aa)) ahead s.2.1:List (List aa.D)),Bn r s.2.2.2.2.2.1) ∧
 (s.1=(4:Int)->∀r∈(nth (t:=.sl (.sl aa)) ahead s.2.1:List (List aa.D)),∀q∈(nth (t:=.sl (.sl aa)) ahead s.2.2.1:List (List aa.D)),fR (r++q:List aa.D).length s.2.2.2.2.1)
def M.eC (tables:List az.D) (all:List (List (List aa.D))) (s:ah.D):List (List (List aa.D)):=all++[bQ tables all s]
def M.cq (tables:List az.D) (plan:List ah.D):List (List (List aa.D)):=plan.foldl (eC tables) []
def M.cw (tables:List az.D) (plan:List ah.D):List (List aa.D):=cond (bB tables plan) (nth (t:=.sl (.sl aa)) (cq tables plan) ((plan.length:Int)-1)) []
namespace M
theorem CT (out:List (List aa.D)) (r:List aa.D):(cZ out r).length<=out.length+1/\∀x∈cZ out r,x∈out\/x=r:=by
 unfold cZ
 cases decide ((eV out r:Int)=(0:Int)) with
 | true=>
  refine⟨by simp,fun x hx=>?_⟩
  rcases List.mem_append.1 hx with h | h
  ·exact .inl h
  ·exact .inr (List.mem_singleton.1 h)
 | false=>exact⟨by show out.length<=out.length+1;omega,fun x hx=>.inl hx⟩
theorem GD (rows:List (List aa.D)):(cS rows).length<=rows.length/\∀x∈cS rows,x∈rows:=by
 have key:∀(l:List (List aa.D)) (out:List (List aa.D)),(l.foldl cZ out).length<=out.length+l.length/\∀x∈l.foldl cZ out,x∈out\/x∈l:=by
  intro l
  induction l with
  | nil=>intro out;exact⟨by simp,fun x hx=>.inl hx⟩
  | cons y l ih=>
   intro out
   obtain⟨h1,h2⟩:=ih (cZ out y)
   obtain⟨h3,h4⟩:=CT out y
   refine⟨by rw[List.foldl_cons,List.length_cons];omega,fun x hx=>?_⟩
   rcases h2 x hx with h | h
   ·rcases h4 x h with h | h
    ·exact .inl h
    ·exact .inr (by simp[h])
   ·exact .inr (by simp[h])
 have:=key rows []
 refine⟨by have:=this.1;unfold cS;simpa using this,fun x hx=>?_⟩
 rcases this.2 x hx with h | h
 ·cases h
 ·exact h
theorem yl (e:List ax.D) (r:List aa.D) (rows:List (List aa.D)):(joined e r rows).length<=rows.length:=by
 unfold joined
 refine Nat.le_trans (List.length_filter_le _ _) ?_
 rw[List.length_map]
 exact Nat.le_refl _
theorem Db {α β:Type} (f:α->List β) (n:Nat):∀(xs:List α),(∀x∈xs,(f x).length<=n)->(xs.flatMap f).length<=xs.length * n
 | [],_=>by simp
 | x::xs,h=>by
  have h1:=h x (by simp)
  have h2:=Db f n xs (fun y hy=>h y (by simp[hy]))
  rw[List.flatMap_cons,List.length_append,List.length_cons,Nat.succ_mul]
  omega
def Rows (st:fA) (all:List (List (List aa.D))):Prop:=all.length=st.1.length/\st.2.length=st.1.length/\∀j:Int,0<=j->j<(all.length:Int) →
 ((nth (t:=.sl (.sl aa)) all j:List (List aa.D)).length:Int)<=nth (t:=.int .i64) st.2 j/\nth (t:=.int .i64) st.2 j<=300/\(nth (t:=.sl ag) st.1 j:List ag.D).length<=4 ∧
 Sm (.sl (.sl aa)) (nth (t:=.sl (.sl aa)) all j)/\∀r∈(nth (t:=.sl (.sl aa)) all j:List (List aa.D)),r.length=(nth (t:=.sl ag) st.1 j:List ag.D).length
theorem oF {st:fA} {all:List (List (List aa.D))} (h:Rows st all) {R:List (List aa.D)} {c:List ag.D} {m:Int} (h1:(R.length:Int)<=m) (h2:m<=300) (h3:c.length<=4) (h4:Sm (.sl (.sl aa)) R) (h5:∀r∈R,r.length=c.length) :
  Rows (st.1++[c],st.2++[m]) (all++[R]):=by
 obtain⟨l1,l2,h⟩:=h
 refine⟨by simp[l1],by simp[l2],fun j j0 j1=>?_⟩
 by_cases hj:j=(all.length:Int)
 ·rw[qN (t:=.sl (.sl aa)) hj,qN (t:=.int .i64) (by rw[hj,l1,l2]),qN (t:=.sl ag) (by rw[hj,l1])]
  exact⟨h1,h2,h3,h4,h5⟩
 ·have hlt:j<(all.length:Int):=by simp at j1;omega
  rw[mH (t:=.sl (.sl aa)) j0 hlt,mH (t:=.int .i64) j0 (by rw[l2,<-l1];exact hlt),mH (t:=.sl ag) j0 (by rw[<-l1];exact hlt)]
  exact h j j0 hlt
end M
end Go.AE
end
