/- Shorter words for contracts and their proofs. -/
import Derived.Test.YtiplhefglgpdoaaGreatAeMP
import Derived.Test.YtiplhefglgpdoaaGreatChecked
import Derived.KernelRfl
section
namespace Go.AE
open Go Go.RowKit
abbrev LD {α:Type} (x:α) (p:α->Prop):Prop:=∀r,r=x->p r
structure Pat (α:Type) where
 av:α->AV
 run:AV->(α->Prop)->Prop
 elim:∀{v:AV} {k:α->Prop},run v k->∃x,v=av x/\k x
abbrev pD (t:Ty):Pat t.D:=⟨fun x=>.data t x,eM t,bg⟩
abbrev pB (t:Ty):Pat (List t.D):=⟨fun x=>.brw t x,lg t,cV⟩
abbrev pA (t:Ty):Pat t.D:=⟨fun x=>.adr t x,Hg t,Ed⟩
abbrev pR (t:Ty):Pat t.D:=⟨fun x=>.ref (.data t x),yd t,mC⟩
abbrev pQ (t:Ty):Pat (List t.D):=⟨fun x=>.ref (.brw t x),DY t,Cm⟩
section
variable {α β γ δ ε:Type} {l:List AV} {hp:Hp}
def g1 (p:Pat α) (F:α->Prop) (l:List AV) (hp:Hp):Prop:=args1 (fun a=>p.run a F) l hp
def g2 (p:Pat α) (q:Pat β) (F:α->β->Prop) (l:List AV) (hp:Hp):Prop:=args2 (fun a b=>p.run a fun x=>q.run b fun y=>F x y) l hp
def g3 (p:Pat α) (q:Pat β) (r:Pat γ) (F:α->β->γ->Prop) (l:List AV) (hp:Hp):Prop:=we (fun a b c=>p.run a fun x=>q.run b fun y=>r.run c fun z=>F x y z) l hp
def g4 (p:Pat α) (q:Pat β) (r:Pat γ) (s:Pat δ) (F:α->β->γ->δ->Prop) (l:List AV) (hp:Hp):Prop:=CK (fun a b c d=>p.run a fun x=>q.run b fun y=>r.run c fun z=>s.run d fun u=>F x y z u) l hp
theorem g1e {p:Pat α} {F:α->Prop} (h0:g1 p F l hp):∃x,l=[p.av x]/\hp=[]/\F x:=by
 obtain⟨a,rfl,rfl,h1⟩:=sP h0
 obtain⟨x,rfl,h2⟩:=p.elim h1
 exact⟨x,rfl,rfl,h2⟩
theorem g2e {p:Pat α} {q:Pat β} {F:α->β->Prop} (h0:g2 p q F l hp):∃x y,l=[p.av x,q.av y]/\hp=[]/\F x y:=by
 obtain⟨a,b,rfl,rfl,h1⟩:=bP h0
 obtain⟨x,rfl,h2⟩:=p.elim h1
 obtain⟨y,rfl,h3⟩:=q.elim h2
 exact⟨x,y,rfl,rfl,h3⟩
theorem g3e {p:Pat α} {q:Pat β} {r:Pat γ} {F:α->β->γ->Prop} (h0:g3 p q r F l hp):∃x y z,l=[p.av x,q.av y,r.av z]/\hp=[]/\F x y z:=by
 obtain⟨a,b,c,rfl,rfl,h1⟩:=jC h0
 obtain⟨x,rfl,h2⟩:=p.elim h1
 obtain⟨y,rfl,h3⟩:=q.elim h2
 obtain⟨z,rfl,h4⟩:=r.elim h3
 exact⟨x,y,z,rfl,rfl,h4⟩
end
def hpR (F:List Int->Int->Prop) (hp:Hp):Prop:=match hp with
 | [(k,.box [.data u b,.data v p])]=>(match Ty.eq? u (.sl (.int .u8)),Ty.eq? v (.int .i64) with
  | some ⟨h⟩,some ⟨h'⟩=>bif Nat.beq k base then F (dx h b) (dx h' p) else False
  | _,_=>False)
 | _=>False
theorem fq {F:List Int->Int->Prop} {hp:Hp} (h:hpR F hp):∃(b:List Int) (p:Int),hp=[(1000000,.box [.data (.sl (.int .u8)) b,.data (.int .i64) p])]/\F b p:=by
 unfold hpR at h
 split at h
 ·rename_i k u b v p
  split at h
  ·rename_i h1 h2 _ _
   cases h1
   cases h2
   rcases aS k base with⟨rfl,hb⟩ | ⟨_,hb⟩
   ·rw[hb] at h
    exact⟨b,p,rfl,h⟩
   ·rw[hb] at h
    exact h.elim
  ·exact h.elim
 ·exact h.elim
def mS (a:AV) (F:Prop):Prop:=match a with
 | .ptr k 0=>bif Nat.beq k base then F else False
 | _=>False
theorem dw {a:AV} {F:Prop} (h:mS a F):a=.ptr 1000000 0/\F:=by
 unfold mS at h
 split at h
 ·rename_i k
  rcases aS k base with⟨rfl,hb⟩ | ⟨_,hb⟩
  ·rw[hb] at h;exact⟨rfl,h⟩
  ·rw[hb] at h;exact h.elim
 ·exact h.elim
theorem oG {α:Type} {p q:Prop} {x:Option α} {K:α->Prop} (h:ok (af p x) K) (k:p->ok x K->q):p/\q:=⟨(aB h).1,k (aB h).1 (aB h).2⟩
theorem oL {α β:Type} {x:α} {f:α->Option β} {K:β->Prop} {Q:α->Prop} (h:ok (aJ x f) K) (k:∀r,r=x->ok (f r) K->Q r):∀r,r=x->Q r:=fun r e=>k r e (cJ h r e)
theorem oC {α:Type} {b:Bool} {x y:Option α} {K:α->Prop} {T U:Prop} (h:ok (cond b x y) K) (h1:b=true->ok x K->T) (h2:b=false->ok y K->U):cond b T U:=HS h h1 h2
def Gb:Nat->Nat->Nat->List Nat
 | 0,_,_=>[]
 | f+1,i,b=>bif Nat.beq b 0 then [] else bif Nat.beq (Nat.mod b 2) 1 then i::Gb f (Nat.succ i) (Nat.div b 2) else Gb f (Nat.succ i) (Nat.div b 2)
def kp (b:Nat):Dir:=.keep (Gb 400 0 b)
def FV:List (List Dir)->Nat->List Dir
 | [],_=>[]
 | d::l,n=>match n with
  | 0=>d
  | k+1=>FV l k
def an (l m:List (List Dir)) (n:Nat):List Dir:=bif Nat.blt n 100000 then FV l n else FV m (Nat.sub n 100000)
def lp1 (a:Nat) (A:Nat->St->(X->St->Prop)->Prop):bF:=fun id m s K=>bif Nat.beq id a then A m s K else False
def lp2 (a:Nat) (A:Nat->St->(X->St->Prop)->Prop) (b:Nat) (B:Nat->St->(X->St->Prop)->Prop):bF:=fun id m s K=>bif Nat.beq id a then A m s K else bif Nat.beq id b then B m s K else False
abbrev vcT (C:Ctx) (L:bF) (ann:Nat->List Dir) (fn:Func) (args:List AV) (hp:Hp) (k:RK) (K:AV->Hp->Prop):Prop:=
 awp C L ann (eZ fn) ⟨nu 0 args,hp⟩ (Jh C.tab C.deep fn.results.toList (DO hp) (DL k K))
abbrev lvT (C:Ctx) (L:bF) (ann:Nat->List Dir) (fn:Func) (n id:Nat) (s:St) (m:Nat) (K:X->St->Prop):Prop:=
 awp C L ann (iL (eZ fn) n) s (FY (fun s'=>∃m',m'<m/\L id m' s' K) (Df id (ann (behind id)) K))
abbrev nxT (A:Nat->St->(X->St->Prop)->Prop) (m:Nat) (K:X->St->Prop) (s:St):Prop:=∃m_,m_<m/\A m_ s K
def bp (P:Program) (f:FuncId) (con:Con):Prop:=(∀args w,(callFunc f args).run P w=.ok (.enter f args) w)/\yc P f con
def BZ (P:Program) (f:FuncId) (T:Inl):Prop:=(∀args w,(callFunc f args).run P w=.ok (.enter f args) w)/\EO P f T
section
variable {P:Program} {E:Tab} {c:TypeId->Bool} {n off:Nat} {deep:Bool} {f:FuncId} {con:Con} {T:Inl} {l:Cons} {inl:List (Nat×Inl)}
theorem kC (h1:bp P f con) (h:dK P ⟨E,c,l,n,inl,off,deep⟩):dK P ⟨E,c,(f,con)::l,n,inl,off,deep⟩:=CL h1.1 h1.2 h
theorem kI (h1:BZ P f T) (h:dK P ⟨E,c,[],n,inl,off,deep⟩):dK P ⟨E,c,[],n,(f,T)::inl,off,deep⟩:=Ec h1.1 h1.2 h
theorem kN:dK P ⟨E,c,[],n,[],off,deep⟩:=DV
end
def qc (ds:List (Nat×Bool)) (fn:Func):Func:=match ds with
 | []=>fn
 | ds=>{ fn with body:=fn.body.map (fC ds) }
theorem Iq {P:Program} {C:Ctx} (ds:List (Nat×Bool)) (hT:TabOk P C) (hm:P.follows .mixedOrders=true) {f:FuncId} {fn:Func} {con:Con} (hf:P.funcs[f]? = some fn) (hq:((fn.name == "runtime.NumGoroutine")||fn.body.isNone)=false) (hC:dK P C) (hN:C.n=fn.ntmps)
  (hcon:∀args hp K,con.run args hp K->(Nat.ble args.length fn.ntmps&&Nat.ble args.length bJ)=true/\∃(ann:Nat->List Dir) (L:bF) (k:RK),(∀p∈bN (eZ (qc ds fn)),eY C L ann p.1 p.2)/\vcT C L ann (qc ds fn) args hp k K):bp P f con:=by
 obtain⟨hq1,hq2⟩:=Bool.or_eq_false_iff.1 hq
 have hb:fn.body=some (eZ fn):=by
  unfold eZ
  cases h:fn.body with
  | none=>rw[h] at hq2;cases hq2
  | some c=>rfl
 have he:eZ (qc ds fn)=fC ds (eZ fn):=by
  cases ds with
  | nil=>exact(kf _).symm
  | cons d l=>unfold qc eZ at *;rw[hb];rfl
 have hr:(qc ds fn).results=fn.results:=by cases ds<;>rfl
 refine⟨Cd hf hq1 hq2,HY (ds:=ds) hT hC hm hf hb hN fun args hp K h=>?_⟩
 obtain⟨h1,h2⟩:=hcon args hp K h
 obtain⟨h3,h4⟩:=Bool.and_eq_true_iff.1 h1
 unfold vcT at h2
 rw[he,hr] at h2
 exact⟨⟨Nat.le_of_ble_eq_true h3,Nat.le_of_ble_eq_true h4⟩,h2⟩
theorem Je {P:Program} {C:Ctx} (hT:TabOk P C) (hm:P.follows .mixedOrders=true) {f:FuncId} {fn:Func} (hf:P.funcs[f]? = some fn) (hq:((fn.name == "runtime.NumGoroutine")||fn.body.isNone)=false) (hC:dK P C) (hN:C.n=fn.ntmps) {ann:Nat->List Dir}
  (hl:bN (eZ fn)=[]):BZ P f (BM C ann (eZ fn) fn.results.toList):=by
 obtain⟨hq1,hq2⟩:=Bool.or_eq_false_iff.1 hq
 have hb:fn.body=some (eZ fn):=by
  unfold eZ
  cases h:fn.body with
  | none=>rw[h] at hq2;cases hq2
  | some c=>rfl
 exact⟨Cd hf hq1 hq2,Iv hT hC hm hf hb hN hl⟩
end Go.AE
end
section
namespace Go.AE
open Go Go.RowKit
noncomputable abbrev P:Program:=Go.Proofs.Tryz.prog
def tab:Tab:=[(4,⟨.val Ty.bool,1,1⟩),
  (22,⟨.sl 5 (Ty.int .u8),1,24⟩),
  (5,⟨.val (Ty.int .u8),1,1⟩),
  (3,⟨.val (Ty.int .i64),1,8⟩),
  (38,⟨.other,1,0⟩),
  (36,⟨.sl 50 aq,1,24⟩),
  (50,⟨.st [(0,23, "Columns"),(1,44, "Rows")] aq,2,48⟩),
  (23,⟨.sl 58 ag,1,24⟩),
  (58,⟨.st [(0,3, "Kind"),(1,4, "Empty")] ag,2,16⟩),
  (44,⟨.sl 24 (Ty.sl aa),1,24⟩),
  (24,⟨.sl 33 aa,1,24⟩),
  (33,⟨.st [(0,3, "Kind"),(1,3, "N"),(2,9, "S")] aa,3,32⟩),
  (9,⟨.val Ty.str,1,16⟩),
  (37,⟨.sl 84 aj,1,24⟩),
  (84,⟨.st [(0,3, "Kind"),(1,3, "A"),(2,3, "B"),(3,3, "N"),(4,25, "E"),(5,47, "List")] aj,6,80⟩),
  (25,⟨.sl 72 aE,1,24⟩),
  (72,⟨.st [(0,3, "Kind"),(1,3, "N"),(2,33, "V")] aE,5,48⟩),
  (47,⟨.sl 3 (Ty.int .i64),1,24⟩),
  (0,⟨.other,1,0⟩),
  (77,⟨.other,1,0⟩),
  (87,⟨.other,1,0⟩),
  (86,⟨.sl 103 aF,1,24⟩),
  (103,⟨.st [(0,23, "columns"),(1,3, "most")] aF,2,32⟩),
  (85,⟨.sl 4 Ty.bool,1,24⟩),
  (64,⟨.ptr 117,1,8⟩),
  (117,⟨.st [(0,22, "b"),(1,3, "p")] (Ty.pair (Ty.sl (Ty.int .u8)) (Ty.pair (Ty.int .i64) Ty.unit)),2,32⟩),
  (123,⟨.other,1,0⟩),
  (129,⟨.other,1,8⟩),
  (96,⟨.other,1,0⟩),
  (95,⟨.sl 23 (Ty.sl ag),1,24⟩),
  (133,⟨.other,1,0⟩),
  (135,⟨.sl 44 (Ty.sl (Ty.sl aa)),1,24⟩),
  (140,⟨.val (Ty.int .u64),1,8⟩),
  (142,⟨.other,1,0⟩),
  (179,⟨.val (Ty.int .u32),1,4⟩),
  (185,⟨.sl 9 Ty.str,1,24⟩),
  (115,⟨.other,1,8⟩),
  (181,⟨.val (Ty.int .u64),1,8⟩)]
def Gj:List TypeId:=[33]
theorem tab_check:Ag P tab tab=true:=by kernel_rfl
theorem vz:Ck P tab Gj=true:=by kernel_rfl
theorem mixed:P.follows .mixedOrders=true:=by kernel_rfl
abbrev cx (l:Cons) (n:Nat) (inl:List (Nat×Inl)) (off:Nat) (deep:Bool):Ctx:=⟨tab,fun t=>jj t Gj,l,n,inl,off,deep⟩
theorem bt (C:Ctx) {f:FuncId} {fn:Func} {con:Con} (hf:P.funcs[f]? = some fn) (hC:dK P C) (hcon:∀args hp K,con.run args hp K->(Nat.ble args.length fn.ntmps&&Nat.ble args.length bJ)=true/\∃(ann:Nat->List Dir) (L:bF) (k:RK),(∀p∈bN (eZ fn),eY C L ann p.1 p.2)/\vcT C L ann fn args hp k K)
    (hT:TabOk P C:=by exact BU tab_check vz) (hq:((fn.name == "runtime.NumGoroutine")||fn.body.isNone)=false:=by kernel_rfl) (hN:C.n=fn.ntmps:=by rfl):bp P f con:=Iq [] hT mixed hf hq hC hN hcon
theorem EV (ds:List (Nat×Bool)) (C:Ctx) {f:FuncId} {fn:Func} {con:Con} (hf:P.funcs[f]? = some fn) (hC:dK P C) (hcon:∀args hp K,con.run args hp K->(Nat.ble args.length fn.ntmps&&Nat.ble args.length bJ)=true/\∃(ann:Nat->List Dir) (L:bF) (k:RK),(∀p∈bN (eZ (qc ds fn)),eY C L ann p.1 p.2)/\vcT C L ann (qc ds fn) args hp k K)
    (hT:TabOk P C:=by exact BU tab_check vz) (hq:((fn.name == "runtime.NumGoroutine")||fn.body.isNone)=false:=by kernel_rfl) (hN:C.n=fn.ntmps:=by rfl):bp P f con:=Iq ds hT mixed hf hq hC hN hcon
theorem GQ (C:Ctx) {f:FuncId} {fn:Func} (hf:P.funcs[f]? = some fn) (hC:dK P C) {ann:Nat->List Dir} (hT:TabOk P C:=by exact BU tab_check vz) (hq:((fn.name == "runtime.NumGoroutine")||fn.body.isNone)=false:=by kernel_rfl) (hN:C.n=fn.ntmps:=by rfl)
    (hl:bN (eZ fn)=[]:=by kernel_rfl):BZ P f (BM C ann (eZ fn) fn.results.toList):=Je hT mixed hf hq hC hN hl
abbrev nT (xs:List aq.D) (i:Int):aq.D:=nth (t:=aq) xs i
abbrev nS (xs:List aj.D) (i:Int):aj.D:=nth (t:=aj) xs i
abbrev nC (xs:List ag.D) (i:Int):ag.D:=nth (t:=ag) xs i
abbrev nI (xs:List ay.D) (i:Int):ay.D:=nth (t:=ay) xs i
abbrev nP (xs:List aE.D) (i:Int):aE.D:=nth (t:=aE) xs i
abbrev nM (xs:List aF.D) (i:Int):aF.D:=nth (t:=aF) xs i
abbrev nG (xs:List kM.D) (i:Int):kM.D:=nth (t:=kM) xs i
abbrev nV (xs:List aa.D) (i:Int):aa.D:=nth (t:=aa) xs i
abbrev Z0:Int:=0
abbrev Z1:Int:=1
abbrev Z2:Int:=2
abbrev Z3:Int:=3
abbrev Z4:Int:=4
abbrev Z5:Int:=5
abbrev Z6:Int:=6
abbrev dI (n:Int):AV:=.data ay n
abbrev dB (b:Bool):AV:=.data Ty.bool b
abbrev KA:Type:=AV->Hp->Prop
abbrev KX:Type:=X->St->Prop
abbrev TBy:Ty:=.sl (.int .u8)
abbrev LI:Type:=List Int
abbrev LLI:Type:=List LI
end Go.AE
end
section
namespace Go.AE
open Go Go.RowKit
set_option linter.unusedVariables false
def M.fN (rows:List (List aa.D)) (row:List aa.D):Nat:=rows.countP fun r=>decide (r=row)
def M.eT (out:List (List aa.D)) (r:List aa.D):List (List aa.D):=cond (decide ((fN out r:Int)=(0:Int))) (out++[r]) out
def M.iA (rows:List (List aa.D)):List (List aa.D):=rows.foldl eT []
def M.joined (e:List aE.D) (r:List aa.D) (rows:List (List aa.D)):List (List aa.D):=(rows.map fun q=>r++q).filter fun x=>holds x e
def M.cr (tables:List aq.D) (ahead:List (List (List aa.D))) (s:aj.D):List (List aa.D):=
 cond (decide (s.1=(1:Int))) (nth (t:=aq) tables s.2.2.2.1).2.1
 (cond (decide (s.1=(2:Int))) (List.filter (fun r=>holds r s.2.2.2.2.1) (nth (t:=.sl (.sl aa)) ahead s.2.1))
 (cond (decide (s.1=(3:Int))) (List.map (fun r=>taken r s.2.2.2.2.2.1) (nth (t:=.sl (.sl aa)) ahead s.2.1))
 (cond (decide (s.1=(4:Int))) (List.flatMap (fun r=>joined s.2.2.2.2.1 r (nth (t:=.sl (.sl aa)) ahead s.2.2.1)) (nth (t:=.sl (.sl aa)) ahead s.2.1))
 (cond (decide (s.1=(5:Int))) (nth (t:=.sl (.sl aa)) ahead s.2.1++nth (t:=.sl (.sl aa)) ahead s.2.2.1:List (List aa.D))
 (cond (decide (s.1=(6:Int))) (iA (nth (t:=.sl (.sl aa)) ahead s.2.1)) [])))))
def M.xx (R:List (List aa.D)):Prop:=R.length<=300/\∀r∈R,r.length<=4
def M.qY (tables:List aq.D) (ahead:List (List (List aa.D))) (s:aj.D):Prop:=
 (s.1=(1:Int)->0<=s.2.2.2.1/\s.2.2.2.1<(tables.length:Int))/\hY (ahead.length:Int) s ∧
 (¬s.1=(1:Int)->xx (nth (t:=.sl (.sl aa)) ahead s.2.1)/\xx (nth (t:=.sl (.sl aa)) ahead s.2.2.1)) ∧
 (s.1=(2:Int)->∀r∈(nth (t:=.sl (.sl aa)) ahead s.2.1:List (List aa.D)),fS r.length s.2.2.2.2.1) ∧
 (s.1=(3:Int)->∀r∈(nth (t:=.sl (.sl aa)) ahead s.2.1:List (List aa.D)),Av r s.2.2.2.2.2.1) ∧
 (s.1=(4:Int)->∀r∈(nth (t:=.sl (.sl aa)) ahead s.2.1:List (List aa.D)),∀q∈(nth (t:=.sl (.sl aa)) ahead s.2.2.1:List (List aa.D)),fS (r++q:List aa.D).length s.2.2.2.2.1)
def M.eR (tables:List aq.D) (all:List (List (List aa.D))) (s:aj.D):List (List (List aa.D)):=all++[cr tables all s]
def M.fG (tables:List aq.D) (plan:List aj.D):List (List (List aa.D)):=plan.foldl (eR tables) []
def M.dm (tables:List aq.D) (plan:List aj.D):List (List aa.D):=cond (bQ tables plan) (nth (t:=.sl (.sl aa)) (fG tables plan) ((plan.length:Int)-1)) []
namespace M
theorem Ch (out:List (List aa.D)) (r:List aa.D):(eT out r).length<=out.length+1/\∀x∈eT out r,x∈out\/x=r:=by
 unfold eT
 cases decide ((fN out r:Int)=(0:Int)) with
 | true=>
  refine⟨by simp,fun x hx=>?_⟩
  rcases List.mem_append.1 hx with h | h
  ·exact .inl h
  ·exact .inr (List.mem_singleton.1 h)
 | false=>exact⟨by show out.length<=out.length+1;omega,fun x hx=>.inl hx⟩
theorem Hf (rows:List (List aa.D)):(iA rows).length<=rows.length/\∀x∈iA rows,x∈rows:=by
 have key:∀(l:List (List aa.D)) (out:List (List aa.D)),(l.foldl eT out).length<=out.length+l.length/\∀x∈l.foldl eT out,x∈out\/x∈l:=by
  intro l
  induction l with
  | nil=>intro out;exact⟨by simp,fun x hx=>.inl hx⟩
  | cons y l ih=>
   intro out
   obtain⟨h1,h2⟩:=ih (eT out y)
   obtain⟨h3,h4⟩:=Ch out y
   refine⟨by rw[List.foldl_cons,List.length_cons];omega,fun x hx=>?_⟩
   rcases h2 x hx with h | h
   ·rcases h4 x h with h | h
    ·exact .inl h
    ·exact .inr (by simp[h])
   ·exact .inr (by simp[h])
 have:=key rows []
 refine⟨by have:=this.1;unfold iA;simpa using this,fun x hx=>?_⟩
 rcases this.2 x hx with h | h
 ·cases h
 ·exact h
theorem yN (e:List aE.D) (r:List aa.D) (rows:List (List aa.D)):(joined e r rows).length<=rows.length:=by
 unfold joined
 refine Nat.le_trans (List.length_filter_le _ _) ?_
 rw[List.length_map]
 exact Nat.le_refl _
theorem Dg {α β:Type} (f:α->List β) (n:Nat):∀(xs:List α),(∀x∈xs,(f x).length<=n)->(xs.flatMap f).length<=xs.length * n
 | [],_=>by simp
 | x::xs,h=>by
  have h1:=h x (by simp)
  have h2:=Dg f n xs (fun y hy=>h y (by simp[hy]))
  rw[List.flatMap_cons,List.length_append,List.length_cons,Nat.succ_mul]
  omega
def Rows (st:gA) (all:List (List (List aa.D))):Prop:=all.length=st.1.length/\st.2.length=st.1.length/\∀j:Int,0<=j->j<(all.length:Int) →
 ((nth (t:=.sl (.sl aa)) all j:List (List aa.D)).length:Int)<=nth (t:=.int .i64) st.2 j/\nth (t:=.int .i64) st.2 j<=300/\(nth (t:=.sl ag) st.1 j:List ag.D).length<=4 ∧
 Sm (.sl (.sl aa)) (nth (t:=.sl (.sl aa)) all j)/\∀r∈(nth (t:=.sl (.sl aa)) all j:List (List aa.D)),r.length=(nth (t:=.sl ag) st.1 j:List ag.D).length
theorem ou {st:gA} {all:List (List (List aa.D))} (h:Rows st all) {R:List (List aa.D)} {c:List ag.D} {m:Int} (h1:(R.length:Int)<=m) (h2:m<=300) (h3:c.length<=4) (h4:Sm (.sl (.sl aa)) R) (h5:∀r∈R,r.length=c.length) :
  Rows (st.1++[c],st.2++[m]) (all++[R]):=by
 obtain⟨l1,l2,h⟩:=h
 refine⟨by simp[l1],by simp[l2],fun j j0 j1=>?_⟩
 by_cases hj:j=(all.length:Int)
 ·rw[qu (t:=.sl (.sl aa)) hj,qu (t:=.int .i64) (by rw[hj,l1,l2]),qu (t:=.sl ag) (by rw[hj,l1])]
  exact⟨h1,h2,h3,h4,h5⟩
 ·have hlt:j<(all.length:Int):=by simp at j1;omega
  rw[qo (t:=.sl (.sl aa)) j0 hlt,qo (t:=.int .i64) j0 (by rw[l2,<-l1];exact hlt),qo (t:=.sl ag) j0 (by rw[<-l1];exact hlt)]
  exact h j j0 hlt
end M
end Go.AE
end
section
namespace Go.AE
open Go Go.RowKit
set_option linter.unusedVariables false
def M.ins:List Int->Int->List Int->List Int
 | [],x,R=>x::R
 | y::A,x,R=>cond (decide (x<y)) (ins A x (y::R)) (A.reverse++y::x::R)
def M.iH:List Int->List Int->List Int
 | A,[]=>A.reverse
 | A,x::R=>iH (ins A x []).reverse R
def M.gO (xs:List Int):List Int:=iH [] xs
def M.gw (acc:List Int) (x:Int):List Int:=cond (decide (acc.getLast? = some x)) acc (acc++[x])
def M.cD (xs:List Int):List Int:=xs.foldl gw []
namespace M
theorem Br:∀(A:List Int) (x:Int) (R:List Int),ins A x R=ins A x []++R
 | [],_,_=>rfl
 | y::A,x,R=>by
  unfold ins
  cases decide (x<y) with
  | true=>rw[cond_true,cond_true,Br A x (y::R),Br A x [y]];simp
  | false=>rw[cond_false,cond_false];simp
theorem xY:∀(A:List Int) (x:Int) (R:List Int),(ins A x R).length=A.length+1+R.length
 | [],_,_=>by simp[ins];omega
 | y::A,x,R=>by
  unfold ins
  cases decide (x<y) with
  | true=>rw[cond_true,xY A x (y::R)];simp;omega
  | false=>rw[cond_false];simp;omega
theorem CR:∀(A:List Int) (x:Int) (R:List Int),(ins A x R).Perm (A.reverse++x::R)
 | [],_,_=>.refl _
 | y::A,x,R=>by
  unfold ins
  cases decide (x<y) with
  | true=>
   rw[cond_true]
   refine(CR A x (y::R)).trans ?_
   simp only[List.reverse_cons,List.append_assoc,List.singleton_append]
   exact(List.Perm.swap y x R).append_left _
  | false=>rw[cond_false];simp
theorem xZ:∀(A:List Int) (x:Int) (R:List Int),A.Pairwise (fun a b=>b<=a)->(x::R).Pairwise (·<=·)->(∀a∈A,∀b∈R,a<=b)->(ins A x R).Pairwise (·<=·)
 | [],_,_,_,hR,_=>hR
 | y::A,x,R,hA,hR,hAR=>by
  obtain⟨h1,h2⟩:=List.pairwise_cons.1 hA
  obtain⟨h3,h4⟩:=List.pairwise_cons.1 hR
  unfold ins
  by_cases hx:x<y
  ·rw[decide_eq_true hx,cond_true]
   refine xZ A x (y::R) h2 (List.pairwise_cons.2 ⟨fun b hb=>?_,List.pairwise_cons.2 ⟨fun b hb=>hAR y (by simp) b hb,h4⟩⟩) (fun a ha b hb=>?_)
   ·rcases List.mem_cons.1 hb with rfl | hb
    ·omega
    ·exact h3 b hb
   ·rcases List.mem_cons.1 hb with rfl | hb
    ·exact h1 a ha
    ·exact hAR a (by simp[ha]) b hb
  ·rw[decide_eq_false hx,cond_false]
   have hyx:y<=x:=by omega
   refine List.pairwise_append.2 ⟨List.pairwise_reverse.2 h2,List.pairwise_cons.2 ⟨fun b hb=>?_,hR⟩,fun a ha b hb=>?_⟩
   ·rcases List.mem_cons.1 hb with rfl | hb
    ·exact hyx
    ·have:=h3 b hb;omega
   ·have h5:=h1 a (List.mem_reverse.1 ha)
    rcases List.mem_cons.1 hb with rfl | hb
    ·exact h5
    ·rcases List.mem_cons.1 hb with rfl | hb
     ·omega
     ·have:=h3 b hb;omega
theorem ud:∀(R A:List Int),(iH A R).Perm (A.reverse++R)
 | [],A=>by simp[iH]
 | x::R,A=>by
  unfold iH
  refine(ud R _).trans ?_
  rw[List.reverse_reverse]
  have:=(CR A x []).append_right R
  simpa using this
theorem qN:∀(R A:List Int),A.Pairwise (fun a b=>b<=a)->(iH A R).Pairwise (·<=·)
 | [],A,h=>by unfold iH;exact List.pairwise_reverse.2 h
 | x::R,A,h=>by
  unfold iH
  refine qN R _ (List.pairwise_reverse.2 ?_)
  have:=xZ A x [] h (List.pairwise_singleton _ _) (fun a _ b hb=>by cases hb)
  exact this
theorem zw (xs:List Int):(gO xs).Perm xs:=by have:=ud xs [];simpa [gO] using this
theorem Bi (xs:List Int):(gO xs).Pairwise (·<=·):=qN xs [] .nil
theorem lF (xs:List Int):(gO xs).length=xs.length:=(zw xs).length_eq
theorem Cw {B:Nat} {xs:List Int} (h:SmB B (.sl (.int .i64)) xs):SmB B (.sl (.int .i64)) (gO xs):=⟨by show (gO xs).length<=B;rw[lF];exact h.1,fun _ _=>trivial⟩
theorem Aw (acc:List Int) (x:Int):(gw acc x).length<=acc.length+1/\acc.length<=(gw acc x).length/\0<(gw acc x).length/\(gw acc x).getLast? = some x:=by
 unfold gw
 by_cases h:acc.getLast? = some x
 ·rw[decide_eq_true h,cond_true]
  refine⟨by omega,Nat.le_refl _,?_,h⟩
  cases acc with
  | nil=>cases h
  | cons=>simp
 ·rw[decide_eq_false h,cond_false];simp
theorem Ar:∀(xs acc:List Int),(xs.foldl gw acc).length<=acc.length+xs.length/\acc.length<=(xs.foldl gw acc).length
 | [],acc=>by simp
 | x::xs,acc=>by
  have h1:=Aw acc x
  have h2:=Ar xs (gw acc x)
  simp only[List.foldl_cons,List.length_cons]
  omega
theorem yY (xs:List Int):(cD xs).length<=xs.length:=by have:=(Ar xs []).1;simpa [cD] using this
theorem Eg {B:Nat} {xs:List Int} (h:SmB B (.sl (.int .i64)) xs):SmB B (.sl (.int .i64)) (cD xs):=⟨Nat.le_trans (yY xs) h.1,fun _ _=>trivial⟩
theorem pn (xs:List Int) (x:Int):cD (xs++[x])=gw (cD xs) x:=by unfold cD;rw[List.foldl_append];rfl
theorem tY {xs:List Int} (h:xs≠[]):(cD xs).getLast? = xs.getLast?:=by
 obtain⟨l,x,rfl⟩:∃l x,xs=l++[x]:=⟨xs.dropLast,xs.getLast h,(List.dropLast_concat_getLast h).symm⟩
 rw[pn,(Aw _ _).2.2.2];simp
theorem Az:∀(xs acc:List Int) (y:Int),y∈xs.foldl gw acc ↔ y∈acc\/y∈xs
 | [],acc,y=>by simp
 | x::xs,acc,y=>by
  rw[List.foldl_cons,Az xs _ y]
  have:y∈gw acc x ↔ y∈acc\/y=x:=by
   unfold gw
   by_cases h:acc.getLast? = some x
   ·rw[decide_eq_true h,cond_true]
    constructor
    ·exact .inl
    ·rintro (h' | rfl)
     ·exact h'
     ·exact List.mem_of_getLast? h
   ·rw[decide_eq_false h,cond_false];simp
  rw[this];simp[or_assoc]
theorem CG (xs:List Int) (y:Int):y∈cD xs ↔ y∈xs:=by unfold cD;rw[Az];simp
theorem pL:∀(xs acc:List Int),acc.Pairwise (·<·)->(∀a,acc.getLast? = some a->∀b∈acc,b<=a)->(∀a∈acc,∀b∈xs,a<=b)->xs.Pairwise (·<=·)->(xs.foldl gw acc).Pairwise (·<·)
 | [],acc,h,_,_,_=>h
 | x::xs,acc,h,hl,hx,hp=>by
  obtain⟨p1,p2⟩:=List.pairwise_cons.1 hp
  rw[List.foldl_cons]
  by_cases he:acc.getLast? = some x
  ·have e:gw acc x=acc:=by unfold gw;rw[decide_eq_true he,cond_true]
   rw[e]
   exact pL xs acc h hl (fun a ha b hb=>hx a ha b (by simp[hb])) p2
  ·have e:gw acc x=acc++[x]:=by unfold gw;rw[decide_eq_false he,cond_false]
   have hlt:∀a∈acc,a<x:=by
    intro a ha
    have hne:acc≠[]:=List.ne_nil_of_mem ha
    have h1:=List.getLast?_eq_some_getLast hne
    have h2:=hl _ h1 a ha
    have h3:=hx _ (List.getLast_mem hne) x (by simp)
    have h4:acc.getLast hne≠x:=fun e=>he (by rw[h1,e])
    omega
   rw[e]
   refine pL xs _ (List.pairwise_append.2 ⟨h,List.pairwise_singleton _ _,fun a ha b hb=>by rw[List.mem_singleton.1 hb];exact hlt a ha⟩) (fun a ha b hb=>?_) (fun a ha b hb=>?_) p2
   ·have:a=x:=by simpa using ha.symm
    subst this
    rcases List.mem_append.1 hb with hb | hb
    ·exact Int.le_of_lt (hlt b hb)
    ·rw[List.mem_singleton.1 hb];exact Int.le_refl _
   ·rcases List.mem_append.1 ha with ha | ha
    ·exact hx a ha b (by simp[hb])
    ·rw[List.mem_singleton.1 ha];exact p1 b hb
theorem zl {xs:List Int} (h:xs.Pairwise (·<=·)):(cD xs).Pairwise (·<·):=pL xs [] .nil (fun a ha=>by simp at ha) (fun a ha=>by cases ha) h
theorem yW:∀{xs ys:List Int},xs.Pairwise (·<·)->ys.Pairwise (·<·)->(∀z,z∈xs ↔ z∈ys)->xs=ys
 | [],[],_,_,_=>rfl
 | [],y::ys,_,_,h=>absurd ((h y).2 (by simp)) (by simp)
 | x::xs,[],_,_,h=>absurd ((h x).1 (by simp)) (by simp)
 | x::xs,y::ys,hx,hy,h=>by
  obtain⟨x1,x2⟩:=List.pairwise_cons.1 hx
  obtain⟨y1,y2⟩:=List.pairwise_cons.1 hy
  have e:x=y:=by
   have h1:=(h x).1 (by simp)
   have h2:=(h y).2 (by simp)
   rcases List.mem_cons.1 h1 with h1 | h1
   ·exact h1
   rcases List.mem_cons.1 h2 with h2 | h2
   ·exact h2.symm
   have:=y1 x h1
   have:=x1 y h2
   omega
  subst e
  refine congrArg (x::·) (yW x2 y2 fun z=>?_)
  constructor
  ·intro hz
   rcases List.mem_cons.1 ((h z).1 (by simp[hz])) with e | hz'
   ·have:=x1 z hz;omega
   ·exact hz'
  ·intro hz
   rcases List.mem_cons.1 ((h z).2 (by simp[hz])) with e | hz'
   ·have:=y1 z hz;omega
   ·exact hz'
theorem Fp {xs ys:List Int} (hy:ys.Pairwise (·<·)) (h:∀z,z∈xs ↔ z∈ys):cD (gO xs)=ys:=
 yW (zl (Bi xs)) hy fun z=>by rw[CG,(zw xs).mem_iff];exact h z
theorem zE (a n:Int):(aM a n).Pairwise (·<·):=by
 unfold aM
 rw[List.pairwise_map]
 exact List.Pairwise.imp (fun {x y} (h:x<y)=>by omega) List.pairwise_lt_range
end M
end Go.AE
namespace Go.AE
open Go Go.RowKit
namespace M
end M
end Go.AE
end
