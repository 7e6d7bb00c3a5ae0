/- Shorter words for contracts and their proofs. -/
import Derived.Test.YtiplhefglgpdoaaGreatAeInl
namespace Go.AE
open Go Go.RowKit
structure Pat (α:Type) where
 av:α->AV
 run:AV->(α->Prop)->Prop
 elim:∀{v:AV} {k:α->Prop},run v k->∃x,v=av x/\k x
@[reducible] def pD (t:Ty):Pat t.D:=⟨fun x=>.data t x,fc t,bu⟩
@[reducible] def pB (t:Ty):Pat (List t.D):=⟨fun x=>.brw t x,mW t,dS⟩
@[reducible] def pA (t:Ty):Pat t.D:=⟨fun x=>.adr t x,Et t,xV⟩
@[reducible] def pR (t:Ty):Pat t.D:=⟨fun x=>.ref (.data t x),xW t,lW⟩
@[reducible] def pQ (t:Ty):Pat (List t.D):=⟨fun x=>.ref (.brw t x),CZ t,BS⟩
section
variable {α β γ δ ε:Type} {l:List AV} {hp:Hp}
def g1 (p:Pat α) (F:α->Prop) (l:List AV) (hp:Hp):Prop:=args1 (fun a=>p.run a F) l hp
def g2 (p:Pat α) (q:Pat β) (F:α->β->Prop) (l:List AV) (hp:Hp):Prop:=args2 (fun a b=>p.run a fun x=>q.run b fun y=>F x y) l hp
def g3 (p:Pat α) (q:Pat β) (r:Pat γ) (F:α->β->γ->Prop) (l:List AV) (hp:Hp):Prop:=wG (fun a b c=>p.run a fun x=>q.run b fun y=>r.run c fun z=>F x y z) l hp
def g4 (p:Pat α) (q:Pat β) (r:Pat γ) (s:Pat δ) (F:α->β->γ->δ->Prop) (l:List AV) (hp:Hp):Prop:=DX (fun a b c d=>p.run a fun x=>q.run b fun y=>r.run c fun z=>s.run d fun u=>F x y z u) l hp
theorem g1e {p:Pat α} {F:α->Prop} (h0:g1 p F l hp):∃x,l=[p.av x]/\hp=[]/\F x:=by
 obtain⟨a,rfl,rfl,h1⟩:=zh h0
 obtain⟨x,rfl,h2⟩:=p.elim h1
 exact⟨x,rfl,rfl,h2⟩
theorem g2e {p:Pat α} {q:Pat β} {F:α->β->Prop} (h0:g2 p q F l hp):∃x y,l=[p.av x,q.av y]/\hp=[]/\F x y:=by
 obtain⟨a,b,rfl,rfl,h1⟩:=bW h0
 obtain⟨x,rfl,h2⟩:=p.elim h1
 obtain⟨y,rfl,h3⟩:=q.elim h2
 exact⟨x,y,rfl,rfl,h3⟩
theorem g3e {p:Pat α} {q:Pat β} {r:Pat γ} {F:α->β->γ->Prop} (h0:g3 p q r F l hp):∃x y z,l=[p.av x,q.av y,r.av z]/\hp=[]/\F x y z:=by
 obtain⟨a,b,c,rfl,rfl,h1⟩:=jD h0
 obtain⟨x,rfl,h2⟩:=p.elim h1
 obtain⟨y,rfl,h3⟩:=q.elim h2
 obtain⟨z,rfl,h4⟩:=r.elim h3
 exact⟨x,y,z,rfl,rfl,h4⟩
end
def hpR (F:List Int->Int->Prop) (hp:Hp):Prop:=match hp with
 | [(k,.box [.data u b,.data v p])]=>(match Ty.eq? u (.sl (.int .u8)),Ty.eq? v (.int .i64) with
  | some ⟨h⟩,some ⟨h'⟩=>bif Nat.beq k base then F (dw h b) (dw h' p) else False
  | _,_=>False)
 | _=>False
theorem eS {F:List Int->Int->Prop} {hp:Hp} (h:hpR F hp):∃(b:List Int) (p:Int),hp=[(1000000,.box [.data (.sl (.int .u8)) b,.data (.int .i64) p])]/\F b p:=by
 unfold hpR at h
 split at h
 ·rename_i k u b v p
  split at h
  ·rename_i h1 h2 _ _
   cases h1
   cases h2
   rcases aY k base with⟨rfl,hb⟩ | ⟨_,hb⟩
   ·rw[hb] at h
    exact⟨b,p,rfl,h⟩
   ·rw[hb] at h
    exact h.elim
  ·exact h.elim
 ·exact h.elim
def mE (a:AV) (F:Prop):Prop:=match a with
 | .ptr k 0=>bif Nat.beq k base then F else False
 | _=>False
theorem cV {a:AV} {F:Prop} (h:mE a F):a=.ptr 1000000 0/\F:=by
 unfold mE at h
 split at h
 ·rename_i k
  rcases aY k base with⟨rfl,hb⟩ | ⟨_,hb⟩
  ·rw[hb] at h;exact⟨rfl,h⟩
  ·rw[hb] at h;exact h.elim
 ·exact h.elim
theorem oG {α:Type} {p q:Prop} {x:Option α} {K:α->Prop} (h:ok (af p x) K) (k:p->ok x K->q):p/\q:=⟨(aE h).1,k (aE h).1 (aE h).2⟩
theorem oL {α β:Type} {x:α} {f:α->Option β} {K:β->Prop} {Q:α->Prop} (h:ok (aI x f) K) (k:∀r,r=x->ok (f r) K->Q r):∀r,r=x->Q r:=fun r e=>k r e (ct h r e)
theorem oC {α:Type} {b:Bool} {x y:Option α} {K:α->Prop} {T U:Prop} (h:ok (cond b x y) K) (h1:b=true->ok x K->T) (h2:b=false->ok y K->U):cond b T U:=GY h h1 h2
def Fj:Nat->Nat->Nat->List Nat
 | 0,_,_=>[]
 | f+1,i,b=>bif Nat.beq b 0 then [] else bif Nat.beq (Nat.mod b 2) 1 then i::Fj f (Nat.succ i) (Nat.div b 2) else Fj f (Nat.succ i) (Nat.div b 2)
def kp (b:Nat):Dir:=.keep (Fj 400 0 b)
def Fx:List (List Dir)->Nat->List Dir
 | [],_=>[]
 | d::l,n=>match n with
  | 0=>d
  | k+1=>Fx l k
def an (l m:List (List Dir)) (n:Nat):List Dir:=bif Nat.blt n 100000 then Fx l n else Fx m (Nat.sub n 100000)
def lp1 (a:Nat) (A:Nat->St->(X->St->Prop)->Prop):bD:=fun id m s K=>bif Nat.beq id a then A m s K else False
def lp2 (a:Nat) (A:Nat->St->(X->St->Prop)->Prop) (b:Nat) (B:Nat->St->(X->St->Prop)->Prop):bD:=fun id m s K=>bif Nat.beq id a then A m s K else bif Nat.beq id b then B m s K else False
@[reducible] def vcT (C:Ctx) (L:bD) (ann:Nat->List Dir) (fn:Func) (args:List AV) (hp:Hp) (k:RK) (K:AV->Hp->Prop):Prop:=
 awp C L ann (de fn) ⟨nt 0 args,hp⟩ (Is C.tab C.deep fn.results.toList (Dc hp) (DE k K))
@[reducible] def lvT (C:Ctx) (L:bD) (ann:Nat->List Dir) (fn:Func) (n id:Nat) (s:St) (m:Nat) (K:X->St->Prop):Prop:=
 awp C L ann (iR (de fn) n) s (Gs (fun s'=>∃m',m'<m/\L id m' s' K) (Ca id (ann (behind id)) K))
@[reducible] def nxT (A:Nat->St->(X->St->Prop)->Prop) (m:Nat) (K:X->St->Prop) (s:St):Prop:=∃m_,m_<m/\A m_ s K
def bp (P:Program) (f:FuncId) (con:Con):Prop:=(∀args w,(callFunc f args).run P w=.ok (.enter f args) w)/\zf P f con
def so (P:Program) (f:FuncId) (T:Inl):Prop:=(∀args w,(callFunc f args).run P w=.ok (.enter f args) w)/\DZ P f T
section
variable {P:Program} {E:Tab} {c:TypeId->Bool} {n off:Nat} {deep:Bool} {f:FuncId} {con:Con} {T:Inl} {l:Cons} {inl:List (Nat×Inl)}
theorem kC (h1:bp P f con) (h:dG P ⟨E,c,l,n,inl,off,deep⟩):dG P ⟨E,c,(f,con)::l,n,inl,off,deep⟩:=CC h1.1 h1.2 h
theorem kI (h1:so P f T) (h:dG P ⟨E,c,[],n,inl,off,deep⟩):dG P ⟨E,c,[],n,(f,T)::inl,off,deep⟩:=Dk h1.1 h1.2 h
theorem kN:dG P ⟨E,c,[],n,[],off,deep⟩:=Dr
end
def qk (ds:List (Nat×Bool)) (fn:Func):Func:=match ds with
 | []=>fn
 | ds=>{ fn with body:=fn.body.map (fk ds) }
theorem HA {P:Program} {C:Ctx} (ds:List (Nat×Bool)) (hT:TabOk P C) (hm:P.follows .mixedOrders=true) {f:FuncId} {fn:Func} {con:Con} (hf:P.funcs[f]? = some fn) (hq:((fn.name == "runtime.NumGoroutine")||fn.body.isNone)=false) (hC:dG P C) (hN:C.n=fn.ntmps)
  (hcon:∀args hp K,con.run args hp K->(Nat.ble args.length fn.ntmps&&Nat.ble args.length bX)=true/\∃(ann:Nat->List Dir) (L:bD) (k:RK),(∀p∈bV (de (qk ds fn)),eZ C L ann p.1 p.2)/\vcT C L ann (qk ds fn) args hp k K):bp P f con:=by
 obtain⟨hq1,hq2⟩:=Bool.or_eq_false_iff.1 hq
 have hb:fn.body=some (de fn):=by
  unfold de
  cases h:fn.body with
  | none=>rw[h] at hq2;cases hq2
  | some c=>rfl
 have he:de (qk ds fn)=fk ds (de fn):=by
  cases ds with
  | nil=>exact(kK _).symm
  | cons d l=>unfold qk de at *;rw[hb];rfl
 have hr:(qk ds fn).results=fn.results:=by cases ds<;>rfl
 refine⟨CO hf hq1 hq2,Ho (ds:=ds) hT hC hm hf hb hN fun args hp K h=>?_⟩
 obtain⟨h1,h2⟩:=hcon args hp K h
 obtain⟨h3,h4⟩:=Bool.and_eq_true_iff.1 h1
 unfold vcT at h2
 rw[he,hr] at h2
 exact⟨⟨Nat.le_of_ble_eq_true h3,Nat.le_of_ble_eq_true h4⟩,h2⟩
theorem It {P:Program} {C:Ctx} (hT:TabOk P C) (hm:P.follows .mixedOrders=true) {f:FuncId} {fn:Func} (hf:P.funcs[f]? = some fn) (hq:((fn.name == "runtime.NumGoroutine")||fn.body.isNone)=false) (hC:dG P C) (hN:C.n=fn.ntmps) {ann:Nat->List Dir}
  (hl:bV (de fn)=[]):so P f (rK C ann (de fn) fn.results.toList):=by
 obtain⟨hq1,hq2⟩:=Bool.or_eq_false_iff.1 hq
 have hb:fn.body=some (de fn):=by
  unfold de
  cases h:fn.body with
  | none=>rw[h] at hq2;cases hq2
  | some c=>rfl
 exact⟨CO hf hq1 hq2,HN hT hC hm hf hb hN hl⟩
end Go.AE
